/-
  Walks of laws. Written by a program (laws_block3.py).
-/
import Derived.Test.YthljgookoboieabDoorLaidB
import Derived.Test.YthljgookoboieabDoorDrawE
import Derived.Test.YthljgookoboieabDoorEnc7
import Derived.Test.YthljgookoboieabDoorEnc8
import Derived.Test.YthljgookoboieabDoorBlkN
import Derived.Test.YthljgookoboieabDoorHamM
namespace Go.Proofs.YthljgookoboieabDoor
open Go.RowKit
set_option maxHeartbeats 2000000 in
set_option linter.unusedVariables false in
theorem walk_FnEncodeNibble (w : World) (hT : Tabs w) (v0 : Value) (z0 : List Int) (ra0 : RowK .u8 w v0 z0) (hw0 : ∀ n ∈ z0, (Lit.int .u8 n).wf = true) :
    Calls Tryd.prog 6 #[v0] w fun e w' => e = .returned (.bool true) ∧ Below w.heap.size w w' := by
  obtain ⟨aa0, cc0, rfl⟩ := ra0.form
  by_cases hlen0 : 1048576 < z0.length
  · go_enter Tryd.func6, Tryd.ntmps6
    go_wp2
    go_ret
    exact ⟨rfl, Below.refl _ _⟩
  have HB : Hid (Below w.heap.size w w) := Below.refl _ _
  go_enter Tryd.func6, Tryd.ntmps6
  go_wp2_with fail
  refine (DrawEncodeNibble_any _ _ _ (ra0.belowAll HB.out) hw0).mono ?_
  rintro e w1 ⟨r1, xs, rfl, ho1, hl1, hbel⟩
  have s1 : w.heap.size ≤ w1.heap.size := hbel.size
  have HB1 := Lib.hid (below_step HB.out hbel)
  have HE := Lib.hid hbel
  clear hbel
  clear HB HE
  have HB := HB1
  clear HB1
  have O1 := ho1
  have lt2 := ho1.lt
  clear ho1
  go_wp2_with fail
  refine (EncodeNibble_any xs _ _ (hT.below HB.out) (row_of_own O1)).mono ?_
  rintro e w2 ⟨r3, rfl, hown, hbel⟩
  have s2 : w1.heap.size ≤ w2.heap.size := hbel.size
  have HB2 := Lib.hid (below_step HB.out hbel)
  have HE := Lib.hid hbel
  clear hbel
  have O4 := O1.belowAll HE.out
  clear O1
  clear HB HE
  have HB := HB2
  clear HB2
  have O5 := hown
  have lt6 := hown.lt
  clear hown
  go_wp2_with fail
  refine (specEncodeNibble_any xs _ _ (row_of_own O4)).mono ?_
  rintro e w3 ⟨r7, rfl, hown, hbel⟩
  have s3 : w2.heap.size ≤ w3.heap.size := hbel.size
  have HB3 := Lib.hid (below_step HB.out hbel)
  have HE := Lib.hid hbel
  clear hbel
  have O8 := O4.belowAll HE.out
  clear O4
  have O9 := O5.belowAll HE.out
  clear O5
  clear HB HE
  have HB := HB3
  clear HB3
  have O10 := hown
  have lt11 := hown.lt
  clear hown
  go_wp2_with fail
  refine (sameInts_any (encN xs) (encN xs) _ _ _ (row_of_own O9) (row_of_own O10)).mono ?_
  rintro e w4 ⟨rfl, hq⟩
  have HQ := Lib.hid hq
  clear hq
  have s4 : w3.heap.size ≤ w4.heap.size := (HQ.out.below 0).size
  have HB4 := Lib.hid (below_quiet HB.out HQ.out)
  have O12 := O8.quiet HQ.out
  clear O8
  have O13 := O9.quiet HQ.out
  clear O9
  have O14 := O10.quiet HQ.out
  clear O10
  clear HB HQ
  have HB := HB4
  clear HB4
  have t1 : (encN xs == encN xs) = true := by simp
  obtain ⟨n, hn1⟩ : ∃ k, k = (encN xs).length := ⟨_, rfl⟩
  obtain ⟨a1, c1, hv1⟩ := (row_of_own O13).form
  rw [← hn1] at hv1
  subst hv1
  have HN1 := Lib.hid hn1.symm
  clear hn1
  obtain ⟨m, hn2⟩ : ∃ k, k = (xs).length := ⟨_, rfl⟩
  obtain ⟨a2, c2, hv2⟩ := (row_of_own O12).form
  rw [← hn2] at hv2
  subst hv2
  have HN2 := Lib.hid hn2.symm
  clear hn2
  cases hs : (validB xs && xs.length == 4)
  · obtain rfl : n = 0 := by have := HN1.out; rw [encN_none hs] at this; exact this.symm
    have hm100 : m ≤ 200 := by have := HN2.out; omega
    have HIB := Lib.hid (fun W => isBits_any xs (.slice a2 m c2) W)
    cases hv : validB xs
    · clear hs
      go_wp2_with fail
      refine (isBits_any xs _ _ (row_of_own O12)).mono ?_
      rintro e w5 ⟨rfl, hq⟩
      have HQ := Lib.hid hq
      clear hq
      have s5 : w4.heap.size ≤ w5.heap.size := (HQ.out.below 0).size
      have HB5 := Lib.hid (below_quiet HB.out HQ.out)
      have O15 := O12.quiet HQ.out
      clear O12
      have O16 := O13.quiet HQ.out
      clear O13
      have O17 := O14.quiet HQ.out
      clear O14
      clear HB HQ
      have HB := HB5
      clear HB5
      go_wp2_with fail
      refine (alive_any _).mono ?_
      rintro e w6 ⟨rfl, hbel⟩
      have s6 : w5.heap.size ≤ w6.heap.size := hbel.size
      have HB6 := Lib.hid (below_step HB.out hbel)
      have HE := Lib.hid hbel
      clear hbel
      have O18 := O15.belowAll HE.out
      clear O15
      have O19 := O16.belowAll HE.out
      clear O16
      have O20 := O17.belowAll HE.out
      clear O17
      clear HB HE
      have HB := HB6
      clear HB6
      go_wp2
      go_ret
      exact ⟨rfl, HB.out⟩
    · have ht : ((m : Int) != 4) = true := by
        rw [hv, HN2.out] at hs
        rw [bne_iff_ne]; intro e
        have : m = 4 := by omega
        subst this; simp at hs
      clear hs
      go_wp2_with fail
      refine (isBits_any xs _ _ (row_of_own O12)).mono ?_
      rintro e w5 ⟨rfl, hq⟩
      have HQ := Lib.hid hq
      clear hq
      have s5 : w4.heap.size ≤ w5.heap.size := (HQ.out.below 0).size
      have HB5 := Lib.hid (below_quiet HB.out HQ.out)
      have O15 := O12.quiet HQ.out
      clear O12
      have O16 := O13.quiet HQ.out
      clear O13
      have O17 := O14.quiet HQ.out
      clear O14
      clear HB HQ
      have HB := HB5
      clear HB5
      go_wp2_with fail
      refine (alive_any _).mono ?_
      rintro e w6 ⟨rfl, hbel⟩
      have s6 : w5.heap.size ≤ w6.heap.size := hbel.size
      have HB6 := Lib.hid (below_step HB.out hbel)
      have HE := Lib.hid hbel
      clear hbel
      have O18 := O15.belowAll HE.out
      clear O15
      have O19 := O16.belowAll HE.out
      clear O16
      have O20 := O17.belowAll HE.out
      clear O17
      clear HB HE
      have HB := HB6
      clear HB6
      go_wp2
      go_ret
      exact ⟨rfl, HB.out⟩
  · obtain rfl : n = 7 := by have := HN1.out; rw [encN_is hs] at this; exact this.symm
    have HS := Lib.hid hs
    have HM4 := Lib.hid (show m = 4 by have := (ok4 hs).2; have := HN2.out; omega)
    have hbk := en_back hs
    have HBK := Lib.hid hbk
    clear hs hbk
    go_wp2
    go_loopw [5] (fun i wr => ∃ k : Nat, k ≤ 16 ∧ i = .int .i64 k ∧ Below w4.heap.size w4 wr) (fun i _ => 16 - (intOf i).toNat)
    case atStart => exact ⟨0, by omega, rfl, Below.refl _ _⟩
    case round =>
      obtain ⟨k, hk, rfl, hbel⟩ := hrel
      have HB1 := Lib.hid (below_step HB.out hbel)
      have HX1 := Lib.hid (O13.belowAll hbel)
      have HA1 := Lib.hid (O12.belowAll hbel)
      have HBL := Lib.hid hbel
      clear hbel
      by_cases hlt : k < 16
      · obtain ⟨y0, hy0⟩ : ∃ y, y = k % 2 := ⟨_, rfl⟩
        obtain ⟨e2, he2⟩ : ∃ y, y = k / 2 := ⟨_, rfl⟩
        obtain ⟨e4, he4⟩ : ∃ y, y = k / 4 := ⟨_, rfl⟩
        obtain ⟨y1, hy1⟩ : ∃ y, y = e2 % 2 := ⟨_, rfl⟩
        obtain ⟨y2, hy2⟩ : ∃ y, y = e4 % 2 := ⟨_, rfl⟩
        obtain ⟨y3, hy3⟩ : ∃ y, y = k / 8 := ⟨_, rfl⟩
        have q0 : (k : Int).tmod 2 = (y0 : Int) := by rw [Int.tmod_eq_emod_of_nonneg (by omega)]; omega
        have q1 : (k : Int).tdiv 2 = (e2 : Int) := by rw [Int.tdiv_eq_ediv_of_nonneg (by omega)]; omega
        have q2 : (k : Int).tdiv 4 = (e4 : Int) := by rw [Int.tdiv_eq_ediv_of_nonneg (by omega)]; omega
        have q3 : (k : Int).tdiv 8 = (y3 : Int) := by rw [Int.tdiv_eq_ediv_of_nonneg (by omega)]; omega
        have q4 : (e2 : Int).tmod 2 = (y1 : Int) := by rw [Int.tmod_eq_emod_of_nonneg (by omega)]; omega
        have q5 : (e4 : Int).tmod 2 = (y2 : Int) := by rw [Int.tmod_eq_emod_of_nonneg (by omega)]; omega
        have w1 := IntWalk.i64_in (e2 : Int) (by omega)
        have w2 := IntWalk.i64_in (e4 : Int) (by omega)
        have w3 := IntWalk.i64_in (y3 : Int) (by omega)
        have HO := Lib.hid (show otherL k = [(y0 : Int), (y1 : Int), (y2 : Int), (y3 : Int)] by rw [otherL, hy0, hy1, hy2, hy3, he2, he4])
        have HOK := Lib.hid (other_ok k hlt)
        have hnew := own_new4 wr (y0 : Int) (y1 : Int) (y2 : Int) (y3 : Int)
        rw [← HO.out] at hnew
        have HNEW := Lib.hid hnew
        have hba : Below wr.heap.size wr (wr.alloc (.cells #[.int .i64 (y0 : Int), .int .i64 (y1 : Int), .int .i64 (y2 : Int), .int .i64 (y3 : Int)] 3)) := (Below.refl _ wr).alloc (Nat.le_refl _) _
        have HB2 := Lib.hid (below_step HB1.out hba)
        have HX2 := Lib.hid (HX1.out.belowAll hba)
        have HA2 := Lib.hid (HA1.out.belowAll hba)
        have HBL2 := Lib.hid (HBL.out.trans (hba.mono HBL.out.size))
        have HFAR := Lib.hid (fun (h : xs ≠ otherL k) => en_far HS.out HOK.out h)
        obtain ⟨D, hD⟩ : ∃ D, D = hamD (encN xs) (encN (otherL k)) := ⟨_, rfl⟩
        have HDD := Lib.hid hD
        obtain ⟨os, hos⟩ : ∃ os, os = otherL k := ⟨_, rfl⟩
        rw [← hos] at HFAR HNEW HDD
        clear hnew hba hy0 he2 he4 hy1 hy2 hy3 hos hD HB1 HX1 HA1
        go_wp2_with fail
        refine (EncodeNibble_any os _ _ (hT.below HB2.out) (row_of_own HNEW.out)).mono ?_
        rintro e wa ⟨ra, rfl, hoa, hbx⟩
        have HX3 := Lib.hid (HX2.out.belowAll hbx)
        have HA3 := Lib.hid (HA2.out.belowAll hbx)
        have HN3 := Lib.hid (HNEW.out.belowAll hbx)
        have HBL3 := Lib.hid (HBL2.out.trans (hbx.mono HBL2.out.size))
        clear hbx
        go_wp2_with fail
        refine (HammingDistance_any (encN xs) (encN os) _ _ _ (row_of_own HX3.out) (row_of_own hoa)).mono ?_
        rw [← HDD.out]
        rintro e wb ⟨rfl, hqb⟩
        have HA4 := Lib.hid (HA3.out.quiet hqb)
        have HN4 := Lib.hid (HN3.out.quiet hqb)
        have HBL4 := Lib.hid (below_quiet HBL3.out hqb)
        clear hqb hoa
        by_cases hE : os = xs
        · have hsb : (os == xs) = true := by rw [hE]; simp
          clear hE
          go_wp2_with fail
          refine (sameInts_any os xs _ _ _ (row_of_own HN4.out) (row_of_own HA4.out)).mono ?_
          rw [hsb]
          rintro e wc ⟨rfl, hqc⟩
          have HBL5 := Lib.hid (below_quiet HBL4.out hqc)
          clear hqc
          go_wp2
          go_roundw
          case rel => first | exact ⟨k + 1, by omega, by go_num, HBL5.out⟩ | ((repeat apply Exists.intro); exact ⟨⟨k + 1, by omega, by go_num, HBL5.out⟩, rfl⟩)
          case measure => simp [intOf]; omega
        · have hsb : (os == xs) = false := by rw [beq_eq_false_iff_ne]; exact hE
          have h3 : 3 ≤ D := by rw [HDD.out]; exact HFAR.out (fun e => hE e.symm)
          have hd3 : decide (D < 3) = false := decide_eq_false (by omega)
          clear hE
          go_wp2_with fail
          refine (sameInts_any os xs _ _ _ (row_of_own HN4.out) (row_of_own HA4.out)).mono ?_
          rw [hsb]
          rintro e wc ⟨rfl, hqc⟩
          have HBL5 := Lib.hid (below_quiet HBL4.out hqc)
          clear hqc
          go_wp2
          go_roundw
          case rel => first | exact ⟨k + 1, by omega, by go_num, HBL5.out⟩ | ((repeat apply Exists.intro); exact ⟨⟨k + 1, by omega, by go_num, HBL5.out⟩, rfl⟩)
          case measure => simp [intOf]; omega
      · obtain rfl : k = 16 := by omega
        have HD1 := Lib.hid (DecodeNibble_any (encN xs) _ _ (hT.below HB1.out).p (row_of_own HX1.out))
        rw [HBK.out.1, HBK.out.2.1] at HD1
        have HSY := Lib.hid (fun W (h : RowK .i64 W (.slice a1 7 c1) (encN xs)) => SyndromeOf_any (encN xs) _ W h)
        rw [HBK.out.2.2.1] at HSY
        have hsb : (xs == xs) = true := by simp
        go_wp2_with fail
        refine HD1.out.mono ?_
        rintro e wd ⟨rd, rfl, hod, hbd⟩
        have HX5 := Lib.hid (HX1.out.belowAll hbd)
        have HA5 := Lib.hid (HA1.out.belowAll hbd)
        have HB5 := Lib.hid (below_step HB1.out hbd)
        clear hbd
        go_wp2_with fail
        refine (HSY.out _ (row_of_own HX5.out)).mono ?_
        rintro e we ⟨rfl, rfl⟩
        go_wp2_with fail
        refine (sameInts_any xs xs _ _ _ (row_of_own hod) (row_of_own HA5.out)).mono ?_
        rw [hsb]
        rintro e wf ⟨rfl, hqf⟩
        have HB6 := Lib.hid (below_quiet HB5.out hqf)
        go_wp2
        go_ret
        exact ⟨rfl, HB6.out⟩
end Go.Proofs.YthljgookoboieabDoor
