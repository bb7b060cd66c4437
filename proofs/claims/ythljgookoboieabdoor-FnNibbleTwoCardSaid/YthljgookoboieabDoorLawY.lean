/-
  Walks of laws. Written by a program (laws_block2.py).
-/
import Derived.Test.YthljgookoboieabDoorLaidB
import Derived.Test.YthljgookoboieabDoorDrawE
import Derived.Test.YthljgookoboieabDoorEnc7
import Derived.Test.YthljgookoboieabDoorEnc8
import Derived.Test.YthljgookoboieabDoorBlkN
import Derived.Test.YthljgookoboieabDoorHamM
namespace Go.Proofs.YthljgookoboieabDoor
open Go.RowKit
set_option maxHeartbeats 3000000 in
set_option linter.unusedVariables false in
theorem walk_FnNibbleTwo (w : World) (hT : Tabs w) (v0 : Value) (z0 : List Int) (ra0 : RowK .u8 w v0 z0) (hw0 : ∀ n ∈ z0, (Lit.int .u8 n).wf = true) (v1 : Value) (z1 : List Int) (ra1 : RowK .u8 w v1 z1) (hw1 : ∀ n ∈ z1, (Lit.int .u8 n).wf = true) :
    Calls Tryd.prog 4 #[v0, v1] w fun e w' => e = .returned (.bool true) ∧ Below w.heap.size w w' := by
  obtain ⟨aa0, cc0, rfl⟩ := ra0.form
  obtain ⟨aa1, cc1, rfl⟩ := ra1.form
  by_cases hlen0 : 1048576 < z0.length
  · go_enter Tryd.func4, Tryd.ntmps4
    go_wp2
    go_ret
    exact ⟨rfl, Below.refl _ _⟩
  by_cases hlen1 : 1048576 < z1.length
  · go_enter Tryd.func4, Tryd.ntmps4
    go_wp2
    go_ret
    exact ⟨rfl, Below.refl _ _⟩
  have HB : Hid (Below w.heap.size w w) := Below.refl _ _
  go_enter Tryd.func4, Tryd.ntmps4
  go_wp2_with fail
  refine (DrawEncodeNibble_any _ _ _ (ra0.belowAll HB.out) hw0).mono ?_
  rintro e w1 ⟨r1, xs, rfl, ho1, hl1, hbel⟩
  have s1 : w.heap.size ≤ w1.heap.size := hbel.size
  have HB1 := Lib.hid (below_step HB.out hbel)
  have HE := Lib.hid hbel
  clear hbel
  clear HB HE
  have HB := HB1
  clear HB1
  have O1 := ho1
  have lt2 := ho1.lt
  clear ho1
  go_wp2_with fail
  refine (EncodeNibble_any xs _ _ (hT.below HB.out) (row_of_own O1)).mono ?_
  rintro e w2 ⟨r3, rfl, hown, hbel⟩
  have s2 : w1.heap.size ≤ w2.heap.size := hbel.size
  have HB2 := Lib.hid (below_step HB.out hbel)
  have HE := Lib.hid hbel
  clear hbel
  have O4 := O1.belowAll HE.out
  clear O1
  clear HB HE
  have HB := HB2
  clear HB2
  have O5 := hown
  have lt6 := hown.lt
  clear hown
  go_wp2_with fail
  refine (specEncodeNibble_any xs _ _ (row_of_own O4)).mono ?_
  rintro e w3 ⟨r7, rfl, hown, hbel⟩
  have s3 : w2.heap.size ≤ w3.heap.size := hbel.size
  have HB3 := Lib.hid (below_step HB.out hbel)
  have HE := Lib.hid hbel
  clear hbel
  have O8 := O4.belowAll HE.out
  clear O4
  have O9 := O5.belowAll HE.out
  clear O5
  clear HB HE
  have HB := HB3
  clear HB3
  have O10 := hown
  have lt11 := hown.lt
  clear hown
  go_wp2_with fail
  refine (sameInts_any (encN xs) (encN xs) _ _ _ (row_of_own O9) (row_of_own O10)).mono ?_
  rintro e w4 ⟨rfl, hq⟩
  have HQ := Lib.hid hq
  clear hq
  have s4 : w3.heap.size ≤ w4.heap.size := (HQ.out.below 0).size
  have HB4 := Lib.hid (below_quiet HB.out HQ.out)
  have O12 := O8.quiet HQ.out
  clear O8
  have O13 := O9.quiet HQ.out
  clear O9
  have O14 := O10.quiet HQ.out
  clear O10
  clear HB HQ
  have HB := HB4
  clear HB4
  have t1 : (encN xs == encN xs) = true := by simp
  obtain ⟨n, hn1⟩ : ∃ k, k = (encN xs).length := ⟨_, rfl⟩
  obtain ⟨a1, c1, hv1⟩ := (row_of_own O13).form
  rw [← hn1] at hv1
  subst hv1
  have HN1 := Lib.hid hn1.symm
  clear hn1
  cases hs : (validB xs && xs.length == 4)
  · obtain rfl : n = 0 := by have := HN1.out; rw [encN_none hs] at this; exact this.symm
    go_wp2_with fail
    refine (alive_any _).mono ?_
    rintro e w5 ⟨rfl, hbel⟩
    have s5 : w4.heap.size ≤ w5.heap.size := hbel.size
    have HB5 := Lib.hid (below_step HB.out hbel)
    have HE := Lib.hid hbel
    clear hbel
    have O15 := O12.belowAll HE.out
    clear O12
    have O16 := O13.belowAll HE.out
    clear O13
    have O17 := O14.belowAll HE.out
    clear O14
    clear HB HE
    have HB := HB5
    clear HB5
    go_wp2
    go_ret
    exact ⟨rfl, HB.out⟩
  · obtain rfl : n = 7 := by have := HN1.out; rw [encN_is hs] at this; exact this.symm
    obtain ⟨M, hM⟩ : ∃ M, M = z1.length := ⟨_, rfl⟩
    have hM20 : M ≤ 1048576 := by omega
    rw [← hM]
    clear hlen1 hlen0
    obtain ⟨i, hi⟩ : ∃ i, i = M % 7 := ⟨_, rfl⟩
    obtain ⟨e6, he⟩ : ∃ e, e = M / 7 := ⟨_, rfl⟩
    obtain ⟨f6, hf⟩ : ∃ f, f = e6 % 6 := ⟨_, rfl⟩
    obtain ⟨j, hj⟩ : ∃ j, j = (i + 1 + f6) % 7 := ⟨_, rfl⟩
    have q1 : (M : Int).tmod 7 = (i : Int) := by rw [Int.tmod_eq_emod_of_nonneg (by omega)]; omega
    have q2 : (M : Int).tdiv 7 = (e6 : Int) := by rw [Int.tdiv_eq_ediv_of_nonneg (by omega)]; omega
    have q3 : (e6 : Int).tmod 6 = (f6 : Int) := by rw [Int.tmod_eq_emod_of_nonneg (by omega)]; omega
    have q4 : ((i : Int) + 1 + (f6 : Int)).tmod 7 = (j : Int) := by rw [Int.tmod_eq_emod_of_nonneg (by omega)]; omega
    have hi7 : i < 7 := by omega
    have hj7 : j < 7 := by omega
    have hij : i ≠ j := by omega
    have hf6 : f6 < 6 := by omega
    have he6 : e6 ≤ 1048576 := by omega
    have he6' : (e6 : Int) ≤ 1048576 := by omega
    have hf6' : (f6 : Int) < 6 := by omega
    have hi7' : (i : Int) < 7 := by omega
    have hj7' : (j : Int) < 7 := by omega
    clear hM hi he hf hj
    have hnt := nt_law hs i j hi7 hj7 hij
    obtain ⟨g, hgx⟩ := own_form_pos O13 (by have := HN1.out; omega)
    subst hgx
    have hlg := O13.lt g rfl
    obtain ⟨x1, hx1, hx2⟩ := bit_nat hnt.2.2.2.1 i (by have := HN1.out; omega)
    have cellx := O13.cell HN1.out i hi7
    rw [hx1] at cellx
    have freex := O13.free HN1.out i
    have HS1 := Lib.hid (O13.stored HN1.out i (1 - (x1 : Int)))
    have hf1 : (encN xs).set i (1 - (x1 : Int)) = flipAt (encN xs) i := by rw [flipAt, hx1]
    have HFL := Lib.hid (show (flipAt (encN xs) i).length = 7 by rw [flip_length]; exact HN1.out)
    have hown1 := HS1.out.1
    rw [hf1] at hown1
    obtain ⟨x3, hx3, hx4⟩ := bit_nat hnt.2.2.2.2 j (by have := HFL.out; omega)
    have hx3b : (encN xs).getD j 0 = (x3 : Int) := by
      rw [← hx3, flipAt, List.getD_eq_getElem?_getD, List.getD_eq_getElem?_getD, List.getElem?_set_ne hij]
    have celly := hown1.cell HFL.out j hj7
    rw [hx3] at celly
    have freey := hown1.free HFL.out j
    have HS2 := Lib.hid (hown1.stored HFL.out j (1 - (x3 : Int)))
    have hf2 : (flipAt (encN xs) i).set j (1 - (x3 : Int)) = flipAt (flipAt (encN xs) i) j := by show _ = (flipAt (encN xs) i).set j (1 - (flipAt (encN xs) i).getD j 0); rw [hx3]
    have hown2 := HS2.out.1
    rw [hf2] at hown2
    have Oa1 := O12.kept HS1.out.2 (Or.inr (fun e => by have := lt2 g e; have := lt6 g rfl; omega))
    have Oa2 := Oa1.kept HS2.out.2 (Or.inr (fun e => by have := lt2 g e; have := lt6 g rfl; omega))
    have HBa := Lib.hid (below_mark (below_mark HB.out HS1.out.2 (fun k e => by cases e; omega)) HS2.out.2 (fun k e => by cases e; omega))
    have hdw := hnt.1
    have HNE := Lib.hid hnt.2.1
    have HL4 := Lib.hid hnt.2.2.1
    clear hown1 Oa1 hf1 hf2 hx1 hx3 hx3b hnt hs hij
    have HO2 := Lib.hid hown2
    have HOA := Lib.hid Oa2
    clear hown2 Oa2
    obtain ⟨zs, hzs⟩ : ∃ zs, zs = flipAt (flipAt (encN xs) i) j := ⟨_, rfl⟩
    rw [← hzs] at hdw HNE HL4 HO2
    clear hzs
    go_wp2_with fail
    refine (DecodeNibble_any zs _ _ (hT.below HBa.out).p (row_of_own HO2.out)).mono ?_
    rw [hdw]
    rintro e wd ⟨rd, rfl, hod, hbd⟩
    have HOA2 := Lib.hid (HOA.out.belowAll hbd)
    have HBd := Lib.hid (below_step HBa.out hbd)
    obtain ⟨ad, cd, hvd⟩ := (row_of_own hod).form
    rw [HL4.out] at hvd
    subst hvd
    have hsb : (xs == decN zs) = false := by rw [beq_eq_false_iff_ne]; exact fun e => HNE.out e.symm
    have HOD := Lib.hid hod
    clear hod hbd
    go_wp2_with fail
    refine (sameInts_any xs (decN zs) _ _ _ (row_of_own HOA2.out) (row_of_own HOD.out)).mono ?_
    rw [hsb]
    rintro e we ⟨rfl, hqe⟩
    have HBe := Lib.hid (below_quiet HBd.out hqe)
    go_wp2
    go_ret
    exact ⟨rfl, HBe.out⟩
end Go.Proofs.YthljgookoboieabDoor
