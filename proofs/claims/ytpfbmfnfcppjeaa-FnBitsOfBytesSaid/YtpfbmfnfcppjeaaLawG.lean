/-
  Walks of laws. Written by a program (laws_bytes2.py).
-/
import Derived.Test.YtpfbmfnfcppjeaaBytesN
import Derived.Deep.RegionHeld3
namespace Go.Proofs.Ytpfbmfnfcppjeaa
open Go.RowKit
set_option maxHeartbeats 1000000 in
set_option linter.unusedVariables false in
theorem walk_FnBitsOfBytes (w : World) (v0 : Value) (z0 : List Int) (ra0 : RowK .u8 w v0 z0) (hw0 : ∀ n ∈ z0, (Lit.int .u8 n).wf = true) :
    Calls Try.prog 3 #[v0] w fun e w' => e = .returned (.bool true) ∧ Below w.heap.size w w' := by
  obtain ⟨aa0, cc0, rfl⟩ := ra0.form
  by_cases hlen0 : 1048576 < z0.length
  · go_enter Try.func3, Try.ntmps3
    go_wp2
    go_ret
    exact ⟨rfl, Below.refl _ _⟩
  have HB : Hid (Below w.heap.size w w) := Below.refl _ _
  go_enter Try.func3, Try.ntmps3
  go_wp2_with fail
  refine (DrawBitsOfBytes_any _ _ _ (ra0.belowAll HB.out) hw0).mono ?_
  rintro e w1 ⟨r1, zs, rfl, ho1, hby, hl1, hbel⟩
  have s1 : w.heap.size ≤ w1.heap.size := hbel.size
  have HB1 := Lib.hid (below_step HB.out hbel)
  have HE := Lib.hid hbel
  clear hbel
  clear HB HE
  have HB := HB1
  clear HB1
  have O1 := ho1
  have lt2 := ho1.lt
  clear ho1
  have HY := Lib.hid hby
  clear hby
  go_wp2_with fail
  refine (BitsOfBytes_any zs _ _ (row_of_own O1) HY.out).mono ?_
  rintro e w2 ⟨r3, rfl, hown, hbel⟩
  have s2 : w1.heap.size ≤ w2.heap.size := hbel.size
  have HB2 := Lib.hid (below_step HB.out hbel)
  have HE := Lib.hid hbel
  clear hbel
  have O4 := O1.belowAll HE.out
  clear O1
  clear HB HE
  have HB := HB2
  clear HB2
  have O5 := hown
  have lt6 := hown.lt
  clear hown
  go_wp2_with fail
  refine (specBitsOfBytes_any zs _ _ (row_of_own O4) HY.out).mono ?_
  rintro e w3 ⟨r7, rfl, hown, hbel⟩
  have s3 : w2.heap.size ≤ w3.heap.size := hbel.size
  have HB3 := Lib.hid (below_step HB.out hbel)
  have HE := Lib.hid hbel
  clear hbel
  have O8 := O4.belowAll HE.out
  clear O4
  have O9 := O5.belowAll HE.out
  clear O5
  clear HB HE
  have HB := HB3
  clear HB3
  have O10 := hown
  have lt11 := hown.lt
  clear hown
  go_wp2_with fail
  refine (sameInts_any (bitsOf zs) (bitsOf zs) _ _ _ (row_of_own O9) (row_of_own O10)).mono ?_
  rintro e w4 ⟨rfl, hq⟩
  have HQ := Lib.hid hq
  clear hq
  have s4 : w3.heap.size ≤ w4.heap.size := (HQ.out.below 0).size
  have HB4 := Lib.hid (below_quiet HB.out HQ.out)
  have O12 := O8.quiet HQ.out
  clear O8
  have O13 := O9.quiet HQ.out
  clear O9
  have O14 := O10.quiet HQ.out
  clear O10
  clear HB HQ
  have HB := HB4
  clear HB4
  have t1 : (bitsOf zs == bitsOf zs) = true := by simp
  obtain ⟨n, hn1⟩ : ∃ k, k = (zs).length := ⟨_, rfl⟩
  obtain ⟨a1, c1, hv1⟩ := (row_of_own O12).form
  rw [← hn1] at hv1
  subst hv1
  have HN1 := Lib.hid hn1.symm
  clear hn1
  by_cases hbig : 128 < n
  · have HE2 := Lib.hid (show bitsOf zs = [] by have := HN1.out; rw [bitsOf, if_neg (by omega)])
    obtain ⟨ac, cc, hvc⟩ := (row_of_own O13).form
    rw [HE2.out] at hvc
    simp only [List.length_nil] at hvc
    subst hvc
    go_wp2_with fail
    refine (alive_any _).mono ?_
    rintro e w5 ⟨rfl, hbel⟩
    have s5 : w4.heap.size ≤ w5.heap.size := hbel.size
    have HB5 := Lib.hid (below_step HB.out hbel)
    have HE := Lib.hid hbel
    clear hbel
    have O15 := O12.belowAll HE.out
    clear O12
    have O16 := O13.belowAll HE.out
    clear O13
    have O17 := O14.belowAll HE.out
    clear O14
    clear HB HE
    have HB := HB5
    clear HB5
    go_wp2
    go_ret
    exact ⟨rfl, HB.out⟩
  · obtain ⟨m, hn2⟩ : ∃ k, k = (bitsOf zs).length := ⟨_, rfl⟩
    obtain ⟨a2, c2, hv2⟩ := (row_of_own O13).form
    rw [← hn2] at hv2
    subst hv2
    have HN2 := Lib.hid hn2.symm
    clear hn2
    have e1 := HN1.out
    have hm8 : m = 8 * n := by have := HN2.out; rw [bitsOf, if_pos (by omega), bitsL_length] at this; omega
    obtain ⟨h, hh⟩ : ∃ h : Nat, h = n / 2 := ⟨_, rfl⟩
    have hd2 : (n : Int) / 2 = (h : Int) := by omega
    have hd3 : (n : Int).tdiv 2 = (h : Int) := by rw [Int.tdiv_eq_ediv_of_nonneg (by omega)]; exact hd2
    have hhn : h ≤ n := by omega
    have HH := Lib.hid hh
    have HM8 := Lib.hid hm8
    clear hh hm8 e1
    go_wp2_with fail
    refine (BytesOfBits_any (bitsOf zs) _ _ (row_of_own O13)).mono ?_
    rintro e w5 ⟨r15, rfl, hown, hbel⟩
    have s5 : w4.heap.size ≤ w5.heap.size := hbel.size
    have HB5 := Lib.hid (below_step HB.out hbel)
    have HE := Lib.hid hbel
    clear hbel
    have O16 := O12.belowAll HE.out
    clear O12
    have O17 := O13.belowAll HE.out
    clear O13
    have O18 := O14.belowAll HE.out
    clear O14
    clear HB HE
    have HB := HB5
    clear HB5
    have O19 := hown
    have lt20 := hown.lt
    clear hown
    have HV := Lib.hid (bytesV_bitsOf HY.out (by have := HN1.out; omega))
    have e2 := HV.out
    have hs1 := conv_bytes ((row_of_own O19).belowAll ((show Quiet w5 w5.drew from ⟨1, rfl⟩).below _))
    have hs2 := conv_bytes ((row_of_own O16).belowAll ((show Quiet w5 w5.drew from ⟨1, rfl⟩).below _))
    rw [bytes_back HY.out (by have := HN1.out; omega)] at hs1
    have t2 : ((m : Int) == 8 * (n : Int)) = true := by have := HM8.out; rw [beq_iff_eq]; omega
    have HBR : Below w5.heap.size w5 w5.drew := (show Quiet w5 w5.drew from ⟨1, rfl⟩).below _
    have HN1' := HN1.out
    
    have hn128 : (n : Int) ≤ 128 := by omega
    have hcp : n ≤ c1 := (row_of_own O16).at.2.2.1
    have hcm : c1 ≤ maxLen := (row_of_own O16).at.2.2.2.1
    by_cases hc0 : c1 = h
    · have hn0 : n = 0 := by have := HH.out; omega
      subst hn0
      have hh0 : h = 0 := by omega
      subst hh0
      have hcz : c1 = 0 := by omega
      subst hcz
      have hzs : zs = [] := List.eq_nil_of_length_eq_zero HN1.out
      subst hzs
      have HOD := Lib.hid O17
      have HRA := Lib.hid (row_of_own O16)
      have HBY := HY
      obtain ⟨BZ, eBZ⟩ : ∃ B, B = bitsOf [] := ⟨_, rfl⟩
      have HJ := Lib.hid (show bitsOf [] ++ bitsOf [] = bitsOf [] from rfl)
      have lZ : BZ.length = 0 := by rw [eBZ]; rfl
      have HCA := Lib.hid (fun W v (hr : RowK .u8 W v []) => BitsOfBytes_any [] v W hr HBY.out)
      rw [← eBZ] at HJ HOD HCA
      have HSS : Hid (∀ W v u, RowK .i64 W v BZ → RowK .i64 W u BZ → Calls Try.prog 6 #[v, u] W fun e w' => e = .returned (.bool true) ∧ Quiet W w') := fun W v u hv hu => by
        have := sameInts_any BZ BZ v u W hv hu
        simpa using this
      have HS1 := Lib.hid (fun W (hb : Below w5.heap.size w5 W) => conv_bytes ((row_of_own O19).belowAll hb))
      have HS2 := Lib.hid (fun W (hb : Below w5.heap.size w5 W) => conv_bytes ((row_of_own O16).belowAll hb))
      rw [bytes_back HY.out (by simp)] at HS1
      have HM0 : m = 0 := by have := HM8.out; omega
      subst HM0
      have hw0 : IntKind.i64.wrap 0 = 0 := by kernel_rfl
      clear hs1 hs2 eBZ HN1' t1 hbig hc0 hcp hcm hhn hd2 hd3
      go_wp2_with fail
      go_region_held3 (fun W => Below w5.heap.size w5 W ∧ (convert 22 9 r15).run Try.prog W = .ok (.string (strOfNums [])) W ∧ (convert 22 9 (Value.slice a1 0 0)).run Try.prog W = .ok (.string (strOfNums [])) W)
        (exact ⟨HBR, HS1.out _ HBR, HS2.out _ HBR⟩) (first
        | (refine st_apps tabI _ (.tmp 58) (.tmp 62) (by with_reducible rfl) (by kernel_rfl) w5.heap.size _ _ BZ BZ rfl rfl hX (row_of_own hY) (by omega) HBR.size ?_; intro v' w' hZ hgrow hnw; rw [HJ.out] at hZ; have HBR := HBR.trans (below_of_row hgrow HBR.size (fun k e => (hX.lt k e).1)); clear hgrow hnw)
        | (go_at_call 5; refine (HCA.out _ _ (HRA.out.belowAll HBR)).mono ?_; rintro e wa ⟨ra, rfl, hY, hbx⟩; have hX := hX.belowAll hbx; have HBR := below_step HBR hbx; clear hbx)
        | (go_at_call 5; refine (HCA.out _ _ (HRA.out.belowAll HBR)).mono ?_; rintro e wa ⟨ra, rfl, hX, hbx⟩; have hX := hX.mono HBR.size; have HBR := below_step HBR hbx; clear hbx)
        | (go_at_call 6; refine (HSS.out _ _ _ (row_of_own (HOD.out.belowAll HBR)) (row_of_own hZ)).mono ?_; rintro e wa ⟨rfl, hbx⟩; have HBR := below_quiet HBR hbx; clear hbx))
      all_goals (go_wp2; go_ret; exact ⟨rfl, below_step HB.out HBR⟩)
    · obtain ⟨g, rfl⟩ : ∃ g, a1 = some ⟨g, 0, none⟩ := by
        rcases O16.form with ⟨hv0, hz0⟩ | ⟨g, cg, hv0, hcg⟩
        · cases hv0; omega
        · cases hv0; exact ⟨g, rfl⟩
      have HRA := Lib.hid ((row_of_own O16).pre h hhn)
      have hrB := (row_of_own O16).mid h (n - h) (by omega)
      rw [Nat.zero_add] at hrB
      rw [List.take_of_length_le (by rw [List.length_drop]; omega)] at hrB
      have HRB := Lib.hid hrB
      have HbA := Lib.hid (byt_take HY.out h)
      have HbB := Lib.hid (byt_drop HY.out h)
      have HJ := Lib.hid (bitsOf_halves (zs := zs) (by omega) h)
      have hw1 := IntWalk.i64_in (8 * (n : Int)) (by omega)
      have lA := bitsOf_len (zs.take h)
      have lB := bitsOf_len (zs.drop h)
      have hhc : h ≤ c1 := by omega
      have hhn' : (h : Int) ≤ (n : Int) := by omega
      have hhc' : (h : Int) ≤ (c1 : Int) := by omega
      have hnc' : (n : Int) ≤ (c1 : Int) := by omega
      obtain ⟨BA, eBA⟩ : ∃ B, B = bitsOf (zs.take h) := ⟨_, rfl⟩
      obtain ⟨BB, eBB⟩ : ∃ B, B = bitsOf (zs.drop h) := ⟨_, rfl⟩
      obtain ⟨BZ, eBZ⟩ : ∃ B, B = bitsOf zs := ⟨_, rfl⟩
      have HCA := Lib.hid (fun W v (hr : RowK .u8 W v (zs.take h)) => BitsOfBytes_any (zs.take h) v W hr HbA.out)
      have HCB := Lib.hid (fun W v (hr : RowK .u8 W v (zs.drop h)) => BitsOfBytes_any (zs.drop h) v W hr HbB.out)
      have HOD := Lib.hid O17
      rw [← eBA] at HJ lA HCA
      rw [← eBB] at HJ lB HCB
      rw [← eBZ] at HJ HOD
      have HSS : Hid (∀ W v u, RowK .i64 W v BZ → RowK .i64 W u BZ → Calls Try.prog 6 #[v, u] W fun e w' => e = .returned (.bool true) ∧ Quiet W w') := fun W v u hv hu => by
        have := sameInts_any BZ BZ v u W hv hu
        simpa using this
      clear eBA eBB eBZ hrB
      have HS1 := Lib.hid (fun W (hb : Below w5.heap.size w5 W) => conv_bytes ((row_of_own O19).belowAll hb))
      have HS2 := Lib.hid (fun W (hb : Below w5.heap.size w5 W) => conv_bytes ((row_of_own O16).belowAll hb))
      rw [bytes_back HY.out (by have := HN1.out; omega)] at HS1
      clear hs1 hs2
      go_wp2_with fail
      go_region_held3 (fun W => Below w5.heap.size w5 W ∧ (convert 22 9 r15).run Try.prog W = .ok (.string (strOfNums zs)) W ∧ (convert 22 9 (Value.slice (some ⟨g, 0, none⟩) n c1)).run Try.prog W = .ok (.string (strOfNums zs)) W)
        (exact ⟨HBR, HS1.out _ HBR, HS2.out _ HBR⟩) (first
        | (refine st_apps tabI _ (.tmp 58) (.tmp 62) (by with_reducible rfl) (by kernel_rfl) w5.heap.size _ _ BA BB rfl rfl hX (row_of_own hY) (by omega) HBR.size ?_; intro v' w' hZ hgrow hnw; rw [HJ.out] at hZ; have HBR := HBR.trans (below_of_row hgrow HBR.size (fun k e => (hX.lt k e).1)); clear hgrow hnw)
        | (go_at_call_of 5 (Value.slice (some ⟨g, 0, none⟩) h c1); refine (HCA.out _ _ (HRA.out.belowAll HBR)).mono ?_; rintro e wa ⟨ra, rfl, hX, hbx⟩; have hX := hX.mono HBR.size; have HBR := below_step HBR hbx; clear hbx)
        | (go_at_call 5; refine (HCB.out _ _ (HRB.out.belowAll HBR)).mono ?_; rintro e wa ⟨ra, rfl, hY, hbx⟩; have hX := hX.belowAll hbx; have HBR := below_step HBR hbx; clear hbx)
        | (go_at_call 6; refine (HSS.out _ _ _ (row_of_own (HOD.out.belowAll HBR)) (row_of_own hZ)).mono ?_; rintro e wa ⟨rfl, hbx⟩; have HBR := below_quiet HBR hbx; clear hbx))
      all_goals (go_wp2; go_ret; exact ⟨rfl, below_step HB.out HBR⟩)
end Go.Proofs.Ytpfbmfnfcppjeaa
