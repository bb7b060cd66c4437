/-
  Walk of a law. Written by a program (laws_cb.py).
-/
import Derived.Test.YtkhefkedhdakbacDoorLaidB
import Derived.Test.YtkhefkedhdakbacDoorDrawE
import Derived.Test.YtkhefkedhdakbacDoorEnc7
import Derived.Test.YtkhefkedhdakbacDoorEnc8
import Derived.Test.YtkhefkedhdakbacDoorChk9
import Derived.Test.YtkhefkedhdakbacDoorBlkN
import Derived.Test.YtkhefkedhdakbacDoorHamM
namespace Go.Proofs.YtkhefkedhdakbacDoor
open Go.RowKit
theorem u8_wf' {n : Int} (h : (Lit.int .u8 n).wf = true) : 0 ≤ n ∧ n ≤ 255 := by
  simp only [Lit.wf, Bool.and_eq_true, decide_eq_true_eq] at h
  exact h
def psOf (zs : List Int) (j : Nat) : Nat := if j < zs.length then (zs.getD j 0).toNat % 7 else 0
theorem psOf_lt (zs : List Int) : ∀ k, psOf zs k < 7 := fun k => by unfold psOf; split <;> omega
theorem cb_byte {zs : List Int} (h : ∀ n ∈ zs, (Lit.int .u8 n).wf = true) {j : Nat} (hj : j < zs.length) : ∃ b : Nat, zs.getD j 0 = (b : Int) ∧ b < 256 := by
  have hm : zs.getD j 0 ∈ zs := by rw [List.getD, List.getElem?_eq_getElem hj]; exact List.getElem_mem hj
  have hw := h _ hm
  have : 0 ≤ zs.getD j 0 ∧ zs.getD j 0 ≤ 255 := u8_wf' hw
  exact ⟨(zs.getD j 0).toNat, by omega, by omega⟩
theorem cb_len (L : List Int) : ∃ m, (encL L).length = 7 * m := by
  unfold encL
  split
  · exact ⟨_, encB_length _ _⟩
  · exact ⟨0, rfl⟩
theorem cb_bits (L zs : List Int) (j : Nat) : BitL (flipB (psOf zs) j (encL L)) := by
  have hb := bits_of (encL_valid L)
  intro z hz
  obtain ⟨i, hi, rfl⟩ := List.getElem_of_mem hz
  have := flipB_get (psOf zs) (psOf_lt zs) j (encL L) i
  have hg : (flipB (psOf zs) j (encL L)).getD i 0 = (flipB (psOf zs) j (encL L))[i] := by rw [List.getD, List.getElem?_eq_getElem hi]; rfl
  rw [← hg, this]
  have hx := hb.at i
  split
  · rcases hx with e | e <;> rw [e] <;> simp
  · exact hx
theorem cb_law (L zs : List Int) (m : Nat) (hm : (encL L).length = 7 * m) (h0 : ¬ m = 0) : L ≠ [] ∧ decL (flipB (psOf zs) m (encL L)) = L ∧ badN (flipB (psOf zs) m (encL L)) = (m : Int) := by
  cases hok : okE L
  · have : encL L = [] := by simp only [encL, hok]; rfl
    rw [this] at hm
    simp at hm
    exact absurd (by omega) h0
  · obtain ⟨_, h2, _, h4⟩ := okE_is hok
    have hl := encB_length (L.length / 4) L
    rw [← h4] at hl
    obtain rfl : m = L.length / 4 := by omega
    obtain ⟨f1, f2⟩ := flipped hok (psOf zs) (psOf_lt zs) (flipped_ok hok (psOf zs) (psOf_lt zs))
    exact ⟨fun e => h0 (by rw [e]; rfl), f1, f2⟩
set_option maxHeartbeats 2000000 in
set_option linter.unusedVariables false in
theorem walk_FnCheckedBlocks (w : World) (hT : Tabs w) (v0 : Value) (z0 : List Int) (ra0 : RowK .u8 w v0 z0) (hw0 : ∀ n ∈ z0, (Lit.int .u8 n).wf = true) (v1 : Value) (z1 : List Int) (ra1 : RowK .u8 w v1 z1) (hw1 : ∀ n ∈ z1, (Lit.int .u8 n).wf = true) :
    Calls Tryd.prog 3 #[v0, v1] w fun e w' => e = .returned (.bool true) ∧ Below w.heap.size w w' := by
  obtain ⟨aa0, cc0, rfl⟩ := ra0.form
  obtain ⟨aa1, cc1, rfl⟩ := ra1.form
  by_cases hlen0 : 1048576 < z0.length
  · go_enter Tryd.func3, Tryd.ntmps3
    go_wp2
    go_ret
    exact ⟨rfl, Below.refl _ _⟩
  by_cases hlen1 : 1048576 < z1.length
  · go_enter Tryd.func3, Tryd.ntmps3
    go_wp2
    go_ret
    exact ⟨rfl, Below.refl _ _⟩
  have HB : Hid (Below w.heap.size w w) := Below.refl _ _
  go_enter Tryd.func3, Tryd.ntmps3
  go_wp2_with fail
  refine (DrawEncodeBlocks_any _ _ _ (ra0.belowAll HB.out) hw0).mono ?_
  rintro e w1 ⟨r1, xs, rfl, ho1, hl1, hbel⟩
  have s1 : w.heap.size ≤ w1.heap.size := hbel.size
  have HB1 := Lib.hid (below_step HB.out hbel)
  have HE := Lib.hid hbel
  clear hbel
  clear HB HE
  have HB := HB1
  clear HB1
  have O1 := ho1
  have lt2 := ho1.lt
  clear ho1
  go_wp2_with fail
  refine (CheckAppend_any xs 19 _ _ (row_of_own O1) (by decide)).mono ?_
  rintro e w2 ⟨r3, rfl, hown, hbel⟩
  have s2 : w1.heap.size ≤ w2.heap.size := hbel.size
  have HB2 := Lib.hid (below_step HB.out hbel)
  have HE := Lib.hid hbel
  clear hbel
  have O4 := O1.belowAll HE.out
  clear O1
  clear HB HE
  have HB := HB2
  clear HB2
  have O5 := hown
  have lt6 := hown.lt
  clear hown
  go_wp2_with fail
  refine (EncodeBlocks_any (appL xs 19) _ _ (hT.below HB.out) (row_of_own O5)).mono ?_
  rintro e w3 ⟨r7, rfl, hown, hbel⟩
  have s3 : w2.heap.size ≤ w3.heap.size := hbel.size
  have HB3 := Lib.hid (below_step HB.out hbel)
  have HE := Lib.hid hbel
  clear hbel
  have O8 := O4.belowAll HE.out
  clear O4
  have O9 := O5.belowAll HE.out
  clear O5
  clear HB HE
  have HB := HB3
  clear HB3
  have O10 := hown
  have lt11 := hown.lt
  clear hown
  go_wp2_with fail
  refine (specCheckAppend_any xs 19 _ _ (row_of_own O8)).mono ?_
  rintro e w4 ⟨r12, rfl, hown, hbel⟩
  have s4 : w3.heap.size ≤ w4.heap.size := hbel.size
  have HB4 := Lib.hid (below_step HB.out hbel)
  have HE := Lib.hid hbel
  clear hbel
  have O13 := O8.belowAll HE.out
  clear O8
  have O14 := O9.belowAll HE.out
  clear O9
  have O15 := O10.belowAll HE.out
  clear O10
  clear HB HE
  have HB := HB4
  clear HB4
  have O16 := hown
  have lt17 := hown.lt
  clear hown
  go_wp2_with fail
  refine (specEncodeBlocks_any (appL xs 19) _ _ (row_of_own O16)).mono ?_
  rintro e w5 ⟨r18, rfl, hown, hbel⟩
  have s5 : w4.heap.size ≤ w5.heap.size := hbel.size
  have HB5 := Lib.hid (below_step HB.out hbel)
  have HE := Lib.hid hbel
  clear hbel
  have O19 := O13.belowAll HE.out
  clear O13
  have O20 := O14.belowAll HE.out
  clear O14
  have O21 := O15.belowAll HE.out
  clear O15
  have O22 := O16.belowAll HE.out
  clear O16
  clear HB HE
  have HB := HB5
  clear HB5
  have O23 := hown
  have lt24 := hown.lt
  clear hown
  go_wp2_with fail
  refine (sameInts_any (encL (appL xs 19)) (encL (appL xs 19)) _ _ _ (row_of_own O21) (row_of_own O23)).mono ?_
  rintro e w6 ⟨rfl, hq⟩
  have HQ := Lib.hid hq
  clear hq
  have s6 : w5.heap.size ≤ w6.heap.size := (HQ.out.below 0).size
  have HB6 := Lib.hid (below_quiet HB.out HQ.out)
  have O25 := O19.quiet HQ.out
  clear O19
  have O26 := O20.quiet HQ.out
  clear O20
  have O27 := O21.quiet HQ.out
  clear O21
  have O28 := O22.quiet HQ.out
  clear O22
  have O29 := O23.quiet HQ.out
  clear O23
  clear HB HQ
  have HB := HB6
  clear HB6
  have t1 : (encL (appL xs 19) == encL (appL xs 19)) = true := by simp
  obtain ⟨n, hn1⟩ : ∃ k, k = (encL (appL xs 19)).length := ⟨_, rfl⟩
  obtain ⟨a1, c1, hv1⟩ := (row_of_own O27).form
  rw [← hn1] at hv1
  subst hv1
  have HN1 := Lib.hid hn1.symm
  clear hn1
  have HCB := Lib.hid (cb_law (appL xs 19) z1)
  have HPA := Lib.hid (fun h => pass_app (zs := xs) (g := 19) h)
  obtain ⟨m, hm⟩ := cb_len (appL xs 19)
  have HM := Lib.hid (show n = 7 * m by have := HN1.out; omega)
  have hn896 : n ≤ 896 := by have := HN1.out; have := encL_len (appL xs 19); omega
  have HEB := Lib.hid (fun j => cb_bits (appL xs 19) z1 j)
  have HLN := Lib.hid (fun j => (flipB_length (psOf z1) j (encL (appL xs 19))).trans HN1.out)
  have HOX := Lib.hid O27
  have HRM := Lib.hid ra1
  clear hm
  go_wp2
  go_loopw [7] (fun i wr => ∃ j q : Nat, j ≤ m ∧ q = 7 * j ∧ i = .int .i64 (q : Int) ∧ OwnI w2.heap.size wr (.slice a1 n c1) (flipB (psOf z1) j (encL (appL xs 19))) ∧ Below w.heap.size w wr) (fun i _ => n - (intOf i).toNat)
  case atStart => exact ⟨0, 0, Nat.zero_le _, rfl, rfl, HOX.out.mono (by omega), HB.out⟩
  case round =>
    obtain ⟨j, q, hj, hqj, rfl, ho, hbel⟩ := hrel
    have HQ := Lib.hid hqj
    have HBL := Lib.hid hbel
    by_cases hlt : q < n
    · have hjm : j < m := by have := HM.out; omega
      have hqd : (q : Int).tdiv 7 = (j : Int) := by rw [Int.tdiv_eq_ediv_of_nonneg (by omega)]; omega
      have hwj := IntWalk.i64_in (j : Int) (by omega)
      obtain ⟨g, rfl⟩ := own_form_pos ho (by have := HLN.out j; omega)
      have hlg := ho.lt g rfl
      by_cases hjz : j < z1.length
      · obtain ⟨b, hb1, hb2⟩ := cb_byte hw1 hjz
        obtain ⟨_, _, _, _, hcell⟩ := (HRM.out.belowAll hbel).at
        obtain ⟨bb, off, rfl, hc⟩ := hcell (by omega)
        have hcj := hc j hjz
        rw [hb1] at hcj
        obtain ⟨p, hp⟩ : ∃ p, p = b % 7 := ⟨_, rfl⟩
        have hbm : (b : Int).tmod 7 = (p : Int) := by rw [Int.tmod_eq_emod_of_nonneg (by omega)]; omega
        have HPS := Lib.hid (show psOf z1 j = p by rw [psOf, if_pos hjz, hb1, hp]; rfl)
        have hp7 : p < 7 := by omega
        have hqp : q + p < n := by have := HM.out; omega
        obtain ⟨e, he1, he2⟩ := bit_nat (HEB.out j) (q + p) (by have := HLN.out j; omega)
        have cellx := ho.cell (HLN.out j) (q + p) hqp
        rw [he1] at cellx
        have freex := ho.free (HLN.out j) (q + p)
        have HST := Lib.hid (ho.stored (HLN.out j) (q + p) (1 - (e : Int)))
        have HFL := Lib.hid (show flipB (psOf z1) (j + 1) (encL (appL xs 19)) = (flipB (psOf z1) j (encL (appL xs 19))).set (q + p) (1 - (e : Int)) by rw [flipB, flipAt, HPS.out, ← HQ.out, he1])
        have hlt' : (q : Int) < (n : Int) := by omega
        have hjz' : (j : Int) < (z1.length : Int) := by omega
        have hqp' : (q : Int) + (p : Int) < (n : Int) := by omega
        have hwq := IntWalk.i64_in ((q : Int) + (p : Int)) (by omega)
        have htn : ((q : Int) + (p : Int)).toNat = q + p := by omega
        clear ho hbel hc hcell hb1 he1 hp hqj
        go_wp2
        go_roundw
        have hfin : OwnI w2.heap.size (wr.setCell ⟨g, q + p, none⟩ (.int .i64 (1 - (e : Int)))) (.slice (some ⟨g, 0, none⟩) n c1) (flipB (psOf z1) (j + 1) (encL (appL xs 19))) := by rw [HFL.out]; exact HST.out.1
        have hfin2 := below_mark HBL.out HST.out.2 (fun k e => by cases e; omega)
        case rel => first | exact ⟨j + 1, q + 7, by omega, by have := HQ.out; omega, by go_num, hfin, hfin2⟩ | ((repeat apply Exists.intro); exact ⟨⟨j + 1, q + 7, by omega, by have := HQ.out; omega, by go_num, hfin, hfin2⟩, rfl⟩)
        case measure => simp [intOf]; omega
      · have HPS := Lib.hid (show psOf z1 j = 0 by rw [psOf, if_neg hjz])
        obtain ⟨e, he1, he2⟩ := bit_nat (HEB.out j) q (by have := HLN.out j; omega)
        have cellx := ho.cell (HLN.out j) q hlt
        rw [he1] at cellx
        have freex := ho.free (HLN.out j) q
        have HST := Lib.hid (ho.stored (HLN.out j) q (1 - (e : Int)))
        have HFL := Lib.hid (show flipB (psOf z1) (j + 1) (encL (appL xs 19)) = (flipB (psOf z1) j (encL (appL xs 19))).set q (1 - (e : Int)) by rw [flipB, flipAt, HPS.out, Nat.add_zero, ← HQ.out, he1])
        have hlt' : (q : Int) < (n : Int) := by omega
        have hjz' : (z1.length : Int) ≤ (j : Int) := by omega
        clear ho hbel he1 hqj
        go_wp2
        go_roundw
        have hfin : OwnI w2.heap.size (wr.setCell ⟨g, q, none⟩ (.int .i64 (1 - (e : Int)))) (.slice (some ⟨g, 0, none⟩) n c1) (flipB (psOf z1) (j + 1) (encL (appL xs 19))) := by rw [HFL.out]; exact HST.out.1
        have hfin2 := below_mark HBL.out HST.out.2 (fun k e => by cases e; omega)
        case rel => first | exact ⟨j + 1, q + 7, by omega, by have := HQ.out; omega, by go_num, hfin, hfin2⟩ | ((repeat apply Exists.intro); exact ⟨⟨j + 1, q + 7, by omega, by have := HQ.out; omega, by go_num, hfin, hfin2⟩, rfl⟩)
        case measure => simp [intOf]; omega
    · obtain rfl : j = m := by have := HM.out; omega
      have hle' : (n : Int) ≤ (q : Int) := by omega
      by_cases hj0 : j = 0
      · obtain rfl : n = 0 := by have := HM.out; omega
        clear hj0 hlt
        go_wp2_with fail
        refine (alive_any _).mono ?_
        rintro e wa ⟨rfl, hba⟩
        have HBa := Lib.hid (below_step HBL.out hba)
        go_wp2
        go_ret
        exact ⟨rfl, HBa.out⟩
      · have hne : ((n : Int) == 0) = false := by rw [beq_eq_false_iff_ne]; have := HM.out; omega
        have hne2 : ¬ (n : Int) = 0 := by have := HM.out; omega
        obtain ⟨h1, h2, h3⟩ := HCB.out j (by have := HN1.out; have := HM.out; omega) hj0
        have hpp := (HPA.out h1).1
        have hqd : (n : Int).tdiv 7 = (j : Int) := by rw [Int.tdiv_eq_ediv_of_nonneg (by omega)]; have := HM.out; omega
        have HWJ := Lib.hid (show ((j : Int) == wrap64 (j : Int)) = true by rw [show wrap64 (j : Int) = (j : Int) from IntWalk.wrap64_in _ ⟨by omega, by have := HM.out; omega⟩]; simp)
        have HD := Lib.hid (DecodeBlocks_any (flipB (psOf z1) j (encL (appL xs 19))) _ _ (hT.below hbel).p (row_of_own ho))
        rw [h2, h3] at HD
        have HCP := Lib.hid (fun W v (h : RowK .i64 W v (appL xs 19)) => CheckPasses_any (appL xs 19) 19 v W h (by decide))
        rw [hpp] at HCP
        clear h1 h2 h3 hpp hj0 hlt ho hbel
        go_wp2_with fail
        refine HD.out.mono ?_
        rintro e wd ⟨rd, rfl, hod, hbd⟩
        have HBd := Lib.hid (below_step HBL.out hbd)
        clear hbd
        go_wp2_with fail
        refine (HCP.out _ _ (row_of_own hod)).mono ?_
        rintro e we ⟨rfl, hbe⟩
        have HBe := Lib.hid (below_step HBd.out hbe)
        go_wp2
        go_ret
        exact ⟨ret_bool HWJ.out, HBe.out⟩
end Go.Proofs.YtkhefkedhdakbacDoor
