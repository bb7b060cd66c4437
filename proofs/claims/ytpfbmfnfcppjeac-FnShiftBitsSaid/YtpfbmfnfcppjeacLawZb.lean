/-
  Walks of laws. Written by a program (laws_shift2.py).
-/
import Derived.Test.YtpfbmfnfcppjeacDrawT
import Derived.Test.YtpfbmfnfcppjeacHamM
import Derived.Test.YtpfbmfnfcppjeacScr
import Derived.Deep.RegionHeld3
namespace Go.Proofs.Ytpfbmfnfcppjeac
open Go.RowKit
theorem sum_take (zs : List Int) (k : Nat) (hk : k < zs.length) : (zs.take (k + 1)).foldl (· + ·) 0 = (zs.take k).foldl (· + ·) 0 + zs.getD k 0 := by
  rw [List.take_add_one, List.getElem?_eq_getElem hk, Option.toList_some, List.foldl_append, List.getD, List.getElem?_eq_getElem hk]; rfl
theorem corr19 : ∀ s, s < 16 → 1 ≤ s → ∀ k, k < 15 → 1 ≤ k → hamD ((outs 9 s 30).take 15) (((outs 9 s 30).drop k).take 15) = 8 := by decide +kernel
theorem outs_valid (h s n : Nat) (hn : n ≤ 1024) : validB (outs h s n) = true := bvalid_of (outs_bits h s n) (by rw [outs_length]; exact hn)
set_option maxHeartbeats 2000000 in
set_option linter.unusedVariables false in
theorem walk_FnShiftBits (w : World) (v0 : Value) (z0 : List Int) (ra0 : RowK .u8 w v0 z0) (hw0 : ∀ n ∈ z0, (Lit.int .u8 n).wf = true) :
    Calls Try.prog 3 #[v0] w fun e w' => e = .returned (.bool true) ∧ Below w.heap.size w w' := by
  obtain ⟨aa0, cc0, rfl⟩ := ra0.form
  by_cases hlen0 : 1048576 < z0.length
  · go_enter Try.func3, Try.ntmps3
    go_wp2
    go_ret
    exact ⟨rfl, Below.refl _ _⟩
  have HB : Hid (Below w.heap.size w w) := Below.refl _ _
  go_enter Try.func3, Try.ntmps3
  go_wp2_with fail
  refine (DrawShiftBits_any _ _ _ (ra0.belowAll HB.out) hw0).mono ?_
  rintro e w1 ⟨g, s, n, rfl, hg0, hg1, hs0, hs1, hn0, hn1, hbel⟩
  have s1 : w.heap.size ≤ w1.heap.size := hbel.size
  have HB1 := Lib.hid (below_step HB.out hbel)
  have HE := Lib.hid hbel
  clear hbel
  clear HB HE
  have HB := HB1
  clear HB1
  have hwf : (Lit.int .i64 g).wf = true := wf_small (by omega) (by omega)
  go_wp2_with fail
  refine (ShiftBits_any g s n _ hwf).mono ?_
  rintro e w2 ⟨r1, rfl, hown, hbel⟩
  have s2 : w1.heap.size ≤ w2.heap.size := hbel.size
  have HB2 := Lib.hid (below_step HB.out hbel)
  have HE := Lib.hid hbel
  clear hbel
  clear HB HE
  have HB := HB2
  clear HB2
  have O2 := hown
  have lt3 := hown.lt
  clear hown
  go_wp2_with fail
  refine (specShiftBits_any g s n _).mono ?_
  rintro e w3 ⟨r4, rfl, hown, hbel⟩
  have s3 : w2.heap.size ≤ w3.heap.size := hbel.size
  have HB3 := Lib.hid (below_step HB.out hbel)
  have HE := Lib.hid hbel
  clear hbel
  have O5 := O2.belowAll HE.out
  clear O2
  clear HB HE
  have HB := HB3
  clear HB3
  have O6 := hown
  have lt7 := hown.lt
  clear hown
  go_wp2_with fail
  refine (sameInts_any (shiftL g s n) (shiftL g s n) _ _ _ (row_of_own O5) (row_of_own O6)).mono ?_
  rintro e w4 ⟨rfl, hq⟩
  have HQ := Lib.hid hq
  clear hq
  have s4 : w3.heap.size ≤ w4.heap.size := (HQ.out.below 0).size
  have HB4 := Lib.hid (below_quiet HB.out HQ.out)
  have O8 := O5.quiet HQ.out
  clear O5
  have O9 := O6.quiet HQ.out
  clear O6
  clear HB HQ
  have HB := HB4
  clear HB4
  have t1 : (shiftL g s n == shiftL g s n) = true := by simp
  obtain ⟨m, hn1⟩ : ∃ k, k = (shiftL g s n).length := ⟨_, rfl⟩
  obtain ⟨a1, c1, hv1⟩ := (row_of_own O8).form
  rw [← hn1] at hv1
  subst hv1
  have HN1 := Lib.hid hn1.symm
  clear hn1
  cases hs : (regB g s && inB n 0 1024)
  · obtain rfl : m = 0 := by have := HN1.out; rw [shiftL_neg hs] at this; exact this.symm
    by_cases hnz : n = 0
    · subst hnz
      go_wp2_with fail
      refine (alive_any _).mono ?_
      rintro e w5 ⟨rfl, hbel⟩
      have s5 : w4.heap.size ≤ w5.heap.size := hbel.size
      have HB5 := Lib.hid (below_step HB.out hbel)
      have HE := Lib.hid hbel
      clear hbel
      have O10 := O8.belowAll HE.out
      clear O8
      have O11 := O9.belowAll HE.out
      clear O9
      clear HB HE
      have HB := HB5
      clear HB5
      go_wp2
      go_ret
      exact ⟨rfl, HB.out⟩
    · have t2 : ((0 : Int) != n) = true := by rw [bne_iff_ne]; exact fun e => hnz e.symm
      have t2b : ¬ (0 : Int) = n := fun e => hnz e.symm
      go_wp2_with fail
      refine (alive_any _).mono ?_
      rintro e w5 ⟨rfl, hbel⟩
      have s5 : w4.heap.size ≤ w5.heap.size := hbel.size
      have HB5 := Lib.hid (below_step HB.out hbel)
      have HE := Lib.hid hbel
      clear hbel
      have O10 := O8.belowAll HE.out
      clear O8
      have O11 := O9.belowAll HE.out
      clear O9
      clear HB HE
      have HB := HB5
      clear HB5
      go_wp2
      go_ret
      exact ⟨rfl, HB.out⟩
  · simp only [Bool.and_eq_true] at hs
    have hin : 0 ≤ n ∧ n ≤ 1024 := by simpa [inB] using hs.2
    obtain ⟨n, rfl⟩ := Int.eq_ofNat_of_zero_le hin.1
    have hsp := shift_pos (n := n) hs.1 (by omega)
    rw [hsp] at HN1
    obtain rfl : m = n := by have := HN1.out; rw [outs_length] at this; exact this.symm
    by_cases hm0 : m = 0
    · subst hm0
      go_wp2_with fail
      refine (alive_any _).mono ?_
      rintro e w5 ⟨rfl, hbel⟩
      have s5 : w4.heap.size ≤ w5.heap.size := hbel.size
      have HB5 := Lib.hid (below_step HB.out hbel)
      have HE := Lib.hid hbel
      clear hbel
      have O10 := O8.belowAll HE.out
      clear O8
      have O11 := O9.belowAll HE.out
      clear O9
      clear HB HE
      have HB := HB5
      clear HB5
      go_wp2
      go_ret
      exact ⟨rfl, HB.out⟩
    · have t2 : ((m : Int) == 0) = false := by rw [beq_eq_false_iff_ne]; omega
      have t2b : ¬ (m : Int) = 0 := by omega
      have t3 : ((m : Int) != (m : Int)) = false := by simp
      obtain ⟨T, S, d, rfl, rfl, _, hd, hT, hS1, hS, HH, hper⟩ := reg_nums hs.1
      simp only [Int.toNat_natCast] at hsp HN1
      have HSP := Lib.hid hsp
      have HPS := Lib.hid (per_spec HH hS hS1)
      have HPR := Lib.hid (fun k (h : k + per (T / 2) S d < m) => outs_per (n := m) HH hS hS1 h)
      have HREG := Lib.hid hs.1
      obtain ⟨P, eP⟩ : ∃ P, P = per (T / 2) S d := ⟨_, rfl⟩
      rw [← eP] at HPS HPR hper
      have HPER := Lib.hid hper
      have hP1 : 1 ≤ P := HPS.out.1
      have hP2 : P < 65536 := by have := HPS.out.2.1; have := pow16 hd; omega
      have hS65 : S < 65536 := by have := pow16 hd; omega
      clear eP hper HH hd hS hs hsp
      go_wp2_with fail
      refine (ShiftPeriod_any (T : Int) (S : Int) _ hwf).mono ?_
      rw [HPER.out]
      rintro e w5 ⟨rfl, hbel⟩
      have s5 : w4.heap.size ≤ w5.heap.size := hbel.size
      have HB5 := Lib.hid (below_step HB.out hbel)
      have HE := Lib.hid hbel
      clear hbel
      have O10 := O8.belowAll HE.out
      clear O8
      have O11 := O9.belowAll HE.out
      clear O9
      clear HB HE
      have HB := HB5
      clear HB5
      obtain ⟨gx, rfl⟩ := own_form_pos O10 (by rw [HSP.out, outs_length]; omega)
      have hcp : m ≤ c1 := (row_of_own O10).at.2.2.1
      have HOX := Lib.hid O10
      rw [HSP.out] at HOX
      have hm1024 : m ≤ 1024 := by omega
      go_wp2
      go_loopw [8] (fun i wr => ∃ k : Nat, k ≤ m ∧ i = .int .i64 k ∧ Quiet w5 wr) (fun i _ => m - (intOf i).toNat)
      case atStart => exact ⟨0, by omega, rfl, Quiet.same _⟩
      case round =>
        obtain ⟨k, hk, rfl, hq⟩ := hrel
        have HQ := Lib.hid hq
        clear hq
        have ho := HOX.out.quiet HQ.out
        by_cases hlt : k + P < m
        · have c0 := ho.cell HN1.out k (by omega)
          have cp := ho.cell HN1.out (k + P) hlt
          rw [← HPR.out k hlt] at cp
          obtain ⟨y, ey⟩ : ∃ y, y = (outs (T / 2) S m).getD k 0 := ⟨_, rfl⟩
          rw [← ey] at c0 cp
          have hlt' : (k : Int) + (P : Int) < (m : Int) := by omega
          have hP2' : (P : Int) < 65536 := by omega
          have hm1024' : (m : Int) ≤ 1024 := by omega
          have hkm' : (k : Int) ≤ 1024 := by omega
          have hne : (y != y) = false := by simp
          clear ey ho
          go_wp2
          all_goals try (go_quiet (fail); go_wp2)
          go_roundw
          case rel => first | exact ⟨k + 1, by omega, by go_num, by first | exact HQ.out | exact HQ.out.trans (Quiet.n _ _)⟩ | ((repeat apply Exists.intro); exact ⟨⟨k + 1, by omega, by go_num, by first | exact HQ.out | exact HQ.out.trans (Quiet.n _ _)⟩, rfl⟩)
          case measure => simp [intOf]; omega
        · have hlt' : (m : Int) ≤ (k : Int) + (P : Int) := by omega
          have HBq := Lib.hid (below_quiet HB.out HQ.out)
          obtain ⟨h, hh⟩ : ∃ h : Nat, h = m / 2 := ⟨_, rfl⟩
          have hd3 : (m : Int).tdiv 2 = (h : Int) := by rw [Int.tdiv_eq_ediv_of_nonneg (by omega)]; omega
          have hhm : h ≤ m := by omega
          have hhc : h ≤ c1 := by omega
          have hwh := IntWalk.i64_in (h : Int) (by omega)
          have hsq : (S : Int).tmod 2 = ((S % 2 : Nat) : Int) := by rw [Int.tmod_eq_emod_of_nonneg (by omega)]; omega
          have HSM := Lib.hid (show S % 2 = rrun (T / 2) S 0 % 2 from rfl)
          have hrA := (row_of_own ho).pre h hhm
          have hx0 := ho.cell HN1.out 0 (by omega)
          rw [outs_get _ _ _ _ (by omega), ← HSM.out] at hx0
          have HT2 := outs_take (T / 2) S m h hhm
          have HSH : shiftL (T : Int) (S : Int) (h : Int) = outs (T / 2) S h := by have := shift_pos (n := h) HREG.out (by omega); simpa using this
          have hall := outs_valid (T / 2) S m hm1024
          have HSB := Lib.hid (fun W => ShiftBits_any (T : Int) (S : Int) (h : Int) W hwf)
          rw [HSH] at HSB
          obtain ⟨OM, eOM⟩ : ∃ OM, OM = outs (T / 2) S m := ⟨_, rfl⟩
          obtain ⟨OT, eOT⟩ : ∃ OT, OT = outs (T / 2) S h := ⟨_, rfl⟩
          rw [← eOM] at HT2 hall hrA ho HOX
          rw [← eOT] at HT2 HSB
          rw [HT2] at hrA
          have HIB : Hid (∀ W v, RowK .i64 W v OM → Calls Try.prog 10 #[v] W fun e w' => e = .returned (.bool true) ∧ Quiet W w') := fun W v hv => by
            have := isBits_any OM v W hv
            rw [hall] at this; exact this
          have HSS : Hid (∀ W v u, RowK .i64 W v OT → RowK .i64 W u OT → Calls Try.prog 6 #[v, u] W fun e w' => e = .returned (.bool true) ∧ Quiet W w') := fun W v u hv hu => by
            have := sameInts_any OT OT v u W hv hu
            simpa using this
          obtain ⟨xx, exx⟩ : ∃ xx, xx = S % 2 := ⟨_, rfl⟩
          rw [← exx] at hx0 hsq
          have hxe : ((xx : Int) == (xx : Int)) = true := by simp
          have HRO := Lib.hid (row_of_own ho)
          have HRA := Lib.hid hrA
          have HCX := Lib.hid hx0
          clear hh exx hall hrA ho HT2 HSH eOM eOT hx0 HOX HN1 HSM HREG HPR HPS HSP HPER
          have HBR : Below wr.heap.size wr wr.drew := (show Quiet wr wr.drew from ⟨1, rfl⟩).below _
          go_wp2
          have hmpos : 0 < m := by omega
          have hmposI : (0 : Int) < (m : Int) := by omega
          clear hlt hlt' hk t2 t2b t3 hT hcp hm1024 hP1 hP2 hS65 hS1 hhm hm0 t1 hg0 hg1 hs0 hs1 hn0 hn1 hin
          have hx0' := cell_belowI HCX.out HBR
          have hhc' : (h : Int) ≤ (c1 : Int) := by omega
          clear hhc
          go_region_held3 (fun W => Below wr.heap.size wr W ∧ W.cell? ⟨gx, 0, none⟩ = some (.int .i64 (xx : Int))) (exact ⟨HBR, hx0'⟩) (first
            | (go_at_call 10; refine (HIB.out _ _ (HRO.out.belowAll HBR)).mono ?_; rintro e wa ⟨rfl, hqa⟩; have HBR := below_quiet HBR hqa; have hx0' := cell_belowI HCX.out HBR; clear hqa)
            | (go_at_call 5; refine (HSB.out _).mono ?_; rintro e wa ⟨ra, rfl, hY, hbx⟩; have HBR := below_step HBR hbx; have hx0' := cell_belowI HCX.out HBR; clear hbx)
            | (go_at_call 6; refine (HSS.out _ _ _ (row_of_own hY) (HRA.out.belowAll HBR)).mono ?_; rintro e wa ⟨rfl, hqa⟩; have HBR := below_quiet HBR hqa; have hx0' := cell_belowI HCX.out HBR; clear hqa hY))
          all_goals (go_wp2; go_ret; exact ⟨rfl, below_step HBq.out HBR⟩)
end Go.Proofs.Ytpfbmfnfcppjeac
