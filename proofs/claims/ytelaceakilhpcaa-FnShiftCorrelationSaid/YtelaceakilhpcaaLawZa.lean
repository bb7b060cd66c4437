/-
  Walks of laws. Written by a program (laws_shift2.py).
-/
import Derived.Test.YtelaceakilhpcaaDrawT
import Derived.Test.YtelaceakilhpcaaHamM
import Derived.Test.YtelaceakilhpcaaScr
namespace Go.Proofs.Ytelaceakilhpcaa
open Go.RowKit
theorem sum_take (zs : List Int) (k : Nat) (hk : k < zs.length) : (zs.take (k + 1)).foldl (· + ·) 0 = (zs.take k).foldl (· + ·) 0 + zs.getD k 0 := by
  rw [List.take_add_one, List.getElem?_eq_getElem hk, Option.toList_some, List.foldl_append, List.getD, List.getElem?_eq_getElem hk]; rfl
theorem corr19 : ∀ s, s < 16 → 1 ≤ s → ∀ k, k < 15 → 1 ≤ k → hamD ((outs 9 s 30).take 15) (((outs 9 s 30).drop k).take 15) = 8 := by decide +kernel
theorem outs_valid (h s n : Nat) (hn : n ≤ 1024) : validB (outs h s n) = true := bvalid_of (outs_bits h s n) (by rw [outs_length]; exact hn)
set_option maxHeartbeats 2000000 in
set_option linter.unusedVariables false in
theorem walk_FnShiftCorrelation (w : World) (v0 : Value) (z0 : List Int) (ra0 : RowK .u8 w v0 z0) (hw0 : ∀ n ∈ z0, (Lit.int .u8 n).wf = true) :
    Calls Try.prog 8 #[v0] w fun e w' => e = .returned (.bool true) ∧ Below w.heap.size w w' := by
  obtain ⟨aa0, cc0, rfl⟩ := ra0.form
  by_cases hlen0 : 1048576 < z0.length
  · go_enter Try.func8, Try.ntmps8
    go_wp2
    go_ret
    exact ⟨rfl, Below.refl _ _⟩
  have HB : Hid (Below w.heap.size w w) := Below.refl _ _
  go_enter Try.func8, Try.ntmps8
  go_wp2_with fail
  refine (DrawShiftPeriod_any _ _ _ (ra0.belowAll HB.out) hw0).mono ?_
  rintro e w1 ⟨g, s, rfl, hg0, hg1, hs0, hs1, hbel⟩
  have s1 : w.heap.size ≤ w1.heap.size := hbel.size
  have HB1 := Lib.hid (below_step HB.out hbel)
  have HE := Lib.hid hbel
  clear hbel
  clear HB HE
  have HB := HB1
  clear HB1
  obtain ⟨S, hS⟩ : ∃ S : Nat, (S : Int) = 1 + s % 15 := ⟨(1 + s % 15).toNat, by omega⟩
  have hS1 : 1 ≤ S := by omega
  have hS2 : S < 16 := by omega
  have hmax : max (0 : Int) s = s := by omega
  have hq : s.tmod 15 = s % 15 := Int.tmod_eq_emod_of_nonneg (by omega)
  have hS' : 1 + s % 15 = (S : Int) := hS.symm
  clear hS
  have HX := Lib.hid (show shiftL 19 (S : Int) 30 = outs 9 S 30 from shift_19 S 30 hS1 hS2 (by omega))
  go_wp2_with fail
  refine (ShiftBits_any 19 (S : Int) 30 _ (by decide)).mono ?_
  rintro e w2 ⟨r1, rfl, hown, hbel⟩
  have s2 : w1.heap.size ≤ w2.heap.size := hbel.size
  have HB2 := Lib.hid (below_step HB.out hbel)
  have HE := Lib.hid hbel
  clear hbel
  clear HB HE
  have HB := HB2
  clear HB2
  have O2 := hown
  have lt3 := hown.lt
  clear hown
  rw [HX.out] at O2
  obtain ⟨m, hn1⟩ : ∃ k, k = (outs 9 S 30).length := ⟨_, rfl⟩
  obtain ⟨a1, c1, hv1⟩ := (row_of_own O2).form
  rw [← hn1] at hv1
  subst hv1
  have HN1 := Lib.hid hn1.symm
  clear hn1
  have hm0 : m = 30 := by have := HN1.out; rw [outs_length] at this; exact this.symm
  have hm30 : m ≤ 30 := by omega
  have ht0 : ((m : Int) != 30) = false := by rw [hm0]; rfl
  have HM := Lib.hid hm0
  clear hm0
  go_wp2_with fail
  refine (specShiftBits_any 19 (S : Int) 30 _).mono ?_
  rw [HX.out]
  rintro e w3 ⟨r9, rfl, hown, hbel⟩
  have s3 : w2.heap.size ≤ w3.heap.size := hbel.size
  have HB3 := Lib.hid (below_step HB.out hbel)
  have HE := Lib.hid hbel
  clear hbel
  have O4 := O2.belowAll HE.out
  clear O2
  clear HB HE
  have HB := HB3
  clear HB3
  have O5 := hown
  have lt6 := hown.lt
  clear hown
  have tsm : (outs 9 S 30 == outs 9 S 30) = true := by simp
  go_wp2_with fail
  refine (sameInts_any (outs 9 S 30) (outs 9 S 30) _ _ _ (row_of_own O4) (row_of_own O5)).mono ?_
  rintro e w4 ⟨rfl, hq⟩
  have HQ := Lib.hid hq
  clear hq
  have s4 : w3.heap.size ≤ w4.heap.size := (HQ.out.below 0).size
  have HB4 := Lib.hid (below_quiet HB.out HQ.out)
  have O7 := O4.quiet HQ.out
  clear O4
  have O8 := O5.quiet HQ.out
  clear O5
  clear HB HQ
  have HB := HB4
  clear HB4
  obtain ⟨gx, rfl⟩ := own_form_pos O7 (by have := HN1.out; have := HM.out; omega)
  obtain ⟨_, _, hcp, hcmx, _⟩ := (row_of_own O7).at
  have h15m : (15 : Int) ≤ (m : Int) := by have := HM.out; omega
  have h15c : (15 : Int) ≤ (c1 : Int) := by omega
  have h15cn : 15 ≤ c1 := by omega
  go_wp2
  go_loopw [7] (fun i wr => ∃ k : Nat, 1 ≤ k ∧ k ≤ 15 ∧ i = .int .i64 k ∧ Quiet w4 wr) (fun i _ => 15 - (intOf i).toNat)
  case atStart => exact ⟨1, by omega, by omega, rfl, Quiet.same _⟩
  case round =>
    obtain ⟨k, hk1, hk15, rfl, hq⟩ := hrel
    have HQ := Lib.hid hq
    clear hq
    by_cases hlt : k < 15
    · have ho := row_of_own (O7.quiet HQ.out)
      have hrA := ho.pre 15 (by have := HM.out; omega)
      have hrB := ho.mid k 15 (by have := HM.out; omega)
      rw [Nat.zero_add] at hrB
      have HH := Lib.hid (corr19 S hS2 hS1 k hlt hk1)
      have HD := Lib.hid (fun W v u (h1 : RowK .i64 W v ((outs 9 S 30).take 15)) (h2 : RowK .i64 W u (((outs 9 S 30).drop k).take 15)) => (HammingDistance_any _ _ v u W h1 h2).mono (R' := fun e w' => e = .returned (.int .i64 8) ∧ Quiet W w') (fun e w' h => ⟨by rw [h.1, HH.out], h.2⟩))
      have hkm : k + 15 ≤ m := by have := HM.out; omega
      have hkm' : (k : Int) + 15 ≤ (m : Int) := by omega
      have hkc : k + 15 ≤ c1 := by omega
      have hkc' : (k : Int) + 15 ≤ (c1 : Int) := by omega
      have hwk := IntWalk.i64_in ((k : Int) + 15) (by omega)
      have hki : (k : Int) ≤ (k : Int) + 15 := by omega
      have hkt : ((k : Int) + 15).toNat = k + 15 := by omega
      have hkd : k + 15 - k = 15 := by omega
      have hk0 : 0 ≤ (k : Int) + 15 := by omega
      have hkn : k ≤ k + 15 := by omega
      have hck : ¬ c1 = k := by omega
      clear ho
      go_wp2
      all_goals (go_quiet ((go_at_call 26; exact Calls.quiet_of (HD.out _ _ _ (hrA.quiet (Quiet.n _ _)) (hrB.quiet (Quiet.n _ _))))); go_wp2)
      go_roundw
      case rel => first | exact ⟨k + 1, by omega, by omega, by go_num, by first | exact HQ.out | exact HQ.out.trans (Quiet.n _ _)⟩ | ((repeat apply Exists.intro); exact ⟨⟨k + 1, by omega, by omega, by go_num, by first | exact HQ.out | exact HQ.out.trans (Quiet.n _ _)⟩, rfl⟩)
      case measure => simp [intOf]; omega
    · obtain rfl : k = 15 := by omega
      have HBq := Lib.hid (below_quiet HB.out HQ.out)
      go_wp2
      go_ret
      exact ⟨rfl, HBq.out⟩
end Go.Proofs.Ytelaceakilhpcaa
