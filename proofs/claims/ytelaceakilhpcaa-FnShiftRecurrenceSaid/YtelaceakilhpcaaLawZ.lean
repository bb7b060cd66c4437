/-
  Walks of laws. Written by a program (laws_shift2.py).
-/
import Derived.Test.YtelaceakilhpcaaDrawT
import Derived.Test.YtelaceakilhpcaaHamM
import Derived.Test.YtelaceakilhpcaaScr
namespace Go.Proofs.Ytelaceakilhpcaa
open Go.RowKit
theorem sum_take (zs : List Int) (k : Nat) (hk : k < zs.length) : (zs.take (k + 1)).foldl (· + ·) 0 = (zs.take k).foldl (· + ·) 0 + zs.getD k 0 := by
  rw [List.take_add_one, List.getElem?_eq_getElem hk, Option.toList_some, List.foldl_append, List.getD, List.getElem?_eq_getElem hk]; rfl
theorem corr19 : ∀ s, s < 16 → 1 ≤ s → ∀ k, k < 15 → 1 ≤ k → hamD ((outs 9 s 30).take 15) (((outs 9 s 30).drop k).take 15) = 8 := by decide +kernel
theorem outs_valid (h s n : Nat) (hn : n ≤ 1024) : validB (outs h s n) = true := bvalid_of (outs_bits h s n) (by rw [outs_length]; exact hn)
set_option maxHeartbeats 2000000 in
set_option linter.unusedVariables false in
theorem walk_FnShiftBalance (w : World) (v0 : Value) (z0 : List Int) (ra0 : RowK .u8 w v0 z0) (hw0 : ∀ n ∈ z0, (Lit.int .u8 n).wf = true) :
    Calls Try.prog 5 #[v0] w fun e w' => e = .returned (.bool true) ∧ Below w.heap.size w w' := by
  obtain ⟨aa0, cc0, rfl⟩ := ra0.form
  by_cases hlen0 : 1048576 < z0.length
  · go_enter Try.func5, Try.ntmps5
    go_wp2
    go_ret
    exact ⟨rfl, Below.refl _ _⟩
  have HB : Hid (Below w.heap.size w w) := Below.refl _ _
  go_enter Try.func5, Try.ntmps5
  go_wp2_with fail
  refine (DrawShiftPeriod_any _ _ _ (ra0.belowAll HB.out) hw0).mono ?_
  rintro e w1 ⟨g, s, rfl, hg0, hg1, hs0, hs1, hbel⟩
  have s1 : w.heap.size ≤ w1.heap.size := hbel.size
  have HB1 := Lib.hid (below_step HB.out hbel)
  have HE := Lib.hid hbel
  clear hbel
  clear HB HE
  have HB := HB1
  clear HB1
  obtain ⟨S, hS⟩ : ∃ S : Nat, (S : Int) = 1 + s % 15 := ⟨(1 + s % 15).toNat, by omega⟩
  have hS1 : 1 ≤ S := by omega
  have hS2 : S < 16 := by omega
  have hmax : max (0 : Int) s = s := by omega
  have hq : s.tmod 15 = s % 15 := Int.tmod_eq_emod_of_nonneg (by omega)
  have hS' : 1 + s % 15 = (S : Int) := hS.symm
  clear hS
  have HX := Lib.hid (show shiftL 19 (S : Int) 15 = outs 9 S 15 from shift_19 S 15 hS1 hS2 (by omega))
  go_wp2_with fail
  refine (ShiftBits_any 19 (S : Int) 15 _ (by decide)).mono ?_
  rintro e w2 ⟨r1, rfl, hown, hbel⟩
  have s2 : w1.heap.size ≤ w2.heap.size := hbel.size
  have HB2 := Lib.hid (below_step HB.out hbel)
  have HE := Lib.hid hbel
  clear hbel
  clear HB HE
  have HB := HB2
  clear HB2
  have O2 := hown
  have lt3 := hown.lt
  clear hown
  rw [HX.out] at O2
  obtain ⟨m, hn1⟩ : ∃ k, k = (outs 9 S 15).length := ⟨_, rfl⟩
  obtain ⟨a1, c1, hv1⟩ := (row_of_own O2).form
  rw [← hn1] at hv1
  subst hv1
  have HN1 := Lib.hid hn1.symm
  clear hn1
  obtain rfl : m = 15 := by have := HN1.out; rw [outs_length] at this; exact this.symm
  obtain ⟨gx, rfl⟩ := own_form_pos O2 (by have := HN1.out; omega)
  have HC := Lib.hid (fun k (hk : k < 15) => O2.cell HN1.out k hk)
  go_wp2
  go_loop [7, 8] (fun n i => ∃ k c : Nat, k ≤ 15 ∧ i = .int .i64 k ∧ n = .int .i64 c ∧ c ≤ k ∧ Hid (((outs 9 S 15).take k).foldl (· + ·) 0 = (c : Int))) (fun _ i => 15 - (intOf i).toNat)
  case atStart => exact ⟨0, 0, by omega, rfl, rfl, Nat.le_refl _, by rw [List.take_zero]; rfl⟩
  case round =>
    obtain ⟨k, c, hk, rfl, rfl, hck, HSU⟩ := hrel
    by_cases hlt : k < 15
    · have hcell := HC.out k hlt
      obtain ⟨x, hx, hx2⟩ := bit_nat (outs_bits 9 S 15) k (by rw [outs_length]; exact hlt)
      rw [hx] at hcell
      have HT := Lib.hid (sum_take (outs 9 S 15) k (by rw [outs_length]; exact hlt))
      have HXX := Lib.hid hx
      clear hx
      go_wp2
      go_round
      case rel => exact ⟨k + 1, c + x, by omega, by go_num, by go_num, by omega, by show _ = _; rw [HT.out, HXX.out, HSU.out]; simp⟩
      case measure => simp [intOf]; omega
    · obtain rfl : k = 15 := by omega
      obtain rfl : c = 8 := by
        have h1 := HSU.out
        have h2 := bal19 S hS2 hS1
        rw [List.take_of_length_le (by rw [outs_length]; omega), h2] at h1
        omega
      clear HC
      go_wp2_with fail
      refine (specShiftBits_any 19 (S : Int) 15 _).mono ?_
      rw [HX.out]
      rintro e w3 ⟨r9, rfl, hown, hbel⟩
      have s3 : w2.heap.size ≤ w3.heap.size := hbel.size
      have HB3 := Lib.hid (below_step HB.out hbel)
      have HE := Lib.hid hbel
      clear hbel
      have O4 := O2.belowAll HE.out
      clear O2
      clear HB HE
      have HB := HB3
      clear HB3
      have O5 := hown
      have lt6 := hown.lt
      clear hown
      have tsm : (outs 9 S 15 == outs 9 S 15) = true := by simp
      go_wp2_with fail
      refine (sameInts_any (outs 9 S 15) (outs 9 S 15) _ _ _ (row_of_own O4) (row_of_own O5)).mono ?_
      rintro e w4 ⟨rfl, hq⟩
      have HQ := Lib.hid hq
      clear hq
      have s4 : w3.heap.size ≤ w4.heap.size := (HQ.out.below 0).size
      have HB4 := Lib.hid (below_quiet HB.out HQ.out)
      have O7 := O4.quiet HQ.out
      clear O4
      have O8 := O5.quiet HQ.out
      clear O5
      clear HB HQ
      have HB := HB4
      clear HB4
      go_wp2
      go_ret
      exact ⟨rfl, HB.out⟩
set_option maxHeartbeats 2000000 in
set_option linter.unusedVariables false in
theorem walk_FnShiftRecurrence (w : World) (v0 : Value) (z0 : List Int) (ra0 : RowK .u8 w v0 z0) (hw0 : ∀ n ∈ z0, (Lit.int .u8 n).wf = true) :
    Calls Try.prog 6 #[v0] w fun e w' => e = .returned (.bool true) ∧ Below w.heap.size w w' := by
  obtain ⟨aa0, cc0, rfl⟩ := ra0.form
  by_cases hlen0 : 1048576 < z0.length
  · go_enter Try.func6, Try.ntmps6
    go_wp2
    go_ret
    exact ⟨rfl, Below.refl _ _⟩
  have HB : Hid (Below w.heap.size w w) := Below.refl _ _
  go_enter Try.func6, Try.ntmps6
  go_wp2_with fail
  refine (DrawShiftBits_any _ _ _ (ra0.belowAll HB.out) hw0).mono ?_
  rintro e w1 ⟨g, s, n0, rfl, hg0, hg1, hs0, hs1, hn0, hn1, hbel⟩
  have s1 : w.heap.size ≤ w1.heap.size := hbel.size
  have HB1 := Lib.hid (below_step HB.out hbel)
  have HE := Lib.hid hbel
  clear hbel
  clear HB HE
  have HB := HB1
  clear HB1
  obtain ⟨S, hS⟩ : ∃ S : Nat, (S : Int) = 1 + s % 15 := ⟨(1 + s % 15).toNat, by omega⟩
  have hS1 : 1 ≤ S := by omega
  have hS2 : S < 16 := by omega
  have hmax : max (0 : Int) s = s := by omega
  have hq : s.tmod 15 = s % 15 := Int.tmod_eq_emod_of_nonneg (by omega)
  have hS' : 1 + s % 15 = (S : Int) := hS.symm
  clear hS
  have HX := Lib.hid (show shiftL 19 (S : Int) 40 = outs 9 S 40 from shift_19 S 40 hS1 hS2 (by omega))
  go_wp2_with fail
  refine (ShiftBits_any 19 (S : Int) 40 _ (by decide)).mono ?_
  rintro e w2 ⟨r1, rfl, hown, hbel⟩
  have s2 : w1.heap.size ≤ w2.heap.size := hbel.size
  have HB2 := Lib.hid (below_step HB.out hbel)
  have HE := Lib.hid hbel
  clear hbel
  clear HB HE
  have HB := HB2
  clear HB2
  have O2 := hown
  have lt3 := hown.lt
  clear hown
  rw [HX.out] at O2
  obtain ⟨m, hn1⟩ : ∃ k, k = (outs 9 S 40).length := ⟨_, rfl⟩
  obtain ⟨a1, c1, hv1⟩ := (row_of_own O2).form
  rw [← hn1] at hv1
  subst hv1
  have HN1 := Lib.hid hn1.symm
  clear hn1
  obtain rfl : m = 40 := by have := HN1.out; rw [outs_length] at this; exact this.symm
  go_wp2_with fail
  refine (specShiftBits_any 19 (S : Int) 40 _).mono ?_
  rw [HX.out]
  rintro e w3 ⟨r9, rfl, hown, hbel⟩
  have s3 : w2.heap.size ≤ w3.heap.size := hbel.size
  have HB3 := Lib.hid (below_step HB.out hbel)
  have HE := Lib.hid hbel
  clear hbel
  have O4 := O2.belowAll HE.out
  clear O2
  clear HB HE
  have HB := HB3
  clear HB3
  have O5 := hown
  have lt6 := hown.lt
  clear hown
  have tsm : (outs 9 S 40 == outs 9 S 40) = true := by simp
  go_wp2_with fail
  refine (sameInts_any (outs 9 S 40) (outs 9 S 40) _ _ _ (row_of_own O4) (row_of_own O5)).mono ?_
  rintro e w4 ⟨rfl, hq⟩
  have HQ := Lib.hid hq
  clear hq
  have s4 : w3.heap.size ≤ w4.heap.size := (HQ.out.below 0).size
  have HB4 := Lib.hid (below_quiet HB.out HQ.out)
  have O7 := O4.quiet HQ.out
  clear O4
  have O8 := O5.quiet HQ.out
  clear O5
  clear HB HQ
  have HB := HB4
  clear HB4
  obtain ⟨gx, rfl⟩ := own_form_pos O7 (by have := HN1.out; omega)
  go_wp2
  go_loopw [8] (fun i wr => ∃ j : Nat, 4 ≤ j ∧ j ≤ 40 ∧ i = .int .i64 j ∧ Quiet w4 wr) (fun i _ => 40 - (intOf i).toNat)
  case atStart => exact ⟨4, by omega, by omega, rfl, Quiet.same _⟩
  case round =>
    obtain ⟨j, hj4, hj40, rfl, hq⟩ := hrel
    have HQ := Lib.hid hq
    clear hq
    by_cases hlt : j < 40
    · obtain ⟨k, rfl⟩ : ∃ k, j = k + 4 := ⟨j - 4, by omega⟩
      have ho := O7.quiet HQ.out
      have c4 := ho.cell HN1.out (k + 4) hlt
      have c3 := ho.cell HN1.out (k + 3) (by omega)
      have c0 := ho.cell HN1.out k (by omega)
      rw [outs_get _ _ _ _ (by omega)] at c4 c3 c0
      have hrec := rec19 S hS2 hS1 k (by omega)
      obtain ⟨x4, h4⟩ : ∃ x, x = rrun 9 S (k + 4) % 2 := ⟨_, rfl⟩
      obtain ⟨x3, h3⟩ : ∃ x, x = rrun 9 S (k + 3) % 2 := ⟨_, rfl⟩
      obtain ⟨x0, h0⟩ : ∃ x, x = rrun 9 S k % 2 := ⟨_, rfl⟩
      have hb3 : x3 < 2 := by omega
      have hb0 : x0 < 2 := by omega
      rw [← h4] at c4 hrec
      rw [← h3] at c3 hrec
      rw [← h0] at c0 hrec
      have hxx : bits .xor .i64 (x3 : Int) (x0 : Int) = (x4 : Int) := by rw [i64_xor x3 x0 (by omega) (by omega), hrec]
      have hj1 : ((k + 4 : Nat) : Int) - 1 = ((k + 3 : Nat) : Int) := by omega
      have hj0 : ((k + 4 : Nat) : Int) - 4 = (k : Int) := by omega
      have hj1' : (k : Int) + 4 - 1 = (k : Int) + 3 := by omega
      have hj0' : (k : Int) + 4 - 4 = (k : Int) := by omega
      have hne : ((x4 : Int) != (x4 : Int)) = false := by simp
      clear h4 h3 h0 hrec ho
      go_wp2
      all_goals try (go_quiet (fail); go_wp2)
      go_roundw
      case rel => first | exact ⟨k + 4 + 1, by omega, by omega, by go_num, by first | exact HQ.out | exact HQ.out.trans (Quiet.n _ _)⟩ | ((repeat apply Exists.intro); exact ⟨⟨k + 4 + 1, by omega, by omega, by go_num, by first | exact HQ.out | exact HQ.out.trans (Quiet.n _ _)⟩, rfl⟩)
      case measure => simp [intOf]; omega
    · obtain rfl : j = 40 := by omega
      have HBq := Lib.hid (below_quiet HB.out HQ.out)
      go_wp2
      go_ret
      exact ⟨rfl, HBq.out⟩
end Go.Proofs.Ytelaceakilhpcaa
