/-
  The functions of the check: generator polynomials, degrees, remainders, by the program and by the reference.
-/
import Derived.Test.YtpfbmfnfcppjeacChkM
import Derived.Test.YtpfbmfnfcppjeacLen
import Derived.Deep.OwnRows
namespace Go.Proofs.Ytpfbmfnfcppjeac
open Go.RowKit

theorem i64_and1 (a : Nat) (ha : a < 9223372036854775808) : bits .and .i64 (a : Int) 1 = ((a % 2 : Nat) : Int) := by
  show IntKind.i64.wrap ((BitVec.ofInt 64 (a : Int) &&& BitVec.ofInt 64 1).toNat : Int) = _
  have e : (BitVec.ofInt 64 1).toNat = 1 := by decide
  rw [BitVec.toNat_and, ofInt_i64 a (by omega), e, Nat.and_one_is_mod, IntKind.wrap_i64]
  omega
theorem i64_wf {n : Int} (h : (Lit.int .i64 n).wf = true) : -9223372036854775808 ≤ n ∧ n ≤ 9223372036854775807 := by
  simpa [Lit.wf, IntKind.min, IntKind.max, IntKind.signed, IntKind.bits] using h
set_option maxHeartbeats 400000 in
theorem GeneratorValid_any (g : Int) (w : World) (hg : (Lit.int .i64 g).wf = true) : Calls Try.prog 25 #[.int .i64 g] w fun e w' => e = .returned (.bool (genB g)) ∧ w = w' := by
  have hb := i64_wf hg
  clear hg
  by_cases h1 : g ≤ 1
  · have HG := Lib.hid (show genB g = false by simp [genB, inB]; omega)
    go_enter Try.func25, Try.ntmps25
    go_wp2
    go_ret
    exact ⟨ret_bool HG.out.symm, rfl⟩
  · obtain ⟨G, rfl⟩ := Int.eq_ofNat_of_zero_le (show 0 ≤ g by omega)
    have ha := i64_and1 G (by omega)
    have h2 : G % 2 = 0 ∨ G % 2 = 1 := by omega
    rcases h2 with h2 | h2
    · have HG := Lib.hid (show genB (G : Int) = false by simp [genB]; omega)
      rw [h2] at ha
      clear h2
      go_enter Try.func25, Try.ntmps25
      go_wp2
      go_ret
      exact ⟨ret_bool HG.out.symm, rfl⟩
    · have HG := Lib.hid (show genB (G : Int) = decide ((G : Int) < 131072) by
        rw [Bool.eq_iff_iff]; simp [genB, inB]; omega)
      rw [h2] at ha
      clear h2
      go_enter Try.func25, Try.ntmps25
      go_wp2
      all_goals go_ret
      all_goals exact ⟨ret_bool (by first | exact HG.out.symm | (rw [HG.out]; simp; omega)), rfl⟩
set_option maxHeartbeats 400000 in
theorem specGeneratorValid_any (g : Int) (w : World) : Calls Try.prog 22 #[.int .i64 g] w fun e w' => e = .returned (.bool (genB g)) ∧ w = w' := by
  cases h1 : inB g 2 131071
  · have HG := Lib.hid (show genB g = false by simp [genB, h1])
    go_enter Try.func22, Try.ntmps22
    go_wp2_with (go_at_call 17; refine (l1In_any _ _ _ _).mono ?_; rintro e w' ⟨rfl, rfl⟩)
    go_ret
    exact ⟨ret_bool HG.out.symm, rfl⟩
  · have hb : 2 ≤ g ∧ g ≤ 131071 := by simpa [inB] using h1
    have HG := Lib.hid (show genB g = (g % 2 == 1) by simp [genB, h1])
    have h2 : g % 2 = 0 ∨ g % 2 = 1 := by omega
    rcases h2 with h2 | h2
    all_goals
      have h3 : g.tmod 2 = g % 2 := Int.tmod_eq_emod_of_nonneg (by omega)
      rw [h2] at h3
      rw [h2] at HG
      go_enter Try.func22, Try.ntmps22
      go_wp2_with (go_at_call 17; refine (l1In_any _ _ _ _).mono ?_; rintro e w' ⟨rfl, rfl⟩)
      all_goals go_ret
      all_goals exact ⟨ret_bool (by rw [HG.out]; rfl), rfl⟩
theorem log2_half (x : Nat) (h : 2 ≤ x) : Nat.log2 (x / 2) + 1 = Nat.log2 x := by
  rw [Nat.log2_def x, if_pos h]
set_option maxHeartbeats 400000 in
theorem l2Degree_any (G : Nat) (w : World) (h1 : 1 ≤ G) (h2 : G ≤ 1000000) : Calls Try.prog 23 #[.int .i64 (G : Int)] w fun e w' => e = .returned (.int .i64 ((Nat.log2 G : Nat) : Int)) ∧ w = w' := by
  have hl : Nat.log2 G < 64 := (Nat.log2_lt (by omega)).2 (by omega)
  go_enter Try.func23, Try.ntmps23
  go_wp2
  go_loop [0, 3] (fun g n => ∃ x k : Nat, g = .int .i64 x ∧ n = .int .i64 k ∧ 1 ≤ x ∧ x ≤ 1000000 ∧ Hid (Nat.log2 x + k = Nat.log2 G)) (fun g _ => (intOf g).toNat)
  case atStart => exact ⟨G, 0, rfl, rfl, h1, h2, by show _ + 0 = _; omega⟩
  case round =>
    obtain ⟨x, k, rfl, rfl, hx1, hx2, HX⟩ := hrel
    have hk : k ≤ 64 := by have := HX.out; omega
    by_cases hlt : 1 < x
    · have HS := Lib.hid (show Nat.log2 (x / 2) + (k + 1) = Nat.log2 G by have := HX.out; have := log2_half x hlt; omega)
      go_wp2
      go_round
      case rel => exact ⟨x / 2, k + 1, by go_num, by go_num, by omega, by omega, HS.out⟩
      case measure => simp [intOf]; omega
    · obtain rfl : x = 1 := by omega
      have HE := Lib.hid (show (k : Int) = ((Nat.log2 G : Nat) : Int) by have := HX.out; rw [show Nat.log2 1 = 0 by decide] at this; omega)
      go_wp2
      go_ret
      exact ⟨ret_int HE.out, rfl⟩
theorem deg_log {G : Nat} : degN (G : Int) = Nat.log2 G := by simp [degN]
set_option maxHeartbeats 400000 in
theorem DegreeOf_any (g : Int) (w : World) (hg : (Lit.int .i64 g).wf = true) : Calls Try.prog 26 #[.int .i64 g] w fun e w' => e = .returned (.int .i64 (degI g)) ∧ w = w' := by
  cases h1 : genB g
  · have HD := Lib.hid (show degI g = -1 by simp [degI, h1])
    go_enter Try.func26, Try.ntmps26
    go_wp2_with (go_at_call 25; refine (GeneratorValid_any _ _ hg).mono ?_; rintro e w' ⟨rfl, rfl⟩)
    go_ret
    exact ⟨ret_int HD.out.symm, rfl⟩
  · have HD := Lib.hid (show degI g = (degN g : Int) by simp [degI, h1])
    obtain ⟨G, rfl, h2, h3, _⟩ := gen_nat h1
    have hl : Nat.log2 G < 64 := (Nat.log2_lt (by omega)).2 (by omega)
    go_enter Try.func26, Try.ntmps26
    go_wp2_with (first | (go_at_call 25; refine (GeneratorValid_any _ _ hg).mono ?_; rintro e w' ⟨rfl, rfl⟩) | (go_at_call 29; refine (Len_any G _ (by omega) (by omega)).mono ?_; rintro e w' ⟨rfl, rfl⟩))
    go_ret
    exact ⟨ret_int (by rw [HD.out, deg_log]), rfl⟩
end Go.Proofs.Ytpfbmfnfcppjeac
