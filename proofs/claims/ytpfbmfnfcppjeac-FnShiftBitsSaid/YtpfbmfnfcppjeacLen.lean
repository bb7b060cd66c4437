/-
  The length of a number in bits.
-/
import Derived.Test.YtpfbmfnfcppjeacChkM
import Derived.Lib.Strings
import Derived.Lib.Slices
import Derived.Lib.Small
import Derived.Lib.Walk
import Derived.Lib.BitFns
import Derived.Lib.ItoaNum
import Derived.Lib.Tables
namespace Go.Proofs.Ytpfbmfnfcppjeac
theorem bitLen_log (x : Nat) (h0 : x ≠ 0) (h : x < 2 ^ 64) : Lib.bitLen x = Nat.log2 x + 1 := by
  obtain ⟨h1, h2, h3⟩ := Lib.bitLenAux_bounds 64 x h h0
  have e : Lib.bitLen x = Lib.bitLenAux 64 x := rfl
  rw [e]
  have h4 : Nat.log2 x < Lib.bitLenAux 64 x := (Nat.log2_lt h0).2 h3
  have h5 : Lib.bitLenAux 64 x - 1 ≤ Nat.log2 x := (Nat.le_log2 h0).2 h2
  omega
theorem len_val (a b c : Int) (h : b = c) (h1 : 0 ≤ a) (h2 : a ≤ 16) (h3 : 0 ≤ c) (h4 : c ≤ 8) : RowKit.wrap64 (a + RowKit.wrap64 b) = a + c := by
  subst h
  rw [IntWalk.wrap64_in b ⟨by omega, by omega⟩, IntWalk.wrap64_in (a + b) ⟨by omega, by omega⟩]
set_option maxHeartbeats 4000000 in
set_option maxRecDepth 100000 in
theorem Len64_int (x : Int) (w : World) (h1 : 1 ≤ x) (h2 : x ≤ 131071) : Calls Try.prog 32 #[.int .u64 x] w fun e w' => e = .returned (.int .i64 (Lib.bitLen x.toNat)) ∧ w' = w := by
  have u9 := Try.underlying9
  by_cases h3 : 65536 ≤ x
  · have b0 : 0 ≤ x / 65536 := by omega
    have b1 : x / 65536 ≤ 255 := by omega
    have HE := Lib.hid (Lib.len8_of (x / 65536) b0 b1)
    have HS := Lib.hid (Lib.bitLen_shift16 x.toNat (by omega) (by omega))
    have HL := Lib.hid (Lib.bitLen_le8' (x / 65536) b0 b1)
    have HT := Lib.hid (show (x / 65536).toNat = x.toNat / 65536 by omega)
    go_enter Try.func32, Try.ntmps32
    go_wp2
    go_ret
    refine ⟨congrArg Ending.returned (congrArg (Value.int IntKind.i64) ?_), rfl⟩
    have l := HL.out
    rw [len_val 16 _ _ HE.out (by omega) (by omega) (by omega) (by omega), HT.out]
    have := HS.out
    omega
  · by_cases h4 : 256 ≤ x
    · have b0 : 0 ≤ x / 256 := by omega
      have b1 : x / 256 ≤ 255 := by omega
      have HE := Lib.hid (Lib.len8_of (x / 256) b0 b1)
      have HS := Lib.hid (Lib.bitLen_shift8 x.toNat (by omega) (by omega))
      have HL := Lib.hid (Lib.bitLen_le8' (x / 256) b0 b1)
      have HT := Lib.hid (show (x / 256).toNat = x.toNat / 256 by omega)
      go_enter Try.func32, Try.ntmps32
      go_wp2
      go_ret
      refine ⟨congrArg Ending.returned (congrArg (Value.int IntKind.i64) ?_), rfl⟩
      have l := HL.out
      rw [len_val 8 _ _ HE.out (by omega) (by omega) (by omega) (by omega), HT.out]
      have := HS.out
      omega
    · have b0 : 0 ≤ x := by omega
      have b1 : x ≤ 255 := by omega
      have HE := Lib.hid (Lib.len8_of x b0 b1)
      have HL := Lib.hid (Lib.bitLen_le8' x b0 b1)
      go_enter Try.func32, Try.ntmps32
      go_wp2
      go_ret
      refine ⟨congrArg Ending.returned (congrArg (Value.int IntKind.i64) ?_), rfl⟩
      have l := HL.out
      have := len_val 0 _ _ HE.out (by omega) (by omega) (by omega) (by omega)
      rw [Int.zero_add, Int.zero_add] at this
      exact this
theorem Len64_any (G : Nat) (w : World) (h1 : 1 ≤ G) (h2 : G ≤ 131071) : Calls Try.prog 32 #[.int .u64 (G : Int)] w fun e w' => e = .returned (.int .i64 ((Nat.log2 G + 1 : Nat) : Int)) ∧ w = w' :=
  (Len64_int G w (by omega) (by omega)).mono fun _ _ ⟨he, hw⟩ => ⟨by rw [he, Int.toNat_natCast, bitLen_log G (by omega) (by omega)], hw.symm⟩
theorem Len_any (G : Nat) (w : World) (h1 : 1 ≤ G) (h2 : G ≤ 131071) : Calls Try.prog 29 #[.int .u64 (G : Int)] w fun e w' => e = .returned (.int .i64 ((Nat.log2 G + 1 : Nat) : Int)) ∧ w = w' := by
  go_enter Try.func29, Try.ntmps29
  go_wp2_with (go_at_call 32; refine (Len64_any G _ h1 h2).mono ?_; rintro e w' ⟨rfl, rfl⟩)
  go_ret
  exact ⟨rfl, rfl⟩
end Go.Proofs.Ytpfbmfnfcppjeac
