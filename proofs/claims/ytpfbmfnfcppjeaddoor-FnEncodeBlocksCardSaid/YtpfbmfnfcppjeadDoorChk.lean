/-
  The functions of the check: generator polynomials, degrees, remainders, by the program and by the reference.
-/
import Derived.Test.YtpfbmfnfcppjeadDoorChkM
import Derived.Test.YtpfbmfnfcppjeadDoorLen
import Derived.Deep.OwnRows
namespace Go.Proofs.YtpfbmfnfcppjeadDoor
open Go.RowKit

theorem i64_and1 (a : Nat) (ha : a < 9223372036854775808) : bits .and .i64 (a : Int) 1 = ((a % 2 : Nat) : Int) := by
  show IntKind.i64.wrap ((BitVec.ofInt 64 (a : Int) &&& BitVec.ofInt 64 1).toNat : Int) = _
  have e : (BitVec.ofInt 64 1).toNat = 1 := by decide
  rw [BitVec.toNat_and, ofInt_i64 a (by omega), e, Nat.and_one_is_mod, IntKind.wrap_i64]
  omega
theorem i64_wf {n : Int} (h : (Lit.int .i64 n).wf = true) : -9223372036854775808 ≤ n ∧ n ≤ 9223372036854775807 := by
  simpa [Lit.wf, IntKind.min, IntKind.max, IntKind.signed, IntKind.bits] using h
theorem log2_half (x : Nat) (h : 2 ≤ x) : Nat.log2 (x / 2) + 1 = Nat.log2 x := by
  rw [Nat.log2_def x, if_pos h]
theorem deg_log {G : Nat} : degN (G : Int) = Nat.log2 G := by simp [degN]
end Go.Proofs.YtpfbmfnfcppjeadDoor
