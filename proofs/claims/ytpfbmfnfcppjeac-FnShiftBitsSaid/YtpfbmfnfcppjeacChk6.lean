/-
  The check bits and what is appended, by the program and by the reference.
-/
import Derived.Test.YtpfbmfnfcppjeacChk5
namespace Go.Proofs.Ytpfbmfnfcppjeac
open Go.RowKit

theorem digits_get (d r k : Nat) (hk : k < d) : (digits d r).getD k 0 = (((r >>> (d - 1 - k)) % 2 : Nat) : Int) := by
  simp [digits, List.getD, hk]
theorem digits_take (d r k : Nat) (hk : k < d) : (digits d r).take (k + 1) = (digits d r).take k ++ [(((r >>> (d - 1 - k)) % 2 : Nat) : Int)] := by
  rw [take_succ' _ 0 k (by rw [digits_length]; exact hk), digits_get d r k hk]
end Go.Proofs.Ytpfbmfnfcppjeac
