/-
  Passing the check and its bits, by the program and by the reference.
-/
import Derived.Test.YtpfbmfnfcppjeacChk4
import Derived.Test.YtpfbmfnfcppjeacAppZ
namespace Go.Proofs.Ytpfbmfnfcppjeac
open Go.RowKit

theorem gen_wf {G : Nat} (h : G ≤ 131071) : (Lit.int .i64 (G : Int)).wf = true := by
  simp [Lit.wf, IntKind.min, IntKind.max, IntKind.signed, IntKind.bits]; omega
end Go.Proofs.Ytpfbmfnfcppjeac
