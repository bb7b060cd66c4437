/-
  The check bits, by the reference.
-/
import Derived.Test.YtpfbmfnfcppjeacChk6
namespace Go.Proofs.Ytpfbmfnfcppjeac
open Go.RowKit
end Go.Proofs.Ytpfbmfnfcppjeac
