/-
  The table of remainders is made.
-/
import Derived.Test.YtpfbmfnfcppjeacChk2
import Derived.Laws.Tables
namespace Go.Proofs.Ytpfbmfnfcppjeac
open Go.RowKit
end Go.Proofs.Ytpfbmfnfcppjeac
