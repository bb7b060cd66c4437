/-
  Scrambling, by the program and by the reference.
-/
import Derived.Test.YtpfbmfnfcppjeacShB
import Derived.Test.YtpfbmfnfcppjeacHam
namespace Go.Proofs.Ytpfbmfnfcppjeac
open Go.RowKit
theorem scrL_len (bs : List Int) (t s : Int) : (scrL bs t s).length ≤ 1024 := addL_len _ _
end Go.Proofs.Ytpfbmfnfcppjeac
