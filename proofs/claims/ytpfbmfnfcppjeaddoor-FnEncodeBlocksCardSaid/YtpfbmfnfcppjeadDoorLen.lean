/-
  The length of a number in bits.
-/
import Derived.Test.YtpfbmfnfcppjeadDoorChkM
import Derived.Lib.Strings
import Derived.Lib.Slices
import Derived.Lib.Small
import Derived.Lib.Walk
import Derived.Lib.BitFns
import Derived.Lib.ItoaNum
import Derived.Lib.Tables
namespace Go.Proofs.YtpfbmfnfcppjeadDoor
end Go.Proofs.YtpfbmfnfcppjeadDoor
