/-
  Nibbles by the program. Written by a program (enc2.py).
-/
import Derived.Test.YtpfbmfnfcppjeadDoorEnc2
namespace Go.Proofs.YtpfbmfnfcppjeadDoor
open Go.RowKit
end Go.Proofs.YtpfbmfnfcppjeadDoor
