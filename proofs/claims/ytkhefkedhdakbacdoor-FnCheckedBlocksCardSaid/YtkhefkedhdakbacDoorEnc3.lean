/-
  Nibbles by the program. Written by a program (enc2.py).
-/
import Derived.Test.YtkhefkedhdakbacDoorEnc2
namespace Go.Proofs.YtkhefkedhdakbacDoor
open Go.RowKit
end Go.Proofs.YtkhefkedhdakbacDoor
