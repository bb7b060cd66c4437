/-
  Blocks decoded by the program.
-/
import Derived.Test.YthljgookoboieaaDoorEnc6
namespace Go.Proofs.YthljgookoboieaaDoor
open Go.RowKit
end Go.Proofs.YthljgookoboieaaDoor
