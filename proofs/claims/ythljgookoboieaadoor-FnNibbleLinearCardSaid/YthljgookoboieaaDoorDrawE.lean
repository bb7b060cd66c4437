/-
  Drawn lists of blocks.
-/
import Derived.Test.YthljgookoboieaaDoorDrawB
import Derived.Test.YthljgookoboieaaDoorEnc8
namespace Go.Proofs.YthljgookoboieaaDoor
open Go.RowKit
end Go.Proofs.YthljgookoboieaaDoor
