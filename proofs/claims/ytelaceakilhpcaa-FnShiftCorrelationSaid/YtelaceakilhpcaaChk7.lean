/-
  The check bits, by the reference.
-/
import Derived.Test.YtelaceakilhpcaaChk6
namespace Go.Proofs.Ytelaceakilhpcaa
open Go.RowKit
end Go.Proofs.Ytelaceakilhpcaa
