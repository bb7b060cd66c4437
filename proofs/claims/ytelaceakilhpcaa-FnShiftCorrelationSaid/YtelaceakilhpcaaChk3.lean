/-
  The table of remainders is made.
-/
import Derived.Test.YtelaceakilhpcaaChk2
import Derived.Laws.Tables
namespace Go.Proofs.Ytelaceakilhpcaa
open Go.RowKit
end Go.Proofs.Ytelaceakilhpcaa
