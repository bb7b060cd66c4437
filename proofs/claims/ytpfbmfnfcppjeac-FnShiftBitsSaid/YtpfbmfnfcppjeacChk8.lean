/-
  Appending the check bits, by the program and by the reference.
-/
import Derived.Test.YtpfbmfnfcppjeacChk7
namespace Go.Proofs.Ytpfbmfnfcppjeac
open Go.RowKit

theorem appL_yes {zs : List Int} {g : Int} (h1 : validB zs = true) (h2 : genB g = true) (h3 : zs.length + degN g ≤ 1024) : appL zs g = zs ++ cbits g.toNat (degN g) zs := by simp [appL, h1, h2, h3]
theorem appL_no {zs : List Int} {g : Int} (h : (validB zs && genB g) = false) : appL zs g = [] := by unfold appL; rw [h]; rfl
theorem appL_big {zs : List Int} {g : Int} (h3 : 1024 < zs.length + degN g) : appL zs g = [] := by
  unfold appL; rw [if_neg]; simp; omega
end Go.Proofs.Ytpfbmfnfcppjeac
