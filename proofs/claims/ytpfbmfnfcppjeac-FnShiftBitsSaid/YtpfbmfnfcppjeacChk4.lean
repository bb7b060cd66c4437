/-
  The remainder of a list of coefficients, by the program and by the reference.
-/
import Derived.Test.YtpfbmfnfcppjeacChk3
namespace Go.Proofs.Ytpfbmfnfcppjeac
open Go.RowKit

theorem crem_take {G d R b : Nat} {zs : List Int} {k : Nat} (hk : k < zs.length) (hb : zs.getD k 0 = (b : Int)) (h : crem G d 0 (zs.take k) = R) : crem G d 0 (zs.take (k + 1)) = cstep G d R b := by
  rw [take_succ' zs 0 k hk, crem_app, h, hb]; rfl
theorem valL_take {zs : List Int} {j b : Nat} (hj : j < zs.length) (hb : zs.getD j 0 = (b : Int)) : valL (zs.take (j + 1)) = 2 * valL (zs.take j) + b := by
  rw [take_succ' zs 0 j hj, valL_snoc, hb]; simp
theorem drop_get (zs : List Int) (k j : Nat) (hj : j < 8) : ((zs.drop k).take 8).getD j 0 = zs.getD (k + j) 0 := by
  simp [List.getD, hj]
theorem crem_eight {G d R E : Nat} {zs : List Int} {k : Nat} (hG : Gen G d) (hb : BitL zs) (hk : k + 8 ≤ zs.length) (hR : R < 2 ^ d) (h : crem G d 0 (zs.take k) = R) (hE : E = valL ((zs.drop k).take 8)) : crem G d 0 (zs.take (k + 8)) = pmod G d 8 (R * 256 + E) := by
  rw [List.take_add, crem_app, h]
  exact (feed_eight hG hR _ ((hb.drop k).take 8) (by simp; omega) hE).symm
theorem crem_repl {G d j : Nat} (zs : List Int) : crem G d 0 (zs ++ List.replicate (j + 1) 0) = cstep G d (crem G d 0 (zs ++ List.replicate j 0)) 0 := by
  rw [List.replicate_succ', ← List.append_assoc, crem_app]; rfl

end Go.Proofs.Ytpfbmfnfcppjeac
