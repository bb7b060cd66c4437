/-
  Polynomials over the field, and the drawn arguments.
-/
import Derived.Test.YtpfbmfnfcppjeabDoorField
import Derived.Test.YtpfbmfnfcppjeabDoorDraw
namespace Go.Proofs.YtpfbmfnfcppjeabDoor
open Go.RowKit


theorem elem_nat {zs : List Int} (h : zs.all elemB = true) (k : Nat) (hk : k < zs.length) : ∃ C : Nat, zs[k] = (C : Int) ∧ C < 16 := by
  rw [List.all_eq_true] at h
  exact inB_nat (h _ (List.getElem_mem hk))
theorem elems_lt {zs : List Int} (h : zs.all elemB = true) : ∀ c ∈ zs.map Int.toNat, c < 16 := by
  intro c hc
  obtain ⟨z, hz, rfl⟩ := List.mem_map.1 hc
  rw [List.all_eq_true] at h
  obtain ⟨C, rfl, hC⟩ := inB_nat (h z hz)
  simpa using hC
theorem peval_step {zs : List Int} (X k C : Nat) (hk : k < zs.length) (hC : zs[k] = (C : Int)) : peval ((zs.take (k + 1)).map Int.toNat) X = gmul (peval ((zs.take k).map Int.toNat) X) X ^^^ C := by
  rw [List.map_take, List.map_take, peval_take _ _ _ (by simpa using hk)]
  simp [hC]


end Go.Proofs.YtpfbmfnfcppjeabDoor
