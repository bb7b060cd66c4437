/-
  Nibbles by the reference. Written by a program (enc2.py).
-/
import Derived.Test.YtpfbmfnfcppjeadDoorEncP
namespace Go.Proofs.YtpfbmfnfcppjeadDoor
open Go.RowKit
theorem fix_flip {zs : List Int} {k p : Nat} (hk : k < zs.length) : fixAt (k + 1) zs p = (zs.set k (1 - zs.getD k 0)).getD p 0 := by
  unfold fixAt
  by_cases h : p = k
  · subst h
    rw [if_pos rfl, List.getD_eq_getElem?_getD (l := zs.set p _), List.getElem?_set_self hk]; rfl
  · rw [if_neg (by omega), List.getD_eq_getElem?_getD, List.getD_eq_getElem?_getD, List.getElem?_set_ne (by omega)]
theorem own_slice7 {e : Nat} {k : IntKind} {B : Nat} {w : World} {v : Value} {zs : List Int} (h : OwnK e k B w v zs) (hl : zs.length = 7) : ∃ g c, v = .slice (some ⟨g, 0, none⟩) 7 c := by
  rcases h.form with ⟨_, h0⟩ | ⟨g, c, e, _⟩
  · subst h0; simp at hl
  · rw [hl] at e; exact ⟨g, c, e⟩
end Go.Proofs.YtpfbmfnfcppjeadDoor
