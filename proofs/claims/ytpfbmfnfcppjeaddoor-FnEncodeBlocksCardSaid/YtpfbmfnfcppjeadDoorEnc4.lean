/-
  Nibbles by the reference. Written by a program (enc2.py).
-/
import Derived.Test.YtpfbmfnfcppjeadDoorEncP
namespace Go.Proofs.YtpfbmfnfcppjeadDoor
open Go.RowKit
set_option maxHeartbeats 800000 in
theorem specEncodeNibble_any (zs : List Int) (v : Value) (w : World) (hrow : RowK .i64 w v zs) :
    Calls Tryd.prog 17 #[v] w fun e w' => ∃ r, e = .returned r ∧ OwnI w.heap.size w' r (encN zs) ∧ Below w.heap.size w w' := by
  have hrow' := hrow
  have hm0 : OwnI w.heap.size (w.alloc (.cells #[] 3)) (.slice (some ⟨w.heap.size, 0, none⟩) 0 0) [] := World.ownsRow_made w #[] 0 (Nat.le_refl _) (by decide) rfl
  have hb0 : Below w.heap.size w (w.alloc (.cells #[] 3)) := (Below.refl _ w).alloc (Nat.le_refl _) _
  obtain ⟨a, cap, hv⟩ := hrow.form
  subst hv
  cases h1 : validB zs
  · have HP := Lib.hid (encN_neg (zs := zs) (by rw [h1]; rfl))
    go_enter Tryd.func17, Tryd.ntmps17
    go_wp2_with (go_at_call 16; refine (specBitsValid_any _ _ _ hrow').mono ?_; rintro e w' ⟨rfl, rfl⟩)
    go_ret
    exact ⟨_, rfl, by rw [HP.out]; exact hm0, hb0⟩
  · by_cases h2 : zs.length = 4
    · have HP := Lib.hid (encN_pos (zs := zs) (by rw [h1, h2]; rfl))
      have hb := bits_of h1
      have ht : ((zs.length : Int) != 4) = false := by rw [h2]; rfl
      obtain ⟨_, _, _, _, hcell⟩ := hrow.at
      obtain ⟨b, off, rfl, hc⟩ := hcell (by omega)
      have c0 := hc 0 (by omega)
      have c1 := hc 1 (by omega)
      have c2 := hc 2 (by omega)
      have c3 := hc 3 (by omega)
      have b0 := hb.at 0
      have b1 := hb.at 1
      have b2 := hb.at 2
      have b3 := hb.at 3
      have HEN := Lib.hid (show enc zs = [xorZ (xorZ (zs.getD 0 0) (zs.getD 1 0)) (zs.getD 3 0), xorZ (xorZ (zs.getD 0 0) (zs.getD 2 0)) (zs.getD 3 0), zs.getD 0 0, xorZ (xorZ (zs.getD 1 0) (zs.getD 2 0)) (zs.getD 3 0), zs.getD 1 0, zs.getD 2 0, zs.getD 3 0] from rfl)
      obtain ⟨x, hx⟩ : ∃ x, x = zs.getD 0 0 := ⟨_, rfl⟩
      obtain ⟨y, hy⟩ : ∃ y, y = zs.getD 1 0 := ⟨_, rfl⟩
      obtain ⟨z, hz⟩ : ∃ z, z = zs.getD 2 0 := ⟨_, rfl⟩
      obtain ⟨t, ht4⟩ : ∃ t, t = zs.getD 3 0 := ⟨_, rfl⟩
      rw [← hx] at c0 b0 HEN
      rw [← hy] at c1 b1 HEN
      rw [← hz] at c2 b2 HEN
      rw [← ht4] at c3 b3 HEN
      have c0' : w.cell? ⟨b, off, none⟩ = some (.int .i64 x) := c0
      have e1 := xor_bit2 b0 b1
      have e2 := xor_bit2 b0 b2
      have e3 := xor_bit2 b1 b2
      have e4 := xor_bit2 (xorZ_bit x y) b3
      have e5 := xor_bit2 (xorZ_bit x z) b3
      have e6 := xor_bit2 (xorZ_bit y z) b3
      obtain ⟨u1, h1u⟩ : ∃ u, u = xorZ x y := ⟨_, rfl⟩
      obtain ⟨u2, h2u⟩ : ∃ u, u = xorZ x z := ⟨_, rfl⟩
      obtain ⟨u3, h3u⟩ : ∃ u, u = xorZ y z := ⟨_, rfl⟩
      rw [← h1u] at e1 e4 HEN
      rw [← h2u] at e2 e5 HEN
      rw [← h3u] at e3 e6 HEN
      obtain ⟨v1, h4u⟩ : ∃ u, u = xorZ u1 t := ⟨_, rfl⟩
      obtain ⟨v2, h5u⟩ : ∃ u, u = xorZ u2 t := ⟨_, rfl⟩
      obtain ⟨v3, h6u⟩ : ∃ u, u = xorZ u3 t := ⟨_, rfl⟩
      rw [← h4u] at e4 HEN
      rw [← h5u] at e5 HEN
      rw [← h6u] at e6 HEN
      clear h1u h2u h3u h4u h5u h6u b0 b1 b2 b3
      have hrow4 := hrow'
      rw [h2] at hrow4 ⊢
      have hnew := own_new7 w v1 v2 x v3 y z t
      clear hc hcell hx hy hz ht4 hrow c0 hrow' ht h2
      go_enter Tryd.func17, Tryd.ntmps17
      go_wp2_with (go_at_call 16; refine (specBitsValid_any _ _ _ hrow4).mono ?_; rintro e w' ⟨rfl, rfl⟩)
      go_ret
      rw [HP.out, HEN.out]
      exact ⟨_, rfl, hnew, (Below.refl _ w).alloc (Nat.le_refl _) _⟩
    · have HP := Lib.hid (encN_neg (zs := zs) (by simp [h2]))
      have ht : ((zs.length : Int) != 4) = true := by rw [bne_iff_ne]; omega
      go_enter Tryd.func17, Tryd.ntmps17
      go_wp2_with (go_at_call 16; refine (specBitsValid_any _ _ _ hrow').mono ?_; rintro e w' ⟨rfl, rfl⟩)
      go_ret
      exact ⟨_, rfl, by rw [HP.out]; exact hm0, hb0⟩
end Go.Proofs.YtpfbmfnfcppjeadDoor
