/-
  Nibbles by the program. Written by a program (enc2.py).
-/
import Derived.Test.YthljgookoboieabDoorEnc2
namespace Go.Proofs.YthljgookoboieabDoor
open Go.RowKit
set_option maxHeartbeats 400000 in
theorem EncodeNibble_any (zs : List Int) (v : Value) (w : World) (hT : Tabs w) (hrow : RowK .i64 w v zs) :
    Calls Tryd.prog 16 #[v] w fun e w' => ∃ r, e = .returned r ∧ OwnI w.heap.size w' r (encN zs) ∧ Below w.heap.size w w' := by
  have hrow' := hrow
  have hTT := Lib.hid hT
  obtain ⟨a, cap, hv⟩ := hrow.form
  subst hv
  cases h1 : validB zs
  · have HP := Lib.hid (encN_neg (zs := zs) (by rw [h1]; rfl))
    go_enter Tryd.func16, Tryd.ntmps16
    go_wp2_with (go_at_call 31; refine (BitsValid_any _ _ _ hrow').mono ?_; rintro e w' ⟨rfl, rfl⟩)
    go_ret
    exact ⟨_, rfl, by rw [HP.out]; exact World.ownsRow_nil _ _ _ _, Below.refl _ _⟩
  · by_cases h2 : zs.length = 4
    · have HP := Lib.hid (encN_pos (zs := zs) (by rw [h1, h2]; rfl))
      have hb := bits_of h1
      have ht : ((zs.length : Int) != 4) = false := by rw [h2]; rfl
      have HL := Lib.hid h2
      clear h2 hT hrow
      go_enter Tryd.func16, Tryd.ntmps16
      go_wp2_with (go_at_call 31; refine (BitsValid_any _ _ _ hrow').mono ?_; rintro e w' ⟨rfl, rfl⟩)
      refine (appendNibble_any zs [] (.slice none 0 0) _ w.heap.size _ hTT.out hrow' hb HL.out (World.ownsRow_nil _ _ _ _) (by simp) (Nat.le_refl _)).mono ?_
      rintro e w1 ⟨r, rfl, ho, hbel⟩
      go_wp2
      go_ret
      exact ⟨r, rfl, by rw [HP.out]; exact ho, hbel⟩
    · have HP := Lib.hid (encN_neg (zs := zs) (by simp [h2]))
      have ht : ((zs.length : Int) != 4) = true := by rw [bne_iff_ne]; omega
      go_enter Tryd.func16, Tryd.ntmps16
      go_wp2_with (go_at_call 31; refine (BitsValid_any _ _ _ hrow').mono ?_; rintro e w' ⟨rfl, rfl⟩)
      go_ret
      exact ⟨_, rfl, by rw [HP.out]; exact World.ownsRow_nil _ _ _ _, Below.refl _ _⟩
set_option maxHeartbeats 400000 in
theorem DecodeNibble_any (zs : List Int) (v : Value) (w : World) (hT : TabP w) (hrow : RowK .i64 w v zs) :
    Calls Tryd.prog 20 #[v] w fun e w' => ∃ r, e = .returned (.tuple #[r, .bool (decW zs)]) ∧ OwnI w.heap.size w' r (decN zs) ∧ Below w.heap.size w w' := by
  have hrow' := hrow
  have hTT := Lib.hid hT
  obtain ⟨a, cap, hv⟩ := hrow.form
  subst hv
  cases h1 : validB zs
  · have HP := Lib.hid (decN_neg (zs := zs) (by rw [h1]; rfl))
    go_enter Tryd.func20, Tryd.ntmps20
    go_wp2_with (go_at_call 31; refine (BitsValid_any _ _ _ hrow').mono ?_; rintro e w' ⟨rfl, rfl⟩)
    go_ret2
    exact ⟨_, by rw [HP.out.2]; rfl, by rw [HP.out.1]; exact World.ownsRow_nil _ _ _ _, Below.refl _ _⟩
  · by_cases h2 : zs.length = 7
    · have HP := Lib.hid (decN_pos (zs := zs) (by rw [h1, h2]; rfl))
      have hb := bits_of h1
      have ht : ((zs.length : Int) != 7) = false := by rw [h2]; rfl
      have HL := Lib.hid h2
      have HWB := wrong_beq zs
      clear h2 hT hrow
      go_enter Tryd.func20, Tryd.ntmps20
      go_wp2_with (go_at_call 31; refine (BitsValid_any _ _ _ hrow').mono ?_; rintro e w' ⟨rfl, rfl⟩)
      refine (appendDecoded_any zs [] (.slice none 0 0) _ w.heap.size _ hTT.out hrow' (fun W hW => hrow'.belowAll hW) hb HL.out (World.ownsRow_nil _ _ _ _) (by simp) (Nat.le_refl _)).mono ?_
      rintro e w1 ⟨r, rfl, ho, hbel⟩
      go_wp2
      go_ret2
      exact ⟨r, by rw [HP.out.2]; rfl, by rw [HP.out.1]; exact ho, hbel⟩
    · have HP := Lib.hid (decN_neg (zs := zs) (by simp [h2]))
      have ht : ((zs.length : Int) != 7) = true := by rw [bne_iff_ne]; omega
      go_enter Tryd.func20, Tryd.ntmps20
      go_wp2_with (go_at_call 31; refine (BitsValid_any _ _ _ hrow').mono ?_; rintro e w' ⟨rfl, rfl⟩)
      go_ret2
      exact ⟨_, by rw [HP.out.2]; rfl, by rw [HP.out.1]; exact World.ownsRow_nil _ _ _ _, Below.refl _ _⟩
end Go.Proofs.YthljgookoboieabDoor
