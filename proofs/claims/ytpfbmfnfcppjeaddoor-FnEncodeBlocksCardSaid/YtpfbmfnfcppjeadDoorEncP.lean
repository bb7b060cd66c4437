/-
  Nibbles by the program and the reference: plain part. Written by a program (enc2.py).
-/
import Derived.Test.YtpfbmfnfcppjeadDoorEnc
namespace Go.Proofs.YtpfbmfnfcppjeadDoor
open Go.RowKit
def decS (s : Nat) (zs : List Int) : List Int := [fixAt s zs 2, fixAt s zs 4, fixAt s zs 5, fixAt s zs 6]
theorem dec_decS (zs : List Int) : dec zs = decS (syn 0 0 zs) zs := rfl
theorem decS_len (s : Nat) (zs : List Int) : (decS s zs).length = 4 := rfl
theorem encN_neg {zs : List Int} (h : (validB zs && zs.length == 4) = false) : encN zs = [] := by simp only [encN, h]; rfl
theorem encN_pos {zs : List Int} (h : (validB zs && zs.length == 4) = true) : encN zs = enc zs := by simp only [encN, h, if_true]
theorem decN_neg {zs : List Int} (h : (validB zs && zs.length == 7) = false) : decN zs = [] ∧ decW zs = false := by simp [decN, decW, h]
theorem decN_pos {zs : List Int} (h : (validB zs && zs.length == 7) = true) : decN zs = dec zs ∧ decW zs = wrongB zs := by simp [decN, decW, h]
theorem wrong_beq (zs : List Int) : ((wrongN zs : Int) == 1) = wrongB zs := by unfold wrongN; cases wrongB zs <;> rfl
theorem own_new4 (w : World) (x0 x1 x2 x3 : Int) : OwnI w.heap.size (w.alloc (.cells #[.int .i64 x0, .int .i64 x1, .int .i64 x2, .int .i64 x3] 3)) (.slice (some ⟨w.heap.size, 0, none⟩) 4 4) [x0, x1, x2, x3] :=
  ⟨rfl, .inr ⟨w.heap.size, 4, _, rfl, Nat.le_refl _, heap_alloc_new w _, Nat.le_refl _, by decide, rfl, rfl⟩⟩
theorem own_new7 (w : World) (x0 x1 x2 x3 x4 x5 x6 : Int) : OwnI w.heap.size (w.alloc (.cells #[.int .i64 x0, .int .i64 x1, .int .i64 x2, .int .i64 x3, .int .i64 x4, .int .i64 x5, .int .i64 x6] 3)) (.slice (some ⟨w.heap.size, 0, none⟩) 7 7) [x0, x1, x2, x3, x4, x5, x6] :=
  ⟨rfl, .inr ⟨w.heap.size, 7, _, rfl, Nat.le_refl _, heap_alloc_new w _, Nat.le_refl _, by decide, rfl, rfl⟩⟩
end Go.Proofs.YtpfbmfnfcppjeadDoor
