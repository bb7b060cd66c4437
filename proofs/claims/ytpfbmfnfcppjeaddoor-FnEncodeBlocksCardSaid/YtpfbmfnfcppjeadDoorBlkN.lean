/-
  The block code as the laws ask it: distances, errors, sums. No program stands here.
-/
import Derived.Test.YtpfbmfnfcppjeadDoorBlkM
import Derived.Test.YtpfbmfnfcppjeadDoorHamM
namespace Go.Proofs.YtpfbmfnfcppjeadDoor
theorem ham_hamZ : ∀ xs ys : List Int, ham xs ys = hamZ xs ys
  | [], _ => by simp [ham, hamZ]
  | _ :: _, [] => by simp [ham, hamZ]
  | x :: xs, y :: ys => by simp only [ham, hamZ, ham_hamZ xs ys]; rfl
theorem sameB_of3 {xs ys : List Int} (h1 : validB xs = true) (h2 : validB ys = true) (h3 : xs.length = ys.length) : sameB xs ys = true := by simp [sameB, h1, h2, h3]
theorem hamD_Z {xs ys : List Int} (h : sameB xs ys = true) : hamD xs ys = hamZ xs ys := by rw [hamD_pos h, ham_hamZ]
theorem nib_ok {zs : List Int} (h : BitL zs) (hl : zs.length = 4) : (validB zs && zs.length == 4) = true := by rw [bvalid_of h (by omega), hl]; rfl
theorem word_ok {zs : List Int} (h : BitL zs) (hl : zs.length = 7) : (validB zs && zs.length == 7) = true := by rw [bvalid_of h (by omega), hl]; rfl
theorem encN_is {zs : List Int} (h : (validB zs && zs.length == 4) = true) : encN zs = enc zs := by simp only [encN, h, if_true]
theorem decN_is {zs : List Int} (h : (validB zs && zs.length == 7) = true) : decN zs = dec zs ∧ decW zs = wrongB zs := by simp [decN, decW, h]
theorem encN_none {zs : List Int} (h : (validB zs && zs.length == 4) = false) : encN zs = [] := by simp only [encN, h]; rfl
theorem decN_none {zs : List Int} (h : (validB zs && zs.length == 7) = false) : decN zs = [] ∧ decW zs = false := by simp [decN, decW, h]
theorem dn_law {xs : List Int} (h : (validB xs && xs.length == 7) = true) : hamD (encN (decN xs)) xs = (if decW xs = true then 1 else 0) ∧ (decN xs).length = 4 := by
  obtain ⟨hb, hl⟩ := ok7 h
  obtain ⟨e1, e2⟩ := decN_is h
  have hd := dec_bits hb hl
  have e3 := encN_is (nib_ok hd (dec_length xs))
  have hE := enc_bits hd (dec_length xs)
  rw [e1, e2, e3, hamD_Z (sameB_of3 (bvalid_of hE (by rw [enc_length]; omega)) (bvalid_of hb (by omega)) (by rw [enc_length, hl])), dec_near hb hl]
  refine ⟨?_, dec_length xs⟩
  unfold wrongN
  cases wrongB xs <;> rfl
theorem db_law {xs : List Int} (h : okD xs = true) : hamD (encL (decL xs)) xs = badN xs ∧ badN xs ≤ xs.length / 7 ∧ 7 * (decL xs).length = 4 * xs.length := by
  obtain ⟨h1, h2, h3, h4⟩ := near_dec h
  obtain ⟨hb, _, hl, _⟩ := okD_is h
  exact ⟨by rw [hamD_Z (sameB_of3 (encL_valid _) (bvalid_of hb (by omega)) h4), h2], h3, decL_half h⟩
theorem en_far {xs ys : List Int} (hx : (validB xs && xs.length == 4) = true) (hy : (validB ys && ys.length == 4) = true) (hne : xs ≠ ys) : 3 ≤ hamD (encN xs) (encN ys) := by
  obtain ⟨bx, lx⟩ := ok4 hx
  obtain ⟨by_, ly⟩ := ok4 hy
  rw [encN_is hx, encN_is hy, hamD_Z (sameB_of3 (bvalid_of (enc_bits bx lx) (by rw [enc_length]; omega)) (bvalid_of (enc_bits by_ ly) (by rw [enc_length]; omega)) rfl)]
  exact enc_far bx lx by_ ly hne
theorem en_back {xs : List Int} (h : (validB xs && xs.length == 4) = true) : decN (encN xs) = xs ∧ decW (encN xs) = false ∧ synI (encN xs) = 0 ∧ (encN xs).length = 7 := by
  obtain ⟨hb, hl⟩ := ok4 h
  have hw := word_ok (enc_bits hb hl) (enc_length xs)
  rw [encN_is h]
  obtain ⟨e1, e2⟩ := decN_is hw
  refine ⟨by rw [e1, dec_enc hb hl], ?_, ?_, enc_length xs⟩
  · rw [e2]; unfold wrongB; rw [syn_enc hb hl]; rfl
  · simp only [synI, hw, if_true, syn_enc hb hl]; rfl
theorem nl_law {xs ys : List Int} (hx : (validB xs && xs.length == 4) = true) (hy : (validB ys && ys.length == 4) = true) : encN (addL xs ys) = addL (encN xs) (encN ys) := by
  obtain ⟨bx, lx⟩ := ok4 hx
  obtain ⟨by_, ly⟩ := ok4 hy
  have vx := bvalid_of bx (by omega)
  have vy := bvalid_of by_ (by omega)
  have ex := bvalid_of (enc_bits bx lx) (by rw [enc_length]; omega)
  have ey := bvalid_of (enc_bits by_ ly) (by rw [enc_length]; omega)
  rw [addL_eqs vx vy (by omega), encN_is hx, encN_is hy, addL_eqs ex ey rfl, encN_is (nib_ok BitL.zip (by simp; omega)), enc_xor bx lx by_ ly]
theorem nt_law {xs : List Int} (h : (validB xs && xs.length == 4) = true) (i j : Nat) (hi : i < 7) (hj : j < 7) (hij : i ≠ j) :
    decW (flipAt (flipAt (encN xs) i) j) = true ∧ decN (flipAt (flipAt (encN xs) i) j) ≠ xs ∧ (decN (flipAt (flipAt (encN xs) i) j)).length = 4 ∧ BitL (encN xs) ∧ BitL (flipAt (encN xs) i) := by
  obtain ⟨hb, hl⟩ := ok4 h
  rw [encN_is h]
  have b0 := enc_bits hb hl
  have b1 := flip_bits b0 i (by rw [enc_length]; exact hi)
  have b2 := flip_bits b1 j (by rw [flip_length, enc_length]; exact hj)
  obtain ⟨e1, e2⟩ := decN_is (word_ok b2 (by rw [flip_length, flip_length, enc_length]))
  obtain ⟨f1, f2⟩ := flip_two hb hl i hi j hj hij
  exact ⟨by rw [e2, f1], by rw [e1]; exact f2, by rw [e1]; exact dec_length _, b0, b1⟩
def otherL (k : Nat) : List Int := [((k % 2 : Nat) : Int), ((k / 2 % 2 : Nat) : Int), ((k / 4 % 2 : Nat) : Int), ((k / 8 : Nat) : Int)]
theorem other_ok : ∀ k, k < 16 → (validB (otherL k) && (otherL k).length == 4) = true := by decide +kernel
end Go.Proofs.YtpfbmfnfcppjeadDoor
