/-
  Laws of shift registers and of scrambling, as the functions take their arguments. No program stands here.
-/
import Derived.Test.YtpfbmfnfcppjeacChkM
import Derived.Test.YtpfbmfnfcppjeacReg
namespace Go.Proofs.Ytpfbmfnfcppjeac

def regB (t s : Int) : Bool := genB t && inB s 1 ((2 : Int) ^ degN t - 1)
def shiftL (t s n : Int) : List Int := if regB t s && inB n 0 1024 then outs (t.toNat / 2) s.toNat n.toNat else []
def perI (t s : Int) : Int := if regB t s then (per (t.toNat / 2) s.toNat (degN t) : Int) else 0
def scrL (bs : List Int) (t s : Int) : List Int := addL bs (shiftL t s bs.length)
theorem reg_nat {t s : Int} (h : regB t s = true) : ∃ T S : Nat, t = T ∧ s = S ∧ genB (T : Int) = true ∧ 1 ≤ S ∧ S < 2 ^ degN (T : Int) ∧ Half (T / 2) (degN (T : Int)) := by
  simp only [regB, Bool.and_eq_true] at h
  obtain ⟨h1, h2⟩ := h
  obtain ⟨T, rfl, h3⟩ := gen_nat h1
  simp only [inB, Bool.and_eq_true, decide_eq_true_eq] at h2
  have hG := gen_is h1
  have e : ((2 : Int) ^ degN (T : Int)) = ((2 ^ degN (T : Int) : Nat) : Int) := by simp
  rw [e] at h2
  exact ⟨T, s.toNat, rfl, by omega, h1, by omega, by omega, half_of hG.lo hG.hi hG.pos⟩
theorem shiftL_len (t s n : Int) : (shiftL t s n).length ≤ 1024 := by
  unfold shiftL; split
  · rename_i h
    simp only [Bool.and_eq_true, inB, decide_eq_true_eq] at h
    rw [outs_length]; omega
  · simp
theorem shiftL_bits (t s n : Int) : BitL (shiftL t s n) := by
  unfold shiftL; split
  · exact outs_bits _ _ _
  · exact BitL.nil
theorem shiftL_valid (t s n : Int) : validB (shiftL t s n) = true := bvalid_of (shiftL_bits t s n) (shiftL_len t s n)
theorem per_bounds {t s : Int} (h : regB t s = true) : 1 ≤ perI t s ∧ perI t s < (2 : Int) ^ degN t := by
  obtain ⟨T, S, rfl, rfl, h1, h2, h3, h4⟩ := reg_nat h
  have := per_spec h4 h3 h2
  have e : ((2 : Int) ^ degN (T : Int)) = ((2 ^ degN (T : Int) : Nat) : Int) := by simp
  simp only [perI, h, if_true, Int.toNat_natCast]
  rw [e]
  omega
theorem gen19 : genB 19 = true := by decide
theorem deg19 : degN 19 = 4 := by decide +kernel
theorem reg19 (S : Nat) (h1 : 1 ≤ S) (h2 : S < 16) : regB 19 (S : Int) = true := by
  simp only [regB, gen19, deg19, inB, Bool.true_and, Bool.and_eq_true, decide_eq_true_eq]
  omega
theorem per_19 (S : Nat) (h1 : 1 ≤ S) (h2 : S < 16) : perI 19 (S : Int) = 15 := by
  simp only [perI, reg19 S h1 h2, if_true, deg19, Int.toNat_natCast]
  rw [show (19 : Int).toNat / 2 = 9 from rfl, per19 S h2 h1]; rfl
theorem shift_19 (S n : Nat) (h1 : 1 ≤ S) (h2 : S < 16) (hn : n ≤ 1024) : shiftL 19 (S : Int) (n : Int) = outs 9 S n := by
  have : inB (n : Int) 0 1024 = true := by simp [inB]; omega
  simp only [shiftL, reg19 S h1 h2, this, Bool.true_and, if_true, Int.toNat_natCast]
  rfl
theorem shift_pos {t s : Int} {n : Nat} (h : regB t s = true) (hn : n ≤ 1024) : shiftL t s n = outs (t.toNat / 2) s.toNat n := by
  have : inB (n : Int) 0 1024 = true := by simp [inB]; omega
  simp only [shiftL, h, this, Bool.true_and, if_true, Int.toNat_natCast]
theorem bzip_zip : ∀ (xs ys zs : List Int), xs.length = ys.length → ys.length = zs.length → BitL xs → BitL ys → BitL zs →
    List.zipWith xorZ (List.zipWith xorZ xs ys) zs = List.zipWith xorZ (List.zipWith xorZ xs zs) ys
  | [], [], [], _, _, _, _, _ => rfl
  | [], _ :: _, _, h, _, _, _, _ => by simp at h
  | _ :: _, [], _, h, _, _, _, _ => by simp at h
  | [], [], _ :: _, _, h, _, _, _ => by simp at h
  | _ :: _, _ :: _, [], _, h, _, _, _ => by simp at h
  | x :: xs, y :: ys, z :: zs, h, k, hx, hy, hz => by
    simp only [List.zipWith_cons_cons]
    rw [bzip_zip xs ys zs (by simpa using h) (by simpa using k) hx.tl hy.tl hz.tl]
    congr 1
    rcases hx.hd with rfl | rfl <;> rcases hy.hd with rfl | rfl <;> rcases hz.hd with rfl | rfl <;> rfl
theorem scr_neg {bs : List Int} {t s : Int} (h : (validB bs && regB t s) = false) : scrL bs t s = [] := by
  unfold scrL addL
  split
  · rename_i h2
    simp only [sameB, Bool.and_eq_true, decide_eq_true_eq] at h2
    obtain ⟨⟨h3, _⟩, h4⟩ := h2
    rw [h3, Bool.true_and] at h
    have : shiftL t s bs.length = [] := by simp [shiftL, h]
    rw [this] at h4 ⊢
    simp
  · rfl
theorem scr_pos {bs : List Int} {t s : Int} (h1 : validB bs = true) (h2 : regB t s = true) : scrL bs t s = List.zipWith xorZ bs (outs (t.toNat / 2) s.toNat bs.length) ∧ validB (scrL bs t s) = true ∧ (scrL bs t s).length = bs.length := by
  have hl := valid_len h1
  have e : scrL bs t s = List.zipWith xorZ bs (outs (t.toNat / 2) s.toNat bs.length) := by
    unfold scrL
    rw [addL_eqs h1 (shiftL_valid _ _ _) (by rw [shift_pos h2 hl, outs_length]), shift_pos h2 hl]
  refine ⟨e, ?_, ?_⟩
  · rw [e]; exact bvalid_zip hl
  · rw [e]; simp [outs_length]
theorem zip_self2 : ∀ (xs ys : List Int), xs.length = ys.length → BitL xs → BitL ys → List.zipWith xorZ (List.zipWith xorZ xs ys) ys = xs
  | [], [], _, _, _ => rfl
  | [], _ :: _, h, _, _ => by simp at h
  | _ :: _, [], h, _, _ => by simp at h
  | x :: xs, y :: ys, h, hx, hy => by
    simp only [List.zipWith_cons_cons]
    rw [zip_self2 xs ys (by simpa using h) hx.tl hy.tl]
    congr 1
    rcases hx.hd with rfl | rfl <;> rcases hy.hd with rfl | rfl <;> rfl
theorem scr_back {bs : List Int} {t s : Int} (h1 : validB bs = true) (h2 : regB t s = true) : scrL (scrL bs t s) t s = bs := by
  obtain ⟨e, h3, h4⟩ := scr_pos h1 h2
  obtain ⟨e2, _, _⟩ := scr_pos h3 h2
  rw [e2, h4, e]
  exact zip_self2 _ _ (by simp [outs_length]) (bits_of h1) (outs_bits _ _ _)
theorem scr_zeros {n : Nat} {t s : Int} (hn : n ≤ 1024) (h2 : regB t s = true) : scrL (List.replicate n 0) t s = shiftL t s n := by
  obtain ⟨e, _, _⟩ := scr_pos (bvalid_zeros hn) h2
  rw [e, shift_pos h2 hn, List.length_replicate]
  have := zero_zip (outs (t.toNat / 2) s.toNat n) (outs_bits _ _ _)
  rw [outs_length] at this
  exact this
theorem reg195 : regB 19 5 = true := reg19 5 (by omega) (by omega)
theorem scr_stream {xs ys : List Int} (h1 : validB xs = true) (h2 : validB ys = true) (h3 : xs.length = ys.length) : scrL (addL xs ys) 19 5 = addL (scrL xs 19 5) ys := by
  obtain ⟨e1, h4, h5⟩ := scr_pos h1 reg195
  have ha := addL_eqs h1 h2 h3
  have hv : validB (addL xs ys) = true := by rw [ha]; exact bvalid_zip (valid_len h1)
  obtain ⟨e2, _, _⟩ := scr_pos hv reg195
  rw [addL_eqs h4 h2 (by omega), e2, ha, e1]
  have hl : (List.zipWith xorZ xs ys).length = xs.length := by simp; omega
  rw [hl]
  exact bzip_zip _ _ _ h3 (by rw [outs_length]; omega) (bits_of h1) (bits_of h2) (outs_bits _ _ _)
end Go.Proofs.Ytpfbmfnfcppjeac
