/-
  Laws of the block code, as the functions take their arguments. No program stands here.
-/
import Derived.Test.YtpfbmfnfcppjeadDoorChkM
import Derived.Test.YtpfbmfnfcppjeadDoorBlk
namespace Go.Proofs.YtpfbmfnfcppjeadDoor

def encN (zs : List Int) : List Int := if validB zs && zs.length == 4 then enc zs else []
def synI (zs : List Int) : Int := if validB zs && zs.length == 7 then (syn 0 0 zs : Int) else -1
def decN (zs : List Int) : List Int := if validB zs && zs.length == 7 then dec zs else []
def decW (zs : List Int) : Bool := validB zs && zs.length == 7 && wrongB zs
def okE (zs : List Int) : Bool := validB zs && zs.length % 4 == 0 && decide (zs.length ≤ 512)
def okD (zs : List Int) : Bool := validB zs && zs.length % 7 == 0 && decide (zs.length ≤ 896)
def encL (zs : List Int) : List Int := if okE zs then encB (zs.length / 4) zs else []
def decL (zs : List Int) : List Int := if okD zs then decB (zs.length / 7) zs else []
def badN (zs : List Int) : Int := if okD zs then (badB (zs.length / 7) zs : Int) else 0
theorem ok4 {zs : List Int} (h : (validB zs && zs.length == 4) = true) : BitL zs ∧ zs.length = 4 := by
  simp only [Bool.and_eq_true, beq_iff_eq] at h; exact ⟨bits_of h.1, h.2⟩
theorem ok7 {zs : List Int} (h : (validB zs && zs.length == 7) = true) : BitL zs ∧ zs.length = 7 := by
  simp only [Bool.and_eq_true, beq_iff_eq] at h; exact ⟨bits_of h.1, h.2⟩
theorem okE_is {zs : List Int} (h : okE zs = true) : BitL zs ∧ zs.length = 4 * (zs.length / 4) ∧ zs.length ≤ 512 ∧ encL zs = encB (zs.length / 4) zs := by
  have h' := h
  simp only [okE, Bool.and_eq_true, beq_iff_eq, decide_eq_true_eq] at h
  exact ⟨bits_of h.1.1, by omega, h.2, by simp only [encL, h', if_true]⟩
theorem okD_is {zs : List Int} (h : okD zs = true) : BitL zs ∧ zs.length = 7 * (zs.length / 7) ∧ zs.length ≤ 896 ∧ decL zs = decB (zs.length / 7) zs ∧ badN zs = (badB (zs.length / 7) zs : Int) := by
  have h' := h
  simp only [okD, Bool.and_eq_true, beq_iff_eq, decide_eq_true_eq] at h
  exact ⟨bits_of h.1.1, by omega, h.2, by simp only [decL, h', if_true], by simp only [badN, h', if_true]⟩
theorem okE_mk {zs : List Int} (h : BitL zs) (n : Nat) (hl : zs.length = 4 * n) (hn : n ≤ 128) : okE zs = true := by
  simp only [okE, Bool.and_eq_true, beq_iff_eq, decide_eq_true_eq]
  exact ⟨⟨bvalid_of h (by omega), by omega⟩, by omega⟩
theorem okD_mk {zs : List Int} (h : BitL zs) (n : Nat) (hl : zs.length = 7 * n) (hn : n ≤ 128) : okD zs = true := by
  simp only [okD, Bool.and_eq_true, beq_iff_eq, decide_eq_true_eq]
  exact ⟨⟨bvalid_of h (by omega), by omega⟩, by omega⟩
theorem encN_len (zs : List Int) : (encN zs).length ≤ 7 := by unfold encN; split <;> simp [enc_length]
theorem decN_len (zs : List Int) : (decN zs).length ≤ 4 := by unfold decN; split <;> simp [dec_length]
theorem encL_len (zs : List Int) : (encL zs).length ≤ 896 := by
  cases h : okE zs
  · simp [encL, h]
  · obtain ⟨_, h2, h3, h4⟩ := okE_is h
    rw [h4, encB_length]; omega
theorem decL_len (zs : List Int) : (decL zs).length ≤ 512 := by
  cases h : okD zs
  · simp [decL, h]
  · obtain ⟨_, h2, h3, h4, _⟩ := okD_is h
    rw [h4, decB_length]; omega
theorem decL_half {zs : List Int} (h : okD zs = true) : 7 * (decL zs).length = 4 * zs.length := by
  obtain ⟨_, h2, h3, h4, _⟩ := okD_is h
  rw [h4, decB_length]; omega
theorem encL_half {zs : List Int} (h : okE zs = true) : 4 * (encL zs).length = 7 * zs.length := by
  obtain ⟨_, h2, h3, h4⟩ := okE_is h
  rw [h4, encB_length]; omega
theorem encL_valid (zs : List Int) : validB (encL zs) = true := by
  cases h : okE zs
  · simp only [encL, h]; rfl
  · obtain ⟨h1, h2, h3, h4⟩ := okE_is h
    have := encL_len zs
    exact bvalid_of (by rw [h4]; exact encB_bits _ _ h1 h2) (by omega)
theorem dec_of_enc {zs : List Int} (h : okE zs = true) : decL (encL zs) = zs ∧ badN (encL zs) = 0 := by
  obtain ⟨h1, h2, h3, h4⟩ := okE_is h
  have hb := encB_bits _ _ h1 h2
  have hl := encB_length (zs.length / 4) zs
  have hok := okD_mk hb _ hl (by omega)
  obtain ⟨_, _, _, e1, e2⟩ := okD_is hok
  obtain ⟨k1, k2⟩ := decB_encB (zs.length / 4) zs h1 h2
  have hd : (encB (zs.length / 4) zs).length / 7 = zs.length / 4 := by omega
  rw [h4, e1, e2, hd, k1, k2]
  exact ⟨rfl, rfl⟩
theorem enc_split {zs : List Int} (h : okE zs = true) (k : Nat) (hk : 4 * k ≤ zs.length) : encL (zs.take (4 * k)) ++ encL (zs.drop (4 * k)) = encL zs := by
  obtain ⟨h1, h2, h3, h4⟩ := okE_is h
  have l1 : (zs.take (4 * k)).length = 4 * k := by simp; omega
  have l2 : (zs.drop (4 * k)).length = 4 * (zs.length / 4 - k) := by simp; omega
  obtain ⟨_, _, _, e1⟩ := okE_is (okE_mk (h1.take _) k l1 (by omega))
  obtain ⟨_, _, _, e2⟩ := okE_is (okE_mk (h1.drop _) _ l2 (by omega))
  rw [e1, e2, h4, l1, l2, Nat.mul_div_cancel_left _ (by omega), Nat.mul_div_cancel_left _ (by omega), encB_take k zs _ (Nat.le_refl _), ← encB_app]
  congr 1; omega
theorem near_dec {zs : List Int} (h : okD zs = true) : okE (decL zs) = true ∧ hamZ (encL (decL zs)) zs = badN zs ∧ badN zs ≤ zs.length / 7 ∧ (encL (decL zs)).length = zs.length := by
  obtain ⟨h1, h2, h3, e1, e2⟩ := okD_is h
  have hb := decB_bits _ _ h1 h2
  have hl := decB_length (zs.length / 7) zs
  have hok : okE (decL zs) = true := by rw [e1]; exact okE_mk hb _ hl (by omega)
  obtain ⟨_, _, _, e3⟩ := okE_is hok
  have hd : (decL zs).length / 4 = zs.length / 7 := by rw [e1, hl]; omega
  rw [hd, e1] at e3
  refine ⟨hok, ?_, ?_, ?_⟩
  · rw [e1, e3, e2]; exact decB_near _ _ h1 h2
  · rw [e2]; have := badB_le (zs.length / 7) zs; omega
  · rw [e1, e3, encB_length]; omega
theorem flipped {zs : List Int} (h : okE zs = true) (ps : Nat → Nat) (hp : ∀ k, ps k < 7) : okD (flipB ps (zs.length / 4) (encL zs)) = true → decL (flipB ps (zs.length / 4) (encL zs)) = zs ∧ badN (flipB ps (zs.length / 4) (encL zs)) = (zs.length / 4 : Nat) := by
  obtain ⟨h1, h2, h3, h4⟩ := okE_is h
  intro hok
  obtain ⟨_, _, _, e1, e2⟩ := okD_is hok
  obtain ⟨k1, k2⟩ := checked_blocks ps hp (zs.length / 4) zs h1 h2
  have hl : (flipB ps (zs.length / 4) (encL zs)).length / 7 = zs.length / 4 := by rw [flipB_length, h4, encB_length]; omega
  rw [e1, e2, hl, h4, k1, k2]
  exact ⟨rfl, rfl⟩
theorem flipB_bits (ps : Nat → Nat) (hp : ∀ k, ps k < 7) : ∀ (n : Nat) (zs : List Int), BitL zs → 7 * n ≤ zs.length → BitL (flipB ps n zs)
  | 0, _, h, _ => h
  | n + 1, zs, h, hl => flip_bits (flipB_bits ps hp n zs h (by omega)) _ (by rw [flipB_length]; have := hp n; omega)
theorem flipped_ok {zs : List Int} (h : okE zs = true) (ps : Nat → Nat) (hp : ∀ k, ps k < 7) : okD (flipB ps (zs.length / 4) (encL zs)) = true := by
  obtain ⟨h1, h2, h3, h4⟩ := okE_is h
  have hl := encB_length (zs.length / 4) zs
  rw [h4]
  exact okD_mk (flipB_bits ps hp _ _ (encB_bits _ _ h1 h2) (by omega)) (zs.length / 4) (by rw [flipB_length, hl]) (by omega)
end Go.Proofs.YtpfbmfnfcppjeadDoor
