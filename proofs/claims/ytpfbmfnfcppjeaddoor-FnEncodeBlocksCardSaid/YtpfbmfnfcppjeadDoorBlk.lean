/-
  The block code with seven places, as plain lists of bits: code words, syndromes, corrections, block by block. No program stands here.
-/
import Derived.Test.YtpfbmfnfcppjeadDoorCrc
namespace Go.Proofs.YtpfbmfnfcppjeadDoor

/-- The code word of four bits. -/
def enc (zs : List Int) : List Int :=
  let a := zs.getD 0 0; let b := zs.getD 1 0; let c := zs.getD 2 0; let d := zs.getD 3 0
  [xorZ (xorZ a b) d, xorZ (xorZ a c) d, a, xorZ (xorZ b c) d, b, c, d]
/-- The exclusive or of the numbers of all places whose bit is 1, on from n, the places counted on from k. -/
def syn (n k : Nat) : List Int → Nat
  | [] => n
  | b :: bs => syn (if b = 1 then n ^^^ (k + 1) else n) (k + 1) bs
theorem syn_snoc : ∀ (zs : List Int) (n k : Nat) (b : Int), syn n k (zs ++ [b]) = if b = 1 then syn n k zs ^^^ (k + zs.length + 1) else syn n k zs
  | [], _, _, _ => rfl
  | z :: zs, n, k, b => by
    rw [List.cons_append, syn, syn, syn_snoc zs, List.length_cons, show k + 1 + zs.length + 1 = k + (zs.length + 1) + 1 by omega]
theorem syn_take (zs : List Int) (k : Nat) (hk : k < zs.length) : syn 0 0 (zs.take (k + 1)) = if zs[k] = 1 then syn 0 0 (zs.take k) ^^^ (k + 1) else syn 0 0 (zs.take k) := by
  rw [List.take_add_one, List.getElem?_eq_getElem hk, Option.toList_some, syn_snoc, List.length_take, Nat.min_eq_left (by omega)]; simp
theorem syn_lt : ∀ (zs : List Int) (n k : Nat), n < 8 → k + zs.length ≤ 7 → syn n k zs < 8
  | [], _, _, h, _ => h
  | z :: zs, n, k, h, hk => by
    simp at hk
    rw [syn]
    refine syn_lt zs _ _ ?_ (by omega)
    split
    · exact Nat.xor_lt_two_pow (n := 3) (by omega) (by omega)
    · exact h
/-- One bit of a corrected word. -/
def fixAt (s : Nat) (zs : List Int) (i : Nat) : Int := if i + 1 = s then 1 - zs.getD i 0 else zs.getD i 0
def dec (zs : List Int) : List Int := [fixAt (syn 0 0 zs) zs 2, fixAt (syn 0 0 zs) zs 4, fixAt (syn 0 0 zs) zs 5, fixAt (syn 0 0 zs) zs 6]
def wrongB (zs : List Int) : Bool := syn 0 0 zs != 0
def wrongN (zs : List Int) : Nat := if wrongB zs then 1 else 0
/-- The bit in a place is inverted. -/
def flipAt (zs : List Int) (i : Nat) : List Int := zs.set i (1 - zs.getD i 0)
/-- In how many places two lists differ. -/
def hamZ : List Int → List Int → Int
  | x :: xs, y :: ys => xorZ x y + hamZ xs ys
  | _, _ => 0
theorem hamZ_append : ∀ (xs ys us vs : List Int), xs.length = ys.length → hamZ (xs ++ us) (ys ++ vs) = hamZ xs ys + hamZ us vs
  | [], [], _, _, _ => by simp [hamZ]
  | [], _ :: _, _, _, h => by simp at h
  | _ :: _, [], _, _, h => by simp at h
  | x :: xs, y :: ys, us, vs, h => by
    simp only [List.cons_append, hamZ]
    rw [hamZ_append xs ys us vs (by simpa using h)]; omega

def bi (b : Bool) : Int := if b then 1 else 0
def n4 (a b c d : Bool) : List Int := [bi a, bi b, bi c, bi d]
def w7 (a b c d e f g : Bool) : List Int := [bi a, bi b, bi c, bi d, bi e, bi f, bi g]
theorem bit_bi {x : Int} (h : x = 0 ∨ x = 1) : ∃ b, x = bi b := by rcases h with rfl | rfl; exact ⟨false, rfl⟩; exact ⟨true, rfl⟩
theorem bits4 {zs : List Int} (h : BitL zs) (hl : zs.length = 4) : ∃ a b c d, zs = n4 a b c d := by
  match zs, hl with
  | [x0, x1, x2, x3], _ =>
    obtain ⟨a, rfl⟩ := bit_bi (h x0 (by simp)); obtain ⟨b, rfl⟩ := bit_bi (h x1 (by simp))
    obtain ⟨c, rfl⟩ := bit_bi (h x2 (by simp)); obtain ⟨d, rfl⟩ := bit_bi (h x3 (by simp))
    exact ⟨a, b, c, d, rfl⟩
theorem bits7 {zs : List Int} (h : BitL zs) (hl : zs.length = 7) : ∃ a b c d e f g, zs = w7 a b c d e f g := by
  match zs, hl with
  | [x0, x1, x2, x3, x4, x5, x6], _ =>
    obtain ⟨a, rfl⟩ := bit_bi (h x0 (by simp)); obtain ⟨b, rfl⟩ := bit_bi (h x1 (by simp))
    obtain ⟨c, rfl⟩ := bit_bi (h x2 (by simp)); obtain ⟨d, rfl⟩ := bit_bi (h x3 (by simp))
    obtain ⟨e, rfl⟩ := bit_bi (h x4 (by simp)); obtain ⟨f, rfl⟩ := bit_bi (h x5 (by simp))
    obtain ⟨g, rfl⟩ := bit_bi (h x6 (by simp))
    exact ⟨a, b, c, d, e, f, g, rfl⟩
theorem enc_length (zs : List Int) : (enc zs).length = 7 := rfl
theorem dec_length (zs : List Int) : (dec zs).length = 4 := rfl
theorem xorZ_bit (x y : Int) : xorZ x y = 0 ∨ xorZ x y = 1 := by unfold xorZ; split <;> simp
theorem enc_bits {zs : List Int} (h : BitL zs) (hl : zs.length = 4) : BitL (enc zs) := by
  obtain ⟨a, b, c, d, rfl⟩ := bits4 h hl
  clear h hl
  revert a b c d; unfold BitL; decide
theorem dec_bits {zs : List Int} (h : BitL zs) (hl : zs.length = 7) : BitL (dec zs) := by
  obtain ⟨a, b, c, d, e, f, g, rfl⟩ := bits7 h hl
  clear h hl
  revert a b c d e f g; unfold BitL; decide +kernel
theorem syn_enc {zs : List Int} (h : BitL zs) (hl : zs.length = 4) : syn 0 0 (enc zs) = 0 := by
  obtain ⟨a, b, c, d, rfl⟩ := bits4 h hl
  clear h hl
  revert a b c d; decide
theorem dec_enc {zs : List Int} (h : BitL zs) (hl : zs.length = 4) : dec (enc zs) = zs := by
  obtain ⟨a, b, c, d, rfl⟩ := bits4 h hl
  clear h hl
  revert a b c d; decide
theorem syn_flip {zs : List Int} (h : BitL zs) (hl : zs.length = 7) (hs : syn 0 0 zs ≠ 0) : syn 0 0 (flipAt zs (syn 0 0 zs - 1)) = 0 := by
  obtain ⟨a, b, c, d, e, f, g, rfl⟩ := bits7 h hl
  clear h hl
  revert hs; revert a b c d e f g; decide +kernel
theorem enc_far {xs ys : List Int} (hx : BitL xs) (hlx : xs.length = 4) (hy : BitL ys) (hly : ys.length = 4) (hne : xs ≠ ys) : 3 ≤ hamZ (enc xs) (enc ys) := by
  obtain ⟨a, b, c, d, rfl⟩ := bits4 hx hlx
  obtain ⟨e, f, g, i, rfl⟩ := bits4 hy hly
  clear hx hlx hy hly
  revert hne; revert a b c d e f g i; decide +kernel
theorem dec_near {zs : List Int} (h : BitL zs) (hl : zs.length = 7) : hamZ (enc (dec zs)) zs = wrongN zs := by
  obtain ⟨a, b, c, d, e, f, g, rfl⟩ := bits7 h hl
  clear h hl
  revert a b c d e f g; decide +kernel
theorem enc_xor {xs ys : List Int} (hx : BitL xs) (hlx : xs.length = 4) (hy : BitL ys) (hly : ys.length = 4) : enc (List.zipWith xorZ xs ys) = List.zipWith xorZ (enc xs) (enc ys) := by
  obtain ⟨a, b, c, d, rfl⟩ := bits4 hx hlx
  obtain ⟨e, f, g, i, rfl⟩ := bits4 hy hly
  clear hx hlx hy hly
  revert a b c d e f g i; decide +kernel
theorem flip_two {zs : List Int} (h : BitL zs) (hl : zs.length = 4) : ∀ i, i < 7 → ∀ j, j < 7 → i ≠ j → wrongB (flipAt (flipAt (enc zs) i) j) = true ∧ dec (flipAt (flipAt (enc zs) i) j) ≠ zs := by
  obtain ⟨a, b, c, d, rfl⟩ := bits4 h hl
  clear h hl
  revert a b c d; decide +kernel
theorem flip_one {zs : List Int} (h : BitL zs) (hl : zs.length = 4) : ∀ i, i < 7 → wrongB (flipAt (enc zs) i) = true ∧ dec (flipAt (enc zs) i) = zs := by
  obtain ⟨a, b, c, d, rfl⟩ := bits4 h hl
  clear h hl
  revert a b c d; decide +kernel
theorem flip_bits {zs : List Int} (h : BitL zs) (i : Nat) (hi : i < zs.length) : BitL (flipAt zs i) := by
  intro z hz
  unfold flipAt at hz
  rcases List.mem_or_eq_of_mem_set hz with hz | rfl
  · exact h z hz
  · have : zs.getD i 0 ∈ zs := by rw [List.getD, List.getElem?_eq_getElem hi]; exact List.getElem_mem hi
    rcases h _ this with e | e <;> rw [e] <;> simp
theorem flip_length (zs : List Int) (i : Nat) : (flipAt zs i).length = zs.length := by simp [flipAt]

/-- Block by block. -/
def encB : Nat → List Int → List Int
  | 0, _ => []
  | n + 1, zs => enc (zs.take 4) ++ encB n (zs.drop 4)
def decB : Nat → List Int → List Int
  | 0, _ => []
  | n + 1, zs => dec (zs.take 7) ++ decB n (zs.drop 7)
def badB : Nat → List Int → Nat
  | 0, _ => 0
  | n + 1, zs => wrongN (zs.take 7) + badB n (zs.drop 7)
theorem encB_length : ∀ (n : Nat) (zs : List Int), (encB n zs).length = 7 * n
  | 0, _ => rfl
  | n + 1, zs => by rw [encB, List.length_append, encB_length n, enc_length]; omega
theorem decB_length : ∀ (n : Nat) (zs : List Int), (decB n zs).length = 4 * n
  | 0, _ => rfl
  | n + 1, zs => by rw [decB, List.length_append, decB_length n, dec_length]; omega
theorem encB_succ : ∀ (n : Nat) (zs : List Int), encB (n + 1) zs = encB n zs ++ enc ((zs.drop (4 * n)).take 4)
  | 0, zs => by simp [encB]
  | n + 1, zs => by
    rw [encB, encB_succ n, encB, List.append_assoc, show 4 * (n + 1) = 4 + 4 * n by omega, ← List.drop_drop]
theorem decB_succ : ∀ (n : Nat) (zs : List Int), decB (n + 1) zs = decB n zs ++ dec ((zs.drop (7 * n)).take 7)
  | 0, zs => by simp [decB]
  | n + 1, zs => by
    rw [decB, decB_succ n, decB, List.append_assoc, show 7 * (n + 1) = 7 + 7 * n by omega, ← List.drop_drop]
theorem badB_succ : ∀ (n : Nat) (zs : List Int), badB (n + 1) zs = badB n zs + wrongN ((zs.drop (7 * n)).take 7)
  | 0, zs => by simp [badB]
  | n + 1, zs => by
    rw [badB, badB_succ n, badB, show 7 * (n + 1) = 7 + 7 * n by omega, ← List.drop_drop, Nat.add_assoc]
theorem wrongN_le (zs : List Int) : wrongN zs ≤ 1 := by unfold wrongN; split <;> omega
theorem badB_le : ∀ (n : Nat) (zs : List Int), badB n zs ≤ n
  | 0, _ => by simp [badB]
  | n + 1, zs => by have := badB_le n (zs.drop 7); have := wrongN_le (zs.take 7); rw [badB]; omega
theorem encB_app : ∀ (m n : Nat) (zs : List Int), encB (m + n) zs = encB m zs ++ encB n (zs.drop (4 * m))
  | 0, n, zs => by simp [encB]
  | m + 1, n, zs => by
    rw [show m + 1 + n = (m + n) + 1 by omega, encB, encB_app m n, encB, List.append_assoc, show 4 * (m + 1) = 4 + 4 * m by omega, ← List.drop_drop]
theorem encB_take : ∀ (n : Nat) (zs : List Int) (m : Nat), 4 * n ≤ m → encB n (zs.take m) = encB n zs
  | 0, _, _, _ => rfl
  | n + 1, zs, m, h => by
    rw [encB, encB, List.take_take, Nat.min_eq_left (by omega), List.drop_take, encB_take n _ _ (by omega)]
theorem encB_bits : ∀ (n : Nat) (zs : List Int), BitL zs → zs.length = 4 * n → BitL (encB n zs)
  | 0, _, _, _ => BitL.nil
  | n + 1, zs, h, hl => by
    rw [encB]
    exact (enc_bits (h.take 4) (by simp; omega)).app (encB_bits n _ (h.drop 4) (by simp; omega))
theorem decB_bits : ∀ (n : Nat) (zs : List Int), BitL zs → zs.length = 7 * n → BitL (decB n zs)
  | 0, _, _, _ => BitL.nil
  | n + 1, zs, h, hl => by
    rw [decB]
    exact (dec_bits (h.take 7) (by simp; omega)).app (decB_bits n _ (h.drop 7) (by simp; omega))
theorem take_enc (zs r : List Int) : (enc zs ++ r).take 7 = enc zs := by rw [List.take_append, enc_length, List.take_of_length_le (by rw [enc_length]; omega)]; simp
theorem drop_enc (zs r : List Int) : (enc zs ++ r).drop 7 = r := by simp [List.drop_append, enc_length]
theorem take_dec (zs r : List Int) : (dec zs ++ r).take 4 = dec zs := by rw [List.take_append, dec_length, List.take_of_length_le (by rw [dec_length]; omega)]; simp
theorem drop_dec (zs r : List Int) : (dec zs ++ r).drop 4 = r := by simp [List.drop_append, dec_length]
theorem decB_encB : ∀ (n : Nat) (zs : List Int), BitL zs → zs.length = 4 * n → decB n (encB n zs) = zs ∧ badB n (encB n zs) = 0
  | 0, zs, _, hl => by rw [List.eq_nil_of_length_eq_zero (by omega : zs.length = 0)]; exact ⟨rfl, rfl⟩
  | n + 1, zs, h, hl => by
    obtain ⟨h1, h2⟩ := decB_encB n (zs.drop 4) (h.drop 4) (by simp; omega)
    have hl4 : (zs.take 4).length = 4 := by simp; omega
    rw [encB, decB, badB, take_enc, drop_enc, h1, h2, dec_enc (h.take 4) hl4]
    refine ⟨List.take_append_drop 4 zs, ?_⟩
    simp [wrongN, wrongB, syn_enc (h.take 4) hl4]
theorem decB_near : ∀ (n : Nat) (zs : List Int), BitL zs → zs.length = 7 * n → hamZ (encB n (decB n zs)) zs = badB n zs
  | 0, zs, _, hl => by rw [List.eq_nil_of_length_eq_zero (by omega : zs.length = 0)]; rfl
  | n + 1, zs, h, hl => by
    have h1 := decB_near n (zs.drop 7) (h.drop 7) (by simp; omega)
    have hl7 : (zs.take 7).length = 7 := by simp; omega
    have h2 := dec_near (h.take 7) hl7
    rw [decB, encB, take_dec, drop_dec, badB]
    have h3 := hamZ_append (enc (dec (zs.take 7))) (zs.take 7) (encB n (decB n (zs.drop 7))) (zs.drop 7) (by rw [hl7]; rfl)
    rw [List.take_append_drop] at h3
    rw [h3, h1, h2]; simp
/-- One error in every block: ps k is the place of block k. -/
def flipB (ps : Nat → Nat) : Nat → List Int → List Int
  | 0, zs => zs
  | n + 1, zs => flipAt (flipB ps n zs) (7 * n + ps n)
theorem flipB_length (ps : Nat → Nat) : ∀ (n : Nat) (zs : List Int), (flipB ps n zs).length = zs.length
  | 0, _ => rfl
  | n + 1, zs => by rw [flipB, flip_length, flipB_length ps n]
theorem flipB_get (ps : Nat → Nat) (hp : ∀ k, ps k < 7) : ∀ (n : Nat) (zs : List Int) (i : Nat), (flipB ps n zs).getD i 0 = if i / 7 < n ∧ i % 7 = ps (i / 7) ∧ i < zs.length then 1 - zs.getD i 0 else zs.getD i 0
  | 0, zs, i => by simp [flipB]
  | n + 1, zs, i => by
    rw [flipB, flipAt]
    have hpn := hp n
    have ih := flipB_get ps hp n zs
    have hlen := flipB_length ps n zs
    by_cases hi : i = 7 * n + ps n
    · subst hi
      have e1 : (7 * n + ps n) / 7 = n := by omega
      have e2 : (7 * n + ps n) % 7 = ps n := by omega
      by_cases hz : 7 * n + ps n < zs.length
      · rw [List.getD, List.getElem?_set_self (by rw [hlen]; exact hz), ih, e1, e2]
        simp [hz]
      · rw [List.getD, List.set_eq_of_length_le (by rw [hlen]; omega)]
        have := ih (7 * n + ps n)
        rw [List.getD] at this
        rw [this, e1, e2]
        simp [hz]
    · rw [List.getD, List.getElem?_set_ne (by omega)]
      have := ih i
      rw [List.getD] at this
      rw [this]
      by_cases h7 : i / 7 = n
      · have hne : i % 7 ≠ ps n := by omega
        rw [if_neg (by omega), if_neg]
        rw [h7]; omega
      · have : (i / 7 < n ∧ i % 7 = ps (i / 7) ∧ i < zs.length) ↔ (i / 7 < n + 1 ∧ i % 7 = ps (i / 7) ∧ i < zs.length) := by
          constructor
          · rintro ⟨a, b, c⟩; exact ⟨by omega, b, c⟩
          · rintro ⟨a, b, c⟩; exact ⟨by omega, b, c⟩
        simp only [this]
theorem encB_block : ∀ (n : Nat) (zs : List Int) (m : Nat), m < n → ((encB n zs).drop (7 * m)).take 7 = enc ((zs.drop (4 * m)).take 4)
  | 0, _, _, h => by omega
  | n + 1, zs, 0, _ => by rw [encB]; exact take_enc ..
  | n + 1, zs, m + 1, h => by
    rw [encB, show 7 * (m + 1) = 7 + 7 * m by omega, show 4 * (m + 1) = 4 + 4 * m by omega, ← List.drop_drop, ← List.drop_drop, drop_enc, encB_block n _ m (by omega)]
theorem ext_getD (xs ys : List Int) (hl : xs.length = ys.length) (h : ∀ i, i < xs.length → xs.getD i 0 = ys.getD i 0) : xs = ys := by
  apply List.ext_getElem hl
  intro i h1 h2
  have := h i h1
  simpa [List.getD, h1, h2] using this
theorem getD_block (xs : List Int) (m i : Nat) (hi : i < 7) : ((xs.drop (7 * m)).take 7).getD i 0 = xs.getD (7 * m + i) 0 := by
  simp [List.getD, hi]
theorem flipB_block (ps : Nat → Nat) (hp : ∀ k, ps k < 7) (n : Nat) (ws : List Int) (hl : ws.length = 7 * n) (m : Nat) (hm : m < n) : ((flipB ps n ws).drop (7 * m)).take 7 = flipAt ((ws.drop (7 * m)).take 7) (ps m) := by
  have h1 : ((ws.drop (7 * m)).take 7).length = 7 := by simp; omega
  have h2 := flipB_length ps n ws
  apply ext_getD
  · rw [flip_length, h1]; simp; omega
  · intro i hi
    have hi' : i < 7 := by simp at hi; omega
    rw [getD_block _ _ _ hi', flipB_get ps hp]
    have e1 : (7 * m + i) / 7 = m := by omega
    have e2 : (7 * m + i) % 7 = i := by omega
    rw [e1, e2, flipAt]
    by_cases hx : i = ps m
    · rw [if_pos ⟨hm, hx, by omega⟩, ← hx, List.getD, List.getD, List.getElem?_set_self (by omega), Option.getD_some, getD_block _ _ _ hi']; rfl
    · rw [if_neg (by omega), List.getD, List.getD, List.getElem?_set_ne (by omega)]
      have := getD_block ws m i hi'
      rw [List.getD, List.getD] at this
      exact this.symm
theorem decB_flipB (ps : Nat → Nat) (hp : ∀ k, ps k < 7) (n : Nat) (zs : List Int) (h : BitL zs) (hl : zs.length = 4 * n) : ∀ m, m ≤ n → decB m (flipB ps n (encB n zs)) = zs.take (4 * m) ∧ badB m (flipB ps n (encB n zs)) = m
  | 0, _ => by simp [decB, badB]
  | m + 1, hm => by
    obtain ⟨h1, h2⟩ := decB_flipB ps hp n zs h hl m (by omega)
    have hb := flipB_block ps hp n (encB n zs) (encB_length n zs) m (by omega)
    rw [encB_block n zs m (by omega)] at hb
    have hl4 : ((zs.drop (4 * m)).take 4).length = 4 := by simp; omega
    have hf := flip_one ((h.drop (4 * m)).take 4) hl4 (ps m) (hp m)
    rw [decB_succ, badB_succ, h1, h2, hb, hf.2]
    refine ⟨?_, by simp [wrongN, hf.1]⟩
    rw [show 4 * (m + 1) = 4 * m + 4 by omega, List.take_add]
theorem checked_blocks (ps : Nat → Nat) (hp : ∀ k, ps k < 7) (n : Nat) (zs : List Int) (h : BitL zs) (hl : zs.length = 4 * n) : decB n (flipB ps n (encB n zs)) = zs ∧ badB n (flipB ps n (encB n zs)) = n := by
  have := decB_flipB ps hp n zs h hl n (Nat.le_refl _)
  rw [← hl, List.take_length] at this
  exact this
end Go.Proofs.YtpfbmfnfcppjeadDoor
