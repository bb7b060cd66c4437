/-
  Bursts, by the program and by the reference.
-/
import Derived.Test.YtpfbmfnfcppjeacChk8
namespace Go.Proofs.Ytpfbmfnfcppjeac
open Go.RowKit

theorem addAt_get (xs : List Int) (p : Nat) (bs : List Int) (h : p + bs.length ≤ xs.length) (i : Nat) : (addAt xs p bs)[i]? = if p ≤ i ∧ i < p + bs.length then some (xorB (xs.getD i 0) (bs.getD (i - p) 0)) else xs[i]? := by
  have l1 : (xs.take p).length = p := by rw [List.length_take]; omega
  have l2 : (List.zipWith xorB ((xs.drop p).take bs.length) bs).length = bs.length := by rw [List.length_zipWith, List.length_take, List.length_drop]; omega
  unfold addAt
  by_cases h1 : i < p
  · rw [List.append_assoc, List.getElem?_append_left (by omega), List.getElem?_take_of_lt h1, if_neg (by omega)]
  · by_cases h2 : i < p + bs.length
    · rw [List.getElem?_append_left (by rw [List.length_append]; omega), List.getElem?_append_right (by omega), l1, if_pos ⟨by omega, h2⟩]
      rw [List.getElem?_zipWith, List.getElem?_take_of_lt (by omega), List.getElem?_drop]
      have e1 : p + (i - p) = i := by omega
      rw [e1, List.getElem?_eq_getElem (show i < xs.length by omega), List.getElem?_eq_getElem (show i - p < bs.length by omega)]
      simp [List.getD, show i < xs.length by omega, show i - p < bs.length by omega]
    · rw [List.getElem?_append_right (by rw [List.length_append]; omega), List.length_append, l1, l2, List.getElem?_drop, if_neg (by omega)]
      congr 1; omega
theorem addAt_nil (xs : List Int) (p : Nat) : addAt xs p [] = xs := by simp [addAt]
theorem addAt_step (xs : List Int) (p : Nat) (bs : List Int) (k : Nat) (h : p + bs.length ≤ xs.length) (hk : k < bs.length) :
    (addAt xs p (bs.take k)).set (p + k) (xorB (xs.getD (p + k) 0) (bs.getD k 0)) = addAt xs p (bs.take (k + 1)) := by
  have l1 : (bs.take k).length = k := by rw [List.length_take]; omega
  have l2 : (bs.take (k + 1)).length = k + 1 := by rw [List.length_take]; omega
  have hl := addAt_length xs p (bs.take k) (by omega)
  apply List.ext_getElem?
  intro i
  rw [addAt_get xs p _ (by omega), l2]
  by_cases e : i = p + k
  · subst e
    rw [List.getElem?_set_self (by omega), if_pos ⟨by omega, by omega⟩]
    simp [List.getD]
  · rw [List.getElem?_set_ne (by omega), addAt_get xs p _ (by omega), l1]
    by_cases h2 : p ≤ i ∧ i < p + k
    · rw [if_pos h2, if_pos ⟨h2.1, by omega⟩]
      simp [List.getD, show i - p < k by omega, show i - p < k + 1 by omega]
    · rw [if_neg h2, if_neg (by omega)]
theorem addAt_at (xs : List Int) (p : Nat) (bs : List Int) (k : Nat) (h : p + bs.length ≤ xs.length) (hk : k < bs.length) : (addAt xs p (bs.take k)).getD (p + k) 0 = xs.getD (p + k) 0 := by
  have l1 : (bs.take k).length = k := by rw [List.length_take]; omega
  rw [List.getD, addAt_get xs p _ (by omega), l1, if_neg (by omega), List.getD]
theorem bit_at {zs : List Int} (h : validB zs = true) (k : Nat) (hk : k < zs.length) : zs.getD k 0 = 0 ∨ zs.getD k 0 = 1 := by
  have := valid_bit h k hk
  simpa [List.getD, hk] using this
theorem passB_parts {zs : List Int} {g : Int} (h : passB zs g = true) : validB zs = true ∧ genB g = true ∧ 1 ≤ zs.length := by
  simp only [passB, Bool.and_eq_true, decide_eq_true_eq] at h
  obtain ⟨⟨⟨h1, h2⟩, h3⟩, _⟩ := h
  obtain ⟨G, rfl, _⟩ := gen_nat h2
  have := (gen_is h2).pos
  exact ⟨h1, h2, by omega⟩
theorem own_slice {e : Nat} {k : IntKind} {B : Nat} {w : World} {v : Value} {zs : List Int} (h : OwnK e k B w v zs) (n : Nat) (hn : zs.length = n) (hp : 0 < n) : ∃ g c, v = .slice (some ⟨g, 0, none⟩) n c := by
  subst hn
  rcases h.form with ⟨_, h0⟩ | ⟨g, c, e, _⟩
  · subst h0; simp at hp
  · exact ⟨g, c, e⟩
end Go.Proofs.Ytpfbmfnfcppjeac
