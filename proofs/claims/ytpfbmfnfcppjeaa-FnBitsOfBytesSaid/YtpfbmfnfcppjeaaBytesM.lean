/-
  Plain laws of bits and bytes, and the string of a list of bytes.
-/
import Derived.Test.YtpfbmfnfcppjeaaDraw3
import Derived.Test.YtpfbmfnfcppjeaaHamM
import Derived.Laws.BytesArg
namespace Go.Proofs.Ytpfbmfnfcppjeaa
open Go.RowKit

theorem nilSlice (B : Nat) (w : World) (hB : B ≤ w.heap.size) : OwnI B (w.alloc (.cells #[] 3)) (.slice (some ⟨w.heap.size, 0, none⟩) 0 0) [] := newSlice 3 .i64 B w hB
theorem pack_bits8 (z : Int) (h0 : 0 ≤ z) (h1 : z ≤ 255) : pack (bits8 z) = z := by
  simp only [pack, bits8, List.foldl_cons, List.foldl_nil]
  omega
theorem bits8_pack (l : List Int) (hl : l.length = 8) (hb : ∀ x ∈ l, x = 0 ∨ x = 1) : bits8 (pack l) = l := by
  match l, hl with
  | [a, b, c, d, e, f, g, h], _ =>
    simp only [List.mem_cons, List.not_mem_nil, or_false, forall_eq_or_imp, forall_eq] at hb
    obtain ⟨ha, hb, hc, hd, he, hf, hg, hh⟩ := hb
    have ha : 0 ≤ a ∧ a ≤ 1 := by omega
    have hb : 0 ≤ b ∧ b ≤ 1 := by omega
    have hc : 0 ≤ c ∧ c ≤ 1 := by omega
    have hd : 0 ≤ d ∧ d ≤ 1 := by omega
    have he : 0 ≤ e ∧ e ≤ 1 := by omega
    have hf : 0 ≤ f ∧ f ≤ 1 := by omega
    have hg : 0 ≤ g ∧ g ≤ 1 := by omega
    have hh : 0 ≤ h ∧ h ≤ 1 := by omega
    rename_i xa xb xc xd xe xf xg xh
    clear xa xb xc xd xe xf xg xh
    simp only [pack, bits8, List.foldl_cons, List.foldl_nil, List.cons.injEq, and_true]
    refine ⟨?_, ?_, ?_, ?_, ?_, ?_, ?_, ?_⟩ <;> omega
theorem bitsL_bytesL (xs : List Int) (hb : ∀ x ∈ xs, x = 0 ∨ x = 1) : ∀ k, 8 * k ≤ xs.length → bitsL (bytesL xs k) = xs.take (8 * k)
  | 0, _ => by simp [bytesL, bitsL]
  | k + 1, h => by
    have ih := bitsL_bytesL xs hb k (by omega)
    rw [bytesL_step, bitsL, List.flatMap_append, ← bitsL, ih]
    simp only [List.flatMap_cons, List.flatMap_nil, List.append_nil]
    rw [bits8_pack _ (by simp; omega) (fun x hx => hb x (List.mem_of_mem_drop (List.mem_of_mem_take hx))), ← List.take_add]
    congr 1
theorem bits_back {xs : List Int} (h : bytesV xs = true) : bitsOf (bytesOf xs) = xs := by
  have h' := h
  simp only [bytesV, Bool.and_eq_true, decide_eq_true_eq] at h'
  have hl := valid_len h'.1
  rw [bytesOf, if_pos h, bitsOf, bytesL_length, if_pos (by omega), bitsL_bytesL xs (bits_of_valid h'.1) _ (by omega)]
  exact List.take_of_length_le (by omega)
theorem bytesV_more {xs : List Int} (h : bytesV xs = true) (y : Int) : bytesV (xs ++ [y]) = false := by
  simp only [bytesV, Bool.and_eq_true, decide_eq_true_eq] at h
  simp only [bytesV, List.length_append, List.length_singleton, Bool.and_eq_false_imp, decide_eq_false_iff_not]
  intro _; omega
theorem byt_bytesOf (xs : List Int) : Byt (bytesOf xs) := by
  unfold bytesOf
  split
  · rename_i h
    simp only [bytesV, Bool.and_eq_true, decide_eq_true_eq] at h
    intro i hi
    rw [bytesL_length] at hi
    have := pack_lt xs (8 * i) 8 (bits_of_valid h.1) (by omega) (by omega)
    simp [bytesL, List.getD, hi]
    omega
  · intro i hi; simp at hi
theorem conv_bytes {w : World} {v : Value} {xs : List Int} (h : RowK .u8 w v xs) : (convert 22 9 v).run Try.prog w = .ok (.string (strOfNums xs)) w := by
  obtain ⟨a, cap, rfl, _, _, _, hc⟩ := h
  cases a with
  | none =>
    have : xs = [] := by
      cases xs with
      | nil => rfl
      | cons x xs => obtain ⟨_, _, h, _⟩ := hc (by simp); cases h
    subst this
    exact run_convert_bytes_nil w _ 5 Try.underlying22 Try.underlying5 _ _ _ Try.underlying9
  | some ad =>
    by_cases hp : 0 < xs.length
    · obtain ⟨b, off, e, hcell⟩ := hc hp
      cases e
      exact run_convert_bytes_arg w _ 5 Try.underlying22 Try.underlying5 b off _ cap xs rfl hcell _ Try.underlying9
    · have : xs = [] := List.length_eq_zero_iff.1 (by omega)
      subst this
      rw [run_convert_bytes_string w _ _ 5 _ _ _ Try.underlying22 Try.underlying5 Try.underlying9]
      exact run_bytesToString (P := Try.prog) w ad 0 cap [] (by simp [loadCells, loadCellsFrom, Sem.run_pure])
end Go.Proofs.Ytpfbmfnfcppjeaa
