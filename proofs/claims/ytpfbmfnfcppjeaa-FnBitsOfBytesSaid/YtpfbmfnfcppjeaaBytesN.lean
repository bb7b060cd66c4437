/-
  Plain laws: the bytes of the bits of bytes; append as a step of a region that draws.
-/
import Derived.Test.YtpfbmfnfcppjeaaBytesM
namespace Go.Proofs.Ytpfbmfnfcppjeaa
open Go.RowKit

theorem bits8_bit (z : Int) : ∀ x ∈ bits8 z, x = 0 ∨ x = 1 := by
  intro x hx
  simp only [bits8, List.mem_cons, List.not_mem_nil, or_false] at hx
  rcases hx with rfl | rfl | rfl | rfl | rfl | rfl | rfl | rfl <;> omega
theorem bitsL_bit (zs : List Int) : ∀ x ∈ bitsL zs, x = 0 ∨ x = 1 := by
  intro x hx
  simp only [bitsL, List.mem_flatMap] at hx
  obtain ⟨z, _, hz⟩ := hx
  exact bits8_bit z x hz
theorem bytesV_bitsOf {zs : List Int} (_h : Byt zs) (hl : zs.length ≤ 128) : bytesV (bitsOf zs) = true := by
  rw [bitsOf, if_pos hl]
  simp only [bytesV, Bool.and_eq_true, decide_eq_true_eq]
  exact ⟨valid_of (by rw [bitsL_length]; omega) (bitsL_bit zs), by rw [bitsL_length]; omega⟩
theorem bitsL_drop : ∀ (zs : List Int) (k : Nat), (bitsL zs).drop (8 * k) = bitsL (zs.drop k)
  | zs, 0 => by simp
  | [], k + 1 => by simp [bitsL]
  | z :: zs, k + 1 => by
    rw [List.drop_succ_cons, ← bitsL_drop zs k]
    rw [bitsL, List.flatMap_cons, ← bitsL, List.drop_append, bits8_length, List.drop_eq_nil_of_le (by rw [bits8_length]; omega), List.nil_append]
    congr 1
theorem bytesL_bitsL (zs : List Int) (h : Byt zs) : ∀ k, k ≤ zs.length → bytesL (bitsL zs) k = zs.take k
  | 0, _ => by simp [bytesL]
  | k + 1, hk => by
    rw [bytesL_step, bytesL_bitsL zs h k (by omega), take_succ' zs 0 k (by omega), bitsL_drop, List.drop_eq_getElem_cons (by omega), bitsL, List.flatMap_cons]
    rw [List.take_append_of_le_length (by rw [bits8_length]; omega), show (bits8 zs[k]).take 8 = bits8 zs[k] from rfl]
    have hz := h k (by omega)
    have e : zs.getD k 0 = zs[k] := by simp [List.getD, show k < zs.length by omega]
    rw [e] at hz ⊢
    rw [pack_bits8 _ hz.1 hz.2]
theorem bytes_back {zs : List Int} (h : Byt zs) (hl : zs.length ≤ 128) : bytesOf (bitsOf zs) = zs := by
  rw [bytesOf, if_pos (bytesV_bitsOf h hl), bitsOf, if_pos hl, bitsL_length, bytesL_bitsL zs h _ (by omega)]
  exact List.take_of_length_le (by omega)
theorem bitsOf_halves {zs : List Int} (hl : zs.length ≤ 128) (h : Nat) : bitsOf (zs.take h) ++ bitsOf (zs.drop h) = bitsOf zs := by
  rw [bitsOf, bitsOf, bitsOf, if_pos (by simp; omega), if_pos (by simp; omega), if_pos hl, bitsL, bitsL, bitsL, ← List.flatMap_append, List.take_append_drop]
theorem byt_take {zs : List Int} (h : Byt zs) (k : Nat) : Byt (zs.take k) := fun i hi => by
  have hi' : i < k ∧ i < zs.length := by simp at hi; omega
  have := h i hi'.2
  simpa [List.getD, List.getElem?_take, hi'.1] using this
theorem byt_drop {zs : List Int} (h : Byt zs) (k : Nat) : Byt (zs.drop k) := fun i hi => by
  have := h (k + i) (by simp at hi; omega)
  simpa [List.getD, List.getElem?_drop] using this
section
variable {ops : Array Oper} {o : Oper} {a : Act} {K : Act → World → Prop} {Q : Exit → Act → World → Prop} {E : Prop}
/-- append(v, ys..) as a step of a region that draws its order. -/
theorem st_apps {T e : Nat} {k : IntKind} (tab : Tab T e k) (w : World) (s x : Operand) (hop : o.op = .call { callee := .builtin .append, args := #[s, x], argTypes := #[T, T] }) (hg : Region.wanted o (yielded ops a.tmps) = true)
    (base : Nat) (v u : Value) (xs ys : List Int) (hs : a.eval s = v) (hx : a.eval x = u) (hown : OwnK e k base w v xs) (hrow : RowK k w u ys) (hn : xs.length + ys.length ≤ 1000000000) (hb : base ≤ w.heap.size)
    (hK : ∀ v' w', OwnK e k base w' v' (xs ++ ys) → w.grownBy w' v.ownBlock → NewAt w v v' → K (a.put o.dst v') w') : if Region.wanted o (yielded ops a.tmps) = true then Oper.wp Try.prog o a w K Q else E := by
  rw [if_pos hg]; exact op_apps tab w s x hop base v u xs ys hs hx hown hrow hn hb hK
end
end Go.Proofs.Ytpfbmfnfcppjeaa
