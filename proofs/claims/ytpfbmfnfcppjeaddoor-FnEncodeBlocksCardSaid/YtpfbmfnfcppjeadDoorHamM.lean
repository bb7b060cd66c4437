/-
  Plain laws of distances and sums of lists of bits. No program stands here.
-/
import Derived.Test.YtpfbmfnfcppjeadDoorHam
namespace Go.Proofs.YtpfbmfnfcppjeadDoor

theorem xorB_comm (x y : Int) : xorB x y = xorB y x := by unfold xorB; by_cases h : x = y <;> simp [h, eq_comm]
theorem xorB_self (x : Int) : xorB x x = 0 := by simp [xorB]
theorem xorB_zero {x : Int} (h : x = 0 ∨ x = 1) : xorB x 0 = x := by rcases h with rfl | rfl <;> rfl
theorem xorB_bit (x y : Int) : xorB x y = 0 ∨ xorB x y = 1 := by unfold xorB; split <;> simp
theorem xorB_xorB {x y : Int} (hx : x = 0 ∨ x = 1) (hy : y = 0 ∨ y = 1) : xorB (xorB x y) y = x := by rcases hx with rfl | rfl <;> rcases hy with rfl | rfl <;> rfl
theorem xorB_tri (x y z : Int) : xorB x y ≤ xorB x z + xorB z y := by
  unfold xorB
  by_cases h1 : x = y <;> by_cases h2 : x = z <;> by_cases h3 : z = y <;> simp_all
theorem ham_comm : ∀ xs ys : List Int, ham xs ys = ham ys xs
  | [], [] => rfl
  | [], _ :: _ => rfl
  | _ :: _, [] => rfl
  | x :: xs, y :: ys => by simp only [ham]; rw [xorB_comm, ham_comm xs ys]
theorem ham_tri : ∀ xs ys zs : List Int, xs.length = ys.length → zs.length = xs.length → ham xs ys ≤ ham xs zs + ham zs ys
  | [], [], [], _, _ => by simp [ham]
  | x :: xs, y :: ys, z :: zs, h, k => by
    have := ham_tri xs ys zs (by simpa using h) (by simpa using k)
    have := xorB_tri x y z
    simp only [ham]; omega
  | [], _ :: _, _, h, _ => by simp at h
  | _ :: _, [], _, h, _ => by simp at h
  | [], [], _ :: _, _, k => by simp at k
  | _ :: _, _ :: _, [], _, k => by simp at k
theorem ham_zero : ∀ xs ys : List Int, xs.length = ys.length → (ham xs ys = 0 ↔ xs = ys)
  | [], [], _ => by simp [ham]
  | x :: xs, y :: ys, h => by
    have ih := ham_zero xs ys (by simpa using h)
    have h1 := xorB_le x y
    have h2 := ham_le xs ys
    have h3 : xorB x y = 0 ↔ x = y := by unfold xorB; split <;> simp [*]
    simp only [ham, List.cons.injEq]
    constructor
    · intro e; exact ⟨h3.1 (by omega), ih.1 (by omega)⟩
    · rintro ⟨e1, e2⟩; have := h3.2 e1; have := ih.2 e2; omega
  | [], _ :: _, h => by simp at h
  | _ :: _, [], h => by simp at h
theorem ham_sum : ∀ xs ys : List Int, xs.length = ys.length → ham (List.zipWith xorB xs ys) (List.replicate xs.length 0) = ham xs ys
  | [], [], _ => by simp [ham]
  | x :: xs, y :: ys, h => by
    have ih := ham_sum xs ys (by simpa using h)
    simp only [List.zipWith_cons_cons, List.length_cons, List.replicate_succ, ham, ih, xorB_zero (xorB_bit x y)]
  | [], _ :: _, h => by simp at h
  | _ :: _, [], h => by simp at h
theorem all_bits {zs : List Int} (h : validB zs = true) : ∀ x ∈ zs, x = 0 ∨ x = 1 := by
  simp only [validB, Bool.and_eq_true, List.all_eq_true] at h
  intro x hx
  simpa [bitB] using h.2 x hx
theorem valid_of {zs : List Int} (h1 : zs.length ≤ 1024) (h2 : ∀ x ∈ zs, x = 0 ∨ x = 1) : validB zs = true := by
  simp only [validB, Bool.and_eq_true, decide_eq_true_eq, List.all_eq_true]
  exact ⟨h1, fun x hx => by simpa [bitB] using h2 x hx⟩
theorem valid_reverse {zs : List Int} (h : validB zs = true) : validB zs.reverse = true :=
  valid_of (by have := valid_len h; simpa using this) (fun x hx => all_bits h x (by simpa using hx))
theorem valid_zip {xs ys : List Int} (h : xs.length ≤ 1024) : validB (List.zipWith xorB xs ys) = true :=
  valid_of (by simp; omega) (fun x hx => by
    obtain ⟨i, hi, rfl⟩ := List.getElem_of_mem hx
    rw [List.getElem_zipWith]; exact xorB_bit _ _)
theorem valid_zeros {n : Nat} (h : n ≤ 1024) : validB (List.replicate n (0 : Int)) = true := valid_of (by simpa using h) (fun x hx => .inl (List.eq_of_mem_replicate hx))
theorem sameB_parts {xs ys : List Int} (h : sameB xs ys = true) : validB xs = true ∧ validB ys = true ∧ xs.length = ys.length := by
  simp only [sameB, Bool.and_eq_true, decide_eq_true_eq] at h; exact ⟨h.1.1, h.1.2, h.2⟩
theorem sameB_mk {xs ys : List Int} (h1 : validB xs = true) (h2 : validB ys = true) (h3 : xs.length = ys.length) : sameB xs ys = true := by simp [sameB, h1, h2, h3]
theorem sameB_comm (xs ys : List Int) : sameB xs ys = sameB ys xs := by
  rw [Bool.eq_iff_iff]
  constructor <;> intro h <;> obtain ⟨h1, h2, h3⟩ := sameB_parts h <;> exact sameB_mk h2 h1 h3.symm
theorem hamD_comm (xs ys : List Int) : hamD xs ys = hamD ys xs := by unfold hamD; rw [sameB_comm, ham_comm]
theorem hamD_neg {xs ys : List Int} (h : sameB xs ys = false) : hamD xs ys = -1 := by simp [hamD, h]
theorem hamD_pos {xs ys : List Int} (h : sameB xs ys = true) : hamD xs ys = ham xs ys := by simp [hamD, h]
theorem zip_comm (xs : List Int) : ∀ ys : List Int, List.zipWith xorB xs ys = List.zipWith xorB ys xs := by
  intro ys; rw [List.zipWith_comm]; congr 1; funext a b; exact xorB_comm _ _
theorem addL_comm (xs ys : List Int) : addL xs ys = addL ys xs := by unfold addL; rw [sameB_comm, zip_comm]
theorem zip_zip : ∀ xs ys : List Int, xs.length = ys.length → (∀ x ∈ xs, x = 0 ∨ x = 1) → (∀ y ∈ ys, y = 0 ∨ y = 1) → List.zipWith xorB (List.zipWith xorB xs ys) ys = xs
  | [], [], _, _, _ => rfl
  | x :: xs, y :: ys, h, hx, hy => by
    simp only [List.zipWith_cons_cons, xorB_xorB (hx x (by simp)) (hy y (by simp)), zip_zip xs ys (by simpa using h) (fun z hz => hx z (by simp [hz])) (fun z hz => hy z (by simp [hz]))]
  | [], _ :: _, h, _, _ => by simp at h
  | _ :: _, [], h, _, _ => by simp at h
theorem zip_self : ∀ xs : List Int, List.zipWith xorB xs xs = List.replicate xs.length 0
  | [] => rfl
  | x :: xs => by rw [List.zipWith_cons_cons, xorB_self, zip_self xs]; rfl
theorem addL_same {xs ys : List Int} (h : sameB xs ys = true) : addL xs ys = List.zipWith xorB xs ys := by simp [addL, h]
theorem addL_valid {xs ys : List Int} (h : sameB xs ys = true) : validB (addL xs ys) = true ∧ (addL xs ys).length = xs.length := by
  obtain ⟨h1, h2, h3⟩ := sameB_parts h
  rw [addL_same h]
  exact ⟨valid_zip (valid_len h1), by simp; omega⟩
theorem addL_back {xs ys : List Int} (h : sameB xs ys = true) : addL (addL xs ys) ys = xs := by
  obtain ⟨h1, h2, h3⟩ := sameB_parts h
  obtain ⟨h4, h5⟩ := addL_valid h
  rw [addL_same (sameB_mk h4 h2 (by omega)), addL_same h, zip_zip xs ys h3 (all_bits h1) (all_bits h2)]
theorem addL_self {xs : List Int} (h : validB xs = true) : addL xs xs = List.replicate xs.length 0 := by
  rw [addL_same (sameB_mk h h rfl), zip_self]
theorem hamD_sum {xs ys : List Int} (h : sameB xs ys = true) : hamD (addL xs ys) (List.replicate xs.length 0) = hamD xs ys := by
  obtain ⟨h1, h2, h3⟩ := sameB_parts h
  obtain ⟨h4, h5⟩ := addL_valid h
  rw [hamD_pos (sameB_mk h4 (valid_zeros (valid_len h1)) (by simp [h5])), hamD_pos h, addL_same h, ham_sum xs ys h3]
theorem hamD_zero {xs ys : List Int} (h : sameB xs ys = true) : (hamD xs ys == 0) = (xs == ys) := by
  obtain ⟨h1, h2, h3⟩ := sameB_parts h
  rw [hamD_pos h, Bool.eq_iff_iff, beq_iff_eq, beq_iff_eq, ham_zero xs ys h3]
theorem hamD_le {xs ys : List Int} (h : sameB xs ys = true) : 0 ≤ hamD xs ys ∧ hamD xs ys ≤ xs.length := by rw [hamD_pos h]; exact ham_le xs ys
theorem hamD_tri {xs ys : List Int} (h : sameB xs ys = true) : hamD xs ys ≤ hamD xs xs.reverse + hamD xs.reverse ys := by
  obtain ⟨h1, h2, h3⟩ := sameB_parts h
  have hr := valid_reverse h1
  rw [hamD_pos h, hamD_pos (sameB_mk h1 hr (by simp)), hamD_pos (sameB_mk hr h2 (by simpa using h3))]
  exact ham_tri xs ys xs.reverse h3 (by simp)
theorem hamD_ge (xs ys : List Int) : -1 ≤ hamD xs ys ∧ hamD xs ys ≤ xs.length := by
  unfold hamD; have := ham_le xs ys; split <;> omega
theorem rev_step (xs : List Int) (j : Nat) (hj : j < xs.length) : (xs.drop j).reverse = (xs.drop (j + 1)).reverse ++ [xs[j]] := by
  rw [List.drop_eq_getElem_cons hj]; simp
end Go.Proofs.YtpfbmfnfcppjeadDoor
