/-
  Laws of the field on the numbers that the functions return. No program stands here.
-/
import Derived.Test.YtpfbmfnfcppjeabDoorField2
import Derived.Test.YtpfbmfnfcppjeabDoorRoots
namespace Go.Proofs.YtpfbmfnfcppjeabDoor

def two (a b : Int) : Bool := inB a 0 15 && inB b 0 15
theorem two_nat {a b : Int} (h : two a b = true) : ∃ A B : Nat, a = A ∧ b = B ∧ A < 16 ∧ B < 16 := by
  unfold two at h
  simp only [Bool.and_eq_true] at h
  obtain ⟨A, rfl, hA⟩ := inB_nat h.1
  obtain ⟨B, rfl, hB⟩ := inB_nat h.2
  exact ⟨A, B, rfl, rfl, hA, hB⟩
theorem fAdd_neg {a b : Int} (h : two a b = false) : fAdd a b = -1 := by unfold two at h; simp [fAdd, h]
theorem fMul_neg {a b : Int} (h : two a b = false) : fMul a b = -1 := by unfold two at h; simp [fMul, h]
theorem two_comm (a b : Int) : two b a = two a b := Bool.and_comm _ _
theorem fAdd_comm (a b : Int) : fAdd b a = fAdd a b := by
  cases h : two a b
  · rw [fAdd_neg h, fAdd_neg (by rw [two_comm, h])]
  · obtain ⟨A, B, rfl, rfl, hA, hB⟩ := two_nat h
    rw [fAdd_cast hA hB, fAdd_cast hB hA, Nat.xor_comm]
theorem fMul_comm (a b : Int) : fMul b a = fMul a b := by
  cases h : two a b
  · rw [fMul_neg h, fMul_neg (by rw [two_comm, h])]
  · obtain ⟨A, B, rfl, rfl, hA, hB⟩ := two_nat h
    rw [fMul_cast hA hB, fMul_cast hB hA, gmul_comm A hA B hB]
/-- The generator's count. -/
def cntG (a : Int) (j : Nat) : Nat := (List.range j).countP fun (i : Nat) => fPow 2 (i : Int) == a
theorem cntG_succ (a : Int) (j : Nat) : cntG a (j + 1) = cntG a j + if fPow 2 (j : Int) == a then 1 else 0 := by
  unfold cntG
  rw [List.range_succ, List.countP_append]; simp [List.countP_cons]
theorem cntG_le (a : Int) (j : Nat) : cntG a j ≤ j := by
  unfold cntG; have := List.countP_le_length (p := fun (i : Nat) => fPow 2 (i : Int) == a) (l := List.range j); simpa using this
theorem cntG_all : ∀ m : Nat, m < 18 → cntG ((m : Int) - 1) 15 = if 1 ≤ ((m : Int) - 1) ∧ ((m : Int) - 1) < 16 then 1 else 0 := by decide +kernel
theorem cntG_is {a : Int} (h0 : -1 ≤ a) (h1 : a ≤ 16) : cntG a 15 = if 1 ≤ a ∧ a < 16 then 1 else 0 := by
  obtain ⟨m, hm⟩ := Int.eq_ofNat_of_zero_le (show 0 ≤ a + 1 by omega)
  obtain rfl : a = (m : Int) - 1 := by omega
  exact cntG_all m (by omega)
theorem fPow_cast {A n : Nat} (hA : A < 16) (hn : n ≤ 1000) : fPow A n = ((gpow A n : Nat) : Int) := by
  simp [fPow, inB_cast hA, show inB (n : Int) 0 1000 = true by simp [inB]; omega]
theorem fInv_cast {A : Nat} (hA : A < 16) (h0 : A ≠ 0) : fInv A = ((ginv A : Nat) : Int) := by
  simp [fInv, show inB (A : Int) 1 15 = true by simp [inB]; omega]
theorem fInv_out {a : Int} (h : a < 1 ∨ 16 ≤ a) : fInv a = 0 := by
  have : inB a 1 15 = false := by simp [inB]; omega
  simp [fInv, this]
theorem ginv_ne : ∀ a, a < 16 → a ≠ 0 → ginv a ≠ 0 := by decide
theorem ginv_lt' : ∀ a, a < 16 → ginv a < 16 := by decide
/-- Zeros of a polynomial. -/
def zerosN (zs : List Int) (j : Nat) : Nat := (List.range j).countP fun (i : Nat) => fPoly zs (i : Int) == 0
theorem zerosN_succ (zs : List Int) (j : Nat) : zerosN zs (j + 1) = zerosN zs j + if fPoly zs (j : Int) == 0 then 1 else 0 := by
  unfold zerosN
  rw [List.range_succ, List.countP_append]; simp [List.countP_cons]
theorem zerosN_le (zs : List Int) (j : Nat) : zerosN zs j ≤ j := by
  unfold zerosN; have := List.countP_le_length (p := fun (i : Nat) => fPoly zs (i : Int) == 0) (l := List.range j); simpa using this
theorem fPoly_cast {zs : List Int} {x : Nat} (hx : x < 16) (hl : zs.length ≤ 15) (h : zs.all elemB = true) : fPoly zs x = ((peval (zs.map Int.toNat) x : Nat) : Int) := by
  simp [fPoly, inB_cast hx, hl, h]
theorem fPoly_neg {zs : List Int} {x : Nat} (hx : x < 16) (h : (decide (zs.length ≤ 15) && zs.all elemB) = false) : fPoly zs x = -1 := by
  unfold fPoly; rw [inB_cast hx, Bool.true_and, h]; rfl
theorem zerosN_is {zs : List Int} (hl : zs.length ≤ 15) (h : zs.all elemB = true) : zerosN zs 16 = rootsN (zs.map Int.toNat) := by
  unfold zerosN rootsN
  apply List.countP_congr
  intro x hx
  simp at hx
  rw [fPoly_cast hx hl h]
  simp
theorem zeros_few {zs : List Int} (hl : zs.length ≤ 15) (h : zs.all elemB = true) (h2 : 2 ≤ zs.length) (h0 : zs.getD 0 0 ≠ 0) : zerosN zs 16 + 1 ≤ zs.length := by
  rw [zerosN_is hl h]
  obtain ⟨n, hn⟩ : ∃ n, zs.length = n + 1 := ⟨zs.length - 1, by omega⟩
  have := few_roots n (zs.map Int.toNat) (by simp [hn]) (elems_lt h) (by
    match zs, hn with
    | z :: zs, _ =>
      rw [List.all_eq_true] at h
      obtain ⟨C, rfl, hC⟩ := inB_nat (h z (by simp))
      simp at h0 ⊢; omega)
  omega
/-- Sums of coefficients. -/
def sumX (zs : List Int) : Nat := (zs.map Int.toNat).foldl (· ^^^ ·) 0
theorem sumX_succ (zs : List Int) (k : Nat) (hk : k < zs.length) : sumX (zs.take (k + 1)) = sumX (zs.take k) ^^^ zs[k].toNat := by
  unfold sumX
  rw [List.take_add_one, List.getElem?_eq_getElem hk, List.map_append, List.foldl_append]; rfl
theorem sumX_lt {zs : List Int} (h : zs.all elemB = true) (k : Nat) : k ≤ zs.length → sumX (zs.take k) < 16 := by
  induction k with
  | zero => intro _; simp [sumX]
  | succ k ih =>
    intro hk
    rw [sumX_succ zs k (by omega)]
    exact xor_lt _ (ih (by omega)) _ (elems_lt h _ (List.mem_map_of_mem (List.getElem_mem _)))
theorem fPoly_one {zs : List Int} (hl : zs.length ≤ 15) (h : zs.all elemB = true) : fPoly zs 1 = (sumX zs : Int) := by
  have := fPoly_cast (x := 1) (by omega) hl h
  rw [show ((1 : Nat) : Int) = 1 from rfl] at this
  rw [this]
  unfold peval sumX
  rw [horner_one _ _ (elems_lt h) (by omega)]
theorem fPoly_zero {zs : List Int} (hl : zs.length ≤ 15) (h : zs.all elemB = true) (hp : 0 < zs.length) : fPoly zs 0 = zs.getD (zs.length - 1) 0 := by
  have := fPoly_cast (x := 0) (by omega) hl h
  rw [show ((0 : Nat) : Int) = 0 from rfl] at this
  rw [this]
  unfold peval
  rw [horner_zero _ _ (elems_lt h) (by omega)]
  have h1 : zs.map Int.toNat ≠ [] := by intro e; simp at e; subst e; simp at hp
  rw [List.getLast_cons h1, List.getLast_eq_getElem]
  simp only [List.length_map, List.getElem_map]
  have hlt : zs.length - 1 < zs.length := by omega
  rw [List.getD, List.getElem?_eq_getElem hlt]
  rw [List.all_eq_true] at h
  obtain ⟨C, e, hC⟩ := inB_nat (h _ (List.getElem_mem hlt))
  rw [e]; simp
theorem fPoly_more {zs : List Int} {x : Nat} (hx : x < 16) (hl : zs.length < 15) (h : zs.all elemB = true) : fPoly (zs ++ [5]) x = fAdd (fMul (fPoly zs x) x) 5 := by
  have hp := peval_lt x hx _ (elems_lt h)
  have h5 : (zs ++ [5]).all elemB = true := by rw [List.all_append, h]; rfl
  rw [fPoly_cast hx (by simp; omega) h5, fPoly_cast hx (by omega) h, fMul_cast hp hx]
  have := fAdd_cast (gmul_lt _ hp _ hx) (show 5 < 16 by omega)
  rw [show ((5 : Nat) : Int) = 5 from rfl] at this
  rw [this, List.map_append]
  show ((horner x 0 (_ ++ [5]) : Nat) : Int) = _
  rw [horner_append]; rfl
theorem gpow15' (A : Nat) (hA : A < 16) (h0 : A ≠ 0) : gpow A 15 = 1 := by rw [gpow_is A hA]; exact gpow15 A hA h0
theorem gpow14' (A : Nat) (hA : A < 16) (h0 : A ≠ 0) : gpow A 14 = ginv A := by rw [gpow_is A hA]; exact gpow14 A hA h0
theorem fPow_next {A n : Nat} (hA : A < 16) (hn : n < 1000) : fPow A ((n : Int) + 1) = fMul (fPow A n) A := by
  have e : ((n : Int) + 1) = ((n + 1 : Nat) : Int) := by omega
  rw [e, fPow_cast hA (by omega), fPow_cast hA (by omega), fMul_cast (gpow_lt A hA n) hA]; rfl
theorem fMul_assoc' {a b c : Int} (h : two a b = true) (hc : inB c 0 15 = true) : fMul (fMul a b) c = fMul a (fMul b c) := by
  obtain ⟨A, B, rfl, rfl, hA, hB⟩ := two_nat h
  obtain ⟨C, rfl, hC⟩ := inB_nat hc
  rw [fMul_cast hA hB, fMul_cast hB hC, fMul_cast (gmul_lt A hA B hB) hC, fMul_cast hA (gmul_lt B hB C hC), gmul_assoc A hA B hB C hC]
theorem fMul_dist {a b c : Int} (h : two a b = true) (hc : inB c 0 15 = true) : fMul a (fAdd b c) = fAdd (fMul a b) (fMul a c) := by
  obtain ⟨A, B, rfl, rfl, hA, hB⟩ := two_nat h
  obtain ⟨C, rfl, hC⟩ := inB_nat hc
  rw [fAdd_cast hB hC, fMul_cast hA hB, fMul_cast hA hC, fMul_cast hA (xor_lt B hB C hC), fAdd_cast (gmul_lt A hA B hB) (gmul_lt A hA C hC), gmul_add A hA B hB C hC]
theorem fSq_add {a b : Int} (h : two a b = true) : fMul (fAdd a b) (fAdd a b) = fAdd (fMul a a) (fMul b b) := by
  obtain ⟨A, B, rfl, rfl, hA, hB⟩ := two_nat h
  rw [fAdd_cast hA hB, fMul_cast hA hA, fMul_cast hB hB, fMul_cast (xor_lt A hA B hB) (xor_lt A hA B hB), fAdd_cast (gmul_lt A hA A hA) (gmul_lt B hB B hB), sq_add A hA B hB]
theorem fAdd_range {a b : Int} (h : two a b = true) : 0 ≤ fAdd a b ∧ fAdd a b < 16 := by
  obtain ⟨A, B, rfl, rfl, hA, hB⟩ := two_nat h
  rw [fAdd_cast hA hB]; have := xor_lt A hA B hB; omega
theorem fMul_range {a b : Int} (h : two a b = true) : 0 ≤ fMul a b ∧ fMul a b < 16 := by
  obtain ⟨A, B, rfl, rfl, hA, hB⟩ := two_nat h
  rw [fMul_cast hA hB]; have := gmul_lt A hA B hB; omega
theorem fMul_one {a b : Int} (h : two a b = true) : fMul a 1 = a := by
  obtain ⟨A, B, rfl, rfl, hA, hB⟩ := two_nat h
  have := fMul_cast hA (show 1 < 16 by omega)
  rw [gmul_one A hA] at this; exact this
theorem fMul_zero_iff {a b : Int} (h : two a b = true) : fMul a b = 0 ↔ a = 0 ∨ b = 0 := by
  obtain ⟨A, B, rfl, rfl, hA, hB⟩ := two_nat h
  rw [fMul_cast hA hB]
  have := gmul_eq_zero A hA B hB
  omega
theorem fPow_range {a n : Int} (h : (inB a 0 15 && inB n 0 1000) = true) : 0 ≤ fPow a n := by
  unfold fPow; rw [h]; simp
theorem fPow_neg {a n : Int} (h : (inB a 0 15 && inB n 0 1000) = false) : fPow a n = -1 := by
  unfold fPow; rw [h]; rfl
theorem fPow_zero {a : Int} (h : inB a 0 15 = true) : fPow a 0 = 1 := by
  obtain ⟨A, rfl, hA⟩ := inB_nat h
  exact fPow_cast (n := 0) hA (by omega)
theorem fPow_15 {a : Int} (h : inB a 0 15 = true) (h0 : a ≠ 0) : fPow a 15 = 1 := by
  obtain ⟨A, rfl, hA⟩ := inB_nat h
  have := fPow_cast (n := 15) hA (by omega)
  rw [gpow15' A hA (by omega)] at this; exact this
theorem fPow_next' {a n : Int} (h : (inB a 0 15 && inB n 0 1000) = true) (hn : n ≠ 1000) : fPow a (n + 1) = fMul (fPow a n) a := by
  simp only [Bool.and_eq_true] at h
  obtain ⟨A, rfl, hA⟩ := inB_nat h.1
  have h2 : 0 ≤ n ∧ n ≤ 1000 := by simpa [inB] using h.2
  obtain ⟨m, rfl⟩ := Int.eq_ofNat_of_zero_le h2.1
  exact fPow_next hA (by omega)
theorem fPoly_out {zs : List Int} {x : Int} (h : (inB x 0 15 && decide (zs.length ≤ 15) && zs.all elemB) = false) : fPoly zs x = -1 := by
  unfold fPoly; rw [h]; rfl
theorem fPoly_range {zs : List Int} {x : Int} (h : (inB x 0 15 && decide (zs.length ≤ 15) && zs.all elemB) = true) : 0 ≤ fPoly zs x ∧ fPoly zs x < 16 := by
  simp only [Bool.and_eq_true, decide_eq_true_eq] at h
  obtain ⟨X, rfl, hX⟩ := inB_nat h.1.1
  rw [fPoly_cast hX h.1.2 h.2]
  have := peval_lt X hX _ (elems_lt h.2)
  omega
theorem fPoly_parts {zs : List Int} {x : Int} (h : (inB x 0 15 && decide (zs.length ≤ 15) && zs.all elemB) = true) : inB x 0 15 = true ∧ zs.length ≤ 15 ∧ zs.all elemB = true := by
  simp only [Bool.and_eq_true, decide_eq_true_eq] at h
  exact ⟨h.1.1, h.1.2, h.2⟩
theorem sumX_add {zs : List Int} (h : zs.all elemB = true) (k : Nat) (hk : k < zs.length) : fAdd (sumX (zs.take k) : Int) (zs.getD k 0) = (sumX (zs.take (k + 1)) : Int) := by
  rw [sumX_succ zs k hk]
  have h1 := sumX_lt h k (by omega)
  obtain ⟨C, e, hC⟩ := elem_nat h k hk
  have e2 : zs.getD k 0 = (C : Int) := by rw [List.getD, List.getElem?_eq_getElem hk, e]; rfl
  rw [e2, fAdd_cast h1 hC, e]; simp
end Go.Proofs.YtpfbmfnfcppjeabDoor
