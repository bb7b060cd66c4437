/-
  The field with sixteen elements, as plain numbers: its tables, its product, its laws. No program stands here.
-/
namespace Go.Proofs.YtpfbmfnfcppjeabDoor

def powT : List Nat := [1, 2, 4, 8, 3, 6, 12, 11, 5, 10, 7, 14, 15, 13, 9]
def logT : List Nat := [0, 0, 1, 4, 2, 8, 5, 10, 3, 14, 9, 7, 6, 13, 11, 12]
/-- The product by tables. -/
def gmul (a b : Nat) : Nat := if a = 0 ∨ b = 0 then 0 else powT.getD ((logT.getD a 0 + logT.getD b 0) % 15) 0
/-- One round of the product by shifts: twice an element. -/
def dbl (a : Nat) : Nat := if 16 ≤ 2 * a then (2 * a) ^^^ 19 else 2 * a
def lmul : Nat → Nat → Nat → Nat → Nat
  | 0, n, _, _ => n
  | f + 1, n, a, b => if b = 0 then n else lmul f (if b % 2 = 1 then n ^^^ a else n) (dbl a) (b / 2)
def ginv (a : Nat) : Nat := if a = 0 then 0 else powT.getD ((15 - logT.getD a 0) % 15) 0
def gpow (a : Nat) : Nat → Nat
  | 0 => 1
  | n + 1 => gmul (gpow a n) a
def gpowT (a n : Nat) : Nat := if n = 0 then 1 else if a = 0 then 0 else powT.getD (logT.getD a 0 * n % 15) 0

theorem dbl_lt : ∀ a, a < 16 → dbl a < 16 := by decide
theorem xor_lt : ∀ a, a < 16 → ∀ b, b < 16 → a ^^^ b < 16 := by decide
theorem gmul_lt : ∀ a, a < 16 → ∀ b, b < 16 → gmul a b < 16 := by decide
theorem lmul_is : ∀ a, a < 16 → ∀ b, b < 16 → lmul 4 0 a b = gmul a b := by decide +kernel
theorem log_lt : ∀ a, a < 16 → logT.getD a 0 < 15 := by decide
theorem gmul_comm : ∀ a, a < 16 → ∀ b, b < 16 → gmul a b = gmul b a := by decide +kernel
theorem gmul_one : ∀ a, a < 16 → gmul a 1 = a := by decide
theorem one_gmul : ∀ a, a < 16 → gmul 1 a = a := by decide
theorem gmul_zero (a : Nat) : gmul a 0 = 0 := by simp [gmul]
theorem zero_gmul (a : Nat) : gmul 0 a = 0 := by simp [gmul]
theorem gmul_assoc : ∀ a, a < 16 → ∀ b, b < 16 → ∀ c, c < 16 → gmul (gmul a b) c = gmul a (gmul b c) := by decide +kernel
theorem gmul_add : ∀ a, a < 16 → ∀ b, b < 16 → ∀ c, c < 16 → gmul a (b ^^^ c) = gmul a b ^^^ gmul a c := by decide +kernel
theorem gmul_eq_zero : ∀ a, a < 16 → ∀ b, b < 16 → (gmul a b = 0 ↔ a = 0 ∨ b = 0) := by decide +kernel
theorem ginv_lt : ∀ a, a < 16 → ginv a < 16 := by decide
theorem gmul_ginv : ∀ a, a < 16 → a ≠ 0 → gmul a (ginv a) = 1 := by decide
theorem ginv_ginv : ∀ a, a < 16 → ginv (ginv a) = a := by decide
theorem sq_add : ∀ a, a < 16 → ∀ b, b < 16 → gmul (a ^^^ b) (a ^^^ b) = gmul a a ^^^ gmul b b := by decide +kernel
theorem gpow_lt (a : Nat) (ha : a < 16) : ∀ n, gpow a n < 16
  | 0 => by simp [gpow]
  | n + 1 => gmul_lt _ (gpow_lt a ha n) _ ha
theorem tab_step : ∀ a, a < 16 → a ≠ 0 → ∀ r, r < 15 → gmul (powT.getD r 0) a = powT.getD ((r + logT.getD a 0) % 15) 0 := by decide +kernel
theorem gpow_is (a : Nat) (ha : a < 16) : ∀ n, gpow a n = gpowT a n := by
  by_cases h0 : a = 0
  · subst h0
    intro n
    cases n with
    | zero => rfl
    | succ n => simp [gpow, gpowT, gmul]
  · intro n
    have key : ∀ n, gpow a n = powT.getD (logT.getD a 0 * n % 15) 0 := by
      intro n
      induction n with
      | zero => simp [gpow, powT]
      | succ n ih =>
        rw [gpow, ih, tab_step a ha h0 _ (Nat.mod_lt _ (by decide))]
        congr 1
        rw [Nat.mul_succ]; omega
    rw [key, gpowT, if_neg h0]
    by_cases hn : n = 0
    · subst hn; simp [powT]
    · rw [if_neg hn]
/-- The smallest b with a b = 1, as the reference looks for it. -/
theorem ginv_first : ∀ a, a < 16 → a ≠ 0 → ∀ b, b < 16 → (gmul a b = 1 ↔ b = ginv a) := by decide +kernel

/-- Horner's rule: the value at x of a polynomial, the highest coefficient first. -/
def horner (x : Nat) (v : Nat) : List Nat → Nat
  | [] => v
  | c :: cs => horner x (gmul v x ^^^ c) cs
def peval (cs : List Nat) (x : Nat) : Nat := horner x 0 cs
/-- What Horner's rule has reached before each coefficient: the quotient by x - r. -/
def quot (r v : Nat) : List Nat → List Nat
  | [] => []
  | c :: cs => (gmul v r ^^^ c) :: quot r (gmul v r ^^^ c) cs

theorem horner_append (x : Nat) : ∀ (cs : List Nat) (v c : Nat), horner x v (cs ++ [c]) = gmul (horner x v cs) x ^^^ c
  | [], _, _ => rfl
  | d :: cs, v, c => by simp only [List.cons_append, horner]; exact horner_append x cs _ c
theorem horner_lt (x : Nat) (hx : x < 16) : ∀ (cs : List Nat) (v : Nat), v < 16 → (∀ c ∈ cs, c < 16) → horner x v cs < 16
  | [], _, hv, _ => hv
  | c :: cs, v, hv, h => horner_lt x hx cs _ (xor_lt _ (gmul_lt _ hv _ hx) _ (h c (by simp))) fun d hd => h d (by simp [hd])
theorem peval_lt (x : Nat) (hx : x < 16) (cs : List Nat) (h : ∀ c ∈ cs, c < 16) : peval cs x < 16 := horner_lt x hx cs 0 (by omega) h
theorem peval_take (zs : List Nat) (x k : Nat) (hk : k < zs.length) : peval (zs.take (k + 1)) x = gmul (peval (zs.take k) x) x ^^^ zs[k] := by
  rw [List.take_add_one, List.getElem?_eq_getElem hk]
  exact horner_append x _ 0 _
end Go.Proofs.YtpfbmfnfcppjeabDoor
