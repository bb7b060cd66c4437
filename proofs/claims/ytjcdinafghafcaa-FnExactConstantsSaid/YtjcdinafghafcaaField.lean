/-
  The field's functions: the program's (by tables) and the reference's (by shifts) compute the same.
-/
import Derived.Test.YtjcdinafghafcaaMake
import Derived.Test.YtjcdinafghafcaaArith
import Derived.Test.YtjcdinafghafcaaGf
import Derived.RegionTactic
namespace Go.Proofs.Ytjcdinafghafcaa
open Go.RowKit

def fAdd (a b : Int) : Int := if inB a 0 15 && inB b 0 15 then ((a.toNat ^^^ b.toNat : Nat) : Int) else -1
def fMul (a b : Int) : Int := if inB a 0 15 && inB b 0 15 then ((gmul a.toNat b.toNat : Nat) : Int) else -1
def fInv (a : Int) : Int := if inB a 1 15 then ((ginv a.toNat : Nat) : Int) else 0
def fPow (a n : Int) : Int := if inB a 0 15 && inB n 0 1000 then ((gpow a.toNat n.toNat : Nat) : Int) else -1
def elemB (x : Int) : Bool := inB x 0 15
def fPoly (zs : List Int) (x : Int) : Int := if inB x 0 15 && decide (zs.length ≤ 15) && zs.all elemB then ((peval (zs.map Int.toNat) x.toNat : Nat) : Int) else -1

theorem vi {k : IntKind} {a b : Int} (h : a = b) : Value.int k a = Value.int k b := by rw [h]
theorem inB_nat {a : Int} (h : inB a 0 15 = true) : ∃ A : Nat, a = A ∧ A < 16 := by
  simp [inB] at h
  exact ⟨a.toNat, by omega, by omega⟩
theorem inB_cast {A : Nat} (h : A < 16) : inB (A : Int) 0 15 = true := by simp [inB]; omega
theorem fAdd_cast {A B : Nat} (ha : A < 16) (hb : B < 16) : fAdd A B = ((A ^^^ B : Nat) : Int) := by simp [fAdd, inB_cast ha, inB_cast hb]
theorem fMul_cast {A B : Nat} (ha : A < 16) (hb : B < 16) : fMul A B = ((gmul A B : Nat) : Int) := by simp [fMul, inB_cast ha, inB_cast hb]

theorem isElement_any (a : Int) (w : World) : Calls Try.prog 16 #[.int .i64 a] w fun e w' => e = .returned (.bool (inB a 0 15)) ∧ w = w' := by
  by_cases h1 : 0 ≤ a <;> by_cases h2 : a < 16
  all_goals
    go_enter Try.func16, Try.ntmps16
    go_wp2
    all_goals go_ret
    all_goals exact ⟨ret_bool (by simp [inB]; omega), rfl⟩

set_option maxHeartbeats 400000 in
theorem FieldAdd_any (a b : Int) (w : World) : Calls Try.prog 8 #[.int .i64 a, .int .i64 b] w fun e w' => e = .returned (.int .i64 (fAdd a b)) ∧ w = w' := by
  cases h1 : inB a 0 15
  · go_enter Try.func8, Try.ntmps8
    go_wp2_with (go_at_call 16; refine (isElement_any _ _).mono ?_; rintro e w' ⟨rfl, rfl⟩)
    go_ret
    exact ⟨ret_int (by simp [fAdd, h1]), rfl⟩
  · cases h2 : inB b 0 15
    · go_enter Try.func8, Try.ntmps8
      go_wp2_with (go_at_call 16; refine (isElement_any _ _).mono ?_; rintro e w' ⟨rfl, rfl⟩)
      go_ret
      exact ⟨ret_int (by simp [fAdd, h1, h2]), rfl⟩
    · obtain ⟨A, rfl, hA⟩ := inB_nat h1
      obtain ⟨B, rfl, hB⟩ := inB_nat h2
      have hx := i64_xor A B (by omega) (by omega)
      go_enter Try.func8, Try.ntmps8
      go_wp2_with (go_at_call 16; refine (isElement_any _ _).mono ?_; rintro e w' ⟨rfl, rfl⟩)
      go_ret
      exact ⟨ret_int (fAdd_cast hA hB).symm, rfl⟩
set_option maxHeartbeats 400000 in
theorem specFieldAdd_any (a b : Int) (w : World) : Calls Try.prog 7 #[.int .i64 a, .int .i64 b] w fun e w' => e = .returned (.int .i64 (fAdd a b)) ∧ w = w' := by
  cases h1 : inB a 0 15
  · go_enter Try.func7, Try.ntmps7
    go_wp2_with (go_at_call 15; refine (l1In_any _ _ _ _).mono ?_; rintro e w' ⟨rfl, rfl⟩)
    go_ret
    exact ⟨ret_int (by simp [fAdd, h1]), rfl⟩
  · cases h2 : inB b 0 15
    · go_enter Try.func7, Try.ntmps7
      go_wp2_with (go_at_call 15; refine (l1In_any _ _ _ _).mono ?_; rintro e w' ⟨rfl, rfl⟩)
      go_ret
      exact ⟨ret_int (by simp [fAdd, h1, h2]), rfl⟩
    · obtain ⟨A, rfl, hA⟩ := inB_nat h1
      obtain ⟨B, rfl, hB⟩ := inB_nat h2
      have hx := i64_xor A B (by omega) (by omega)
      go_enter Try.func7, Try.ntmps7
      go_wp2_with (go_at_call 15; refine (l1In_any _ _ _ _).mono ?_; rintro e w' ⟨rfl, rfl⟩)
      go_ret
      exact ⟨ret_int (fAdd_cast hA hB).symm, rfl⟩







end Go.Proofs.Ytjcdinafghafcaa
