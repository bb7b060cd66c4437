/-
  Walks of laws: sums of elements; constants.
-/
import Derived.Test.YtjcdinafghafcaaFieldM
import Derived.Test.YtjcdinafghafcaaDrawF
namespace Go.Proofs.Ytjcdinafghafcaa
open Go.RowKit
theorem fAdd_back {a b : Int} (h : two a b = true) : fAdd (fAdd a b) b = a := by
  obtain ⟨A, B, rfl, rfl, hA, hB⟩ := two_nat h
  rw [fAdd_cast hA hB, fAdd_cast (xor_lt A hA B hB) hB, Nat.xor_assoc, Nat.xor_self, Nat.xor_zero]
theorem fAdd_self {a b : Int} (h : two a b = true) : fAdd a a = 0 := by
  obtain ⟨A, B, rfl, rfl, hA, hB⟩ := two_nat h
  rw [fAdd_cast hA hA, Nat.xor_self]; rfl
theorem fAdd_nil {a b : Int} (h : two a b = true) : fAdd a 0 = a := by
  obtain ⟨A, B, rfl, rfl, hA, hB⟩ := two_nat h
  have := fAdd_cast hA (show 0 < 16 by omega)
  rw [Nat.xor_zero] at this; exact this
set_option maxHeartbeats 1000000 in
set_option linter.unusedVariables false in
theorem walk_FnFieldAdd (w : World) (v0 : Value) (z0 : List Int) (ra0 : RowK .u8 w v0 z0) (hw0 : ∀ n ∈ z0, (Lit.int .u8 n).wf = true) :
    Calls Try.prog 6 #[v0] w fun e w' => e = .returned (.bool true) ∧ Below w.heap.size w w' := by
  obtain ⟨aa0, cc0, rfl⟩ := ra0.form
  by_cases hlen0 : 1048576 < z0.length
  · go_enter Try.func6, Try.ntmps6
    go_wp2
    go_ret
    exact ⟨rfl, Below.refl _ _⟩
  have HB : Hid (Below w.heap.size w w) := Below.refl _ _
  go_enter Try.func6, Try.ntmps6
  go_wp2_with fail
  refine (DrawFieldAdd_any _ _ _ (ra0.belowAll HB.out) hw0).mono ?_
  rintro e w1 ⟨a, b, rfl, ha0, ha1, hb0, hb1, hbel⟩
  have s1 : w.heap.size ≤ w1.heap.size := hbel.size
  have HB1 := Lib.hid (below_step HB.out hbel)
  have HE := Lib.hid hbel
  clear hbel
  clear HB HE
  have HB := HB1
  clear HB1
  go_wp2_with fail
  refine (FieldAdd_any a b _).mono ?_
  rintro e wx ⟨rfl, rfl⟩
  go_wp2_with fail
  refine (specFieldAdd_any a b _).mono ?_
  rintro e wx ⟨rfl, rfl⟩
  have t1 : (fAdd a b != fAdd a b) = false := by simp
  go_wp2_with fail
  refine (FieldAdd_any b a _).mono ?_
  rintro e wx ⟨rfl, rfl⟩
  have t2 : (fAdd a b != fAdd b a) = false := by rw [fAdd_comm b a]; simp
  cases hs : two a b
  · have t3 : decide (fAdd a b < 0) = true := by rw [fAdd_neg hs]; rfl
    have t3b : fAdd a b < 0 := by rw [fAdd_neg hs]; decide
    have t4 : (fAdd a b == -1) = true := by rw [fAdd_neg hs]; rfl
    go_wp2_with fail
    refine (alive_any _).mono ?_
    rintro e w2 ⟨rfl, hbel⟩
    have s2 : w1.heap.size ≤ w2.heap.size := hbel.size
    have HB2 := Lib.hid (below_step HB.out hbel)
    have HE := Lib.hid hbel
    clear hbel
    clear HB HE
    have HB := HB2
    clear HB2
    go_wp2
    go_ret
    exact ⟨rfl, HB.out⟩
  · have hr := fAdd_range hs
    have t3 : decide (fAdd a b < 0) = false := decide_eq_false (by omega)
    have t4 : decide (fAdd a b < 16) = true := decide_eq_true (by omega)
    have hr1 := hr.1
    have hr2 := hr.2
    have t5 : (fAdd (fAdd a b) b == a) = true := by rw [fAdd_back hs]; simp
    have t6 : (fAdd a a == 0) = true := by rw [fAdd_self hs]; rfl
    have t7 : (fAdd a 0 == a) = true := by rw [fAdd_nil hs]; simp
    clear hr hs
    go_wp2_with fail
    refine (FieldAdd_any (fAdd a b) b _).mono ?_
    rintro e wx ⟨rfl, rfl⟩
    go_wp2_with fail
    refine (FieldAdd_any a a _).mono ?_
    rintro e wx ⟨rfl, rfl⟩
    go_wp2_with fail
    refine (FieldAdd_any a 0 _).mono ?_
    rintro e wx ⟨rfl, rfl⟩
    go_wp2
    go_ret
    exact ⟨rfl, HB.out⟩
theorem walk_FnExactConstants (w : World) :
    Calls Try.prog 3 #[] w fun e w' => e = .returned (.bool true) ∧ Below w.heap.size w w' := by
  go_enter Try.func3, Try.ntmps3
  go_wp2
  go_ret
  exact ⟨rfl, Below.refl _ _⟩
end Go.Proofs.Ytjcdinafghafcaa
