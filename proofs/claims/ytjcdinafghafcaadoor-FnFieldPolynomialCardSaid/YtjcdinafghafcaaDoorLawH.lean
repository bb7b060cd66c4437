/-
  Walks of laws. Written by a program (laws_field.py).
-/
import Derived.Test.YtjcdinafghafcaaDoorFieldM
import Derived.Test.YtjcdinafghafcaaDoorDrawF
namespace Go.Proofs.YtjcdinafghafcaaDoor
open Go.RowKit
set_option maxHeartbeats 1000000 in
set_option linter.unusedVariables false in
theorem walk_FnFieldInverse (w : World) (hT : Tabs w) (v0 : Value) (z0 : List Int) (ra0 : RowK .u8 w v0 z0) (hw0 : ∀ n ∈ z0, (Lit.int .u8 n).wf = true) :
    Calls Tryd.prog 11 #[v0] w fun e w' => e = .returned (.bool true) ∧ Below w.heap.size w w' := by
  obtain ⟨aa0, cc0, rfl⟩ := ra0.form
  by_cases hlen0 : 1048576 < z0.length
  · go_enter Tryd.func11, Tryd.ntmps11
    go_wp2
    go_ret
    exact ⟨rfl, Below.refl _ _⟩
  have HB : Hid (Below w.heap.size w w) := Below.refl _ _
  go_enter Tryd.func11, Tryd.ntmps11
  go_wp2_with fail
  refine (DrawFieldInverse_any _ _ _ (ra0.belowAll HB.out) hw0).mono ?_
  rintro e w1 ⟨a, rfl, ha0, ha1, hbel⟩
  have s1 : w.heap.size ≤ w1.heap.size := hbel.size
  have HB1 := Lib.hid (below_step HB.out hbel)
  have HE := Lib.hid hbel
  clear hbel
  clear HB HE
  have HB := HB1
  clear HB1
  go_wp2_with fail
  refine (FieldInverse_any a _ (hT.below HB.out)).mono ?_
  rintro e w2 ⟨rfl, hq⟩
  have HQ := Lib.hid hq
  clear hq
  have s2 : w1.heap.size ≤ w2.heap.size := (HQ.out.below 0).size
  have HB2 := Lib.hid (below_quiet HB.out HQ.out)
  clear HB HQ
  have HB := HB2
  clear HB2
  go_wp2_with fail
  refine (specFieldInverse_any a _).mono ?_
  rintro e wx ⟨rfl, rfl⟩
  have t1 : (fInv a != fInv a) = false := by simp
  by_cases hr : a < 1 ∨ 16 ≤ a
  · have t2 : fInv a = 0 := fInv_out hr
    have t3 : (fInv a == 0) = true := by rw [t2]; rfl
    clear t2
    rcases hr with hr | hr
    · go_wp2_with fail
      refine (alive_any _).mono ?_
      rintro e w3 ⟨rfl, hbel⟩
      have s3 : w2.heap.size ≤ w3.heap.size := hbel.size
      have HB3 := Lib.hid (below_step HB.out hbel)
      have HE := Lib.hid hbel
      clear hbel
      clear HB HE
      have HB := HB3
      clear HB3
      go_wp2
      go_ret
      exact ⟨rfl, HB.out⟩
    · go_wp2_with fail
      refine (alive_any _).mono ?_
      rintro e w3 ⟨rfl, hbel⟩
      have s3 : w2.heap.size ≤ w3.heap.size := hbel.size
      have HB3 := Lib.hid (below_step HB.out hbel)
      have HE := Lib.hid hbel
      clear hbel
      clear HB HE
      have HB := HB3
      clear HB3
      go_wp2
      go_ret
      exact ⟨rfl, HB.out⟩
  · obtain ⟨A, rfl⟩ := Int.eq_ofNat_of_zero_le (show 0 ≤ a by omega)
    have hA : A < 16 := by omega
    have hA0 : A ≠ 0 := by omega
    have e1 := fInv_cast hA hA0
    have hG := ginv_lt' A hA
    have hGn := ginv_ne A hA hA0
    have t2 : fMul (A : Int) (fInv (A : Int)) = 1 := by rw [e1, fMul_cast hA hG, gmul_ginv A hA hA0]; rfl
    have t3 : fInv (fInv (A : Int)) = (A : Int) := by rw [e1, fInv_cast hG hGn, ginv_ginv A hA]
    have t4 : fPow (A : Int) 14 = fInv (A : Int) := by have := fPow_cast (n := 14) hA (by omega); rw [gpow14' A hA hA0] at this; rw [e1]; exact this
    have t5 : (fMul (A : Int) (fInv (A : Int)) == 1) = true := by rw [t2]; rfl
    have t6 : (fInv (fInv (A : Int)) == (A : Int)) = true := by rw [t3]; simp
    have t7 : (fPow (A : Int) 14 == fInv (A : Int)) = true := by rw [t4]; simp
    clear t2 t3 t4 e1
    go_wp2_with fail
    refine (FieldMul_any (A : Int) (fInv (A : Int)) _ (hT.below HB.out)).mono ?_
    rintro e w3 ⟨rfl, hq⟩
    have HQ := Lib.hid hq
    clear hq
    have s3 : w2.heap.size ≤ w3.heap.size := (HQ.out.below 0).size
    have HB3 := Lib.hid (below_quiet HB.out HQ.out)
    clear HB HQ
    have HB := HB3
    clear HB3
    go_wp2_with fail
    refine (FieldInverse_any (fInv (A : Int)) _ (hT.below HB.out)).mono ?_
    rintro e w4 ⟨rfl, hq⟩
    have HQ := Lib.hid hq
    clear hq
    have s4 : w3.heap.size ≤ w4.heap.size := (HQ.out.below 0).size
    have HB4 := Lib.hid (below_quiet HB.out HQ.out)
    clear HB HQ
    have HB := HB4
    clear HB4
    go_wp2_with fail
    refine (FieldPower_any (A : Int) 14 _ (hT.below HB.out)).mono ?_
    rintro e w5 ⟨rfl, hq⟩
    have HQ := Lib.hid hq
    clear hq
    have s5 : w4.heap.size ≤ w5.heap.size := (HQ.out.below 0).size
    have HB5 := Lib.hid (below_quiet HB.out HQ.out)
    clear HB HQ
    have HB := HB5
    clear HB5
    go_wp2
    go_ret
    exact ⟨rfl, HB.out⟩
set_option maxHeartbeats 1000000 in
set_option linter.unusedVariables false in
theorem walk_FnFieldSquare (w : World) (hT : Tabs w) (v0 : Value) (z0 : List Int) (ra0 : RowK .u8 w v0 z0) (hw0 : ∀ n ∈ z0, (Lit.int .u8 n).wf = true) :
    Calls Tryd.prog 8 #[v0] w fun e w' => e = .returned (.bool true) ∧ Below w.heap.size w w' := by
  obtain ⟨aa0, cc0, rfl⟩ := ra0.form
  by_cases hlen0 : 1048576 < z0.length
  · go_enter Tryd.func8, Tryd.ntmps8
    go_wp2
    go_ret
    exact ⟨rfl, Below.refl _ _⟩
  have HB : Hid (Below w.heap.size w w) := Below.refl _ _
  go_enter Tryd.func8, Tryd.ntmps8
  go_wp2_with fail
  refine (DrawFieldMul_any _ _ _ (ra0.belowAll HB.out) hw0).mono ?_
  rintro e w1 ⟨a, b, rfl, ha0, ha1, hb0, hb1, hbel⟩
  have s1 : w.heap.size ≤ w1.heap.size := hbel.size
  have HB1 := Lib.hid (below_step HB.out hbel)
  have HE := Lib.hid hbel
  clear hbel
  clear HB HE
  have HB := HB1
  clear HB1
  go_wp2_with fail
  refine (FieldAdd_any a b _).mono ?_
  rintro e wx ⟨rfl, rfl⟩
  go_wp2_with fail
  refine (specFieldAdd_any a b _).mono ?_
  rintro e wx ⟨rfl, rfl⟩
  have t1 : (fAdd a b != fAdd a b) = false := by simp
  cases hs : two a b
  · have t2 : decide (fAdd a b < 0) = true := by rw [fAdd_neg hs]; rfl
    go_wp2_with fail
    refine (alive_any _).mono ?_
    rintro e w2 ⟨rfl, hbel⟩
    have s2 : w1.heap.size ≤ w2.heap.size := hbel.size
    have HB2 := Lib.hid (below_step HB.out hbel)
    have HE := Lib.hid hbel
    clear hbel
    clear HB HE
    have HB := HB2
    clear HB2
    go_wp2
    go_ret
    exact ⟨rfl, HB.out⟩
  · have t2 : decide (fAdd a b < 0) = false := by have := (fAdd_range hs).1; simp; omega
    have t2b := (fAdd_range hs).1
    have t3 : (fMul (fAdd a b) (fAdd a b) == fAdd (fMul a a) (fMul b b)) = true := by rw [fSq_add hs]; simp
    go_wp2_with fail
    refine (FieldMul_any (fAdd a b) (fAdd a b) _ (hT.below HB.out)).mono ?_
    rintro e w2 ⟨rfl, hq⟩
    have HQ := Lib.hid hq
    clear hq
    have s2 : w1.heap.size ≤ w2.heap.size := (HQ.out.below 0).size
    have HB2 := Lib.hid (below_quiet HB.out HQ.out)
    clear HB HQ
    have HB := HB2
    clear HB2
    go_wp2_with fail
    refine (FieldMul_any a a _ (hT.below HB.out)).mono ?_
    rintro e w3 ⟨rfl, hq⟩
    have HQ := Lib.hid hq
    clear hq
    have s3 : w2.heap.size ≤ w3.heap.size := (HQ.out.below 0).size
    have HB3 := Lib.hid (below_quiet HB.out HQ.out)
    clear HB HQ
    have HB := HB3
    clear HB3
    go_wp2_with fail
    refine (FieldMul_any b b _ (hT.below HB.out)).mono ?_
    rintro e w4 ⟨rfl, hq⟩
    have HQ := Lib.hid hq
    clear hq
    have s4 : w3.heap.size ≤ w4.heap.size := (HQ.out.below 0).size
    have HB4 := Lib.hid (below_quiet HB.out HQ.out)
    clear HB HQ
    have HB := HB4
    clear HB4
    go_wp2_with fail
    refine (FieldAdd_any (fMul a a) (fMul b b) _).mono ?_
    rintro e wx ⟨rfl, rfl⟩
    go_wp2
    go_ret
    exact ⟨rfl, HB.out⟩
set_option maxHeartbeats 1000000 in
set_option linter.unusedVariables false in
theorem walk_FnFieldGenerator (w : World) (hT : Tabs w) (v0 : Value) (z0 : List Int) (ra0 : RowK .u8 w v0 z0) (hw0 : ∀ n ∈ z0, (Lit.int .u8 n).wf = true) :
    Calls Tryd.prog 6 #[v0] w fun e w' => e = .returned (.bool true) ∧ Below w.heap.size w w' := by
  obtain ⟨aa0, cc0, rfl⟩ := ra0.form
  by_cases hlen0 : 1048576 < z0.length
  · go_enter Tryd.func6, Tryd.ntmps6
    go_wp2
    go_ret
    exact ⟨rfl, Below.refl _ _⟩
  have HB : Hid (Below w.heap.size w w) := Below.refl _ _
  go_enter Tryd.func6, Tryd.ntmps6
  go_wp2_with fail
  refine (DrawFieldInverse_any _ _ _ (ra0.belowAll HB.out) hw0).mono ?_
  rintro e w1 ⟨a, rfl, ha0, ha1, hbel⟩
  have s1 : w.heap.size ≤ w1.heap.size := hbel.size
  have HB1 := Lib.hid (below_step HB.out hbel)
  have HE := Lib.hid hbel
  clear hbel
  clear HB HE
  have HB := HB1
  clear HB1
  go_wp2_with fail
  go_loopw [4, 5] (fun n k wr => ∃ j : Nat, j ≤ 15 ∧ k = .int .i64 j ∧ n = .int .i64 (cntG a j) ∧ Quiet w1 wr) (fun _ k _ => 15 - (intOf k).toNat)
  case atStart => exact ⟨0, by omega, rfl, rfl, Quiet.same _⟩
  case round =>
    obtain ⟨j, hj, rfl, rfl, hq⟩ := hrel
    have HQ := Lib.hid hq
    clear hq
    by_cases hlt : j < 15
    · have hc := cntG_le a j
      have HS := Lib.hid (cntG_succ a j)
      go_wp2_with fail
      refine (FieldPower_any 2 j _ (hT.below (below_quiet HB.out HQ.out))).mono ?_
      rintro e wa ⟨rfl, hq⟩
      have HQ2 := Lib.hid (HQ.out.trans hq)
      clear hq
      go_wp2_with fail
      refine (specFieldPower_any 2 j _).mono ?_
      rintro e wb ⟨rfl, rfl⟩
      have t1 : (fPow 2 (j : Int) != fPow 2 (j : Int)) = false := by simp
      cases ht : (fPow 2 (j : Int) == a)
      · have HE := Lib.hid (show cntG a (j + 1) = cntG a j by have := HS.out; rw [ht] at this; simpa using this)
        clear HS
        go_wp2_with fail
        go_roundw
        case rel => exact ⟨j + 1, by omega, by go_num, by rw [HE.out], HQ2.out⟩
        case measure => simp [intOf]; omega
      · have HE := Lib.hid (show cntG a (j + 1) = cntG a j + 1 by have := HS.out; rw [ht] at this; simpa using this)
        clear HS
        go_wp2_with fail
        go_roundw
        case rel => exact ⟨j + 1, by omega, by go_num, by rw [HE.out]; go_num, HQ2.out⟩
        case measure => simp [intOf]; omega
    · obtain rfl : j = 15 := by omega
      have hc := cntG_is ha0 ha1
      by_cases h1 : 1 ≤ a ∧ a < 16
      · rw [if_pos h1] at hc
        have hg1 := h1.1
        have hg2 := h1.2
        have t1 : ((cntG a 15 : Int) == 1) = true := by rw [hc]; rfl
        have t2 : ((cntG a 15 : Int) ≤ 1) := by rw [hc]; decide
        have t3 : decide ((cntG a 15 : Int) ≤ 1) = true := by simp; omega
        clear hc h1
        go_wp2
        go_ret
        exact ⟨rfl, below_quiet HB.out HQ.out⟩
      · rw [if_neg h1] at hc
        have t1 : ((cntG a 15 : Int) == 1) = false := by rw [hc]; rfl
        have t2 : ((cntG a 15 : Int) ≤ 1) := by rw [hc]; decide
        have t3 : decide ((cntG a 15 : Int) ≤ 1) = true := by simp; omega
        clear hc
        by_cases h2 : 1 ≤ a
        · have h3 : 16 ≤ a := by omega
          have h4 : decide (a < 16) = false := by simp; omega
          clear h1
          go_wp2
          go_ret
          exact ⟨rfl, below_quiet HB.out HQ.out⟩
        · clear h1
          go_wp2
          go_ret
          exact ⟨rfl, below_quiet HB.out HQ.out⟩
set_option maxHeartbeats 1000000 in
set_option linter.unusedVariables false in
theorem walk_FnFieldMul (w : World) (hT : Tabs w) (v0 : Value) (z0 : List Int) (ra0 : RowK .u8 w v0 z0) (hw0 : ∀ n ∈ z0, (Lit.int .u8 n).wf = true) :
    Calls Tryd.prog 9 #[v0] w fun e w' => e = .returned (.bool true) ∧ Below w.heap.size w w' := by
  obtain ⟨aa0, cc0, rfl⟩ := ra0.form
  by_cases hlen0 : 1048576 < z0.length
  · go_enter Tryd.func9, Tryd.ntmps9
    go_wp2
    go_ret
    exact ⟨rfl, Below.refl _ _⟩
  have HB : Hid (Below w.heap.size w w) := Below.refl _ _
  go_enter Tryd.func9, Tryd.ntmps9
  go_wp2_with fail
  refine (DrawFieldMul_any _ _ _ (ra0.belowAll HB.out) hw0).mono ?_
  rintro e w1 ⟨a, b, rfl, ha0, ha1, hb0, hb1, hbel⟩
  have s1 : w.heap.size ≤ w1.heap.size := hbel.size
  have HB1 := Lib.hid (below_step HB.out hbel)
  have HE := Lib.hid hbel
  clear hbel
  clear HB HE
  have HB := HB1
  clear HB1
  go_wp2_with fail
  refine (FieldMul_any a b _ (hT.below HB.out)).mono ?_
  rintro e w2 ⟨rfl, hq⟩
  have HQ := Lib.hid hq
  clear hq
  have s2 : w1.heap.size ≤ w2.heap.size := (HQ.out.below 0).size
  have HB2 := Lib.hid (below_quiet HB.out HQ.out)
  clear HB HQ
  have HB := HB2
  clear HB2
  go_wp2_with fail
  refine (specFieldMul_any a b _).mono ?_
  rintro e wx ⟨rfl, rfl⟩
  have t1 : (fMul a b != fMul a b) = false := by simp
  go_wp2_with fail
  refine (FieldMul_any b a _ (hT.below HB.out)).mono ?_
  rintro e w3 ⟨rfl, hq⟩
  have HQ := Lib.hid hq
  clear hq
  have s3 : w2.heap.size ≤ w3.heap.size := (HQ.out.below 0).size
  have HB3 := Lib.hid (below_quiet HB.out HQ.out)
  clear HB HQ
  have HB := HB3
  clear HB3
  have t2 : (fMul a b != fMul b a) = false := by rw [fMul_comm b a]; simp
  cases hs : two a b
  · have t3 : decide (fMul a b < 0) = true := by rw [fMul_neg hs]; rfl
    have t4 : (fMul a b == -1) = true := by rw [fMul_neg hs]; rfl
    go_wp2_with fail
    refine (alive_any _).mono ?_
    rintro e w4 ⟨rfl, hbel⟩
    have s4 : w3.heap.size ≤ w4.heap.size := hbel.size
    have HB4 := Lib.hid (below_step HB.out hbel)
    have HE := Lib.hid hbel
    clear hbel
    clear HB HE
    have HB := HB4
    clear HB4
    go_wp2
    go_ret
    exact ⟨rfl, HB.out⟩
  · have t3 : decide (fMul a b < 0) = false := by have := (fMul_range hs).1; simp; omega
    have t3b := (fMul_range hs).1
    have t3c := (fMul_range hs).2
    have HS := Lib.hid hs
    clear hs
    go_wp2_with fail
    go_loopw [6] (fun c wr => ∃ k : Nat, k ≤ 16 ∧ c = .int .i64 k ∧ Quiet w3 wr) (fun c _ => 16 - (intOf c).toNat)
    case atStart => exact ⟨0, by omega, rfl, Quiet.same _⟩
    case round =>
      obtain ⟨k, hk, rfl, hq⟩ := hrel
      have HQ := Lib.hid hq
      clear hq
      by_cases hlt : k < 16
      · have hin := inB_cast hlt
        have t5 : (fMul (fMul a b) (k : Int) != fMul a (fMul b (k : Int))) = false := by rw [fMul_assoc' HS.out hin]; simp
        have t6 : (fMul a (fAdd b (k : Int)) != fAdd (fMul a b) (fMul a (k : Int))) = false := by rw [fMul_dist HS.out hin]; simp
        clear hin
        go_wp2_with fail
        refine (FieldMul_any (fMul a b) k _ (hT.below (below_quiet HB.out HQ.out))).mono ?_
        rintro e wa ⟨rfl, hq⟩
        have HQ := Lib.hid (HQ.out.trans hq)
        clear hq
        go_wp2_with fail
        refine (FieldMul_any b k _ (hT.below (below_quiet HB.out HQ.out))).mono ?_
        rintro e wa ⟨rfl, hq⟩
        have HQ := Lib.hid (HQ.out.trans hq)
        clear hq
        go_wp2_with fail
        refine (FieldMul_any a (fMul b k) _ (hT.below (below_quiet HB.out HQ.out))).mono ?_
        rintro e wa ⟨rfl, hq⟩
        have HQ := Lib.hid (HQ.out.trans hq)
        clear hq
        go_wp2_with fail
        refine (FieldAdd_any b k _).mono ?_
        rintro e wb ⟨rfl, rfl⟩
        go_wp2_with fail
        refine (FieldMul_any a (fAdd b k) _ (hT.below (below_quiet HB.out HQ.out))).mono ?_
        rintro e wa ⟨rfl, hq⟩
        have HQ := Lib.hid (HQ.out.trans hq)
        clear hq
        go_wp2_with fail
        refine (FieldMul_any a k _ (hT.below (below_quiet HB.out HQ.out))).mono ?_
        rintro e wa ⟨rfl, hq⟩
        have HQ := Lib.hid (HQ.out.trans hq)
        clear hq
        go_wp2_with fail
        refine (FieldAdd_any (fMul a b) (fMul a k) _).mono ?_
        rintro e wb ⟨rfl, rfl⟩
        go_wp2_with fail
        go_roundw
        case rel => exact ⟨k + 1, by omega, by go_num, HQ.out⟩
        case measure => simp [intOf]; omega
      · obtain rfl : k = 16 := by omega
        have HZ := Lib.hid (fMul_zero_iff HS.out)
        have t7 : (fMul a 1 == a) = true := by rw [fMul_one HS.out]; simp
        by_cases h1 : a = 0
        · have ta : (a == 0) = true := by simp [h1]
          have tz : (fMul a b == 0) = true := by rw [HZ.out.2 (Or.inl h1)]; rfl
          clear h1
          go_wp2_with fail
          refine (FieldMul_any a 1 _ (hT.below (below_quiet HB.out HQ.out))).mono ?_
          rintro e wa ⟨rfl, hq⟩
          have HQ := Lib.hid (HQ.out.trans hq)
          clear hq
          go_wp2
          go_ret
          exact ⟨rfl, below_quiet HB.out HQ.out⟩
        · have ta : (a == 0) = false := by simp [h1]
          by_cases h2 : b = 0
          · have tb : (b == 0) = true := by simp [h2]
            have tz : (fMul a b == 0) = true := by rw [HZ.out.2 (Or.inr h2)]; rfl
            clear h1 h2
            go_wp2_with fail
            refine (FieldMul_any a 1 _ (hT.below (below_quiet HB.out HQ.out))).mono ?_
            rintro e wa ⟨rfl, hq⟩
            have HQ := Lib.hid (HQ.out.trans hq)
            clear hq
            go_wp2
            go_ret
            exact ⟨rfl, below_quiet HB.out HQ.out⟩
          · have tb : (b == 0) = false := by simp [h2]
            have tz : (fMul a b == 0) = false := by rw [beq_eq_false_iff_ne]; intro h; exact (HZ.out.1 h).elim h1 h2
            clear h1 h2
            go_wp2_with fail
            refine (FieldMul_any a 1 _ (hT.below (below_quiet HB.out HQ.out))).mono ?_
            rintro e wa ⟨rfl, hq⟩
            have HQ := Lib.hid (HQ.out.trans hq)
            clear hq
            go_wp2
            go_ret
            exact ⟨rfl, below_quiet HB.out HQ.out⟩
set_option maxHeartbeats 1000000 in
set_option linter.unusedVariables false in
theorem walk_FnFieldPolynomial (w : World) (hT : Tabs w) (v0 : Value) (z0 : List Int) (ra0 : RowK .u8 w v0 z0) (hw0 : ∀ n ∈ z0, (Lit.int .u8 n).wf = true) :
    Calls Tryd.prog 12 #[v0] w fun e w' => e = .returned (.bool true) ∧ Below w.heap.size w w' := by
  obtain ⟨aa0, cc0, rfl⟩ := ra0.form
  by_cases hlen0 : 1048576 < z0.length
  · go_enter Tryd.func12, Tryd.ntmps12
    go_wp2
    go_ret
    exact ⟨rfl, Below.refl _ _⟩
  have HB : Hid (Below w.heap.size w w) := Below.refl _ _
  go_enter Tryd.func12, Tryd.ntmps12
  go_wp2_with fail
  refine (DrawPolynomialAt_any _ _ _ (ra0.belowAll HB.out) hw0).mono ?_
  rintro e w1 ⟨r1, zs, x, rfl, ho1, hl1, hx0, hx1, hbel⟩
  have s1 : w.heap.size ≤ w1.heap.size := hbel.size
  have HB1 := Lib.hid (below_step HB.out hbel)
  have HE := Lib.hid hbel
  clear hbel
  clear HB HE
  have HB := HB1
  clear HB1
  have O1 := ho1
  have lt2 := ho1.lt
  clear ho1
  go_wp2_with fail
  refine (PolynomialAt_any zs x _ _ (hT.below HB.out) (row_of_own O1)).mono ?_
  rintro e w2 ⟨rfl, hq⟩
  have HQ := Lib.hid hq
  clear hq
  have s2 : w1.heap.size ≤ w2.heap.size := (HQ.out.below 0).size
  have HB2 := Lib.hid (below_quiet HB.out HQ.out)
  have O3 := O1.quiet HQ.out
  clear O1
  clear HB HQ
  have HB := HB2
  clear HB2
  go_wp2_with fail
  refine (specPolynomialAt_any zs x _ _ (row_of_own O3)).mono ?_
  rintro e w3 ⟨rfl, hq⟩
  have HQ := Lib.hid hq
  clear hq
  have s3 : w2.heap.size ≤ w3.heap.size := (HQ.out.below 0).size
  have HB3 := Lib.hid (below_quiet HB.out HQ.out)
  have O4 := O3.quiet HQ.out
  clear O3
  clear HB HQ
  have HB := HB3
  clear HB3
  have t1 : (fPoly zs x != fPoly zs x) = false := by simp
  obtain ⟨n, hn1⟩ : ∃ k, k = (zs).length := ⟨_, rfl⟩
  obtain ⟨a1, c1, hv1⟩ := (row_of_own O4).form
  rw [← hn1] at hv1
  subst hv1
  have HN1 := Lib.hid hn1.symm
  clear hn1
  have hnn : n ≤ 1000 := by have := HN1.out; omega
  by_cases hn2 : n < 2
  · go_wp2_with fail
    refine (alive_any _).mono ?_
    rintro e w4 ⟨rfl, hbel⟩
    have s4 : w3.heap.size ≤ w4.heap.size := hbel.size
    have HB4 := Lib.hid (below_step HB.out hbel)
    have HE := Lib.hid hbel
    clear hbel
    have O5 := O4.belowAll HE.out
    clear O4
    clear HB HE
    have HB := HB4
    clear HB4
    go_wp2
    go_ret
    exact ⟨rfl, HB.out⟩
  · go_wp2_with fail
    refine (PolynomialAt_any zs 0 _ _ (hT.below HB.out) (row_of_own O4)).mono ?_
    rintro e w4 ⟨rfl, hq⟩
    have HQ := Lib.hid hq
    clear hq
    have s4 : w3.heap.size ≤ w4.heap.size := (HQ.out.below 0).size
    have HB4 := Lib.hid (below_quiet HB.out HQ.out)
    have O5 := O4.quiet HQ.out
    clear O4
    clear HB HQ
    have HB := HB4
    clear HB4
    cases hs : (inB 0 0 15 && decide (zs.length ≤ 15) && zs.all elemB)
    · have t2 : decide (fPoly zs 0 < 0) = true := by rw [fPoly_out hs]; rfl
      have t2b : fPoly zs 0 < 0 := by rw [fPoly_out hs]; decide
      go_wp2_with fail
      refine (alive_any _).mono ?_
      rintro e w5 ⟨rfl, hbel⟩
      have s5 : w4.heap.size ≤ w5.heap.size := hbel.size
      have HB5 := Lib.hid (below_step HB.out hbel)
      have HE := Lib.hid hbel
      clear hbel
      have O6 := O5.belowAll HE.out
      clear O5
      clear HB HE
      have HB := HB5
      clear HB5
      go_wp2
      go_ret
      exact ⟨rfl, HB.out⟩
    · have t2b := (fPoly_range hs).1
      have t2 : decide (fPoly zs 0 < 0) = false := by simp; omega
      have HS := Lib.hid (fPoly_parts hs)
      clear hs
      obtain ⟨_, _, _, _, hcell⟩ := RowK.at (row_of_own O5)
      obtain ⟨b, off, rfl, hc⟩ := hcell (by omega)
      have hc0 : w4.cell? ⟨b, off, none⟩ = some (.int .i64 (zs.getD 0 0)) := hc 0 (by omega)
      obtain ⟨y, hy⟩ : ∃ y, y = zs.getD 0 0 := ⟨_, rfl⟩
      rw [← hy] at hc0
      have HY := Lib.hid hy
      clear hcell hc hy
      by_cases hz0 : y = 0
      · have tz : (y == 0) = true := by rw [hz0]; rfl
        clear hz0
        go_wp2_with fail
        refine (alive_any _).mono ?_
        rintro e w5 ⟨rfl, hbel⟩
        have s5 : w4.heap.size ≤ w5.heap.size := hbel.size
        have HB5 := Lib.hid (below_step HB.out hbel)
        have HE := Lib.hid hbel
        clear hbel
        have O6 := O5.belowAll HE.out
        clear O5
        clear HB HE
        have HB := HB5
        clear HB5
        go_wp2
        go_ret
        exact ⟨rfl, HB.out⟩
      · have tz : (y == 0) = false := by simp [hz0]
        have HF := Lib.hid (zeros_few HS.out.2.1 HS.out.2.2 (by have := HN1.out; omega) (by rw [← HY.out]; exact hz0))
        clear hz0
        go_wp2_with fail
        go_loopw [5, 6] (fun z k wr => ∃ j : Nat, j ≤ 16 ∧ k = .int .i64 j ∧ z = .int .i64 (zerosN zs j) ∧ Quiet w4 wr) (fun _ k _ => 16 - (intOf k).toNat)
        case atStart => exact ⟨0, by omega, rfl, rfl, Quiet.same _⟩
        case round =>
          obtain ⟨j, hj, rfl, rfl, hq⟩ := hrel
          have HQ := Lib.hid hq
          clear hq
          have hzl := zerosN_le zs j
          by_cases hlt : j < 16
          · have HS2 := Lib.hid (zerosN_succ zs j)
            go_wp2_with fail
            refine (PolynomialAt_any zs j _ _ (hT.below (below_quiet HB.out HQ.out)) (row_of_own (O5.quiet HQ.out))).mono ?_
            rintro e wa ⟨rfl, hq⟩
            have HQ2 := Lib.hid (HQ.out.trans hq)
            clear hq
            cases ht : (fPoly zs (j : Int) == 0)
            · have HE := Lib.hid (show zerosN zs (j + 1) = zerosN zs j by have := HS2.out; rw [ht] at this; simpa using this)
              clear HS2
              go_wp2_with fail
              go_roundw
              case rel => exact ⟨j + 1, by omega, by go_num, by rw [HE.out], HQ2.out⟩
              case measure => simp [intOf]; omega
            · have HE := Lib.hid (show zerosN zs (j + 1) = zerosN zs j + 1 by have := HS2.out; rw [ht] at this; simpa using this)
              clear HS2
              go_wp2_with fail
              go_roundw
              case rel => exact ⟨j + 1, by omega, by go_num, by rw [HE.out]; go_num, HQ2.out⟩
              case measure => simp [intOf]; omega
          · obtain rfl : j = 16 := by omega
            have hle : (zerosN zs 16 : Int) ≤ (n : Int) - 1 := by have := HF.out; have := HN1.out; omega
            have hd : decide ((zerosN zs 16 : Int) ≤ (n : Int) - 1) = true := by simp; omega
            go_wp2
            go_ret
            exact ⟨rfl, below_quiet HB.out HQ.out⟩
end Go.Proofs.YtjcdinafghafcaaDoor
