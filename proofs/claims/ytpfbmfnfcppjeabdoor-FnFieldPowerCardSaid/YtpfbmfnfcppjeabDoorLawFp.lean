/-
  Walks of laws. Written by a program (laws_fp.py).
-/
import Derived.Test.YtpfbmfnfcppjeabDoorFieldM
import Derived.Test.YtpfbmfnfcppjeabDoorDrawP
namespace Go.Proofs.YtpfbmfnfcppjeabDoor
open Go.RowKit
set_option maxHeartbeats 1000000 in
set_option linter.unusedVariables false in
theorem walk_FnFieldPower (w : World) (hT : Tabs w) (v0 : Value) (z0 : List Int) (ra0 : RowK .u8 w v0 z0) (hw0 : ∀ n ∈ z0, (Lit.int .u8 n).wf = true) :
    Calls Tryd.prog 3 #[v0] w fun e w' => e = .returned (.bool true) ∧ Below w.heap.size w w' := by
  obtain ⟨aa0, cc0, rfl⟩ := ra0.form
  by_cases hlen0 : 1048576 < z0.length
  · go_enter Tryd.func3, Tryd.ntmps3
    go_wp2
    go_ret
    exact ⟨rfl, Below.refl _ _⟩
  have HB : Hid (Below w.heap.size w w) := Below.refl _ _
  go_enter Tryd.func3, Tryd.ntmps3
  go_wp2_with fail
  refine (DrawFieldPower_any _ _ _ (ra0.belowAll HB.out) hw0).mono ?_
  rintro e w1 ⟨a, n, rfl, ha0, ha1, hn0, hn1, hbel⟩
  have s1 : w.heap.size ≤ w1.heap.size := hbel.size
  have HB1 := Lib.hid (below_step HB.out hbel)
  have HE := Lib.hid hbel
  clear hbel
  clear HB HE
  have HB := HB1
  clear HB1
  go_wp2_with fail
  refine (FieldPower_any a n _ (hT.below HB.out)).mono ?_
  rintro e w2 ⟨rfl, hq⟩
  have HQ := Lib.hid hq
  clear hq
  have s2 : w1.heap.size ≤ w2.heap.size := (HQ.out.below 0).size
  have HB2 := Lib.hid (below_quiet HB.out HQ.out)
  clear HB HQ
  have HB := HB2
  clear HB2
  go_wp2_with fail
  refine (specFieldPower_any a n _).mono ?_
  rintro e wx ⟨rfl, rfl⟩
  have t1 : (fPow a n != fPow a n) = false := by simp
  cases hs : (inB a 0 15 && inB n 0 1000)
  · have e1 := fPow_neg hs
    obtain ⟨p, ep⟩ : ∃ p, p = fPow a n := ⟨_, rfl⟩
    rw [← ep] at e1 t1 ⊢
    subst e1
    clear hs ep
    go_wp2_with fail
    refine (alive_any _).mono ?_
    rintro e w3 ⟨rfl, hbel⟩
    have s3 : w2.heap.size ≤ w3.heap.size := hbel.size
    have HB3 := Lib.hid (below_step HB.out hbel)
    have HE := Lib.hid hbel
    clear hbel
    clear HB HE
    have HB := HB3
    clear HB3
    go_wp2
    go_ret
    exact ⟨rfl, HB.out⟩
  · have hia : inB a 0 15 = true := by simp only [Bool.and_eq_true] at hs; exact hs.1
    have t2 := fPow_range hs
    have t2b : decide (fPow a n < 0) = false := by simp; omega
    have HNX := Lib.hid (fun h => fPow_next' hs (n := n) h)
    have HP15 := Lib.hid (fun h => fPow_15 hia h)
    have HP0 := Lib.hid (fPow_zero hia)
    obtain ⟨p, ep⟩ : ∃ p, p = fPow a n := ⟨_, rfl⟩
    rw [← ep] at t1 t2 t2b HNX ⊢
    clear ep hs hia
    go_wp2_with fail
    refine (FieldPower_any a (n + 1) _ (hT.below HB.out)).mono ?_
    rintro e w3 ⟨rfl, hq⟩
    have HQ := Lib.hid hq
    clear hq
    have s3 : w2.heap.size ≤ w3.heap.size := (HQ.out.below 0).size
    have HB3 := Lib.hid (below_quiet HB.out HQ.out)
    clear HB HQ
    have HB := HB3
    clear HB3
    by_cases hn : n = 1000
    · subst hn
      by_cases ha : a = 0
      · subst ha
        go_wp2_with fail
        refine (FieldPower_any _ 0 _ (hT.below HB.out)).mono ?_
        rintro e w4 ⟨rfl, hq⟩
        have HQ := Lib.hid hq
        clear hq
        have s4 : w3.heap.size ≤ w4.heap.size := (HQ.out.below 0).size
        have HB4 := Lib.hid (below_quiet HB.out HQ.out)
        clear HB HQ
        have HB := HB4
        clear HB4
        rw [HP0.out]
        go_wp2
        go_ret
        exact ⟨rfl, HB.out⟩
      · have ta : (a == 0) = false := by rw [beq_eq_false_iff_ne]; exact ha
        have t15 : (fPow a 15 == 1) = true := by rw [HP15.out ha]; rfl
        have t15b := HP15.out ha
        go_wp2_with fail
        refine (FieldPower_any a 15 _ (hT.below HB.out)).mono ?_
        rintro e w4 ⟨rfl, hq⟩
        have HQ := Lib.hid hq
        clear hq
        have s4 : w3.heap.size ≤ w4.heap.size := (HQ.out.below 0).size
        have HB4 := Lib.hid (below_quiet HB.out HQ.out)
        clear HB HQ
        have HB := HB4
        clear HB4
        go_wp2_with fail
        refine (FieldPower_any _ 0 _ (hT.below HB.out)).mono ?_
        rintro e w5 ⟨rfl, hq⟩
        have HQ := Lib.hid hq
        clear hq
        have s5 : w4.heap.size ≤ w5.heap.size := (HQ.out.below 0).size
        have HB5 := Lib.hid (below_quiet HB.out HQ.out)
        clear HB HQ
        have HB := HB5
        clear HB5
        rw [HP0.out]
        go_wp2
        go_ret
        exact ⟨rfl, HB.out⟩
    · have tn : (n == 1000) = false := by rw [beq_eq_false_iff_ne]; exact hn
      have hnx := HNX.out hn
      rw [hnx]
      have tm : (fMul p a == fMul p a) = true := by simp
      clear hnx
      go_wp2_with fail
      refine (FieldMul_any p a _ (hT.below HB.out)).mono ?_
      rintro e w4 ⟨rfl, hq⟩
      have HQ := Lib.hid hq
      clear hq
      have s4 : w3.heap.size ≤ w4.heap.size := (HQ.out.below 0).size
      have HB4 := Lib.hid (below_quiet HB.out HQ.out)
      clear HB HQ
      have HB := HB4
      clear HB4
      by_cases ha : a = 0
      · subst ha
        go_wp2_with fail
        refine (FieldPower_any _ 0 _ (hT.below HB.out)).mono ?_
        rintro e w5 ⟨rfl, hq⟩
        have HQ := Lib.hid hq
        clear hq
        have s5 : w4.heap.size ≤ w5.heap.size := (HQ.out.below 0).size
        have HB5 := Lib.hid (below_quiet HB.out HQ.out)
        clear HB HQ
        have HB := HB5
        clear HB5
        rw [HP0.out]
        go_wp2
        go_ret
        exact ⟨rfl, HB.out⟩
      · have ta : (a == 0) = false := by rw [beq_eq_false_iff_ne]; exact ha
        have t15 : (fPow a 15 == 1) = true := by rw [HP15.out ha]; rfl
        have t15b := HP15.out ha
        go_wp2_with fail
        refine (FieldPower_any a 15 _ (hT.below HB.out)).mono ?_
        rintro e w5 ⟨rfl, hq⟩
        have HQ := Lib.hid hq
        clear hq
        have s5 : w4.heap.size ≤ w5.heap.size := (HQ.out.below 0).size
        have HB5 := Lib.hid (below_quiet HB.out HQ.out)
        clear HB HQ
        have HB := HB5
        clear HB5
        go_wp2_with fail
        refine (FieldPower_any _ 0 _ (hT.below HB.out)).mono ?_
        rintro e w6 ⟨rfl, hq⟩
        have HQ := Lib.hid hq
        clear hq
        have s6 : w5.heap.size ≤ w6.heap.size := (HQ.out.below 0).size
        have HB6 := Lib.hid (below_quiet HB.out HQ.out)
        clear HB HQ
        have HB := HB6
        clear HB6
        rw [HP0.out]
        go_wp2
        go_ret
        exact ⟨rfl, HB.out⟩
end Go.Proofs.YtpfbmfnfcppjeabDoor
