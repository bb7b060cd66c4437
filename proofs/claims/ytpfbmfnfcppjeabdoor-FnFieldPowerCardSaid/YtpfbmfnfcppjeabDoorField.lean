/-
  The field's functions: the program's (by tables) and the reference's (by shifts) compute the same.
-/
import Derived.Test.YtpfbmfnfcppjeabDoorMake
import Derived.Test.YtpfbmfnfcppjeabDoorArith
import Derived.Test.YtpfbmfnfcppjeabDoorGf
import Derived.RegionTactic
import Derived.Stop.LaidErr
import Derived.Lib.LaidTab
namespace Go.Proofs.YtpfbmfnfcppjeabDoor
open Go.RowKit

def fAdd (a b : Int) : Int := if inB a 0 15 && inB b 0 15 then ((a.toNat ^^^ b.toNat : Nat) : Int) else -1
def fMul (a b : Int) : Int := if inB a 0 15 && inB b 0 15 then ((gmul a.toNat b.toNat : Nat) : Int) else -1
def fInv (a : Int) : Int := if inB a 1 15 then ((ginv a.toNat : Nat) : Int) else 0
def fPow (a n : Int) : Int := if inB a 0 15 && inB n 0 1000 then ((gpow a.toNat n.toNat : Nat) : Int) else -1
def elemB (x : Int) : Bool := inB x 0 15
def fPoly (zs : List Int) (x : Int) : Int := if inB x 0 15 && decide (zs.length ≤ 15) && zs.all elemB then ((peval (zs.map Int.toNat) x.toNat : Nat) : Int) else -1

theorem vi {k : IntKind} {a b : Int} (h : a = b) : Value.int k a = Value.int k b := by rw [h]
theorem inB_nat {a : Int} (h : inB a 0 15 = true) : ∃ A : Nat, a = A ∧ A < 16 := by
  simp [inB] at h
  exact ⟨a.toNat, by omega, by omega⟩
theorem inB_cast {A : Nat} (h : A < 16) : inB (A : Int) 0 15 = true := by simp [inB]; omega
theorem fAdd_cast {A B : Nat} (ha : A < 16) (hb : B < 16) : fAdd A B = ((A ^^^ B : Nat) : Int) := by simp [fAdd, inB_cast ha, inB_cast hb]
theorem fMul_cast {A B : Nat} (ha : A < 16) (hb : B < 16) : fMul A B = ((gmul A B : Nat) : Int) := by simp [fMul, inB_cast ha, inB_cast hb]

theorem isElement_any (a : Int) (w : World) : Calls Tryd.prog 12 #[.int .i64 a] w fun e w' => e = .returned (.bool (inB a 0 15)) ∧ w = w' := by
  by_cases h1 : 0 ≤ a <;> by_cases h2 : a < 16
  all_goals
    go_enter Tryd.func12, Tryd.ntmps12
    go_wp2
    all_goals go_ret
    all_goals exact ⟨ret_bool (by simp [inB]; omega), rfl⟩


theorem lmul_zero : ∀ (f n a : Nat), lmul f n a 0 = n
  | 0, _, _ => rfl
  | f + 1, n, a => by simp [lmul]
set_option maxHeartbeats 800000 in
theorem l5Mul_any (A B : Nat) (hA : A < 16) (hB : B < 16) (w : World) : Calls Tryd.prog 14 #[.int .i64 (A : Int), .int .i64 (B : Int)] w fun e w' => e = .returned (.int .i64 ((gmul A B : Nat) : Int)) ∧ w = w' := by
  have HL := Lib.hid (lmul_is A hA B hB)
  go_enter Tryd.func14, Tryd.ntmps14
  go_wp2
  go_loop [0, 1, 5] (fun a b n => ∃ (f x y z : Nat), a = .int .i64 x ∧ b = .int .i64 y ∧ n = .int .i64 z ∧ x < 16 ∧ y < 16 ∧ z < 16 ∧ y < 2 ^ f ∧ lmul f z x y = gmul A B) (fun _ b _ => (intOf b).toNat)
  case atStart => exact ⟨4, A, B, 0, rfl, rfl, rfl, hA, hB, by omega, by omega, HL.out⟩
  case round =>
    obtain ⟨f, x, y, z, rfl, rfl, rfl, hx, hy, hz, hf, hrest⟩ := hrel
    have HR := Lib.hid hrest
    have HF := Lib.hid hf
    clear hrest hf HL
    by_cases h0 : 0 < y
    · have hd := dbl_lt x hx
      have hzx := xor_lt z hz x hx
      have e1 := i64_xor z x (by omega) (by omega)
      have e2 : bits .xor .i64 (2 * (x : Int)) 19 = ((2 * x ^^^ 19 : Nat) : Int) := by have := i64_xor (2 * x) 19 (by omega) (by omega); simpa using this
      have HD1 : Hid (16 ≤ 2 * x → dbl x = 2 * x ^^^ 19) := fun h => by rw [dbl, if_pos h]
      have HD2 : Hid (¬ 16 ≤ 2 * x → dbl x = 2 * x) := fun h => by rw [dbl, if_neg h]
      have HZ1 : Hid (y % 2 = 1 → (if y % 2 = 1 then z ^^^ x else z) = z ^^^ x) := fun h => by rw [if_pos h]
      have HZ2 : Hid (¬ y % 2 = 1 → (if y % 2 = 1 then z ^^^ x else z) = z) := fun h => by rw [if_neg h]
      have hzz : (if y % 2 = 1 then z ^^^ x else z) < 16 := by split <;> assumption
      have HZZ := Lib.hid hzz
      clear hzz
      cases f with
      | zero => have := HF.out; omega
      | succ f =>
        have hy2 : y / 2 < 2 ^ f := by have := HF.out; rw [Nat.pow_succ] at this; omega
        have HE : Hid (lmul f (if y % 2 = 1 then z ^^^ x else z) (dbl x) (y / 2) = gmul A B) := by
          have := HR.out; rw [lmul, if_neg (by omega)] at this; exact this
        have HY := Lib.hid hy2
        clear HR HF hy2
        by_cases hb : y % 2 = 1 <;> by_cases hg : 16 ≤ 2 * x
        all_goals
          go_wp2
          go_round
          case rel => exact ⟨f, dbl x, y / 2, (if y % 2 = 1 then z ^^^ x else z), vi (by first | rw [HD1.out (by omega)] | (rw [HD2.out (by omega)]; omega)), vi (by omega), vi (by first | rw [HZ1.out (by omega)] | rw [HZ2.out (by omega)]), hd, by omega, HZZ.out, HY.out, HE.out⟩
          case measure => simp [intOf]; omega
    · obtain rfl : y = 0 := by omega
      have HE := Lib.hid (show z = gmul A B by have := HR.out; rwa [lmul_zero] at this)
      go_wp2
      go_ret
      exact ⟨ret_int (by rw [HE.out]), rfl⟩

/-- What the two tables hold. -/
def Tabs (w : World) : Prop := 2 ≤ w.heap.size ∧ (∀ i, i < 15 → w.cell? ⟨0, i, none⟩ = some (.int .i64 ((powT.getD i 0 : Nat) : Int))) ∧ (∀ i, i < 16 → w.cell? ⟨1, i, none⟩ = some (.int .i64 ((logT.getD i 0 : Nat) : Int)))
theorem Tabs.kept {w w' : World} (h : Tabs w) (hs : w.heap.size ≤ w'.heap.size) (hb : ∀ k, k < 2 → w'.heap[k]? = w.heap[k]?) : Tabs w' := by
  obtain ⟨h1, h2, h3⟩ := h
  exact ⟨by omega, fun i hi => (World.cell?_of_block (w := w) (hb 0 (by omega))).trans (h2 i hi), fun i hi => (World.cell?_of_block (w := w) (hb 1 (by omega))).trans (h3 i hi)⟩
theorem Tabs.below {w w' : World} (h : Tabs w) (hb : Below w.heap.size w w') : Tabs w' := h.kept hb.size fun k hk => hb.block k (by have := h.1; omega)
theorem Tabs.quiet {w w' : World} (h : Tabs w) (hq : Quiet w w') : Tabs w' := h.below (hq.below _)

set_option maxHeartbeats 800000 in
theorem FieldMul_any (a b : Int) (w : World) (hT : Tabs w) : Calls Tryd.prog 8 #[.int .i64 a, .int .i64 b] w fun e w' => e = .returned (.int .i64 (fMul a b)) ∧ Quiet w w' := by
  cases h1 : inB a 0 15
  · go_enter Tryd.func8, Tryd.ntmps8
    go_wp2_with (go_at_call 12; refine (isElement_any _ _).mono ?_; rintro e w' ⟨rfl, rfl⟩)
    go_ret
    exact ⟨ret_int (by simp [fMul, h1]), (by first | exact Quiet.same _ | exact Quiet.n _ _ | exact Quiet.nn _ _ _ | assumption)⟩
  · cases h2 : inB b 0 15
    · go_enter Tryd.func8, Tryd.ntmps8
      go_wp2_with (go_at_call 12; refine (isElement_any _ _).mono ?_; rintro e w' ⟨rfl, rfl⟩)
      go_ret
      exact ⟨ret_int (by simp [fMul, h1, h2]), (by first | exact Quiet.same _ | exact Quiet.n _ _ | exact Quiet.nn _ _ _ | assumption)⟩
    · obtain ⟨A, rfl, hA⟩ := inB_nat h1
      obtain ⟨B, rfl, hB⟩ := inB_nat h2
      have HF := Lib.hid (fMul_cast hA hB)
      by_cases hA0 : A = 0
      · subst hA0
        go_enter Tryd.func8, Tryd.ntmps8
        go_wp2_with (go_at_call 12; refine (isElement_any _ _).mono ?_; rintro e w' ⟨rfl, rfl⟩)
        go_ret
        exact ⟨ret_int (by rw [HF.out, zero_gmul]; rfl), (by first | exact Quiet.same _ | exact Quiet.n _ _ | exact Quiet.nn _ _ _ | assumption)⟩
      · have ta : ((A : Int) == 0) = false := beq_eq_false_iff_ne.2 (by omega)
        by_cases hB0 : B = 0
        · subst hB0
          go_enter Tryd.func8, Tryd.ntmps8
          go_wp2_with (go_at_call 12; refine (isElement_any _ _).mono ?_; rintro e w' ⟨rfl, rfl⟩)
          go_ret
          exact ⟨ret_int (by rw [HF.out, gmul_zero]; rfl), (by first | exact Quiet.same _ | exact Quiet.n _ _ | exact Quiet.nn _ _ _ | assumption)⟩
        · have tb : ((B : Int) == 0) = false := beq_eq_false_iff_ne.2 (by omega)
          have ca := hT.2.2 A hA
          have cb := hT.2.2 B hB
          have hla := log_lt A hA
          have hlb := log_lt B hB
          obtain ⟨la, ela⟩ : ∃ x, x = logT.getD A 0 := ⟨_, rfl⟩
          obtain ⟨lb, elb⟩ : ∃ x, x = logT.getD B 0 := ⟨_, rfl⟩
          obtain ⟨r, er⟩ : ∃ x, x = (la + lb) % 15 := ⟨_, rfl⟩
          have hr : r < 15 := by omega
          have cr := hT.2.1 r hr
          have HG : Hid (gmul A B = powT.getD r 0) := by show gmul A B = _; rw [gmul, if_neg (by omega), er, ela, elb]
          rw [← ela] at ca hla
          rw [← elb] at cb hlb
          have e1 := IntWalk.i64_in ((la : Int) + (lb : Int)) (by omega)
          have e2 : ((la : Int) + (lb : Int)).tmod 15 = (r : Int) := by rw [er, Int.tmod_eq_emod_of_nonneg (by omega)]; simp
          have hr0 : (0 : Int) ≤ (r : Int) ∧ (r : Int) < 15 := by omega
          have ha0 : (0 : Int) ≤ (A : Int) ∧ (A : Int) < 16 := by omega
          have hb0 : (0 : Int) ≤ (B : Int) ∧ (B : Int) < 16 := by omega
          clear hT ela elb er
          go_enter Tryd.func8, Tryd.ntmps8
          go_wp2_with (go_at_call 12; refine (isElement_any _ _).mono ?_; rintro e w' ⟨rfl, rfl⟩)
          go_quiet (fail)
          clear e1 e2
          go_wp2
          go_ret
          exact ⟨ret_int (by rw [HF.out, HG.out]; first | rfl | simp), (by first | exact Quiet.same _ | exact Quiet.n _ _ | exact Quiet.nn _ _ _ | assumption)⟩



set_option maxHeartbeats 800000 in
theorem FieldPower_any (a n : Int) (w : World) (hT : Tabs w) : Calls Tryd.prog 5 #[.int .i64 a, .int .i64 n] w fun e w' => e = .returned (.int .i64 (fPow a n)) ∧ Quiet w w' := by
  cases h1 : inB a 0 15
  · go_enter Tryd.func5, Tryd.ntmps5
    go_wp2_with (go_at_call 12; refine (isElement_any _ _).mono ?_; rintro e w' ⟨rfl, rfl⟩)
    all_goals go_ret
    all_goals exact ⟨ret_int (by simp [fPow, h1]), (by first | exact Quiet.same _ | exact Quiet.n _ _ | exact Quiet.nn _ _ _ | assumption)⟩
  · by_cases hn0 : n < 0
    · go_enter Tryd.func5, Tryd.ntmps5
      go_wp2_with (go_at_call 12; refine (isElement_any _ _).mono ?_; rintro e w' ⟨rfl, rfl⟩)
      all_goals go_ret
      all_goals exact ⟨ret_int (by simp [fPow, inB]; omega), (by first | exact Quiet.same _ | exact Quiet.n _ _ | exact Quiet.nn _ _ _ | assumption)⟩
    · by_cases hn1 : 1000 < n
      · go_enter Tryd.func5, Tryd.ntmps5
        go_wp2_with (go_at_call 12; refine (isElement_any _ _).mono ?_; rintro e w' ⟨rfl, rfl⟩)
        all_goals go_ret
        all_goals exact ⟨ret_int (by simp [fPow, inB]; omega), (by first | exact Quiet.same _ | exact Quiet.n _ _ | exact Quiet.nn _ _ _ | assumption)⟩
      · obtain ⟨A, rfl, hA⟩ := inB_nat h1
        obtain ⟨m, rfl⟩ := Int.eq_ofNat_of_zero_le (show 0 ≤ n by omega)
        have HF : Hid (fPow (A : Int) (m : Int) = ((gpowT A m : Nat) : Int)) := by
          show fPow (A : Int) (m : Int) = _
          rw [← gpow_is A hA]
          simp [fPow, h1, show inB (m : Int) 0 1000 = true by simp [inB]; omega]
        by_cases hm : m = 0
        · subst hm
          go_enter Tryd.func5, Tryd.ntmps5
          go_wp2_with (go_at_call 12; refine (isElement_any _ _).mono ?_; rintro e w' ⟨rfl, rfl⟩)
          all_goals go_ret
          all_goals exact ⟨ret_int (by rw [HF.out]; rfl), (by first | exact Quiet.same _ | exact Quiet.n _ _ | exact Quiet.nn _ _ _ | assumption)⟩
        · have tm : ((m : Int) == 0) = false := beq_eq_false_iff_ne.2 (by omega)
          by_cases hA0 : A = 0
          · subst hA0
            go_enter Tryd.func5, Tryd.ntmps5
            go_wp2_with (go_at_call 12; refine (isElement_any _ _).mono ?_; rintro e w' ⟨rfl, rfl⟩)
            all_goals go_ret
            all_goals exact ⟨ret_int (by rw [HF.out, gpowT, if_neg hm]; rfl), (by first | exact Quiet.same _ | exact Quiet.n _ _ | exact Quiet.nn _ _ _ | assumption)⟩
          · have ta : ((A : Int) == 0) = false := beq_eq_false_iff_ne.2 (by omega)
            have ca := hT.2.2 A hA
            have hla := log_lt A hA
            obtain ⟨la, ela⟩ : ∃ x, x = logT.getD A 0 := ⟨_, rfl⟩
            obtain ⟨r, er⟩ : ∃ x, x = la * m % 15 := ⟨_, rfl⟩
            have hr : r < 15 := by omega
            have cr := hT.2.1 r hr
            have HG : Hid (gpowT A m = powT.getD r 0) := by show gpowT A m = _; rw [gpowT, if_neg hm, if_neg hA0, er, ela]
            rw [← ela] at ca hla
            have hmul : la * m ≤ 15 * 1000 := Nat.mul_le_mul (by omega) (by omega)
            obtain ⟨lm, elm⟩ : ∃ x, x = la * m := ⟨_, rfl⟩
            rw [← elm] at er hmul
            have e0 : (la : Int) * (m : Int) = (lm : Int) := by rw [elm]; simp
            have hlm : -9223372036854775808 ≤ (lm : Int) ∧ (lm : Int) ≤ 9223372036854775807 := by clear HG HF hr cr ca hT er; omega
            have e1 := IntWalk.i64_in (lm : Int) hlm
            have e4 : wrap64 (lm : Int) = (lm : Int) := IntWalk.wrap64_in (lm : Int) hlm
            clear hlm
            have e2 : (lm : Int).tmod 15 = (r : Int) := by rw [er, Int.tmod_eq_emod_of_nonneg (by omega)]; simp
            have e3 : (lm : Int) % 15 = (r : Int) := by rw [er]; simp
            have hr0 : (0 : Int) ≤ (r : Int) ∧ (r : Int) < 15 := by omega
            have ha0 : (0 : Int) ≤ (A : Int) ∧ (A : Int) < 16 := by omega
            clear hT ela er elm
            go_enter Tryd.func5, Tryd.ntmps5
            go_wp2_with (go_at_call 12; refine (isElement_any _ _).mono ?_; rintro e w' ⟨rfl, rfl⟩)
            all_goals go_ret
            all_goals exact ⟨ret_int (by rw [HF.out, HG.out]; first | rfl | simp), (by first | exact Quiet.same _ | exact Quiet.n _ _ | exact Quiet.nn _ _ _ | assumption)⟩

set_option maxHeartbeats 800000 in
theorem specFieldPower_any (a n : Int) (w : World) : Calls Tryd.prog 6 #[.int .i64 a, .int .i64 n] w fun e w' => e = .returned (.int .i64 (fPow a n)) ∧ w = w' := by
  cases h1 : inB a 0 15
  · go_enter Tryd.func6, Tryd.ntmps6
    go_wp2_with (go_at_call 13; refine (l1In_any _ _ _ _).mono ?_; rintro e w' ⟨rfl, rfl⟩)
    go_ret
    exact ⟨ret_int (by simp [fPow, h1]), rfl⟩
  · cases h2 : inB n 0 1000
    · go_enter Tryd.func6, Tryd.ntmps6
      go_wp2_with (go_at_call 13; refine (l1In_any _ _ _ _).mono ?_; rintro e w' ⟨rfl, rfl⟩)
      go_ret
      exact ⟨ret_int (by simp [fPow, h1, h2]), rfl⟩
    · obtain ⟨A, rfl, hA⟩ := inB_nat h1
      have hn : 0 ≤ n ∧ n ≤ 1000 := by simp [inB] at h2; exact h2
      obtain ⟨m, rfl⟩ := Int.eq_ofNat_of_zero_le hn.1
      have HF : Hid (fPow (A : Int) (m : Int) = ((gpow A m : Nat) : Int)) := by show fPow (A : Int) (m : Int) = _; simp [fPow, h1, h2]
      go_enter Tryd.func6, Tryd.ntmps6
      go_wp2_with (go_at_call 13; refine (l1In_any _ _ _ _).mono ?_; rintro e w' ⟨rfl, rfl⟩)
      go_loop [5, 6] (fun p k => ∃ j : Nat, j ≤ m ∧ k = .int .i64 j ∧ p = .int .i64 ((gpow A j : Nat) : Int)) (fun _ k => m - (intOf k).toNat)
      case atStart => exact ⟨0, by omega, rfl, rfl⟩
      case round =>
        obtain ⟨j, hj, rfl, rfl⟩ := hrel
        have hpl := gpow_lt A hA j
        by_cases hlt : j < m
        · go_wp2_with (go_at_call 14; refine (l5Mul_any _ A hpl hA _).mono ?_; rintro e w' ⟨rfl, rfl⟩)
          go_round
          case rel => exact ⟨j + 1, by omega, by go_num, rfl⟩
          case measure => simp [intOf]; omega
        · obtain rfl : j = m := by omega
          go_wp2
          go_ret
          exact ⟨ret_int HF.out.symm, rfl⟩
end Go.Proofs.YtpfbmfnfcppjeabDoor
