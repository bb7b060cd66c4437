/-
  Polynomials over the field, and the drawn arguments.
-/
import Derived.Test.YtjcdinafghafcaaDoorField
import Derived.Test.YtjcdinafghafcaaDoorDraw
namespace Go.Proofs.YtjcdinafghafcaaDoor
open Go.RowKit

set_option maxHeartbeats 400000 in
theorem allElements_any (zs : List Int) (v : Value) (w : World) (h : RowK .i64 w v zs) :
    Calls Tryd.prog 36 #[v] w fun e w' => e = .returned (.bool (zs.all elemB)) ∧ w = w' := by
  have hl := h.len
  obtain ⟨a, cap, rfl, _, _, _, hc⟩ := h
  go_enter Tryd.func36, Tryd.ntmps36
  go_wp2
  go_loop [7] (fun i => ∃ k : Nat, k ≤ zs.length ∧ i = .int .i64 k ∧ (zs.take k).all elemB = true) (fun i => zs.length - (intOf i).toNat)
  case atStart => exact ⟨0, Nat.zero_le _, rfl, by simp⟩
  case round =>
    obtain ⟨k, hk, rfl, hb⟩ := hrel
    have Hb := Lib.hid hb
    clear hb
    by_cases hlt : k < zs.length
    · obtain ⟨b, off, rfl, hcc⟩ := hc (by omega)
      have hx := hcc k hlt
      cases hbit : inB zs[k] 0 15
      · go_wp2_with (go_at_call 33; refine (isElement_any _ _).mono ?_; rintro e w' ⟨rfl, rfl⟩)
        go_ret
        exact ⟨ret_bool (by rw [all_false elemB zs k hlt hbit]), rfl⟩
      · have HB := Lib.hid (show elemB zs[k] = true from hbit)
        go_wp2_with (go_at_call 33; refine (isElement_any _ _).mono ?_; rintro e w' ⟨rfl, rfl⟩)
        go_round
        case rel => exact ⟨k + 1, by omega, by go_num, all_take_succ elemB zs k hlt Hb.out HB.out⟩
        case measure => simp [intOf]; omega
    · obtain rfl : k = zs.length := by omega
      have HV := Lib.hid (show zs.all elemB = true by have := Hb.out; rwa [List.take_length] at this)
      clear Hb
      go_wp2
      go_ret
      exact ⟨ret_bool HV.out.symm, rfl⟩

theorem elem_nat {zs : List Int} (h : zs.all elemB = true) (k : Nat) (hk : k < zs.length) : ∃ C : Nat, zs[k] = (C : Int) ∧ C < 16 := by
  rw [List.all_eq_true] at h
  exact inB_nat (h _ (List.getElem_mem hk))
theorem elems_lt {zs : List Int} (h : zs.all elemB = true) : ∀ c ∈ zs.map Int.toNat, c < 16 := by
  intro c hc
  obtain ⟨z, hz, rfl⟩ := List.mem_map.1 hc
  rw [List.all_eq_true] at h
  obtain ⟨C, rfl, hC⟩ := inB_nat (h z hz)
  simpa using hC
theorem peval_step {zs : List Int} (X k C : Nat) (hk : k < zs.length) (hC : zs[k] = (C : Int)) : peval ((zs.take (k + 1)).map Int.toNat) X = gmul (peval ((zs.take k).map Int.toNat) X) X ^^^ C := by
  rw [List.map_take, List.map_take, peval_take _ _ _ (by simpa using hk)]
  simp [hC]

set_option maxHeartbeats 800000 in
theorem PolynomialAt_any (zs : List Int) (x : Int) (v : Value) (w : World) (hT : Tabs w) (h : RowK .i64 w v zs) :
    Calls Tryd.prog 23 #[v, .int .i64 x] w fun e w' => e = .returned (.int .i64 (fPoly zs x)) ∧ Quiet w w' := by
  have hl := h.len
  have h' := h
  obtain ⟨a, cap, rfl, _, _, _, hc⟩ := h
  cases h1 : inB x 0 15
  · go_enter Tryd.func23, Tryd.ntmps23
    go_wp2_with (go_at_call 33; refine (isElement_any _ _).mono ?_; rintro e w' ⟨rfl, rfl⟩)
    go_ret
    exact ⟨ret_int (by simp [fPoly, h1]), (by first | exact Quiet.same _ | exact Quiet.n _ _ | exact Quiet.nn _ _ _ | assumption)⟩
  · by_cases hlen : 15 < zs.length
    · have hd : decide ((15 : Int) < (zs.length : Int)) = true := by simp; omega
      go_enter Tryd.func23, Tryd.ntmps23
      go_wp2_with (go_at_call 33; refine (isElement_any _ _).mono ?_; rintro e w' ⟨rfl, rfl⟩)
      go_ret
      exact ⟨ret_int (by simp [fPoly, h1]; omega), (by first | exact Quiet.same _ | exact Quiet.n _ _ | exact Quiet.nn _ _ _ | assumption)⟩
    · have hd : decide ((15 : Int) < (zs.length : Int)) = false := by simp; omega
      cases h2 : zs.all elemB
      · go_enter Tryd.func23, Tryd.ntmps23
        go_wp2_with (first | (go_at_call 33; refine (isElement_any _ _).mono ?_; rintro e w' ⟨rfl, rfl⟩) | (go_at_call 36; refine (allElements_any _ _ _ h').mono ?_; rintro e w' ⟨rfl, rfl⟩))
        go_ret
        exact ⟨ret_int (by simp [fPoly, h1, h2]), (by first | exact Quiet.same _ | exact Quiet.n _ _ | exact Quiet.nn _ _ _ | assumption)⟩
      · obtain ⟨X, rfl, hX⟩ := inB_nat h1
        have HA := Lib.hid h2
        have HF : Hid (fPoly zs (X : Int) = ((peval (zs.map Int.toNat) X : Nat) : Int)) := by
          show fPoly zs (X : Int) = _
          rw [fPoly, h1, h2, show decide (zs.length ≤ 15) = true by simp; omega]; rfl
        go_enter Tryd.func23, Tryd.ntmps23
        go_wp2_with (first | (go_at_call 33; refine (isElement_any _ _).mono ?_; rintro e w' ⟨rfl, rfl⟩) | (go_at_call 36; refine (allElements_any _ _ _ h').mono ?_; rintro e w' ⟨rfl, rfl⟩))
        clear h2 h'
        go_loopw [5, 23] (fun p k wr => ∃ (j V q : Nat), j ≤ zs.length ∧ k = .int .i64 j ∧ p = .int .i64 (V : Int) ∧ V < 16 ∧ Hid (peval ((zs.take j).map Int.toNat) X = V) ∧ wr = w.drewN q) (fun _ k _ => zs.length - (intOf k).toNat)
        case atStart => exact ⟨0, 0, 0, by omega, rfl, rfl, by omega, rfl, rfl⟩
        case round =>
          obtain ⟨j, V, q, hj, rfl, rfl, hV, HV, rfl⟩ := hrel
          by_cases hlt : j < zs.length
          · obtain ⟨b, off, rfl, hcc⟩ := hc (by omega)
            obtain ⟨C, hCe, hC⟩ := elem_nat HA.out j hlt
            have hx := hcc j hlt
            have HS := Lib.hid (peval_step X j C hlt hCe)
            have hg := gmul_lt V hV X hX
            have hxl := xor_lt _ hg C hC
            have e1 := i64_xor (gmul V X) C (by omega) (by omega)
            have e2 := fMul_cast hV hX
            have hTq : Tabs (w.drewN q) := hT.quiet (Quiet.n _ _)
            have hx2 : w.cell? ⟨b, off + j, none⟩ = some (.int .i64 (C : Int)) := by rw [hx, ← hCe]; simp [List.getD, hlt]
            clear hx hcc hCe
            go_wp2_with (go_at_call 17; refine (FieldMul_any _ _ _ hTq).mono ?_; rintro e w' ⟨rfl, q2, rfl⟩)
            all_goals try (go_quiet (fail); go_wp2)
            go_roundw
            case rel => exact ⟨j + 1, gmul V X ^^^ C, _, by omega, by go_num, rfl, hxl, by show peval _ _ = _; rw [HS.out, HV.out], (by first | rfl | exact World.drewN_drewN ..)⟩
            case measure => simp [intOf]; omega
          · obtain rfl : j = zs.length := by omega
            have HE := Lib.hid (show ((V : Nat) : Int) = fPoly zs (X : Int) by rw [HF.out, ← HV.out, List.take_length])
            go_wp2
            go_ret
            exact ⟨ret_int HE.out, (by first | exact Quiet.same _ | exact Quiet.n _ _ | exact Quiet.nn _ _ _ | assumption)⟩

set_option maxHeartbeats 800000 in
theorem specPolynomialAt_any (zs : List Int) (x : Int) (v : Value) (w : World) (h : RowK .i64 w v zs) :
    Calls Tryd.prog 21 #[v, .int .i64 x] w fun e w' => e = .returned (.int .i64 (fPoly zs x)) ∧ Quiet w w' := by
  have hl := h.len
  obtain ⟨a, cap, rfl, _, _, _, hc⟩ := h
  cases h1 : inB x 0 15
  · go_enter Tryd.func21, Tryd.ntmps21
    go_wp2_with (go_at_call 31; refine (l1In_any _ _ _ _).mono ?_; rintro e w' ⟨rfl, rfl⟩)
    go_ret
    exact ⟨ret_int (by simp [fPoly, h1]), (by first | exact Quiet.same _ | exact Quiet.n _ _ | exact Quiet.nn _ _ _ | assumption)⟩
  · by_cases hlen : 15 < zs.length
    · have hd : decide ((15 : Int) < (zs.length : Int)) = true := by simp; omega
      go_enter Tryd.func21, Tryd.ntmps21
      go_wp2_with (go_at_call 31; refine (l1In_any _ _ _ _).mono ?_; rintro e w' ⟨rfl, rfl⟩)
      go_ret
      exact ⟨ret_int (by simp [fPoly, h1]; omega), (by first | exact Quiet.same _ | exact Quiet.n _ _ | exact Quiet.nn _ _ _ | assumption)⟩
    · have hd : decide ((15 : Int) < (zs.length : Int)) = false := by simp; omega
      obtain ⟨X, rfl, hX⟩ := inB_nat h1
      go_enter Tryd.func21, Tryd.ntmps21
      go_wp2_with (go_at_call 31; refine (l1In_any _ _ _ _).mono ?_; rintro e w' ⟨rfl, rfl⟩)
      go_loopw [5, 6] (fun p k wr => ∃ (j V : Nat), j ≤ zs.length ∧ k = .int .i64 j ∧ p = .int .i64 (V : Int) ∧ V < 16 ∧ Hid (peval ((zs.take j).map Int.toNat) X = V) ∧ Hid ((zs.take j).all elemB = true) ∧ Quiet w wr) (fun _ k _ => zs.length - (intOf k).toNat)
      case atStart => exact ⟨0, 0, by omega, rfl, rfl, by omega, rfl, rfl, Quiet.same _⟩
      case round =>
        obtain ⟨j, V, hj, rfl, rfl, hV, HV, HA, HQ⟩ := hrel
        by_cases hlt : j < zs.length
        · obtain ⟨b, off, rfl, hcc⟩ := hc (by omega)
          have hx := (HQ.cell ⟨b, off + j, none⟩).trans (hcc j hlt)
          cases hbit : inB zs[j] 0 15
          · go_wp2_with (go_at_call 31; refine (l1In_any _ _ _ _).mono ?_; rintro e w' ⟨rfl, rfl⟩)
            go_ret
            exact ⟨ret_int (by rw [fPoly, all_false elemB zs j hlt hbit]; simp), HQ⟩
          · obtain ⟨C, hCe, hC⟩ := inB_nat hbit
            have HS := Lib.hid (peval_step X j C hlt hCe)
            have HA2 := Lib.hid (all_take_succ elemB zs j hlt HA.out hbit)
            have hg := gmul_lt V hV X hX
            have hxl := xor_lt _ hg C hC
            have e1 := i64_xor (gmul V X) C (by omega) (by omega)
            have hx2 : wr.cell? ⟨b, off + j, none⟩ = some (.int .i64 (C : Int)) := by rw [hx, ← hCe]; simp [List.getD, hlt]
            have hin := inB_cast hC
            clear hx hcc hCe hbit
            go_wp2_with (go_at_call 31; refine (l1In_any _ _ _ _).mono ?_; rintro e w' ⟨rfl, rfl⟩)
            go_quiet ((go_at_call 32; exact Calls.quiet_of_same ((l5Mul_any V X hV hX _).mono fun _ _ h => ⟨h.1, h.2.symm⟩)))
            go_wp2
            go_roundw
            case rel => exact ⟨j + 1, gmul V X ^^^ C, by omega, by go_num, rfl, hxl, by show peval _ _ = _; rw [HS.out, HV.out], HA2, HQ.trans (Quiet.n _ _)⟩
            case measure => simp [intOf]; omega
        · obtain rfl : j = zs.length := by omega
          have HE := Lib.hid (show ((V : Nat) : Int) = fPoly zs (X : Int) by
            have := HA.out
            rw [List.take_length] at this
            rw [fPoly, h1, this, show decide (zs.length ≤ 15) = true by simp; omega, ← HV.out, List.take_length]; rfl)
          go_wp2
          go_ret
          exact ⟨ret_int HE.out, HQ⟩
end Go.Proofs.YtjcdinafghafcaaDoor
