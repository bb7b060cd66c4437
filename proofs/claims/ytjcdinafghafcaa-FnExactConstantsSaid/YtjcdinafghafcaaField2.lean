/-
  Polynomials over the field, and the drawn arguments.
-/
import Derived.Test.YtjcdinafghafcaaField
import Derived.Test.YtjcdinafghafcaaDraw
namespace Go.Proofs.Ytjcdinafghafcaa
open Go.RowKit

set_option maxHeartbeats 400000 in
theorem allElements_any (zs : List Int) (v : Value) (w : World) (h : RowK .i64 w v zs) :
    Calls Try.prog 22 #[v] w fun e w' => e = .returned (.bool (zs.all elemB)) ∧ w = w' := by
  have hl := h.len
  obtain ⟨a, cap, rfl, _, _, _, hc⟩ := h
  go_enter Try.func22, Try.ntmps22
  go_wp2
  go_loop [7] (fun i => ∃ k : Nat, k ≤ zs.length ∧ i = .int .i64 k ∧ (zs.take k).all elemB = true) (fun i => zs.length - (intOf i).toNat)
  case atStart => exact ⟨0, Nat.zero_le _, rfl, by simp⟩
  case round =>
    obtain ⟨k, hk, rfl, hb⟩ := hrel
    have Hb := Lib.hid hb
    clear hb
    by_cases hlt : k < zs.length
    · obtain ⟨b, off, rfl, hcc⟩ := hc (by omega)
      have hx := hcc k hlt
      cases hbit : inB zs[k] 0 15
      · go_wp2_with (go_at_call 16; refine (isElement_any _ _).mono ?_; rintro e w' ⟨rfl, rfl⟩)
        go_ret
        exact ⟨ret_bool (by rw [all_false elemB zs k hlt hbit]), rfl⟩
      · have HB := Lib.hid (show elemB zs[k] = true from hbit)
        go_wp2_with (go_at_call 16; refine (isElement_any _ _).mono ?_; rintro e w' ⟨rfl, rfl⟩)
        go_round
        case rel => exact ⟨k + 1, by omega, by go_num, all_take_succ elemB zs k hlt Hb.out HB.out⟩
        case measure => simp [intOf]; omega
    · obtain rfl : k = zs.length := by omega
      have HV := Lib.hid (show zs.all elemB = true by have := Hb.out; rwa [List.take_length] at this)
      clear Hb
      go_wp2
      go_ret
      exact ⟨ret_bool HV.out.symm, rfl⟩

theorem elem_nat {zs : List Int} (h : zs.all elemB = true) (k : Nat) (hk : k < zs.length) : ∃ C : Nat, zs[k] = (C : Int) ∧ C < 16 := by
  rw [List.all_eq_true] at h
  exact inB_nat (h _ (List.getElem_mem hk))
theorem elems_lt {zs : List Int} (h : zs.all elemB = true) : ∀ c ∈ zs.map Int.toNat, c < 16 := by
  intro c hc
  obtain ⟨z, hz, rfl⟩ := List.mem_map.1 hc
  rw [List.all_eq_true] at h
  obtain ⟨C, rfl, hC⟩ := inB_nat (h z hz)
  simpa using hC
theorem peval_step {zs : List Int} (X k C : Nat) (hk : k < zs.length) (hC : zs[k] = (C : Int)) : peval ((zs.take (k + 1)).map Int.toNat) X = gmul (peval ((zs.take k).map Int.toNat) X) X ^^^ C := by
  rw [List.map_take, List.map_take, peval_take _ _ _ (by simpa using hk)]
  simp [hC]


end Go.Proofs.Ytjcdinafghafcaa
