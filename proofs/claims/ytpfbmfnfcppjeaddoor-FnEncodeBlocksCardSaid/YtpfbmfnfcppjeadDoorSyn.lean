/-
  The syndrome, by the program and by the reference; drawn lists of a fixed length.
-/
import Derived.Test.YtpfbmfnfcppjeadDoorBlkM
import Derived.Test.YtpfbmfnfcppjeadDoorDraw2
namespace Go.Proofs.YtpfbmfnfcppjeadDoor
open Go.RowKit

theorem synI_neg {zs : List Int} (h : (validB zs && zs.length == 7) = false) : synI zs = -1 := by simp only [synI, h]; rfl
theorem synI_pos {zs : List Int} (h1 : validB zs = true) (h2 : zs.length = 7) : synI zs = (syn 0 0 zs : Int) := by simp [synI, h1, h2]
theorem syn_step {zs : List Int} {k b : Nat} (hk : k < zs.length) (hb : zs.getD k 0 = (b : Int)) : syn 0 0 (zs.take (k + 1)) = if b = 1 then syn 0 0 (zs.take k) ^^^ (k + 1) else syn 0 0 (zs.take k) := by
  rw [syn_take zs k hk]
  have e : zs[k] = (b : Int) := by rw [← hb]; simp [List.getD, hk]
  rw [e]
  by_cases h : b = 1
  · subst h; simp
  · rw [if_neg h, if_neg (by omega)]
set_option maxHeartbeats 400000 in
theorem syndrome_any (zs : List Int) (v : Value) (w : World) (hrow : RowK .i64 w v zs) (hb : BitL zs) (hl : zs.length ≤ 7) :
    Calls Tryd.prog 22 #[v] w fun e w' => e = .returned (.int .i64 ((syn 0 0 zs : Nat) : Int)) ∧ w = w' := by
  obtain ⟨a, cap, rfl, _, _, _, hc⟩ := hrow
  go_enter Tryd.func22, Tryd.ntmps22
  go_wp2
  go_loop [3, 8] (fun s i => ∃ k S : Nat, k ≤ zs.length ∧ i = .int .i64 k ∧ s = .int .i64 S ∧ S < 8 ∧ Hid (syn 0 0 (zs.take k) = S)) (fun _ i => zs.length - (intOf i).toNat)
  case atStart => exact ⟨0, 0, by omega, rfl, rfl, by omega, by rw [List.take_zero]; rfl⟩
  case round =>
    obtain ⟨k, S, hk, rfl, rfl, hS, HS⟩ := hrel
    by_cases hlt : k < zs.length
    · obtain ⟨b, off, rfl, hcc⟩ := hc (by omega)
      obtain ⟨x, hx, hx2⟩ := bit_nat hb k hlt
      have hcell : w.cell? ⟨b, off + k, none⟩ = some (.int .i64 (x : Int)) := by rw [hcc k hlt, hx]
      have HT := Lib.hid (syn_step hlt hx)
      clear hcc hx
      have hx01 : x = 0 ∨ x = 1 := by omega
      rcases hx01 with rfl | rfl
      · have e1 : bits .xor .i64 (S : Int) 0 = (S : Int) := by have := i64_xor S 0 (by omega) (by omega); simpa using this
        go_wp2
        go_round
        case rel => exact ⟨k + 1, S, by omega, by go_num, rfl, hS, by show _ = _; rw [HT.out, if_neg (by omega)]; exact HS.out⟩
        case measure => simp [intOf]; omega
      · have e1 := i64_xor S (k + 1) (by omega) (by omega)
        have e2 : bits .xor .i64 (S : Int) ((k : Int) + 1) = ((S ^^^ (k + 1) : Nat) : Int) := by rw [← e1]; simp
        have hlt8 : S ^^^ (k + 1) < 8 := Nat.xor_lt_two_pow (n := 3) (by omega) (by omega)
        clear e1
        go_wp2
        go_round
        case rel => exact ⟨k + 1, S ^^^ (k + 1), by omega, by go_num, by go_num, hlt8, by show _ = _; rw [HT.out, if_pos rfl, HS.out]⟩
        case measure => simp [intOf]; omega
    · obtain rfl : k = zs.length := by omega
      have HE := Lib.hid (show S = syn 0 0 zs by have := HS.out; rw [List.take_length] at this; exact this.symm)
      go_wp2
      go_ret
      exact ⟨ret_int (by rw [HE.out]), rfl⟩
end Go.Proofs.YtpfbmfnfcppjeadDoor
