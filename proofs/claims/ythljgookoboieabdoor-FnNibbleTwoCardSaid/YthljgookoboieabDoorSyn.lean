/-
  The syndrome, by the program and by the reference; drawn lists of a fixed length.
-/
import Derived.Test.YthljgookoboieabDoorBlkM
import Derived.Test.YthljgookoboieabDoorDraw2
namespace Go.Proofs.YthljgookoboieabDoor
open Go.RowKit

theorem synI_neg {zs : List Int} (h : (validB zs && zs.length == 7) = false) : synI zs = -1 := by simp only [synI, h]; rfl
theorem synI_pos {zs : List Int} (h1 : validB zs = true) (h2 : zs.length = 7) : synI zs = (syn 0 0 zs : Int) := by simp [synI, h1, h2]
theorem syn_step {zs : List Int} {k b : Nat} (hk : k < zs.length) (hb : zs.getD k 0 = (b : Int)) : syn 0 0 (zs.take (k + 1)) = if b = 1 then syn 0 0 (zs.take k) ^^^ (k + 1) else syn 0 0 (zs.take k) := by
  rw [syn_take zs k hk]
  have e : zs[k] = (b : Int) := by rw [← hb]; simp [List.getD, hk]
  rw [e]
  by_cases h : b = 1
  · subst h; simp
  · rw [if_neg h, if_neg (by omega)]
set_option maxHeartbeats 400000 in
theorem syndrome_any (zs : List Int) (v : Value) (w : World) (hrow : RowK .i64 w v zs) (hb : BitL zs) (hl : zs.length ≤ 7) :
    Calls Tryd.prog 38 #[v] w fun e w' => e = .returned (.int .i64 ((syn 0 0 zs : Nat) : Int)) ∧ w = w' := by
  obtain ⟨a, cap, rfl, _, _, _, hc⟩ := hrow
  go_enter Tryd.func38, Tryd.ntmps38
  go_wp2
  go_loop [3, 8] (fun s i => ∃ k S : Nat, k ≤ zs.length ∧ i = .int .i64 k ∧ s = .int .i64 S ∧ S < 8 ∧ Hid (syn 0 0 (zs.take k) = S)) (fun _ i => zs.length - (intOf i).toNat)
  case atStart => exact ⟨0, 0, by omega, rfl, rfl, by omega, by rw [List.take_zero]; rfl⟩
  case round =>
    obtain ⟨k, S, hk, rfl, rfl, hS, HS⟩ := hrel
    by_cases hlt : k < zs.length
    · obtain ⟨b, off, rfl, hcc⟩ := hc (by omega)
      obtain ⟨x, hx, hx2⟩ := bit_nat hb k hlt
      have hcell : w.cell? ⟨b, off + k, none⟩ = some (.int .i64 (x : Int)) := by rw [hcc k hlt, hx]
      have HT := Lib.hid (syn_step hlt hx)
      clear hcc hx
      have hx01 : x = 0 ∨ x = 1 := by omega
      rcases hx01 with rfl | rfl
      · have e1 : bits .xor .i64 (S : Int) 0 = (S : Int) := by have := i64_xor S 0 (by omega) (by omega); simpa using this
        go_wp2
        go_round
        case rel => exact ⟨k + 1, S, by omega, by go_num, rfl, hS, by show _ = _; rw [HT.out, if_neg (by omega)]; exact HS.out⟩
        case measure => simp [intOf]; omega
      · have e1 := i64_xor S (k + 1) (by omega) (by omega)
        have e2 : bits .xor .i64 (S : Int) ((k : Int) + 1) = ((S ^^^ (k + 1) : Nat) : Int) := by rw [← e1]; simp
        have hlt8 : S ^^^ (k + 1) < 8 := Nat.xor_lt_two_pow (n := 3) (by omega) (by omega)
        clear e1
        go_wp2
        go_round
        case rel => exact ⟨k + 1, S ^^^ (k + 1), by omega, by go_num, by go_num, hlt8, by show _ = _; rw [HT.out, if_pos rfl, HS.out]⟩
        case measure => simp [intOf]; omega
    · obtain rfl : k = zs.length := by omega
      have HE := Lib.hid (show S = syn 0 0 zs by have := HS.out; rw [List.take_length] at this; exact this.symm)
      go_wp2
      go_ret
      exact ⟨ret_int (by rw [HE.out]), rfl⟩
set_option maxHeartbeats 400000 in
theorem SyndromeOf_any (zs : List Int) (v : Value) (w : World) (hrow : RowK .i64 w v zs) :
    Calls Tryd.prog 25 #[v] w fun e w' => e = .returned (.int .i64 (synI zs)) ∧ w = w' := by
  have hlen := hrow.len
  have hrow' := hrow
  obtain ⟨a, cap, hv⟩ := hrow.form
  subst hv
  cases h1 : validB zs
  · have HP := Lib.hid (synI_neg (zs := zs) (by rw [h1]; rfl))
    go_enter Tryd.func25, Tryd.ntmps25
    go_wp2_with (go_at_call 31; refine (BitsValid_any _ _ _ hrow').mono ?_; rintro e w' ⟨rfl, rfl⟩)
    go_ret
    exact ⟨ret_int HP.out.symm, rfl⟩
  · by_cases h2 : zs.length = 7
    · have HP := Lib.hid (synI_pos h1 h2)
      have hb := bits_of h1
      have ht : ((zs.length : Int) != 7) = false := by rw [h2]; rfl
      have HL := Lib.hid (show zs.length ≤ 7 by omega)
      clear h2
      go_enter Tryd.func25, Tryd.ntmps25
      go_wp2_with (first | (go_at_call 31; refine (BitsValid_any _ _ _ hrow').mono ?_; rintro e w' ⟨rfl, rfl⟩) | (go_at_call 38; refine (syndrome_any _ _ _ hrow' hb HL.out).mono ?_; rintro e w' ⟨rfl, rfl⟩))
      go_ret
      exact ⟨ret_int HP.out.symm, rfl⟩
    · have HP := Lib.hid (synI_neg (zs := zs) (by simp [h2]))
      have ht : ((zs.length : Int) != 7) = true := by rw [bne_iff_ne]; omega
      go_enter Tryd.func25, Tryd.ntmps25
      go_wp2_with (go_at_call 31; refine (BitsValid_any _ _ _ hrow').mono ?_; rintro e w' ⟨rfl, rfl⟩)
      go_ret
      exact ⟨ret_int HP.out.symm, rfl⟩
set_option maxHeartbeats 400000 in
theorem specSyndromeOf_any (zs : List Int) (v : Value) (w : World) (hrow : RowK .i64 w v zs) :
    Calls Tryd.prog 36 #[v] w fun e w' => e = .returned (.int .i64 (synI zs)) ∧ w = w' := by
  have hlen := hrow.len
  have hrow' := hrow
  obtain ⟨a, cap, rfl, _, _, _, hc⟩ := hrow
  cases h1 : validB zs
  · have HP := Lib.hid (synI_neg (zs := zs) (by rw [h1]; rfl))
    go_enter Tryd.func36, Tryd.ntmps36
    go_wp2_with (go_at_call 30; refine (specBitsValid_any _ _ _ hrow').mono ?_; rintro e w' ⟨rfl, rfl⟩)
    go_ret
    exact ⟨ret_int HP.out.symm, rfl⟩
  · by_cases h2 : zs.length = 7
    · have HP := Lib.hid (synI_pos h1 h2)
      have hb := bits_of h1
      have ht : ((zs.length : Int) != 7) = false := by rw [h2]; rfl
      have HL := Lib.hid h2
      have hc' : ∀ i, i < 7 → ∃ b off, a = some ⟨b, off, none⟩ ∧ w.cell? ⟨b, off + i, none⟩ = some (.int .i64 (zs.getD i 0)) := fun i hi => by
        obtain ⟨b, off, e, h⟩ := hc (by omega); exact ⟨b, off, e, h i (by omega)⟩
      have hlz : (zs.length : Int) ≤ 7 := by omega
      have hlz2 : (7 : Int) ≤ (zs.length : Int) := by omega
      have HC := Lib.hid hc'
      clear h2 hc hc'
      go_enter Tryd.func36, Tryd.ntmps36
      go_wp2_with (go_at_call 30; refine (specBitsValid_any _ _ _ hrow').mono ?_; rintro e w' ⟨rfl, rfl⟩)
      go_loop [3, 4] (fun s i => ∃ k S : Nat, k ≤ 7 ∧ i = .int .i64 k ∧ s = .int .i64 S ∧ S < 8 ∧ Hid (syn 0 0 (zs.take k) = S)) (fun _ i => 7 - (intOf i).toNat)
      case atStart => exact ⟨0, 0, by omega, rfl, rfl, by omega, by rw [List.take_zero]; rfl⟩
      case round =>
        obtain ⟨k, S, hk, rfl, rfl, hS, HS⟩ := hrel
        by_cases hlt : k < 7
        · obtain ⟨b, off, rfl, hcc⟩ := HC.out k hlt
          obtain ⟨x, hx, hx2⟩ := bit_nat hb k (by have := HL.out; omega)
          have hcell : w.cell? ⟨b, off + k, none⟩ = some (.int .i64 (x : Int)) := by rw [hcc, hx]
          have HT := Lib.hid (syn_step (by have := HL.out; omega) hx)
          have hkz : (k : Int) < (zs.length : Int) := by omega
          clear hcc hx
          have hx01 : x = 0 ∨ x = 1 := by omega
          rcases hx01 with rfl | rfl
          · go_wp2
            go_round
            case rel => exact ⟨k + 1, S, by omega, by go_num, rfl, hS, by show _ = _; rw [HT.out, if_neg (by omega)]; exact HS.out⟩
            case measure => simp [intOf]; omega
          · have e1 := i64_xor S (k + 1) (by omega) (by omega)
            have e2 : bits .xor .i64 (S : Int) ((k : Int) + 1) = ((S ^^^ (k + 1) : Nat) : Int) := by rw [← e1]; simp
            have hlt8 : S ^^^ (k + 1) < 8 := Nat.xor_lt_two_pow (n := 3) (by omega) (by omega)
            clear e1
            go_wp2
            go_round
            case rel => exact ⟨k + 1, S ^^^ (k + 1), by omega, by go_num, by go_num, hlt8, by show _ = _; rw [HT.out, if_pos rfl, HS.out]⟩
            case measure => simp [intOf]; omega
        · obtain rfl : k = 7 := by omega
          have HE := Lib.hid (show (S : Int) = synI zs by rw [HP.out, ← HS.out, ← HL.out, List.take_length])
          go_wp2
          go_ret
          exact ⟨ret_int HE.out, rfl⟩
    · have HP := Lib.hid (synI_neg (zs := zs) (by simp [h2]))
      have ht : ((zs.length : Int) != 7) = true := by rw [bne_iff_ne]; omega
      go_enter Tryd.func36, Tryd.ntmps36
      go_wp2_with (go_at_call 30; refine (specBitsValid_any _ _ _ hrow').mono ?_; rintro e w' ⟨rfl, rfl⟩)
      go_ret
      exact ⟨ret_int HP.out.symm, rfl⟩
end Go.Proofs.YthljgookoboieabDoor
