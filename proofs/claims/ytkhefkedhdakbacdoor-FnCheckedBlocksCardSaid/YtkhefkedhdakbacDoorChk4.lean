/-
  The remainder of a list of coefficients, by the program and by the reference.
-/
import Derived.Test.YtkhefkedhdakbacDoorChk3
namespace Go.Proofs.YtkhefkedhdakbacDoor
open Go.RowKit

theorem crem_take {G d R b : Nat} {zs : List Int} {k : Nat} (hk : k < zs.length) (hb : zs.getD k 0 = (b : Int)) (h : crem G d 0 (zs.take k) = R) : crem G d 0 (zs.take (k + 1)) = cstep G d R b := by
  rw [take_succ' zs 0 k hk, crem_app, h, hb]; rfl
theorem valL_take {zs : List Int} {j b : Nat} (hj : j < zs.length) (hb : zs.getD j 0 = (b : Int)) : valL (zs.take (j + 1)) = 2 * valL (zs.take j) + b := by
  rw [take_succ' zs 0 j hj, valL_snoc, hb]; simp
theorem drop_get (zs : List Int) (k j : Nat) (hj : j < 8) : ((zs.drop k).take 8).getD j 0 = zs.getD (k + j) 0 := by
  simp [List.getD, hj]
theorem crem_eight {G d R E : Nat} {zs : List Int} {k : Nat} (hG : Gen G d) (hb : BitL zs) (hk : k + 8 ≤ zs.length) (hR : R < 2 ^ d) (h : crem G d 0 (zs.take k) = R) (hE : E = valL ((zs.drop k).take 8)) : crem G d 0 (zs.take (k + 8)) = pmod G d 8 (R * 256 + E) := by
  rw [List.take_add, crem_app, h]
  exact (feed_eight hG hR _ ((hb.drop k).take 8) (by simp; omega) hE).symm
theorem crem_repl {G d j : Nat} (zs : List Int) : crem G d 0 (zs ++ List.replicate (j + 1) 0) = cstep G d (crem G d 0 (zs ++ List.replicate j 0)) 0 := by
  rw [List.replicate_succ', ← List.append_assoc, crem_app]; rfl

set_option maxHeartbeats 1000000 in
theorem remainderOf_any (zs : List Int) (z G d B : Nat) (v : Value) (w : World) (hrow : RowK .i64 w v zs) (hb : BitL zs) (hl : zs.length ≤ 1024) (hz : z ≤ 16) (h : Rdc w B G d) (hG : Gen G d) (hd : d ≤ 16) :
    Calls Tryd.prog 29 #[v, .int .i64 (z : Int), .pointer (some ⟨B, 0, none⟩)] w fun e w' => e = .returned (.int .i64 ((crem G d 0 (zs ++ List.replicate z 0) : Nat) : Int)) ∧ Quiet w w' := by
  obtain ⟨a, cap, rfl, _, hlc, hcm, hc⟩ := hrow
  obtain ⟨n, hn⟩ : ∃ n, n = zs.length := ⟨_, rfl⟩
  rw [← hn] at hl hc hlc ⊢
  have HN := Lib.hid hn.symm
  clear hn
  have hp := pow_le16 hd
  unfold maxLen at hcm
  go_enter Tryd.func29, Tryd.ntmps29
  go_wp2
  go_loopw [7, 8] (fun r i wr => ∃ k R : Nat, k ≤ n % 8 ∧ r = .int .i64 R ∧ i = .int .i64 k ∧ R < 2 ^ d ∧ Hid (crem G d 0 (zs.take k) = R) ∧ Quiet w wr) (fun _ i _ => n - (intOf i).toNat)
  case atStart => exact ⟨0, 0, by omega, rfl, rfl, Nat.two_pow_pos d, by rw [List.take_zero]; rfl, Quiet.same _⟩
  case round =>
    obtain ⟨k, R, hk, rfl, rfl, hR, HR, HQ⟩ := hrel
    have hR2 : R < 65536 := by omega
    by_cases hlt : k < n % 8
    · have e1 : (((n : Int) - (k : Int)) % 8 != 0) = true := by rw [bne_iff_ne]; omega
      have e2 : (((n : Int) - (k : Int)).tmod 8 != 0) = true := by rw [Int.tmod_eq_emod_of_nonneg (by omega)]; exact e1
      obtain ⟨b, off, rfl, hcc⟩ := hc (by omega)
      obtain ⟨x, hx, hx2⟩ := bit_nat hb k (by have := HN.out; omega)
      have hcell : wr.cell? ⟨b, off + k, none⟩ = some (.int .i64 (x : Int)) := by rw [HQ.cell, hcc k (by omega), hx]
      have HS := Lib.hid (crem_take (by have := HN.out; omega) hx HR.out)
      have hRl := cstep_lt hG hR hx2
      have hRd := h.quiet HQ
      have HQ1 := Lib.hid HQ
      clear hcc hx HQ
      go_wp2_with fail
      refine (feedOne_any G d R x B _ hRd hG hd hR hx2).mono ?_
      rintro e wa ⟨rfl, hq⟩
      have HQ2 := Lib.hid (HQ1.out.trans hq)
      clear hq
      go_wp2_with fail
      go_roundw
      case rel => exact ⟨k + 1, _, by omega, rfl, by go_num, hRl, HS.out, HQ2.out⟩
      case measure => simp [intOf]; omega
    · have e1 : (((n : Int) - (k : Int)) % 8 != 0) = false := by rw [bne_eq_false_iff_eq]; omega
      have e2 : (((n : Int) - (k : Int)).tmod 8 != 0) = false := by rw [Int.tmod_eq_emod_of_nonneg (by omega)]; exact e1
      have HM : Hid ((n - k) % 8 = 0) := by show (n - k) % 8 = 0; omega
      have hkn : k ≤ n := by omega
      obtain ⟨w0, rfl⟩ : ∃ w0, w0 = wr := ⟨_, rfl⟩
      have HQ0 := Lib.hid HQ
      clear HQ
      go_wp2
      clear e1 e2 hlt hk
      go_loopw [7, 8] (fun r i wr => ∃ k R : Nat, k ≤ n ∧ r = .int .i64 R ∧ i = .int .i64 k ∧ R < 2 ^ d ∧ Hid (crem G d 0 (zs.take k) = R) ∧ Hid ((n - k) % 8 = 0) ∧ Quiet w wr) (fun _ i _ => n - (intOf i).toNat)
      case atStart => exact ⟨k, R, hkn, rfl, rfl, hR, HR, HM, HQ0.out⟩
      case round =>
        clear HR hR hR2 HM hkn HQ0
        obtain ⟨k, R, hkn, rfl, rfl, hR, HR, HM, HQ⟩ := hrel
        have hR2 : R < 65536 := by omega
        by_cases hlt : k < n
        · have hk8 : k + 8 ≤ n := by have := HM.out; omega
          have hk9 : k + 8 ≤ cap := by omega
          have hk7 : k < cap := by omega
          obtain ⟨b, off, rfl, hcc⟩ := hc (by omega)
          have hRd := h.quiet HQ
          have hcell : ∀ j, j < 8 → wr.cell? ⟨b, off + (k + j), none⟩ = some (.int .i64 (((zs.drop k).take 8).getD j 0)) := fun j hj => by rw [HQ.cell, hcc (k + j) (by omega), drop_get zs k j hj]
          have HB8 := Lib.hid ((hb.drop k).take 8)
          have HL8 := Lib.hid (show ((zs.drop k).take 8).length = 8 by have := HN.out; simp; omega)
          have HQ1 := Lib.hid HQ
          obtain ⟨ys, hys⟩ : ∃ ys, ys = (zs.drop k).take 8 := ⟨_, rfl⟩
          rw [← hys] at hcell HB8 HL8
          have HY := Lib.hid hys
          have HC := Lib.hid hcell
          clear hcc HQ hys hcell
          go_wp2
          go_loop [9, 39] (fun e i => ∃ j E : Nat, j ≤ 8 ∧ e = .int .i64 E ∧ i = .int .i64 j ∧ E < 256 ∧ E < 2 ^ j ∧ Hid (valL (ys.take j) = E)) (fun _ i => 8 - (intOf i).toNat)
          case atStart => exact ⟨0, 0, by omega, rfl, rfl, by omega, by omega, by rw [List.take_zero]; rfl⟩
          case round =>
            obtain ⟨j, E, hj, rfl, rfl, hE, hE2, HE⟩ := hrel
            by_cases hj8 : j < 8
            · have hE3 := Lib.hid hE2
              obtain ⟨x, hx, hx2⟩ := bit_nat HB8.out j (by have := HL8.out; omega)
              have hcx : wr.cell? ⟨b, off + k + j, none⟩ = some (.int .i64 (x : Int)) := by rw [Nat.add_assoc, HC.out j hj8, hx]
              have HS := Lib.hid (valL_take (by have := HL8.out; omega) hx)
              have hp2 : 2 ^ j ≤ 2 ^ 7 := Nat.pow_le_pow_right (by omega) (by omega)
              have e1 := or_shift (R := E) (k := 1) (by omega) (show x < 2 ^ 1 by omega) (by omega)
              have e1' : bits .or .i64 ((E : Int) * 2) (x : Int) = ((2 * E + x : Nat) : Int) := by rw [Nat.mul_comm 2 E]; exact e1
              have hlt2 : 2 * E + x < 256 := by omega
              obtain ⟨E2, hE22⟩ : ∃ E2, E2 = 2 * E + x := ⟨_, rfl⟩
              rw [← hE22] at e1' hlt2
              have HE2 := Lib.hid hE22
              clear hx e1 hp2 hE2 hE22
              go_wp2
              go_round
              case rel => exact ⟨j + 1, E2, by omega, rfl, by go_num, hlt2, by rw [HE2.out, Nat.pow_succ]; have := hE3.out; omega, by show _ = _; rw [HS.out, HE.out, HE2.out]⟩
              case measure => simp [intOf]; omega
            · obtain rfl : j = 8 := by omega
              have HV := Lib.hid (show E = valL ((zs.drop k).take 8) by have := HE.out; rw [← HL8.out, List.take_length] at this; rw [← HY.out]; exact this.symm)
              have HS := Lib.hid (crem_eight hG hb (by have := HN.out; omega) hR HR.out HV.out)
              have hRl : pmod G d 8 (R * 256 + E) < 2 ^ d := by rw [← HS.out]; exact crem_rest_lt hG (hb.take _)
              clear HE hE2
              go_wp2_with fail
              refine (feed_any G d R E B _ hRd hG hd hR hE).mono ?_
              rintro e wa ⟨rfl, hq⟩
              have HQ2 := Lib.hid (HQ1.out.trans hq)
              clear hq
              go_wp2_with fail
              go_roundw
              case rel => exact ⟨k + 8, _, by omega, rfl, by go_num, hRl, HS.out, by show _ % 8 = 0; have := HM.out; omega, HQ2.out⟩
              case measure => simp [intOf]; omega
        · obtain rfl : k = n := by omega
          have HF := Lib.hid (show crem G d 0 (zs ++ List.replicate 0 0) = R by have := HR.out; rw [← HN.out, List.take_length] at this; simpa using this)
          obtain ⟨w1, rfl⟩ : ∃ w1, w1 = wr := ⟨_, rfl⟩
          have HQ0 := Lib.hid HQ
          clear HQ HR HM
          go_wp2
          go_loopw [7, 53] (fun r i wr => ∃ j R : Nat, j ≤ z ∧ r = .int .i64 R ∧ i = .int .i64 j ∧ R < 2 ^ d ∧ Hid (crem G d 0 (zs ++ List.replicate j 0) = R) ∧ Quiet w wr) (fun _ i _ => z - (intOf i).toNat)
          case atStart => exact ⟨0, R, by omega, rfl, rfl, hR, HF.out, HQ0.out⟩
          case round =>
            clear HF hR hR2 HQ0
            obtain ⟨j, R, hj, rfl, rfl, hR, HR, HQ⟩ := hrel
            have hR2 : R < 65536 := by omega
            by_cases hjz : j < z
            · have HS := Lib.hid (show crem G d 0 (zs ++ List.replicate (j + 1) 0) = cstep G d R 0 by rw [crem_repl, HR.out])
              have hRl := cstep_lt hG hR (show 0 < 2 by omega)
              have hRd := h.quiet HQ
              have HQ1 := Lib.hid HQ
              clear HQ
              go_wp2_with fail
              refine (feedOne_any G d R 0 B _ hRd hG hd hR (by omega)).mono ?_
              rintro e wa ⟨rfl, hq⟩
              have HQ2 := Lib.hid (HQ1.out.trans hq)
              clear hq
              go_wp2_with fail
              go_roundw
              case rel => exact ⟨j + 1, _, by omega, rfl, by go_num, hRl, HS.out, HQ2.out⟩
              case measure => simp [intOf]; omega
            · obtain rfl : j = z := by omega
              have HQ1 := Lib.hid HQ
              clear HQ
              go_wp2
              go_ret
              exact ⟨ret_int (by rw [HR.out]), HQ1.out⟩
end Go.Proofs.YtkhefkedhdakbacDoor
