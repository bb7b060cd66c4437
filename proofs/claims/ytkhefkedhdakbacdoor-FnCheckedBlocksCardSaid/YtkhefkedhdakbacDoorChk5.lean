/-
  Passing the check and its bits, by the program and by the reference.
-/
import Derived.Test.YtkhefkedhdakbacDoorChk4
import Derived.Test.YtkhefkedhdakbacDoorAppZ
namespace Go.Proofs.YtkhefkedhdakbacDoor
open Go.RowKit

theorem gen_wf {G : Nat} (h : G ≤ 131071) : (Lit.int .i64 (G : Int)).wf = true := by
  simp [Lit.wf, IntKind.min, IntKind.max, IntKind.signed, IntKind.bits]; omega
set_option maxHeartbeats 400000 in
theorem l2Remainder_any (zs : List Int) (G : Nat) (v : Value) (w : World) (hrow : RowK .i64 w v zs) (hb : BitL zs) (hg : genB (G : Int) = true) :
    Calls Tryd.prog 32 #[v, .int .i64 (G : Int)] w fun e w' => e = .returned (.int .i64 ((crem G (degN (G : Int)) 0 zs : Nat) : Int)) ∧ w = w' := by
  have hlen := hrow.len
  obtain ⟨a, cap, rfl, _, _, _, hc⟩ := hrow
  have hG := gen_is hg
  have hd := deg_le hg
  obtain ⟨G', e, hg1, hg2, _⟩ := gen_nat hg
  have hG2 : G ≤ 131071 := by omega
  have hG1 : 1 ≤ G := by omega
  clear hg1 hg2 e
  obtain ⟨d, ed⟩ : ∃ d, d = degN (G : Int) := ⟨_, rfl⟩
  have HD := Lib.hid (show Nat.log2 G = d by rw [ed, deg_log])
  rw [← ed] at hG hd ⊢
  clear ed
  have hp := pow_le16 hd
  obtain ⟨p, ep⟩ : ∃ p, p = 2 ^ d := ⟨_, rfl⟩
  have e1 : (2 : Int) ^ d = (p : Int) := by rw [ep]; simp
  have e2 : (2 : Int) ^ (min d 64) = (p : Int) := by rw [Nat.min_eq_left (by omega)]; exact e1
  have hd64 : (d : Int) ≤ 64 := by omega
  rw [← ep] at hp
  have HP := Lib.hid ep
  have hp2 : 0 < p := by rw [ep]; exact Nat.two_pow_pos d
  clear ep
  go_enter Tryd.func32, Tryd.ntmps32
  go_wp2_with (go_at_call 23; refine (l2Degree_any G _ (by omega) (by omega)).mono ?_; rw [HD.out]; rintro e w' ⟨rfl, rfl⟩)
  clear e1 e2
  go_loop [5, 7] (fun r i => ∃ k R : Nat, k ≤ zs.length ∧ r = .int .i64 R ∧ i = .int .i64 k ∧ R < p ∧ Hid (crem G d 0 (zs.take k) = R)) (fun _ i => zs.length - (intOf i).toNat)
  case atStart => exact ⟨0, 0, by omega, rfl, rfl, hp2, by rw [List.take_zero]; rfl⟩
  case round =>
    obtain ⟨k, R, hk, rfl, rfl, hR, HR⟩ := hrel
    by_cases hlt : k < zs.length
    · obtain ⟨b, off, rfl, hcc⟩ := hc (by omega)
      obtain ⟨x, hx, hx2⟩ := bit_nat hb k hlt
      have hcell : w.cell? ⟨b, off + k, none⟩ = some (.int .i64 (x : Int)) := by rw [hcc k hlt, hx]
      have HS := Lib.hid (crem_take hlt hx HR.out)
      have hl := cstep_lt hG (by rw [← HP.out]; exact hR) hx2
      rw [← HP.out] at hl
      clear hcc hx
      by_cases hge : p ≤ 2 * R + x
      · have HC := Lib.hid (show cstep G d R x = (2 * R + x) ^^^ G by unfold cstep; rw [← HP.out, if_pos hge])
        have hgi : (p : Int) ≤ 2 * (R : Int) + (x : Int) := by omega
        have e5 := i64_xor (2 * R + x) G (by omega) (by omega)
        have e6 : bits .xor .i64 (2 * (R : Int) + (x : Int)) (G : Int) = (((2 * R + x) ^^^ G : Nat) : Int) := by rw [← e5]; simp
        rw [HC.out] at hl
        clear e5 hge
        go_wp2
        go_round
        case rel => exact ⟨k + 1, _, by omega, rfl, by go_num, hl, by show _ = _; rw [HS.out, HC.out]⟩
        case measure => simp [intOf]; omega
      · have HC := Lib.hid (show cstep G d R x = 2 * R + x by unfold cstep; rw [← HP.out, if_neg hge])
        have hgi : 2 * (R : Int) + (x : Int) < (p : Int) := by omega
        rw [HC.out] at hl
        clear hge
        go_wp2
        go_round
        case rel => exact ⟨k + 1, _, by omega, by go_num, by go_num, hl, by show _ = _; rw [HS.out, HC.out]⟩
        case measure => simp [intOf]; omega
    · obtain rfl : k = zs.length := by omega
      have HE := Lib.hid (show crem G d 0 zs = R by have := HR.out; rwa [List.take_length] at this)
      clear HR
      go_wp2
      go_ret
      exact ⟨ret_int (by rw [HE.out]), rfl⟩
set_option maxHeartbeats 400000 in
theorem CheckPasses_any (zs : List Int) (g : Int) (v : Value) (w : World) (hrow : RowK .i64 w v zs) (hwf : (Lit.int .i64 g).wf = true) :
    Calls Tryd.prog 12 #[v, .int .i64 g] w fun e w' => e = .returned (.bool (passB zs g)) ∧ Below w.heap.size w w' := by
  have hlen := hrow.len
  have hrow' := hrow
  obtain ⟨a, cap, hv⟩ := hrow.form
  subst hv
  cases h1 : validB zs
  · have HP := Lib.hid (show passB zs g = false by simp [passB, h1])
    go_enter Tryd.func12, Tryd.ntmps12
    go_wp2_with (go_at_call 17; refine (BitsValid_any _ _ _ hrow').mono ?_; rintro e w' ⟨rfl, rfl⟩)
    go_ret
    exact ⟨ret_bool HP.out.symm, Below.refl _ _⟩
  · cases h2 : genB g
    · have HP := Lib.hid (show passB zs g = false by simp [passB, h2])
      go_enter Tryd.func12, Tryd.ntmps12
      go_wp2_with (first | (go_at_call 17; refine (BitsValid_any _ _ _ hrow').mono ?_; rintro e w' ⟨rfl, rfl⟩) | (go_at_call 27; refine (GeneratorValid_any _ _ hwf).mono ?_; rintro e w' ⟨rfl, rfl⟩))
      go_ret
      exact ⟨ret_bool HP.out.symm, Below.refl _ _⟩
    · have HD := Lib.hid (show degI g = (degN g : Int) by simp [degI, h2])
      obtain ⟨G, rfl, hg1, hg2, _⟩ := gen_nat h2
      have hd := deg_le h2
      have hb := bits_of h1
      by_cases h3 : degN (G : Int) ≤ zs.length
      · have ht : decide ((zs.length : Int) < (degN (G : Int) : Int)) = false := by simp; omega
        have HP := Lib.hid (show passB zs (G : Int) = (((crem G (degN (G : Int)) 0 zs : Nat) : Int) == 0) by
          rw [Bool.eq_iff_iff]; simp [passB, h1, h2, h3])
        have hl := valid_len h1
        go_enter Tryd.func12, Tryd.ntmps12
        go_wp2_with fail
        refine (BitsValid_any _ _ _ hrow').mono ?_
        rintro e w' ⟨rfl, rfl⟩
        go_wp2_with fail
        refine (GeneratorValid_any _ _ hwf).mono ?_
        rintro e w' ⟨rfl, rfl⟩
        go_wp2_with fail
        refine (DegreeOf_any _ _ hwf).mono ?_
        rw [HD.out]
        rintro e w' ⟨rfl, rfl⟩
        go_wp2_with fail
        refine (newReducer_any G _ h2).mono ?_
        rintro e w1 ⟨rfl, hR, hbel, hsz⟩
        have HB := Lib.hid hbel
        have hrow1 := hrow'.belowAll hbel
        clear hbel
        go_wp2_with fail
        refine (remainderOf_any zs 0 G (degN (G : Int)) _ _ _ hrow1 hb hl (by omega) hR (gen_is h2) hd).mono ?_
        rintro e w2 ⟨rfl, hq⟩
        have HQ := Lib.hid hq
        clear hq
        go_wp2
        go_ret
        exact ⟨ret_bool (by rw [HP.out]), below_quiet HB.out HQ.out⟩
      · have ht : decide ((zs.length : Int) < (degN (G : Int) : Int)) = true := by simp; omega
        have HP := Lib.hid (show passB zs (G : Int) = false by simp [passB, h3])
        go_enter Tryd.func12, Tryd.ntmps12
        go_wp2_with fail
        refine (BitsValid_any _ _ _ hrow').mono ?_
        rintro e w' ⟨rfl, rfl⟩
        go_wp2_with fail
        refine (GeneratorValid_any _ _ hwf).mono ?_
        rintro e w' ⟨rfl, rfl⟩
        go_wp2_with fail
        refine (DegreeOf_any _ _ hwf).mono ?_
        rw [HD.out]
        rintro e w' ⟨rfl, rfl⟩
        go_wp2
        go_ret
        exact ⟨ret_bool HP.out.symm, Below.refl _ _⟩
end Go.Proofs.YtkhefkedhdakbacDoor
