/-
  The register by the program and by the reference: its step, its period.
-/
import Derived.Test.YtpfbmfnfcppjeacShfM
import Derived.Test.YtpfbmfnfcppjeacChk
import Derived.Test.YtpfbmfnfcppjeacDraw2
namespace Go.Proofs.Ytpfbmfnfcppjeac
open Go.RowKit

/-- A register at a block: what is combined, and the state. -/
def RegAt (w : World) (B H S : Nat) : Prop := w.cell? ⟨B, 0, none⟩ = some (.int .i64 (H : Int)) ∧ w.cell? ⟨B, 1, none⟩ = some (.int .i64 (S : Int)) ∧ w.frozen? ⟨B, 1, none⟩ = false
theorem RegAt.set {w : World} {B H S : Nat} (h : RegAt w B H S) (X : Nat) : RegAt (w.setCell ⟨B, 1, none⟩ (.int .i64 (X : Int))) B H X := by
  obtain ⟨h1, h2, h3⟩ := h
  refine ⟨?_, ?_, ?_⟩
  · rw [World.cell?_setCell_other _ _ _ _ (by simp)]; exact h1
  · exact World.cell?_setCell_same _ _ _ h2
  · rw [World.frozen?_setCell]; exact h3
theorem RegAt.drew {w : World} {B H S : Nat} (h : RegAt w B H S) : RegAt w.drew B H S := h
theorem half_lt {h d : Nat} (H : Half h d) (hd : d ≤ 16) : h < 65536 := by
  have := H.hi
  have h2 : 2 ^ d ≤ 2 ^ 16 := Nat.pow_le_pow_right (by omega) hd
  omega
theorem below_twice {w w1 : World} {B : Nat} (h : Below B w w1) (hB : B ≤ w.heap.size) (x : Value) : Below B w (w1.setCell ⟨B, 1, none⟩ x).drew := by
  have h2 := h.trans (below_of_row (grown_set w1 B 1 x) (Nat.le_trans hB h.size) (fun k e => by cases e; exact Nat.le_refl _))
  have hq : Quiet (w1.setCell ⟨B, 1, none⟩ x) (w1.setCell ⟨B, 1, none⟩ x).drew := ⟨1, rfl⟩
  exact h2.trans (hq.below B)
set_option maxHeartbeats 800000 in
theorem step_any (H S B : Nat) (w : World) (h : RegAt w B H S) (hH : H < 65536) (hS : S < 65536) (hB : B ≤ w.heap.size) :
    Calls Try.prog 20 #[.pointer (some ⟨B, 0, none⟩)] w fun e w' => e = .returned (.int .i64 ((S % 2 : Nat) : Int)) ∧ RegAt w' B H (rstep H S) ∧ Below B w w' := by
  have ha := i64_and1 S (by omega)
  have HG := Lib.hid (below_of_row (grown_set w B 1 (.int .i64 ((S / 2 : Nat) : Int))) hB (fun k e => by cases e; exact Nat.le_refl _))
  have h1 := h.set (S / 2)
  have h01 : S % 2 = 0 ∨ S % 2 = 1 := by omega
  have hdiv : ((S / 2 : Nat) : Int) = (S : Int) / 2 := by omega
  rcases h01 with h2 | h2
  · have HR := Lib.hid h1
    have HE := Lib.hid (show rstep H S = S / 2 by unfold rstep; rw [if_neg (by omega)])
    have HM := Lib.hid h2
    rw [h2] at ha
    obtain ⟨c0, c1, hf⟩ := h
    clear h1 h2
    go_enter Try.func20, Try.ntmps20
    go_wp2
    go_ret
    exact ⟨by rw [HM.out]; rfl, by rw [HE.out]; exact HR.out, HG.out⟩
  · have HR := Lib.hid (h1.set ((S / 2) ^^^ H)).drew
    have HG2 := Lib.hid (below_twice HG.out hB (.int .i64 ((S / 2 ^^^ H : Nat) : Int)))
    have HE := Lib.hid (show rstep H S = (S / 2) ^^^ H by unfold rstep; rw [if_pos h2])
    have HM := Lib.hid h2
    have hx := i64_xor (S / 2) H (by omega) (by omega)
    rw [← hx] at HR HG2
    rw [hdiv] at HR HG2
    rw [h2] at ha
    obtain ⟨c0, c1, hf⟩ := h
    obtain ⟨d0, d1, df⟩ := h1.drew
    clear h1 h2
    go_enter Try.func20, Try.ntmps20
    go_wp2
    go_region_with (fail)
    all_goals (go_wp2; go_ret)
    all_goals exact ⟨by rw [HM.out]; rfl, by rw [HE.out]; exact HR.out, HG2.out⟩
theorem pow16 {d : Nat} (hd : d ≤ 16) : 2 ^ d ≤ 65536 := Nat.pow_le_pow_right (n := 2) (by omega) hd
theorem reg_parts {t s : Int} (h : regB t s = true) : genB t = true ∧ 1 ≤ s ∧ s < (2 : Int) ^ degN t := by
  simp only [regB, inB, Bool.and_eq_true, decide_eq_true_eq] at h
  exact ⟨h.1, h.2.1, by omega⟩
theorem reg_is {t s : Int} (hg : genB t = true) (P : Int) (hp : (2 : Int) ^ degN t = P) : regB t s = (decide (1 ≤ s) && decide (s < P)) := by
  rw [regB, hg, hp, inB, Bool.true_and]
  congr 1
  rw [decide_eq_decide]; omega
set_option maxHeartbeats 800000 in
theorem registerValid_any (t s : Int) (w : World) (hwf : (Lit.int .i64 t).wf = true) :
    Calls Try.prog 14 #[.int .i64 t, .int .i64 s] w fun e w' => e = .returned (.bool (regB t s)) ∧ w = w' := by
  cases hg : genB t
  · have HR := Lib.hid (show regB t s = false by rw [regB, hg]; rfl)
    go_enter Try.func14, Try.ntmps14
    go_wp2_with (go_at_call 25; refine (GeneratorValid_any _ _ hwf).mono ?_; rw [hg]; rintro e w' ⟨rfl, rfl⟩)
    go_ret
    exact ⟨ret_bool HR.out.symm, rfl⟩
  · have hb := deg_bounds hg
    have hD := Lib.hid (show degI t = (degN t : Int) by simp [degI, hg])
    have HP := Lib.hid (fun P hp => reg_is (s := s) hg P hp)
    have HG := Lib.hid hg
    clear hg
    obtain ⟨d, ed⟩ : ∃ d, d = degN t := ⟨_, rfl⟩
    rw [← ed] at hb hD HP
    clear ed
    obtain ⟨hb1, hb2, hb3, hb4⟩ := hb
    obtain ⟨p, ep⟩ : ∃ p, p = 2 ^ d := ⟨_, rfl⟩
    have e1 : (2 : Int) ^ d = (p : Int) := by rw [ep]; simp
    have HQ := Lib.hid (HP.out _ e1)
    have e2 : (2 : Int) ^ (min d 64) = (p : Int) := by rw [Nat.min_eq_left (by omega)]; exact e1
    have hp := pow16 hb4
    rw [← ep] at hp
    rw [e1] at hb1 hb2
    have hd64 : (d : Int) ≤ 64 := by omega
    have HW := Lib.hid (show wrap64 ((2 : Int) ^ d) = (p : Int) by rw [e1]; exact IntWalk.wrap64_in _ ⟨by omega, by omega⟩)
    clear ep HP hb1 hb2 e1
    by_cases h1 : 1 ≤ s
    · by_cases h2 : s < (p : Int)
      · have H2 := Lib.hid (decide_eq_true h2)
        have HR := Lib.hid (show regB t s = true by rw [HQ.out, decide_eq_true h1, decide_eq_true h2]; rfl)
        go_enter Try.func14, Try.ntmps14
        go_wp2_with (first | (go_at_call 25; refine (GeneratorValid_any _ _ hwf).mono ?_; rw [HG.out]; rintro e w' ⟨rfl, rfl⟩) | (go_at_call 26; refine (DegreeOf_any _ _ hwf).mono ?_; rw [hD.out]; rintro e w' ⟨rfl, rfl⟩))
        go_ret
        exact ⟨ret_bool (by rw [HW.out, HR.out, H2.out]), rfl⟩
      · have H2 := Lib.hid (decide_eq_false h2)
        have HR := Lib.hid (show regB t s = false by rw [HQ.out, decide_eq_true h1, decide_eq_false h2]; rfl)
        go_enter Try.func14, Try.ntmps14
        go_wp2_with (first | (go_at_call 25; refine (GeneratorValid_any _ _ hwf).mono ?_; rw [HG.out]; rintro e w' ⟨rfl, rfl⟩) | (go_at_call 26; refine (DegreeOf_any _ _ hwf).mono ?_; rw [hD.out]; rintro e w' ⟨rfl, rfl⟩))
        go_ret
        exact ⟨ret_bool (by rw [HW.out, HR.out, H2.out]), rfl⟩
    · have HR := Lib.hid (show regB t s = false by rw [HQ.out, decide_eq_false h1]; rfl)
      go_enter Try.func14, Try.ntmps14
      go_wp2_with (first | (go_at_call 25; refine (GeneratorValid_any _ _ hwf).mono ?_; rw [HG.out]; rintro e w' ⟨rfl, rfl⟩) | (go_at_call 26; refine (DegreeOf_any _ _ hwf).mono ?_; rw [hD.out]; rintro e w' ⟨rfl, rfl⟩))
      go_ret
      exact ⟨ret_bool HR.out.symm, rfl⟩
set_option maxHeartbeats 800000 in
theorem l3Ok_any (t s : Int) (w : World) :
    Calls Try.prog 16 #[.int .i64 t, .int .i64 s] w fun e w' => e = .returned (.bool (regB t s)) ∧ w = w' := by
  cases hg : genB t
  · have HR := Lib.hid (show regB t s = false by rw [regB, hg]; rfl)
    go_enter Try.func16, Try.ntmps16
    go_wp2_with (go_at_call 22; refine (specGeneratorValid_any _ _).mono ?_; rw [hg]; rintro e w' ⟨rfl, rfl⟩)
    go_ret
    exact ⟨ret_bool HR.out.symm, rfl⟩
  · have hb := deg_bounds hg
    obtain ⟨G, rfl, hgl, hgh⟩ := gen_nat hg
    have HL := Lib.hid (show Nat.log2 G = degN (G : Int) by rw [deg_log])
    have HP := Lib.hid (show regB (G : Int) s = inB s 1 ((2 : Int) ^ degN (G : Int) - 1) by rw [regB, hg, Bool.true_and])
    have HG := Lib.hid hg
    clear hg
    obtain ⟨d, ed⟩ : ∃ d, d = degN (G : Int) := ⟨_, rfl⟩
    rw [← ed] at hb HL HP
    clear ed
    obtain ⟨hb1, hb2, hb3, hb4⟩ := hb
    obtain ⟨p, ep⟩ : ∃ p, p = 2 ^ d := ⟨_, rfl⟩
    have e1 : (2 : Int) ^ d = (p : Int) := by rw [ep]; simp
    rw [e1] at HP
    have e2 : (2 : Int) ^ (min d 64) = (p : Int) := by rw [Nat.min_eq_left (by omega)]; exact e1
    have hp := pow16 hb4
    rw [← ep] at hp
    rw [e1] at hb1 hb2
    have hd64 : (d : Int) ≤ 64 := by omega
    have HW := Lib.hid (show wrap64 ((2 : Int) ^ d) = (p : Int) by rw [e1]; exact IntWalk.wrap64_in _ ⟨by omega, by omega⟩)
    have HW2 := Lib.hid (show wrap64 ((p : Int) - 1) = (p : Int) - 1 from IntWalk.wrap64_in _ ⟨by omega, by omega⟩)
    clear ep hb1 hb2 e1
    go_enter Try.func16, Try.ntmps16
    go_wp2_with (first | (go_at_call 22; refine (specGeneratorValid_any _ _).mono ?_; rw [HG.out]; rintro e w' ⟨rfl, rfl⟩) | (go_at_call 23; refine (l2Degree_any G _ (by omega) (by omega)).mono ?_; rw [HL.out]; rintro e w' ⟨rfl, rfl⟩) | (go_at_call 17; refine (l1In_any _ _ _ _).mono ?_; rintro e w' ⟨rfl, rfl⟩))
    go_ret
    exact ⟨ret_bool (by rw [HW.out, HW2.out, HP.out]), rfl⟩
set_option maxHeartbeats 400000 in
theorem l3Next_any (T S : Nat) (w : World) (hT : T < 1000000) (hS : S < 65536) :
    Calls Try.prog 18 #[.int .i64 (T : Int), .int .i64 (S : Int)] w fun e w' => e = .returned (.tuple #[.int .i64 ((S % 2 : Nat) : Int), .int .i64 ((rstep (T / 2) S : Nat) : Int)]) ∧ w = w' := by
  have h01 : S % 2 = 0 ∨ S % 2 = 1 := by omega
  have ht2 : ((T / 2 : Nat) : Int) = (T : Int) / 2 := by omega
  have hdiv : ((S / 2 : Nat) : Int) = (S : Int) / 2 := by omega
  have q1 : (S : Int).tdiv 2 = (S : Int) / 2 := Int.tdiv_eq_ediv_of_nonneg (by omega)
  have q2 : (T : Int).tdiv 2 = (T : Int) / 2 := Int.tdiv_eq_ediv_of_nonneg (by omega)
  rcases h01 with h2 | h2
  · have HE := Lib.hid (show rstep (T / 2) S = S / 2 by unfold rstep; rw [if_neg (by omega)])
    have m1 : (S : Int) % 2 = 0 := by omega
    have m2 : (S : Int).tmod 2 = 0 := by rw [Int.tmod_eq_emod_of_nonneg (by omega)]; exact m1
    have HM := Lib.hid h2
    clear h2
    go_enter Try.func18, Try.ntmps18
    go_wp2
    go_ret2
    refine ⟨?_, rfl⟩
    rw [HM.out, HE.out, hdiv]; rfl
  · have HE := Lib.hid (show rstep (T / 2) S = (S / 2) ^^^ (T / 2) by unfold rstep; rw [if_pos h2])
    have m1 : (S : Int) % 2 = 1 := by omega
    have m2 : (S : Int).tmod 2 = 1 := by rw [Int.tmod_eq_emod_of_nonneg (by omega)]; exact m1
    have hx := i64_xor (S / 2) (T / 2) (by omega) (by omega)
    rw [hdiv, ht2] at hx
    have HX := Lib.hid hx
    have HM := Lib.hid h2
    clear h2 hx
    go_enter Try.func18, Try.ntmps18
    go_wp2
    go_ret2
    refine ⟨?_, rfl⟩
    rw [HM.out, HE.out, ← HX.out]; rfl
theorem reg_nums {t s : Int} (h : regB t s = true) : ∃ T S d : Nat, t = T ∧ s = S ∧ d = degN (T : Int) ∧ d ≤ 16 ∧ T < 1000000 ∧ 1 ≤ S ∧ S < 2 ^ d ∧ Half (T / 2) d ∧ perI t s = (per (T / 2) S d : Int) := by
  obtain ⟨T, S, rfl, rfl, h1, h2, h3, h4⟩ := reg_nat h
  obtain ⟨_, e, h5, h6, _⟩ := gen_nat h1
  have hb := deg_bounds h1
  refine ⟨T, S, _, rfl, rfl, rfl, hb.2.2.2, by omega, h2, h3, h4, ?_⟩
  simp only [perI, h, if_true, Int.toNat_natCast]
theorem run_lt {h d s : Nat} (H : Half h d) (hs : s < 2 ^ d) (hd : d ≤ 16) (n : Nat) : rrun h s n < 65536 := by
  have := rrun_lt H hs n
  have := pow16 hd
  omega
end Go.Proofs.Ytpfbmfnfcppjeac
