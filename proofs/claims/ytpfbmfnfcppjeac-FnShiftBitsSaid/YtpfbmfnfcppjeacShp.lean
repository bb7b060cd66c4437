/-
  The period by the program; the outputs by the reference.
-/
import Derived.Test.YtpfbmfnfcppjeacShf
namespace Go.Proofs.Ytpfbmfnfcppjeac
open Go.RowKit
theorem regAt_new (w : World) (H S : Nat) (T : TypeId) : RegAt (w.alloc (.cells #[.int .i64 (H : Int), .int .i64 (S : Int)] T)) w.heap.size H S := by
  refine ⟨?_, ?_, ?_⟩
  · rw [World.cell?_alloc_at _ _ _ _ rfl]; rfl
  · rw [World.cell?_alloc_at _ _ _ _ rfl]; rfl
  · exact (World.frozen?_alloc_at _ _ _ _ rfl)
set_option maxHeartbeats 800000 in
theorem ShiftPeriod_any (t s : Int) (w : World) (hwf : (Lit.int .i64 t).wf = true) :
    Calls Try.prog 9 #[.int .i64 t, .int .i64 s] w fun e w' => e = .returned (.int .i64 (perI t s)) ∧ Below w.heap.size w w' := by
  cases h1 : regB t s
  · have HP := Lib.hid (show perI t s = 0 by simp [perI, h1])
    go_enter Try.func9, Try.ntmps9
    go_wp2_with (go_at_call 14; refine (registerValid_any _ _ _ hwf).mono ?_; rw [h1]; rintro e w' ⟨rfl, rfl⟩)
    go_ret
    exact ⟨ret_int HP.out.symm, Below.refl _ _⟩
  · obtain ⟨T, S, d, rfl, rfl, _, hd, hT, hS1, hS, HH, hper⟩ := reg_nums h1
    have HPS := Lib.hid (per_spec HH hS hS1)
    have HRL := Lib.hid (run_lt HH hS hd)
    obtain ⟨P, eP⟩ : ∃ P, P = per (T / 2) S d := ⟨_, rfl⟩
    rw [← eP] at HPS hper
    have HPER := Lib.hid hper
    have hP1 : 1 ≤ P := HPS.out.1
    have hP2 : P < 65536 := by have := HPS.out.2.1; have := pow16 hd; omega
    have HOK := Lib.hid h1
    have ht2 : ((T / 2 : Nat) : Int) = (T : Int) / 2 := by omega
    have hT2 : T / 2 < 65536 := half_lt HH hd
    have hreg := regAt_new w (T / 2) S 46
    rw [ht2] at hreg
    have hb0 : Below w.heap.size w (w.alloc (.cells #[.int .i64 ((T : Int) / 2), .int .i64 (S : Int)] 46)) := (Below.refl _ w).alloc (Nat.le_refl _) _
    clear eP hper HH h1 hd
    go_enter Try.func9, Try.ntmps9
    go_wp2_with (go_at_call 14; refine (registerValid_any _ _ _ hwf).mono ?_; rw [HOK.out]; rintro e w' ⟨rfl, rfl⟩)
    go_loopw [6] (fun n wr => ∃ k X : Nat, k < P ∧ n = .int .i64 ((k : Int) + 1) ∧ RegAt wr w.heap.size (T / 2) X ∧ Hid (X = rrun (T / 2) S k) ∧ Below w.heap.size w wr) (fun n _ => P + 1 - (intOf n).toNat)
    case atStart => exact ⟨0, S, by omega, rfl, hreg, rfl, hb0⟩
    case round =>
      obtain ⟨k, X, hk, rfl, hrg, HX, hbel⟩ := hrel
      have hX : X < 65536 := by rw [HX.out]; exact HRL.out k
      obtain ⟨Y, eY⟩ : ∃ Y, Y = rstep (T / 2) X := ⟨_, rfl⟩
      have HY := Lib.hid (show Y = rrun (T / 2) S (k + 1) by rw [eY, HX.out]; rfl)
      go_wp2_with fail
      refine (step_any (T / 2) X w.heap.size _ hrg hT2 hX hbel.size).mono ?_
      rintro e w' ⟨rfl, hrg', hb'⟩
      rw [← eY] at hrg'
      have HB2 := Lib.hid (hbel.trans hb')
      clear eY hrg hbel hb'
      obtain ⟨c0, c1, hf⟩ := hrg'
      by_cases hE : k + 1 = P
      · have hYS : Y = S := by rw [HY.out, hE]; exact HPS.out.2.2.1
        have HE := Lib.hid hE
        subst hYS
        clear hE
        go_wp2
        go_ret
        exact ⟨ret_int (by rw [HPER.out, ← HE.out]; rfl), HB2.out⟩
      · have hYS : ¬ Y = S := by rw [HY.out]; exact HPS.out.2.2.2 _ (by omega) (by omega)
        have t1 : ((Y : Int) == (S : Int)) = false := by rw [beq_eq_false_iff_ne]; omega
        have hk1 : k + 1 < P := by omega
        clear hYS hE
        go_wp2
        go_roundw
        case rel => first | exact ⟨k + 1, Y, hk1, by go_num, ⟨c0, c1, hf⟩, HY, HB2.out⟩ | ((repeat apply Exists.intro); exact ⟨⟨k + 1, Y, hk1, by go_num, ⟨c0, c1, hf⟩, HY, HB2.out⟩, rfl⟩)
        case measure => simp [intOf]; omega
theorem shiftL_neg {t s n : Int} (h : (regB t s && inB n 0 1024) = false) : shiftL t s n = [] := by simp only [shiftL, h]; rfl
set_option maxHeartbeats 800000 in
theorem specShiftBits_any (t s n : Int) (w : World) :
    Calls Try.prog 7 #[.int .i64 t, .int .i64 s, .int .i64 n] w fun e w' => ∃ r, e = .returned r ∧ OwnI w.heap.size w' r (shiftL t s n) ∧ Below w.heap.size w w' := by
  have hm0 : OwnI w.heap.size (w.alloc (.cells #[] 3)) (.slice (some ⟨w.heap.size, 0, none⟩) 0 0) [] := World.ownsRow_made w #[] 0 (Nat.le_refl _) (by decide) rfl
  have hb0 : Below w.heap.size w (w.alloc (.cells #[] 3)) := (Below.refl _ w).alloc (Nat.le_refl _) _
  cases h1 : regB t s
  · have HP := Lib.hid (shiftL_neg (t := t) (s := s) (n := n) (by rw [h1]; rfl))
    go_enter Try.func7, Try.ntmps7
    go_wp2_with (go_at_call 16; refine (l3Ok_any _ _ _).mono ?_; rw [h1]; rintro e w' ⟨rfl, rfl⟩)
    go_ret
    exact ⟨_, rfl, by rw [HP.out]; exact hm0, hb0⟩
  · cases h2 : inB n 0 1024
    · have HP := Lib.hid (shiftL_neg (t := t) (s := s) (n := n) (by rw [h1, h2]; rfl))
      go_enter Try.func7, Try.ntmps7
      go_wp2_with (first | (go_at_call 16; refine (l3Ok_any _ _ _).mono ?_; rw [h1]; rintro e w' ⟨rfl, rfl⟩) | (go_at_call 17; refine (l1In_any _ _ _ _).mono ?_; rw [h2]; rintro e w' ⟨rfl, rfl⟩))
      go_ret
      exact ⟨_, rfl, by rw [HP.out]; exact hm0, hb0⟩
    · have hn : 0 ≤ n ∧ n ≤ 1024 := by simpa [inB] using h2
      obtain ⟨n, rfl⟩ := Int.eq_ofNat_of_zero_le hn.1
      have hn2 : n ≤ 1024 := by omega
      have HP := Lib.hid (shift_pos h1 hn2)
      obtain ⟨T, S, d, rfl, rfl, _, hd, hT, hS1, hS, HH, _⟩ := reg_nums h1
      have HRL := Lib.hid (run_lt HH hS hd)
      have HOK := Lib.hid h1
      have HIN := Lib.hid h2
      have hS0 : S < 65536 := by have := HRL.out 0; exact this
      clear HH h1 hd hn h2
      go_enter Try.func7, Try.ntmps7
      go_wp2_with (first | (go_at_call 16; refine (l3Ok_any _ _ _).mono ?_; rw [HOK.out]; rintro e w' ⟨rfl, rfl⟩) | (go_at_call 17; refine (l1In_any _ _ _ _).mono ?_; rw [HIN.out]; rintro e w' ⟨rfl, rfl⟩))
      go_loopw [1, 7, 8] (fun st r i wr => ∃ k X : Nat, k ≤ n ∧ i = .int .i64 k ∧ st = .int .i64 (X : Int) ∧ Hid (X = rrun (T / 2) S k) ∧ OwnI w.heap.size wr r (outs (T / 2) S k) ∧ Below w.heap.size w wr) (fun _ _ i _ => n - (intOf i).toNat)
      case atStart => exact ⟨0, S, Nat.zero_le _, rfl, rfl, rfl, hm0, hb0⟩
      case round =>
        obtain ⟨k, X, hk, rfl, rfl, HX, hown, hbel⟩ := hrel
        have hsz := hbel.size
        by_cases hlt2 : k < n
        · have hX : X < 65536 := by rw [HX.out]; exact HRL.out k
          obtain ⟨Y, eY⟩ : ∃ Y, Y = rstep (T / 2) X := ⟨_, rfl⟩
          have HY := Lib.hid (show Y = rrun (T / 2) S (k + 1) by rw [eY, HX.out]; rfl)
          have HO := Lib.hid (show outs (T / 2) S (k + 1) = outs (T / 2) S k ++ [((X % 2 : Nat) : Int)] by rw [outs_succ, HX.out])
          have HL := Lib.hid (outs_length (T / 2) S k)
          go_wp2_with fail
          refine (l3Next_any T X _ hT hX).mono ?_
          rw [← eY]
          rintro e w' ⟨rfl, rfl⟩
          go_wp2_with (at_builtin; refine wp_app1 tabI wr _ ((X % 2 : Nat) : Int) rfl rfl rfl rfl rfl (.tmp 34) (.tmp 36) rfl w.heap.size _ (outs (T / 2) S k) rfl 1 rfl hown (by have := HL.out; omega) hsz ?_; intro v' w' hown' hgrow hnew)
          have hfin : OwnI w.heap.size w' v' (outs (T / 2) S (k + 1)) := by rw [HO.out]; exact hown'
          have hfin2 := hbel.trans (below_of_row hgrow hsz (fun k e => (hown.lt k e).1))
          go_roundw
          case rel => exact ⟨k + 1, Y, by omega, by go_num, by rw [eY], HY, hfin, hfin2⟩
          case measure => simp [intOf]; omega
        · obtain rfl : k = n := by omega
          go_wp2
          go_ret
          exact ⟨_, rfl, by rw [HP.out]; exact hown, hbel⟩
end Go.Proofs.Ytpfbmfnfcppjeac
