/-
  The check bits, by the reference.
-/
import Derived.Test.YtkhefkedhdakbacDoorChk6
namespace Go.Proofs.YtkhefkedhdakbacDoor
open Go.RowKit
set_option maxHeartbeats 1000000 in
theorem specCheckBits_any (zs : List Int) (g : Int) (v : Value) (w : World) (hrow : RowK .i64 w v zs) :
    Calls Tryd.prog 24 #[v, .int .i64 g] w fun e w' => ∃ r, e = .returned r ∧ OwnI w.heap.size w' r (chkL zs g) ∧ Below w.heap.size w w' := by
  have hlen := hrow.len
  have hrm : RowK .i64 (w.alloc (.cells #[] 3)) v zs := hrow.belowAll ((Below.refl _ w).alloc (Nat.le_refl _) _)
  have hmt : OwnI w.heap.size (w.alloc (.cells #[] 3)) (.slice (some ⟨w.heap.size, 0, none⟩) 0 0) [] := World.ownsRow_made w #[] 0 (Nat.le_refl _) (by decide) rfl
  have hb0 : Below w.heap.size w (w.alloc (.cells #[] 3)) := (Below.refl _ w).alloc (Nat.le_refl _) _
  obtain ⟨a, cap, hv⟩ := hrow.form
  subst hv
  cases h1 : validB zs
  · have HC := Lib.hid (show chkL zs g = [] from chkL_neg (by rw [h1]; rfl))
    go_enter Tryd.func24, Tryd.ntmps24
    go_wp2_with (go_at_call 20; refine (specBitsValid_any _ _ _ hrm).mono ?_; rintro e w' ⟨rfl, rfl⟩)
    go_ret
    exact ⟨_, rfl, by rw [HC.out]; exact hmt, hb0⟩
  · cases h2 : genB g
    · have HC := Lib.hid (show chkL zs g = [] from chkL_neg (by rw [h1, h2]; rfl))
      go_enter Tryd.func24, Tryd.ntmps24
      go_wp2_with (first | (go_at_call 20; refine (specBitsValid_any _ _ _ hrm).mono ?_; rintro e w' ⟨rfl, rfl⟩) | (go_at_call 22; refine (specGeneratorValid_any _ _).mono ?_; rintro e w' ⟨rfl, rfl⟩))
      go_ret
      exact ⟨_, rfl, by rw [HC.out]; exact hmt, hb0⟩
    · obtain ⟨G, rfl, hg1, hg2, _⟩ := gen_nat h2
      have hd := deg_le h2
      have hG := gen_is h2
      have hb := bits_of h1
      have hl := valid_len h1
      have HC := Lib.hid (show chkL zs (G : Int) = digits (degN (G : Int)) (crem G (degN (G : Int)) 0 (zs ++ List.replicate (degN (G : Int)) 0)) from chkL_pos h1 h2)
      have HR := Lib.hid (show ∀ ys v W, RowK .i64 W v ys → BitL ys → Calls Tryd.prog 32 #[v, .int .i64 (G : Int)] W fun e w' => e = .returned (.int .i64 ((crem G (degN (G : Int)) 0 ys : Nat) : Int)) ∧ W = w' from fun ys v W hr hb => l2Remainder_any ys G v W hr hb h2)
      obtain ⟨d, ed⟩ : ∃ d, d = degN (G : Int) := ⟨_, rfl⟩
      have HL := Lib.hid (show Nat.log2 G = d by rw [ed, deg_log])
      rw [← ed] at hd hG HC HR
      clear ed
      have hd1 := hG.pos
      have hRl := crem_rest_lt hG (hb.app (BitL.repl d))
      have hp := pow_le16 hd
      have hmt2 : OwnI (w.heap.size + 1) ((w.alloc (.cells #[] 3)).alloc (.cells #[] 3)) (.slice (some ⟨w.heap.size + 1, 0, none⟩) 0 0) [] := by
        have : OwnI (w.heap.size + 1) ((w.alloc (.cells #[] 3)).alloc (.cells #[] 3)) (.slice (some ⟨(w.alloc (.cells #[] 3)).heap.size, 0, none⟩) 0 0) [] := World.ownsRow_made _ #[] 0 (by simp) (by decide) rfl
        simpa using this
      have hrm2 : RowK .i64 ((w.alloc (.cells #[] 3)).alloc (.cells #[] 3)) (.slice a zs.length cap) zs := hrm.belowAll ((Below.refl _ _).alloc (Nat.le_refl _) _)
      have hmt3 : OwnI w.heap.size ((w.alloc (.cells #[] 3)).alloc (.cells #[] 3)) (.slice (some ⟨w.heap.size, 0, none⟩) 0 0) [] := hmt.belowAll ((Below.refl _ _).alloc (Nat.le_refl _) _)
      have HB2 := Lib.hid (hb0.trans ((Below.refl _ _).alloc (B := w.heap.size) (by simp) (.cells #[] 3)))
      clear hmt hb0
      go_enter Tryd.func24, Tryd.ntmps24
      go_wp2_with (first | (go_at_call 20; refine (specBitsValid_any _ _ _ hrm).mono ?_; rintro e w' ⟨rfl, rfl⟩) | (go_at_call 22; refine (specGeneratorValid_any _ _).mono ?_; rintro e w' ⟨rfl, rfl⟩) | (go_at_call 23; refine (l2Degree_any G _ (by omega) (by omega)).mono ?_; rw [HL.out]; rintro e w' ⟨rfl, rfl⟩) | (at_builtin; refine wp_apps tabI _ rfl (.tmp 21) (.tmp 22) rfl (w.heap.size + 1) _ _ [] zs rfl rfl hmt2 hrm2 (by simp; omega) (by simp) ?_; intro v1 w1 hown1 hg1 hn1; simp only [List.nil_append] at hown1; have hsz1 := hg1.size) | (at_builtin; refine wp_appz tabI Tryd.underlying3 _ rfl (.tmp 23) (.tmp 24) rfl (w.heap.size + 1) d v1 zs rfl rfl hown1 hd1 (by omega) (by have := hsz1; simp at this; omega) ?_; intro v2 w2 hown2 hg2 hn2) | (go_at_call 32; refine (HR.out _ _ _ (row_of_own hown2) (hb.app (BitL.repl d))).mono ?_; rintro e w' ⟨rfl, rfl⟩))
      have hg1' : ((w.alloc (.cells #[] 3)).alloc (.cells #[] 3)).grownBy w1 (some (w.heap.size + 1)) := hg1
      have hs1 : w.heap.size + 2 ≤ w1.heap.size := by have := hsz1; simp at this; omega
      have hb12 : Below w.heap.size w w2 := ((HB2.out.trans (below_of_row hg1' (by simp; omega) (by intro j e; cases e; omega))).trans (below_of_row hg2 (by omega) (fun j e => by have := (hown1.lt j e).1; omega)))
      have hmt4 : OwnI w.heap.size w2 (.slice (some ⟨w.heap.size, 0, none⟩) 0 0) [] := (hmt3.kept hg1' (Or.inr (by simp [Value.ownBlock]))).kept hg2 (Or.inr (by intro e; have := (hown1.lt w.heap.size e.symm).1; omega))
      obtain ⟨R, eR⟩ : ∃ R, R = crem G d 0 (zs ++ List.replicate d 0) := ⟨_, rfl⟩
      rw [← eR] at HC hRl ⊢
      clear hg1 hg1' hg2 hown1 hown2 hmt2 hmt3 hrm hrm2 eR hn1 hn2
      go_loopw [5, 8] (fun r i wr => ∃ (j : Nat) (y : Int), j ≤ d ∧ i = .int .i64 y ∧ y = (j : Int) - 1 ∧ OwnI w.heap.size wr r ((digits d R).take (d - j)) ∧ Below w.heap.size w wr) (fun _ i _ => (intOf i + 1).toNat)
      case atStart => exact ⟨d, (d : Int) - 1, Nat.le_refl _, rfl, rfl, by simpa using hmt4, hb12⟩
      case round =>
        obtain ⟨j, y, hj, rfl, hy, hown, hbel⟩ := hrel
        by_cases hj0 : 0 < j
        · obtain ⟨i, rfl⟩ : ∃ i, j = i + 1 := ⟨j - 1, by omega⟩
          obtain rfl : y = (i : Int) := by omega
          obtain ⟨q, eq⟩ : ∃ q, q = R >>> i := ⟨_, rfl⟩
          have hqx : q ≤ R := by rw [eq, Nat.shiftRight_eq_div_pow]; exact Nat.div_le_self _ _
          have e1 : (R : Int) / 2 ^ i = (q : Int) := by rw [eq]; exact shr_cast R i
          have e2 : (R : Int) / 2 ^ (min i 64) = (q : Int) := by rw [Nat.min_eq_left (by omega)]; exact e1
          have hi64 : (i : Int) ≤ 64 := by omega
          obtain ⟨m, em⟩ : ∃ m, m = q % 2 := ⟨_, rfl⟩
          have e3 : (q : Int) % 2 = (m : Int) := by rw [em]; simp
          have e4 : (q : Int).tmod 2 = (m : Int) := by rw [Int.tmod_eq_emod_of_nonneg (by omega)]; exact e3
          have HE := Lib.hid (show (digits d R).take (d - i) = (digits d R).take (d - (i + 1)) ++ [(m : Int)] by
            have := digits_take d R (d - (i + 1)) (by omega)
            rw [show d - (i + 1) + 1 = d - i by omega, show d - 1 - (d - (i + 1)) = i by omega, ← eq, ← em] at this
            exact this)
          have hlen2 : ((digits d R).take (d - (i + 1))).length ≤ 16 := by rw [List.length_take, digits_length]; omega
          have hszr := hbel.size
          clear eq em hy
          go_wp2_with (at_builtin; refine wp_app1 tabI wr _ (m : Int) rfl rfl rfl rfl rfl _ _ rfl w.heap.size u5 ((digits d R).take (d - (i + 1))) rfl 1 rfl hown (by omega) hszr ?_; intro v' w' hown' hgrow hnew)
          have hown2 : OwnI w.heap.size w' v' ((digits d R).take (d - i)) := by rw [HE.out]; exact hown'
          have hb2 := hbel.trans (below_of_row hgrow hszr (fun k e => (hown.lt k e).1))
          go_roundw
          case rel => exact ⟨i, (i : Int) - 1, by omega, by go_num, rfl, hown2, hb2⟩
          case measure => simp [intOf]
        · obtain rfl : j = 0 := by omega
          obtain rfl : y = -1 := by omega
          clear hy
          have HE := Lib.hid (show (digits d R).take (d - 0) = chkL zs (G : Int) by rw [HC.out, Nat.sub_zero, List.take_of_length_le (by rw [digits_length]; omega)])
          go_wp2
          go_ret
          exact ⟨_, rfl, by rw [← HE.out]; exact hown, hbel⟩
end Go.Proofs.YtkhefkedhdakbacDoor
