/-
  Nibbles by the program: corrected words appended. Written by a program (enc2.py).
-/
import Derived.Test.YtpfbmfnfcppjeadDoorEncP
namespace Go.Proofs.YtpfbmfnfcppjeadDoor
open Go.RowKit
set_option maxHeartbeats 4000000 in
theorem appendDecoded_any (zs xs : List Int) (u v : Value) (base : Nat) (w : World) (hT : TabP w) (hrow : RowK .i64 w v zs) (hkeep : ∀ W, Below base w W → RowK .i64 W v zs) (hb : BitL zs) (hl : zs.length = 7) (hown : OwnI base w u xs) (hx : xs.length ≤ 100000) (hbase : base ≤ w.heap.size) :
    Calls Tryd.prog 19 #[u, v] w fun e w' => ∃ r, e = .returned (.tuple #[r, .int .i64 (wrongN zs : Int)]) ∧ OwnI base w' r (xs ++ dec zs) ∧ Below base w w' := by
  have HB := Lib.hid hb
  have HSY := Lib.hid (syndrome_any zs v w hrow hb (by omega))
  have HDE := Lib.hid (dec_decS zs)
  have HW0 := Lib.hid (show wrongN zs = if syn 0 0 zs = 0 then 0 else 1 by unfold wrongN wrongB; by_cases h : syn 0 0 zs = 0 <;> simp [h])
  have hS8 := syn_lt zs 0 0 (by omega) (by omega)
  obtain ⟨a, cap, hv⟩ := hrow.form
  rw [hl] at hv
  subst hv
  obtain ⟨_, _, _, _, hcell⟩ := hrow.at
  obtain ⟨b, off, rfl, _⟩ := hcell (by omega)
  have HC : Hid (∀ W, Below base w W → ∀ i, i < 7 → W.cell? ⟨b, off + i, none⟩ = some (.int .i64 (zs.getD i 0))) := by
    intro W hW i hi
    obtain ⟨_, _, _, _, hcell⟩ := (hkeep W hW).at
    obtain ⟨b', off', e, hc⟩ := hcell (by omega)
    cases e
    exact hc i hi
  have HOW := Lib.hid hown
  have p0 := hT 0 (by omega)
  have p1 := hT 1 (by omega)
  have p2 := hT 2 (by omega)
  have p3 := hT 3 (by omega)
  have p0b : w.cell? ⟨0, 0, none⟩ = some (.int .i64 2) := p0
  have p1b : w.cell? ⟨0, 1, none⟩ = some (.int .i64 4) := p1
  have p2b : w.cell? ⟨0, 2, none⟩ = some (.int .i64 5) := p2
  have p3b : w.cell? ⟨0, 3, none⟩ = some (.int .i64 6) := p3
  clear hcell hrow hkeep hown hT hb p0 p1 p2 p3
  obtain ⟨S, eS⟩ : ∃ S, S = syn 0 0 zs := ⟨_, rfl⟩
  rw [← eS] at HSY HDE HW0 hS8
  clear eS
  have h0s : S = 0 ∨ ∃ s, S = s + 1 := by cases S with | zero => exact .inl rfl | succ s => exact .inr ⟨s, rfl⟩
  rcases h0s with rfl | ⟨s, rfl⟩
  · have HW := Lib.hid (show wrongN zs = 0 from HW0.out)
    go_enter Tryd.func19, Tryd.ntmps19
    go_wp2_with (go_at_call 22; refine HSY.out.mono ?_; rintro e w' ⟨rfl, rfl⟩)
    go_loopw [0, 16] (fun r i wr => ∃ k : Nat, k ≤ 4 ∧ i = .int .i64 k ∧ OwnI base wr r (xs ++ (decS 0 zs).take k) ∧ Below base w wr) (fun _ i _ => 4 - (intOf i).toNat)
    case atStart => exact ⟨0, Nat.zero_le _, rfl, by simpa using HOW.out, Below.refl _ _⟩
    case round =>
      obtain ⟨k, hk, rfl, ho, hbel⟩ := hrel
      have hk5 : k = 0 ∨ k = 1 ∨ k = 2 ∨ k = 3 ∨ k = 4 := by omega
      have hsz : base ≤ wr.heap.size := Nat.le_trans hbase hbel.size
      rcases hk5 with rfl | rfl | rfl | rfl | rfl
      · have hc0 := HC.out wr hbel 2 (by omega)
        have by_ := HB.out.at 2
        have hy2 : zs.getD 2 0 = 0 ∨ zs.getD 2 0 = 1 := by_
        have hfx : fixAt 0 zs 2 = zs.getD 2 0 := by rw [fixAt, if_neg (by omega)]
        have HD := Lib.hid (show (decS 0 zs).take (0 + 1) = (decS 0 zs).take 0 ++ [zs.getD 2 0] by rw [← hfx]; rfl)
        clear hfx
        obtain ⟨y, hy⟩ : ∃ y, y = zs.getD 2 0 := ⟨_, rfl⟩
        rw [← hy] at hc0 by_ HD
        have hy0 : 0 ≤ y := by omega
        have hy1 : y ≤ 1 := by omega
        clear by_ hy hy2
        have ix := ixP0
        go_wp2_with (at_builtin; refine wp_app1 tabI wr _ y rfl rfl rfl rfl rfl (.tmp 29) (.tmp 31) rfl base u0 (xs ++ (decS 0 zs).take 0) rfl 1 rfl ho (by simp; omega) hsz ?_; intro v' w' hown' hgrow hnew)
        have hfin : OwnI base w' v' (xs ++ (decS 0 zs).take (0 + 1)) := by rw [HD.out, ← List.append_assoc]; exact hown'
        have hfin2 := hbel.trans (below_of_row hgrow hsz (fun j e => (ho.lt j e).1))
        go_roundw
        case rel => first | exact ⟨0 + 1, by omega, by go_num, hfin, hfin2⟩ | ((repeat apply Exists.intro); exact ⟨⟨0 + 1, by omega, by go_num, hfin, hfin2⟩, rfl⟩)
        case measure => simp [intOf]
      · have hc0 := HC.out wr hbel 4 (by omega)
        have by_ := HB.out.at 4
        have hy2 : zs.getD 4 0 = 0 ∨ zs.getD 4 0 = 1 := by_
        have hfx : fixAt 0 zs 4 = zs.getD 4 0 := by rw [fixAt, if_neg (by omega)]
        have HD := Lib.hid (show (decS 0 zs).take (1 + 1) = (decS 0 zs).take 1 ++ [zs.getD 4 0] by rw [← hfx]; rfl)
        clear hfx
        obtain ⟨y, hy⟩ : ∃ y, y = zs.getD 4 0 := ⟨_, rfl⟩
        rw [← hy] at hc0 by_ HD
        have hy0 : 0 ≤ y := by omega
        have hy1 : y ≤ 1 := by omega
        clear by_ hy hy2
        have ix := ixP1
        go_wp2_with (at_builtin; refine wp_app1 tabI wr _ y rfl rfl rfl rfl rfl (.tmp 29) (.tmp 31) rfl base u0 (xs ++ (decS 0 zs).take 1) rfl 1 rfl ho (by simp; omega) hsz ?_; intro v' w' hown' hgrow hnew)
        have hfin : OwnI base w' v' (xs ++ (decS 0 zs).take (1 + 1)) := by rw [HD.out, ← List.append_assoc]; exact hown'
        have hfin2 := hbel.trans (below_of_row hgrow hsz (fun j e => (ho.lt j e).1))
        go_roundw
        case rel => first | exact ⟨1 + 1, by omega, by go_num, hfin, hfin2⟩ | ((repeat apply Exists.intro); exact ⟨⟨1 + 1, by omega, by go_num, hfin, hfin2⟩, rfl⟩)
        case measure => simp [intOf]
      · have hc0 := HC.out wr hbel 5 (by omega)
        have by_ := HB.out.at 5
        have hy2 : zs.getD 5 0 = 0 ∨ zs.getD 5 0 = 1 := by_
        have hfx : fixAt 0 zs 5 = zs.getD 5 0 := by rw [fixAt, if_neg (by omega)]
        have HD := Lib.hid (show (decS 0 zs).take (2 + 1) = (decS 0 zs).take 2 ++ [zs.getD 5 0] by rw [← hfx]; rfl)
        clear hfx
        obtain ⟨y, hy⟩ : ∃ y, y = zs.getD 5 0 := ⟨_, rfl⟩
        rw [← hy] at hc0 by_ HD
        have hy0 : 0 ≤ y := by omega
        have hy1 : y ≤ 1 := by omega
        clear by_ hy hy2
        have ix := ixP2
        go_wp2_with (at_builtin; refine wp_app1 tabI wr _ y rfl rfl rfl rfl rfl (.tmp 29) (.tmp 31) rfl base u0 (xs ++ (decS 0 zs).take 2) rfl 1 rfl ho (by simp; omega) hsz ?_; intro v' w' hown' hgrow hnew)
        have hfin : OwnI base w' v' (xs ++ (decS 0 zs).take (2 + 1)) := by rw [HD.out, ← List.append_assoc]; exact hown'
        have hfin2 := hbel.trans (below_of_row hgrow hsz (fun j e => (ho.lt j e).1))
        go_roundw
        case rel => first | exact ⟨2 + 1, by omega, by go_num, hfin, hfin2⟩ | ((repeat apply Exists.intro); exact ⟨⟨2 + 1, by omega, by go_num, hfin, hfin2⟩, rfl⟩)
        case measure => simp [intOf]
      · have hc0 := HC.out wr hbel 6 (by omega)
        have by_ := HB.out.at 6
        have hy2 : zs.getD 6 0 = 0 ∨ zs.getD 6 0 = 1 := by_
        have hfx : fixAt 0 zs 6 = zs.getD 6 0 := by rw [fixAt, if_neg (by omega)]
        have HD := Lib.hid (show (decS 0 zs).take (3 + 1) = (decS 0 zs).take 3 ++ [zs.getD 6 0] by rw [← hfx]; rfl)
        clear hfx
        obtain ⟨y, hy⟩ : ∃ y, y = zs.getD 6 0 := ⟨_, rfl⟩
        rw [← hy] at hc0 by_ HD
        have hy0 : 0 ≤ y := by omega
        have hy1 : y ≤ 1 := by omega
        clear by_ hy hy2
        have ix := ixP3
        go_wp2_with (at_builtin; refine wp_app1 tabI wr _ y rfl rfl rfl rfl rfl (.tmp 29) (.tmp 31) rfl base u0 (xs ++ (decS 0 zs).take 3) rfl 1 rfl ho (by simp; omega) hsz ?_; intro v' w' hown' hgrow hnew)
        have hfin : OwnI base w' v' (xs ++ (decS 0 zs).take (3 + 1)) := by rw [HD.out, ← List.append_assoc]; exact hown'
        have hfin2 := hbel.trans (below_of_row hgrow hsz (fun j e => (ho.lt j e).1))
        go_roundw
        case rel => first | exact ⟨3 + 1, by omega, by go_num, hfin, hfin2⟩ | ((repeat apply Exists.intro); exact ⟨⟨3 + 1, by omega, by go_num, hfin, hfin2⟩, rfl⟩)
        case measure => simp [intOf]
      · go_wp2
        go_ret2
        exact ⟨_, by rw [HW.out]; rfl, by rw [HDE.out]; exact ho, hbel⟩
  · have HW := Lib.hid (show wrongN zs = 1 by rw [HW0.out, if_neg (by omega)])
    have ts : (((s + 1 : Nat) : Int) != 0) = true := by rw [bne_iff_ne]; omega
    have ts1 : ((s : Int) + 1 != 0) = true := by rw [bne_iff_ne]; omega
    have ts2 : ¬ (s : Int) + 1 = 0 := by omega
    go_enter Tryd.func19, Tryd.ntmps19
    go_wp2_with (go_at_call 22; refine HSY.out.mono ?_; rintro e w' ⟨rfl, rfl⟩)
    go_loopw [0, 16] (fun r i wr => ∃ k : Nat, k ≤ 4 ∧ i = .int .i64 k ∧ OwnI base wr r (xs ++ (decS (s + 1) zs).take k) ∧ Below base w wr) (fun _ i _ => 4 - (intOf i).toNat)
    case atStart => exact ⟨0, Nat.zero_le _, rfl, by simpa using HOW.out, Below.refl _ _⟩
    case round =>
      obtain ⟨k, hk, rfl, ho, hbel⟩ := hrel
      have hk5 : k = 0 ∨ k = 1 ∨ k = 2 ∨ k = 3 ∨ k = 4 := by omega
      have hsz : base ≤ wr.heap.size := Nat.le_trans hbase hbel.size
      rcases hk5 with rfl | rfl | rfl | rfl | rfl
      · by_cases hq : s = 2
        · have t1 : ((3 : Int) == (s : Int) + 1) = true := by rw [beq_iff_eq]; omega
          have hc0 := HC.out wr hbel 2 (by omega)
          have by_ := HB.out.at 2
          have hy2 : zs.getD 2 0 = 0 ∨ zs.getD 2 0 = 1 := by_
          have hfx : fixAt (s + 1) zs 2 = (1 - zs.getD 2 0) := by rw [fixAt, if_pos (by omega)]
          have HD := Lib.hid (show (decS (s + 1) zs).take (0 + 1) = (decS (s + 1) zs).take 0 ++ [(1 - zs.getD 2 0)] by rw [← hfx]; rfl)
          clear hfx
          obtain ⟨y, hy⟩ : ∃ y, y = zs.getD 2 0 := ⟨_, rfl⟩
          rw [← hy] at hc0 by_ HD
          have hy0 : 0 ≤ y := by omega
          have hy1 : y ≤ 1 := by omega
          clear by_ hy hy2
          have ix := ixP0
          go_wp2_with (at_builtin; refine wp_app1 tabI wr _ (1 - y) rfl rfl rfl rfl rfl (.tmp 29) (.tmp 31) rfl base u0 (xs ++ (decS (s + 1) zs).take 0) rfl 1 rfl ho (by simp; omega) hsz ?_; intro v' w' hown' hgrow hnew)
          have hfin : OwnI base w' v' (xs ++ (decS (s + 1) zs).take (0 + 1)) := by rw [HD.out, ← List.append_assoc]; exact hown'
          have hfin2 := hbel.trans (below_of_row hgrow hsz (fun j e => (ho.lt j e).1))
          subst hq
          go_roundw
          case rel => first | exact ⟨0 + 1, by omega, by go_num, hfin, hfin2⟩ | ((repeat apply Exists.intro); exact ⟨⟨0 + 1, by omega, by go_num, hfin, hfin2⟩, rfl⟩)
          case measure => simp [intOf]
        · have t1 : ((3 : Int) == (s : Int) + 1) = false := by rw [beq_eq_false_iff_ne]; omega
          have t2 : ¬ (3 : Int) = (s : Int) + 1 := by omega
          have t3 : ¬ (2 : Int) = (s : Int) := by omega
          have hc0 := HC.out wr hbel 2 (by omega)
          have by_ := HB.out.at 2
          have hy2 : zs.getD 2 0 = 0 ∨ zs.getD 2 0 = 1 := by_
          have hfx : fixAt (s + 1) zs 2 = zs.getD 2 0 := by rw [fixAt, if_neg (by omega)]
          have HD := Lib.hid (show (decS (s + 1) zs).take (0 + 1) = (decS (s + 1) zs).take 0 ++ [zs.getD 2 0] by rw [← hfx]; rfl)
          clear hfx
          obtain ⟨y, hy⟩ : ∃ y, y = zs.getD 2 0 := ⟨_, rfl⟩
          rw [← hy] at hc0 by_ HD
          have hy0 : 0 ≤ y := by omega
          have hy1 : y ≤ 1 := by omega
          clear by_ hy hy2
          have ix := ixP0
          go_wp2_with (at_builtin; refine wp_app1 tabI wr _ y rfl rfl rfl rfl rfl (.tmp 29) (.tmp 31) rfl base u0 (xs ++ (decS (s + 1) zs).take 0) rfl 1 rfl ho (by simp; omega) hsz ?_; intro v' w' hown' hgrow hnew)
          have hfin : OwnI base w' v' (xs ++ (decS (s + 1) zs).take (0 + 1)) := by rw [HD.out, ← List.append_assoc]; exact hown'
          have hfin2 := hbel.trans (below_of_row hgrow hsz (fun j e => (ho.lt j e).1))
          go_roundw
          case rel => first | exact ⟨0 + 1, by omega, by go_num, hfin, hfin2⟩ | ((repeat apply Exists.intro); exact ⟨⟨0 + 1, by omega, by go_num, hfin, hfin2⟩, rfl⟩)
          case measure => simp [intOf]
      · by_cases hq : s = 4
        · have t1 : ((5 : Int) == (s : Int) + 1) = true := by rw [beq_iff_eq]; omega
          have hc0 := HC.out wr hbel 4 (by omega)
          have by_ := HB.out.at 4
          have hy2 : zs.getD 4 0 = 0 ∨ zs.getD 4 0 = 1 := by_
          have hfx : fixAt (s + 1) zs 4 = (1 - zs.getD 4 0) := by rw [fixAt, if_pos (by omega)]
          have HD := Lib.hid (show (decS (s + 1) zs).take (1 + 1) = (decS (s + 1) zs).take 1 ++ [(1 - zs.getD 4 0)] by rw [← hfx]; rfl)
          clear hfx
          obtain ⟨y, hy⟩ : ∃ y, y = zs.getD 4 0 := ⟨_, rfl⟩
          rw [← hy] at hc0 by_ HD
          have hy0 : 0 ≤ y := by omega
          have hy1 : y ≤ 1 := by omega
          clear by_ hy hy2
          have ix := ixP1
          go_wp2_with (at_builtin; refine wp_app1 tabI wr _ (1 - y) rfl rfl rfl rfl rfl (.tmp 29) (.tmp 31) rfl base u0 (xs ++ (decS (s + 1) zs).take 1) rfl 1 rfl ho (by simp; omega) hsz ?_; intro v' w' hown' hgrow hnew)
          have hfin : OwnI base w' v' (xs ++ (decS (s + 1) zs).take (1 + 1)) := by rw [HD.out, ← List.append_assoc]; exact hown'
          have hfin2 := hbel.trans (below_of_row hgrow hsz (fun j e => (ho.lt j e).1))
          subst hq
          go_roundw
          case rel => first | exact ⟨1 + 1, by omega, by go_num, hfin, hfin2⟩ | ((repeat apply Exists.intro); exact ⟨⟨1 + 1, by omega, by go_num, hfin, hfin2⟩, rfl⟩)
          case measure => simp [intOf]
        · have t1 : ((5 : Int) == (s : Int) + 1) = false := by rw [beq_eq_false_iff_ne]; omega
          have t2 : ¬ (5 : Int) = (s : Int) + 1 := by omega
          have t3 : ¬ (4 : Int) = (s : Int) := by omega
          have hc0 := HC.out wr hbel 4 (by omega)
          have by_ := HB.out.at 4
          have hy2 : zs.getD 4 0 = 0 ∨ zs.getD 4 0 = 1 := by_
          have hfx : fixAt (s + 1) zs 4 = zs.getD 4 0 := by rw [fixAt, if_neg (by omega)]
          have HD := Lib.hid (show (decS (s + 1) zs).take (1 + 1) = (decS (s + 1) zs).take 1 ++ [zs.getD 4 0] by rw [← hfx]; rfl)
          clear hfx
          obtain ⟨y, hy⟩ : ∃ y, y = zs.getD 4 0 := ⟨_, rfl⟩
          rw [← hy] at hc0 by_ HD
          have hy0 : 0 ≤ y := by omega
          have hy1 : y ≤ 1 := by omega
          clear by_ hy hy2
          have ix := ixP1
          go_wp2_with (at_builtin; refine wp_app1 tabI wr _ y rfl rfl rfl rfl rfl (.tmp 29) (.tmp 31) rfl base u0 (xs ++ (decS (s + 1) zs).take 1) rfl 1 rfl ho (by simp; omega) hsz ?_; intro v' w' hown' hgrow hnew)
          have hfin : OwnI base w' v' (xs ++ (decS (s + 1) zs).take (1 + 1)) := by rw [HD.out, ← List.append_assoc]; exact hown'
          have hfin2 := hbel.trans (below_of_row hgrow hsz (fun j e => (ho.lt j e).1))
          go_roundw
          case rel => first | exact ⟨1 + 1, by omega, by go_num, hfin, hfin2⟩ | ((repeat apply Exists.intro); exact ⟨⟨1 + 1, by omega, by go_num, hfin, hfin2⟩, rfl⟩)
          case measure => simp [intOf]
      · by_cases hq : s = 5
        · have t1 : ((6 : Int) == (s : Int) + 1) = true := by rw [beq_iff_eq]; omega
          have hc0 := HC.out wr hbel 5 (by omega)
          have by_ := HB.out.at 5
          have hy2 : zs.getD 5 0 = 0 ∨ zs.getD 5 0 = 1 := by_
          have hfx : fixAt (s + 1) zs 5 = (1 - zs.getD 5 0) := by rw [fixAt, if_pos (by omega)]
          have HD := Lib.hid (show (decS (s + 1) zs).take (2 + 1) = (decS (s + 1) zs).take 2 ++ [(1 - zs.getD 5 0)] by rw [← hfx]; rfl)
          clear hfx
          obtain ⟨y, hy⟩ : ∃ y, y = zs.getD 5 0 := ⟨_, rfl⟩
          rw [← hy] at hc0 by_ HD
          have hy0 : 0 ≤ y := by omega
          have hy1 : y ≤ 1 := by omega
          clear by_ hy hy2
          have ix := ixP2
          go_wp2_with (at_builtin; refine wp_app1 tabI wr _ (1 - y) rfl rfl rfl rfl rfl (.tmp 29) (.tmp 31) rfl base u0 (xs ++ (decS (s + 1) zs).take 2) rfl 1 rfl ho (by simp; omega) hsz ?_; intro v' w' hown' hgrow hnew)
          have hfin : OwnI base w' v' (xs ++ (decS (s + 1) zs).take (2 + 1)) := by rw [HD.out, ← List.append_assoc]; exact hown'
          have hfin2 := hbel.trans (below_of_row hgrow hsz (fun j e => (ho.lt j e).1))
          subst hq
          go_roundw
          case rel => first | exact ⟨2 + 1, by omega, by go_num, hfin, hfin2⟩ | ((repeat apply Exists.intro); exact ⟨⟨2 + 1, by omega, by go_num, hfin, hfin2⟩, rfl⟩)
          case measure => simp [intOf]
        · have t1 : ((6 : Int) == (s : Int) + 1) = false := by rw [beq_eq_false_iff_ne]; omega
          have t2 : ¬ (6 : Int) = (s : Int) + 1 := by omega
          have t3 : ¬ (5 : Int) = (s : Int) := by omega
          have hc0 := HC.out wr hbel 5 (by omega)
          have by_ := HB.out.at 5
          have hy2 : zs.getD 5 0 = 0 ∨ zs.getD 5 0 = 1 := by_
          have hfx : fixAt (s + 1) zs 5 = zs.getD 5 0 := by rw [fixAt, if_neg (by omega)]
          have HD := Lib.hid (show (decS (s + 1) zs).take (2 + 1) = (decS (s + 1) zs).take 2 ++ [zs.getD 5 0] by rw [← hfx]; rfl)
          clear hfx
          obtain ⟨y, hy⟩ : ∃ y, y = zs.getD 5 0 := ⟨_, rfl⟩
          rw [← hy] at hc0 by_ HD
          have hy0 : 0 ≤ y := by omega
          have hy1 : y ≤ 1 := by omega
          clear by_ hy hy2
          have ix := ixP2
          go_wp2_with (at_builtin; refine wp_app1 tabI wr _ y rfl rfl rfl rfl rfl (.tmp 29) (.tmp 31) rfl base u0 (xs ++ (decS (s + 1) zs).take 2) rfl 1 rfl ho (by simp; omega) hsz ?_; intro v' w' hown' hgrow hnew)
          have hfin : OwnI base w' v' (xs ++ (decS (s + 1) zs).take (2 + 1)) := by rw [HD.out, ← List.append_assoc]; exact hown'
          have hfin2 := hbel.trans (below_of_row hgrow hsz (fun j e => (ho.lt j e).1))
          go_roundw
          case rel => first | exact ⟨2 + 1, by omega, by go_num, hfin, hfin2⟩ | ((repeat apply Exists.intro); exact ⟨⟨2 + 1, by omega, by go_num, hfin, hfin2⟩, rfl⟩)
          case measure => simp [intOf]
      · by_cases hq : s = 6
        · have t1 : ((7 : Int) == (s : Int) + 1) = true := by rw [beq_iff_eq]; omega
          have hc0 := HC.out wr hbel 6 (by omega)
          have by_ := HB.out.at 6
          have hy2 : zs.getD 6 0 = 0 ∨ zs.getD 6 0 = 1 := by_
          have hfx : fixAt (s + 1) zs 6 = (1 - zs.getD 6 0) := by rw [fixAt, if_pos (by omega)]
          have HD := Lib.hid (show (decS (s + 1) zs).take (3 + 1) = (decS (s + 1) zs).take 3 ++ [(1 - zs.getD 6 0)] by rw [← hfx]; rfl)
          clear hfx
          obtain ⟨y, hy⟩ : ∃ y, y = zs.getD 6 0 := ⟨_, rfl⟩
          rw [← hy] at hc0 by_ HD
          have hy0 : 0 ≤ y := by omega
          have hy1 : y ≤ 1 := by omega
          clear by_ hy hy2
          have ix := ixP3
          go_wp2_with (at_builtin; refine wp_app1 tabI wr _ (1 - y) rfl rfl rfl rfl rfl (.tmp 29) (.tmp 31) rfl base u0 (xs ++ (decS (s + 1) zs).take 3) rfl 1 rfl ho (by simp; omega) hsz ?_; intro v' w' hown' hgrow hnew)
          have hfin : OwnI base w' v' (xs ++ (decS (s + 1) zs).take (3 + 1)) := by rw [HD.out, ← List.append_assoc]; exact hown'
          have hfin2 := hbel.trans (below_of_row hgrow hsz (fun j e => (ho.lt j e).1))
          subst hq
          go_roundw
          case rel => first | exact ⟨3 + 1, by omega, by go_num, hfin, hfin2⟩ | ((repeat apply Exists.intro); exact ⟨⟨3 + 1, by omega, by go_num, hfin, hfin2⟩, rfl⟩)
          case measure => simp [intOf]
        · have t1 : ((7 : Int) == (s : Int) + 1) = false := by rw [beq_eq_false_iff_ne]; omega
          have t2 : ¬ (7 : Int) = (s : Int) + 1 := by omega
          have t3 : ¬ (6 : Int) = (s : Int) := by omega
          have hc0 := HC.out wr hbel 6 (by omega)
          have by_ := HB.out.at 6
          have hy2 : zs.getD 6 0 = 0 ∨ zs.getD 6 0 = 1 := by_
          have hfx : fixAt (s + 1) zs 6 = zs.getD 6 0 := by rw [fixAt, if_neg (by omega)]
          have HD := Lib.hid (show (decS (s + 1) zs).take (3 + 1) = (decS (s + 1) zs).take 3 ++ [zs.getD 6 0] by rw [← hfx]; rfl)
          clear hfx
          obtain ⟨y, hy⟩ : ∃ y, y = zs.getD 6 0 := ⟨_, rfl⟩
          rw [← hy] at hc0 by_ HD
          have hy0 : 0 ≤ y := by omega
          have hy1 : y ≤ 1 := by omega
          clear by_ hy hy2
          have ix := ixP3
          go_wp2_with (at_builtin; refine wp_app1 tabI wr _ y rfl rfl rfl rfl rfl (.tmp 29) (.tmp 31) rfl base u0 (xs ++ (decS (s + 1) zs).take 3) rfl 1 rfl ho (by simp; omega) hsz ?_; intro v' w' hown' hgrow hnew)
          have hfin : OwnI base w' v' (xs ++ (decS (s + 1) zs).take (3 + 1)) := by rw [HD.out, ← List.append_assoc]; exact hown'
          have hfin2 := hbel.trans (below_of_row hgrow hsz (fun j e => (ho.lt j e).1))
          go_roundw
          case rel => first | exact ⟨3 + 1, by omega, by go_num, hfin, hfin2⟩ | ((repeat apply Exists.intro); exact ⟨⟨3 + 1, by omega, by go_num, hfin, hfin2⟩, rfl⟩)
          case measure => simp [intOf]
      · go_wp2
        go_ret2
        exact ⟨_, by rw [HW.out]; rfl, by rw [HDE.out]; exact ho, hbel⟩
end Go.Proofs.YtpfbmfnfcppjeadDoor
