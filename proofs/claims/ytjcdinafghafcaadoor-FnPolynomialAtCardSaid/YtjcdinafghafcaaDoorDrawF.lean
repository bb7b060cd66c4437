/-
  The drawn elements and polynomials.
-/
import Derived.Test.YtjcdinafghafcaaDoorDraw2
namespace Go.Proofs.YtjcdinafghafcaaDoor
open Go.RowKit

set_option maxHeartbeats 800000 in
theorem l20Element_any (n : Int) (S B m : Nat) (w : World) (h : Rd w S B m) (hm : m ≤ 100000) (hn : 1 ≤ n) (hn2 : n ≤ 1000) :
    Calls Tryd.prog 34 #[.pointer (some ⟨B, 0, none⟩), .int .i64 n] w fun e w' => ∃ r : Int, e = .returned (.int .i64 r) ∧ -1 ≤ r ∧ r ≤ 16 ∧ Rd w' S B (m + 2) ∧ w.grownBy w' (some B) := by
  go_enter Tryd.func34, Tryd.ntmps34
  go_wp2_with fail
  refine (odd_any _ _ _ _ _ h (by omega) (by omega) (by omega)).mono ?_
  rintro e w1 ⟨t, rfl, hr1, hg1⟩
  clear h
  cases t
  · go_wp2_with fail
    refine (pick_any _ _ _ _ _ hr1 (by omega) (by omega) (by omega)).mono ?_
    rintro e w2 ⟨r, rfl, h0, h1, hr2, hg2⟩
    go_wp2_with fail
    go_ret
    exact ⟨r, rfl, by omega, by omega, hr2, grown_trans hg1 hg2⟩
  · have hr2 := hr1.below ((Below.refl _ w1).alloc (Nat.le_refl _) (.cells #[.int .i64 (-1), .int .i64 16] 3))
    have HG2 := Lib.hid (grown_trans hg1 (World.grownBy_alloc w1 (.cells #[.int .i64 (-1), .int .i64 16] 3) (some B)))
    have hc0 : (w1.alloc (.cells #[.int .i64 (-1), .int .i64 16] 3)).cell? ⟨w1.heap.size, 0, none⟩ = some (.int .i64 (-1)) := by rw [World.cell?_alloc_at _ _ _ _ rfl]; rfl
    have hc1 : (w1.alloc (.cells #[.int .i64 (-1), .int .i64 16] 3)).cell? ⟨w1.heap.size, 1, none⟩ = some (.int .i64 16) := by rw [World.cell?_alloc_at _ _ _ _ rfl]; rfl
    have hlt : B < w1.heap.size := hr1.lt
    clear hr1 hg1
    go_wp2_with fail
    refine (pick_any _ _ _ _ _ hr2 (by omega) (by omega) (by omega)).mono ?_
    rintro e w3 ⟨r, rfl, h0, h1, hr3, hg3⟩
    have hc0' := hg3.cell hc0 (by simp; omega)
    have hc1' := hg3.cell hc1 (by simp; omega)
    have HG3 := Lib.hid (grown_trans HG2.out hg3)
    clear hg3 hc0 hc1 hr2
    have hr : r = 0 ∨ r = 1 := by omega
    rcases hr with rfl | rfl
    · go_wp2_with fail
      go_ret
      exact ⟨-1, rfl, by omega, by omega, hr3, HG3.out⟩
    · go_wp2_with fail
      go_ret
      exact ⟨16, rfl, by omega, by omega, hr3, HG3.out⟩
set_option maxHeartbeats 400000 in
theorem DrawFieldInverse_any (zs : List Int) (v : Value) (w : World) (h : RowK .u8 w v zs) (hz : ∀ n ∈ zs, (Lit.int .u8 n).wf = true) :
    Calls Tryd.prog 20 #[v] w fun e w' => ∃ r : Int, e = .returned (.int .i64 r) ∧ -1 ≤ r ∧ r ≤ 16 ∧ Below w.heap.size w w' := by
  go_enter Tryd.func20, Tryd.ntmps20
  go_wp2_with fail
  refine (l20Open_any _ _ _ h hz).mono ?_
  rintro e w1 ⟨rfl, hr, hb⟩
  go_wp2_with fail
  refine (l20Element_any _ _ _ _ _ hr (by omega) (by omega) (by omega)).mono ?_
  rintro e w2 ⟨r, rfl, h0, h1, hr2, hg⟩
  go_wp2_with fail
  go_ret
  exact ⟨r, rfl, h0, h1, below_open hb hg⟩
set_option maxHeartbeats 400000 in
theorem DrawFieldMul_any (zs : List Int) (v : Value) (w : World) (h : RowK .u8 w v zs) (hz : ∀ n ∈ zs, (Lit.int .u8 n).wf = true) :
    Calls Tryd.prog 25 #[v] w fun e w' => ∃ r s : Int, e = .returned (.tuple #[.int .i64 r, .int .i64 s]) ∧ -1 ≤ r ∧ r ≤ 16 ∧ -1 ≤ s ∧ s ≤ 16 ∧ Below w.heap.size w w' := by
  go_enter Tryd.func25, Tryd.ntmps25
  go_wp2_with fail
  refine (l20Open_any _ _ _ h hz).mono ?_
  rintro e w1 ⟨rfl, hr, hb⟩
  go_wp2_with fail
  refine (l20Element_any _ _ _ _ _ hr (by omega) (by omega) (by omega)).mono ?_
  rintro e w2 ⟨r, rfl, h0, h1, hr2, hg⟩
  go_wp2_with fail
  all_goals try (go_quiet (fail); go_wp2_with fail)
  refine (l20Element_any _ _ _ _ _ hr2 (by omega) (by omega) (by omega)).mono ?_
  rintro e w3 ⟨s, rfl, h2, h3, hr3, hg2⟩
  go_wp2_with fail
  go_ret2
  exact ⟨r, s, rfl, h0, h1, h2, h3, below_open hb (grown_trans hg hg2)⟩
set_option maxHeartbeats 800000 in
theorem l20Elements_any (n bad : Int) (S B m : Nat) (w : World) (h : Rd w S B m) (hm : m ≤ 10000) (hn : 0 ≤ n) (hn2 : n ≤ 100) (hb : 1 ≤ bad) (hb2 : bad ≤ 100) :
    Calls Tryd.prog 39 #[.pointer (some ⟨B, 0, none⟩), .int .i64 n, .int .i64 bad] w fun e w' => ∃ (v : Value) (xs : List Int), e = .returned v ∧ OwnI w.heap.size w' v xs ∧ xs.length ≤ 101 ∧ Rd w' S B (m + 300) ∧ w.grownBy w' (some B) := by
  obtain ⟨n, rfl⟩ := Int.eq_ofNat_of_zero_le hn
  have hlt := h.lt
  have hge := h.ge
  have hra := h.below ((Below.refl _ w).alloc (Nat.le_refl _) (.cells #[] 3))
  have hmt : OwnI w.heap.size (w.alloc (.cells #[] 3)) (.slice (some ⟨w.heap.size, 0, none⟩) 0 0) [] := World.ownsRow_made w #[] 0 (Nat.le_refl _) (by decide) rfl
  have HG0 := Lib.hid (World.grownBy_alloc w (.cells #[] 3) (some B))
  clear h
  go_enter Tryd.func39, Tryd.ntmps39
  go_wp2_with fail
  go_loopw [7, 8] (fun r i wr => ∃ (k : Nat) (xs : List Int), k ≤ n ∧ i = .int .i64 k ∧ xs.length = k ∧ OwnI w.heap.size wr r xs ∧ Rd wr S B (m + k) ∧ w.grownBy wr (some B)) (fun _ i _ => n - (intOf i).toNat)
  case atStart => exact ⟨0, [], Nat.zero_le _, rfl, rfl, hmt, hra, HG0.out⟩
  case round =>
    obtain ⟨k, xs, hk, rfl, hx, hown, hrd, hg⟩ := hrel
    have HX := Lib.hid hx
    clear hx
    by_cases hlt2 : k < n
    · go_wp2_with fail
      refine (pick_any _ _ _ _ _ hrd (by omega) (by omega) (by omega)).mono ?_
      rintro e w4 ⟨t, rfl, ht0, ht1, hrd4, hg4⟩
      have hown4 : OwnI w.heap.size w4 u7 xs := hown.kept hg4 (Or.inr (fun e => by have := hown.lt B e; omega))
      have HG4 := Lib.hid (grown_trans hg hg4)
      have hsz := HG4.out.size
      clear hg hg4 hown hrd
      go_wp2_with (at_builtin; refine wp_app1 tabI w4 _ t rfl rfl rfl rfl rfl _ _ rfl w.heap.size _ xs rfl 1 rfl hown4 (by have := HX.out; omega) hsz ?_; intro v' w' hown' hgrow hnew)
      have hne : ∀ b, u7.ownBlock = some b → w.heap.size ≤ b := fun b e => (hown4.lt b e).1
      have hr5 := hrd4.grown hgrow (fun b e => by have := hne b e; omega)
      have hg5 := grown_own HG4.out hgrow hne
      go_roundw
      case rel => first | exact ⟨k + 1, xs ++ [t], by omega, by go_num, by simp [HX.out], hown', hr5.more (by omega), hg5⟩ | ((repeat apply Exists.intro); exact ⟨⟨k + 1, xs ++ [t], by omega, by go_num, by simp [HX.out], hown', hr5.more (by omega), hg5⟩, rfl⟩)
      case measure => simp [intOf]; omega
    · obtain rfl : k = n := by omega
      obtain ⟨a7, c7, hv7⟩ := (row_of_own hown).form
      rw [HX.out] at hv7
      subst hv7
      clear hmt hra
      by_cases hk0 : k = 0
      · have hd : decide ((0 : Int) < (k : Int)) = false := by simp; omega
        go_wp2
        go_ret
        exact ⟨_, xs, rfl, by have := HX.out; simpa [this] using hown, by have := HX.out; omega, hrd.more (by omega), hg⟩
      · have hd : decide ((0 : Int) < (k : Int)) = true := by simp; omega
        obtain ⟨g, rfl⟩ := own_form_pos hown (by have := HX.out; omega)
        have hgb := hown.lt g rfl
        have hob : (Value.slice (some ⟨g, 0, none⟩) k c7).ownBlock = some g := rfl
        have HO := Lib.hid hob
        have hneB : (Value.slice (some ⟨g, 0, none⟩) k c7).ownBlock ≠ some B := by rw [hob]; intro e; cases e; omega
        have HNB := Lib.hid hneB
        clear hob hneB
        go_wp2_with fail
        refine (odd_any _ _ _ _ _ hrd (by omega) (by omega) (by omega)).mono ?_
        rintro e w4 ⟨t, rfl, hrd4, hg4⟩
        have hown4 : OwnI w.heap.size w4 (.slice (some ⟨g, 0, none⟩) k c7) xs := hown.kept hg4 (Or.inr HNB.out)
        have HG4 := Lib.hid (grown_trans hg hg4)
        clear hg hg4 hown hrd
        cases t
        · go_wp2
          go_ret
          exact ⟨_, xs, rfl, hown4, by have := HX.out; omega, hrd4.more (by omega), HG4.out⟩
        · go_wp2_with fail
          refine (pick_any _ _ _ _ _ hrd4 (by omega) (by omega) (by omega)).mono ?_
          rintro e w5 ⟨t2, rfl, hu0, hu1, hrd5, hg5⟩
          have hown5 : OwnI w.heap.size w5 (.slice (some ⟨g, 0, none⟩) k c7) xs := hown4.kept hg5 (Or.inr HNB.out)
          have HG5 := Lib.hid (grown_trans HG4.out hg5)
          have hsz := HG5.out.size
          clear hg5 HG4 hown4 hrd4
          cases hb : (t2 == 0)
          · go_wp2_with (at_builtin; refine wp_app1 tabI w5 _ 0 rfl rfl rfl rfl rfl _ _ rfl w.heap.size _ xs rfl 1 rfl hown5 (by have := HX.out; omega) hsz ?_; intro v' w' hown' hgrow hnew)
            go_ret
            exact ⟨_, xs ++ [0], rfl, hown', by have := HX.out; simp; omega, (hrd5.grown hgrow (fun b e => by first | (cases e; omega) | (have e' : some g = some b := e; cases e'; omega))).more (by omega), grown_own HG5.out hgrow (fun b e => by first | (cases e; omega) | (have e' : some g = some b := e; cases e'; omega))⟩
          · go_wp2_with fail
            refine (pick_any _ _ _ _ _ hrd5 (by omega) (by omega) (by omega)).mono ?_
            rintro e w6 ⟨t3, rfl, hp0, hp1, hrd6, hg6⟩
            obtain ⟨t3, rfl⟩ := Int.eq_ofNat_of_zero_le hp0
            have hown6 : OwnI w.heap.size w6 (.slice (some ⟨g, 0, none⟩) k c7) xs := hown5.kept hg6 (Or.inr HNB.out)
            have HG6 := Lib.hid (grown_trans HG5.out hg6)
            clear hg6 HG5 hown5 hrd5
            go_wp2_with fail
            refine (l20Element_any _ _ _ _ _ hrd6 (by omega) (by omega) (by omega)).mono ?_
            rintro e w7 ⟨r, rfl, hq0, hq1, hrd7, hg7⟩
            have hown7 : OwnI w.heap.size w7 (.slice (some ⟨g, 0, none⟩) k c7) xs := hown6.kept hg7 (Or.inr HNB.out)
            have HG7 := Lib.hid (grown_trans HG6.out hg7)
            have hcell := hown7.cell HX.out t3 (by omega)
            have hfree := hown7.free HX.out t3
            have HST := Lib.hid (hown7.stored HX.out t3 r)
            clear hg7 HG6 hown6 hrd6
            go_wp2_with fail
            go_ret
            exact ⟨_, xs.set t3 r, rfl, HST.out.1, by have := HX.out; simp; omega, (hrd7.grown HST.out.2 (fun b e => by first | (cases e; omega) | (have e' : some g = some b := e; cases e'; omega))).more (by omega), grown_own HG7.out HST.out.2 (fun b e => by first | (cases e; omega) | (have e' : some g = some b := e; cases e'; omega))⟩
set_option maxHeartbeats 400000 in
theorem DrawPolynomialAt_any (zs : List Int) (v : Value) (w : World) (h : RowK .u8 w v zs) (hz : ∀ n ∈ zs, (Lit.int .u8 n).wf = true) :
    Calls Tryd.prog 30 #[v] w fun e w' => ∃ (a : Value) (xs : List Int) (s : Int), e = .returned (.tuple #[a, .int .i64 s]) ∧ OwnI w.heap.size w' a xs ∧ xs.length ≤ 101 ∧ -1 ≤ s ∧ s ≤ 16 ∧ Below w.heap.size w w' := by
  go_enter Tryd.func30, Tryd.ntmps30
  go_wp2_with fail
  refine (l20Open_any _ _ _ h hz).mono ?_
  rintro e w1 ⟨rfl, hr, hb⟩
  have hsz := hb.size
  have hlt0 := hr.lt
  go_wp2_with fail
  refine (pick_any _ _ _ _ _ hr (by omega) (by omega) (by omega)).mono ?_
  rintro e w2 ⟨r, rfl, h0, h1, hr2, hg2⟩
  have hsz2 := hg2.size
  have HB := Lib.hid (below_open hb hg2)
  clear hb hg2 hr
  go_wp2_with fail
  refine (l20Elements_any _ _ _ _ _ _ hr2 (by omega) (by omega) (by omega) (by omega) (by omega)).mono ?_
  rintro e w3 ⟨a, xs, rfl, ho, hl, hr3, hg3⟩
  have HB3 := Lib.hid (below_open HB.out hg3)
  clear HB hr2
  go_wp2_with fail
  all_goals try (go_quiet (fail); go_wp2_with fail)
  refine (l20Element_any _ _ _ _ _ hr3 (by omega) (by omega) (by omega)).mono ?_
  rintro e w4 ⟨s, rfl, h2, h3, hr4, hg4⟩
  have ho4 : OwnI w2.heap.size w4 a xs := ho.kept hg4 (Or.inr (fun e => by have := ho.lt _ e; omega))
  go_wp2_with fail
  go_ret2
  exact ⟨a, xs, s, rfl, ho4.mono (by omega), hl, h2, h3, below_open HB3.out hg4⟩
end Go.Proofs.YtjcdinafghafcaaDoor
