/-
  The drawers of bytes.
-/
import Derived.Test.YtpfbmfnfcppjeaaBytes2
namespace Go.Proofs.Ytpfbmfnfcppjeaa
open Go.RowKit

theorem byt_snoc {xs : List Int} {y : Int} (h : Byt xs) (h0 : 0 ≤ y) (h1 : y ≤ 255) : Byt (xs ++ [y]) := by
  intro i hi
  by_cases hlt : i < xs.length
  · have := h i hlt
    rw [List.getD, List.getElem?_append_left hlt]; exact this
  · have : i = xs.length := by simp at hi; omega
    subst this
    simp [List.getD]; omega
set_option maxHeartbeats 1000000 in
theorem l20Bytes_any (most : Int) (S B m : Nat) (w : World) (h : Rd w S B m) (hm : m ≤ 10000) (h1 : 0 ≤ most) (h2 : most ≤ 100) :
    Calls Try.prog 13 #[.pointer (some ⟨B, 0, none⟩), .int .i64 most] w fun e w' => ∃ (v : Value) (xs : List Int), e = .returned v ∧ OwnB w.heap.size w' v xs ∧ Byt xs ∧ xs.length ≤ 100 ∧ Rd w' S B (m + 400) ∧ w.grownBy w' (some B) := by
  have hlt := h.lt
  have hge := h.ge
  have hra := h.below ((Below.refl _ w).alloc (Nat.le_refl _) (.cells #[] 5))
  have hmt := newSlice 5 .u8 w.heap.size w (Nat.le_refl _)
  have HG0 := Lib.hid (World.grownBy_alloc w (.cells #[] 5) (some B))
  clear h
  go_enter Try.func13, Try.ntmps13
  go_wp2_with fail
  refine (pick_any _ _ _ _ _ hra (by omega) (by omega) (by omega)).mono ?_
  rintro e w3 ⟨k, rfl, hk0, hk1, hr3, hg3⟩
  go_wp2_with fail
  have HG3 := Lib.hid (grown_trans HG0.out hg3)
  have hown3 : OwnB w.heap.size w3 (.slice (some ⟨w.heap.size, 0, none⟩) 0 0) [] := hmt.kept hg3 (by right; simp [Value.ownBlock]; omega)
  clear hmt hra hg3
  go_loopw [5, 6] (fun r k wr => ∃ (xs : List Int) (j : Nat), k = .int .i64 j ∧ xs.length + j ≤ 100 ∧ OwnB w.heap.size wr r xs ∧ Byt xs ∧ Rd wr S B (m + 1 + 3 * xs.length) ∧ w.grownBy wr (some B)) (fun _ k _ => (intOf k).toNat)
  case atStart =>
    obtain ⟨j, rfl⟩ := Int.eq_ofNat_of_zero_le hk0
    exact ⟨[], j, rfl, by simp; omega, hown3, fun i hi => by simp at hi, hr3, HG3.out⟩
  case round =>
    clear hown3 hr3 HG3
    obtain ⟨xs, j, rfl, hj, hown, hbyt, hrd, hg⟩ := hrel
    have HY := Lib.hid hbyt
    clear hbyt
    by_cases hj0 : 0 < j
    · go_wp2_with fail
      refine (pick_any _ _ _ _ _ hrd (by omega) (by omega) (by omega)).mono ?_
      rintro e w4 ⟨t1, rfl, ht0, ht1, hrd4, hg4⟩
      have hown4 : OwnB w.heap.size w4 u5 xs := hown.kept hg4 (Or.inr (fun e => by have := hown.lt B e; omega))
      have HG4 := Lib.hid (grown_trans hg hg4)
      clear hg hg4 hown hrd
      go_wp2_with fail
      refine (pick_any _ _ _ _ _ hrd4 (by omega) (by omega) (by omega)).mono ?_
      rintro e w5 ⟨t2, rfl, hu0, hu1, hrd5, hg5⟩
      have hown5 : OwnB w.heap.size w5 u5 xs := hown4.kept hg5 (Or.inr (fun e => by have := hown4.lt B e; omega))
      have HG5 := Lib.hid (grown_trans HG4.out hg5)
      clear hg5 hown4 hrd4 HG4
      have hlt5 : B < w5.heap.size := hrd5.lt
      have hra := hrd5.below ((Below.refl _ w5).alloc (Nat.le_refl _) (.cells #[.int .i64 0, .int .i64 255, .int .i64 126, .int .i64 t1, .int .i64 t2] 3))
      have hown6 : OwnB w.heap.size (w5.alloc (.cells #[.int .i64 0, .int .i64 255, .int .i64 126, .int .i64 t1, .int .i64 t2] 3)) u5 xs := hown5.belowAll ((Below.refl _ w5).alloc (Nat.le_refl _) _)
      have HG6 := Lib.hid (grown_trans HG5.out (World.grownBy_alloc w5 (.cells #[.int .i64 0, .int .i64 255, .int .i64 126, .int .i64 t1, .int .i64 t2] 3) (some B)))
      have hc : ∀ (i : Nat) (y : Int), [(0 : Int), 255, 126, t1, t2][i]? = some y → (w5.alloc (.cells #[.int .i64 0, .int .i64 255, .int .i64 126, .int .i64 t1, .int .i64 t2] 3)).cell? ⟨w5.heap.size, i, none⟩ = some (.int .i64 y) := by
        intro i y hi
        rw [World.cell?_alloc_at _ _ _ _ rfl]
        match i, hi with
        | 0, hi => cases hi; rfl
        | 1, hi => cases hi; rfl
        | 2, hi => cases hi; rfl
        | 3, hi => cases hi; rfl
        | 4, hi => cases hi; rfl
      clear hrd5 hown5 HG5
      go_wp2_with fail
      refine (pick_any _ _ _ _ _ hra (by omega) (by omega) (by omega)).mono ?_
      rintro e w7 ⟨t3, rfl, hv0, hv1, hrd7, hg7⟩
      have hown7 : OwnB w.heap.size w7 u5 xs := hown6.kept hg7 (Or.inr (fun e => by have := hown6.lt B e; omega))
      have HG7 := Lib.hid (grown_trans HG6.out hg7)
      have hc7 : ∀ (i : Nat) (y : Int), [(0 : Int), 255, 126, t1, t2][i]? = some y → w7.cell? ⟨w5.heap.size, i, none⟩ = some (.int .i64 y) := fun i y hi => hg7.cell (hc i y hi) (by simp; omega)
      clear hc hg7 hra hown6 HG6
      obtain ⟨i3, rfl⟩ := Int.eq_ofNat_of_zero_le hv0
      have hi3 : i3 < 5 := by omega
      obtain ⟨y, hy, hy0, hy1⟩ : ∃ y, [(0 : Int), 255, 126, t1, t2][i3]? = some y ∧ 0 ≤ y ∧ y ≤ 255 := by
        match i3, hi3 with
        | 0, _ => exact ⟨_, rfl, by omega, by omega⟩
        | 1, _ => exact ⟨_, rfl, by omega, by omega⟩
        | 2, _ => exact ⟨_, rfl, by omega, by omega⟩
        | 3, _ => exact ⟨_, rfl, by omega, by omega⟩
        | 4, _ => exact ⟨_, rfl, by omega, by omega⟩
      have hx := hc7 i3 y hy
      have hu : IntKind.u8.wrap y = y := by rw [IntKind.wrap_u8]; omega
      have hsz := HG7.out.size
      clear hc7 hy ht0 ht1 hu0 hu1 hv0 hv1
      go_wp2_with (at_builtin; refine wp_app1 tabB w7 _ y rfl rfl rfl rfl rfl (.tmp 16) (.tmp 27) rfl w.heap.size u5 xs rfl 1 rfl hown7 (by omega) hsz ?_; intro v' w' hown' hgrow hnew)
      have hne : ∀ b, u5.ownBlock = some b → w.heap.size ≤ b := fun b e => (hown7.lt b e).1
      go_roundw
      case rel => exact ⟨xs ++ [y], j - 1, by go_num, by simp; omega, hown', byt_snoc HY.out hy0 hy1, (hrd7.grown hgrow (fun b e => by have := hne b e; omega)).more (by simp; omega), grown_own HG7.out hgrow hne⟩
      case measure => simp [intOf]; omega
    · obtain rfl : j = 0 := by omega
      go_wp2
      go_ret
      exact ⟨_, xs, rfl, hown, HY.out, by omega, hrd.more (by omega), hg⟩
theorem byt_zeros (n : Nat) : Byt (List.replicate n 0) := fun i hi => by
  have : i < n := by simpa using hi
  simp [List.getD, this]
set_option maxHeartbeats 1000000 in
theorem DrawBitsOfBytes_any (zs : List Int) (v : Value) (w : World) (h : RowK .u8 w v zs) (hz : ∀ n ∈ zs, (Lit.int .u8 n).wf = true) :
    Calls Try.prog 4 #[v] w fun e w' => ∃ (r : Value) (xs : List Int), e = .returned r ∧ OwnB w.heap.size w' r xs ∧ Byt xs ∧ xs.length ≤ 1000 ∧ Below w.heap.size w w' := by
  obtain ⟨a, cap, rfl⟩ := h.form
  go_enter Try.func4, Try.ntmps4
  go_wp2_with fail
  refine (l20Open_any _ _ _ h hz).mono ?_
  rintro e w1 ⟨rfl, hr, hb⟩
  have hsz := hb.size
  go_wp2_with fail
  refine (odd_any _ _ _ _ _ hr (by omega) (by omega) (by omega)).mono ?_
  rintro e w2 ⟨t, rfl, hr2, hg2⟩
  have hsz2 := hg2.size
  have HB := Lib.hid (below_open hb hg2)
  clear hb hg2 hr
  cases t
  · go_wp2_with fail
    refine (l20Bytes_any _ _ _ _ _ hr2 (by omega) (by omega) (by omega)).mono ?_
    rintro e w3 ⟨a, xs, rfl, ha, hby, hl, hr3, hg3⟩
    go_wp2_with fail
    go_ret
    exact ⟨a, xs, rfl, ha.mono (by omega), hby, by omega, below_open HB.out hg3⟩
  · go_wp2_with fail
    refine (pick_any _ _ _ _ _ hr2 (by omega) (by omega) (by omega)).mono ?_
    rintro e w3 ⟨t2, rfl, ht0, ht1, hr3, hg3⟩
    have hsz3 := hg3.size
    obtain ⟨n, hn⟩ : ∃ n : Nat, (n : Int) = 128 + t2 := ⟨(128 + t2).toNat, by omega⟩
    have hnle : n ≤ 129 := by omega
    have HB3 := Lib.hid (below_open HB.out hg3)
    have hwr : (128 : Int) + t2 = (n : Int) := hn.symm
    clear hn hg3 hr2 hr3
    go_wp2_with (at_make; refine wp_make tabB _ rfl _ _ rfl n rfl rfl (by omega) ?_; intro w4 hown hbel hs4)
    go_ret
    exact ⟨_, List.replicate n 0, rfl, hown.mono (by omega), byt_zeros n, by simp; omega, HB3.out.trans (hbel.mono (by omega))⟩
end Go.Proofs.Ytpfbmfnfcppjeaa
