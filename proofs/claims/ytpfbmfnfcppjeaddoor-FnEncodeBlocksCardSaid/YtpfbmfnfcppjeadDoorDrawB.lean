/-
  Drawn lists of bits of a fixed length.
-/
import Derived.Test.YtpfbmfnfcppjeadDoorSyn
namespace Go.Proofs.YtpfbmfnfcppjeadDoor
open Go.RowKit
theorem emptySl (w : World) : OwnI w.heap.size (w.alloc (.cells #[] 3)) (.slice (some ⟨w.heap.size, 0, none⟩) 0 0) [] := World.ownsRow_made w #[] 0 (Nat.le_refl _) (by decide) rfl
theorem own_slice {e : Nat} {k : IntKind} {B : Nat} {w : World} {v : Value} {zs : List Int} (h : OwnK e k B w v zs) (n : Nat) (hn : zs.length = n) (hp : 0 < n) : ∃ g c, v = .slice (some ⟨g, 0, none⟩) n c := by
  subst hn
  rcases h.form with ⟨_, h0⟩ | ⟨g, c, e, _⟩
  · subst h0; simp at hp
  · exact ⟨g, c, e⟩
set_option maxHeartbeats 800000 in
theorem l20Fixed_any (n bad : Int) (S B m : Nat) (w : World) (h : Rd w S B m) (hm : m ≤ 10000) (hn : 0 ≤ n) (hn2 : n ≤ 100) (hb : 0 ≤ bad) (hb2 : bad ≤ 100) :
    Calls Tryd.prog 13 #[.pointer (some ⟨B, 0, none⟩), .int .i64 n, .int .i64 bad] w fun e w' => ∃ (v : Value) (xs : List Int), e = .returned v ∧ OwnI w.heap.size w' v xs ∧ xs.length ≤ 101 ∧ Rd w' S B (m + 300) ∧ w.grownBy w' (some B) := by
  obtain ⟨n, rfl⟩ := Int.eq_ofNat_of_zero_le hn
  have hlt := h.lt
  have hge := h.ge
  have hra := h.below ((Below.refl _ w).alloc (Nat.le_refl _) (.cells #[] 3))
  have hmt : OwnI w.heap.size (w.alloc (.cells #[] 3)) (.slice (some ⟨w.heap.size, 0, none⟩) 0 0) [] := World.ownsRow_made w #[] 0 (Nat.le_refl _) (by decide) rfl
  have HG0 := Lib.hid (World.grownBy_alloc w (.cells #[] 3) (some B))
  clear h
  go_enter Tryd.func13, Tryd.ntmps13
  go_wp2_with fail
  go_loopw [7, 8] (fun r i wr => ∃ (k : Nat) (xs : List Int), k ≤ n ∧ i = .int .i64 k ∧ xs.length = k ∧ OwnI w.heap.size wr r xs ∧ Rd wr S B (m + k) ∧ w.grownBy wr (some B)) (fun _ i _ => n - (intOf i).toNat)
  case atStart => exact ⟨0, [], Nat.zero_le _, rfl, rfl, hmt, hra, HG0.out⟩
  case round =>
    obtain ⟨k, xs, hk, rfl, hx, hown, hrd, hg⟩ := hrel
    have HX := Lib.hid hx
    clear hx
    by_cases hlt2 : k < n
    · go_wp2_with fail
      refine (pick_any _ _ _ _ _ hrd (by omega) (by omega) (by omega)).mono ?_
      rintro e w4 ⟨t, rfl, ht0, ht1, hrd4, hg4⟩
      have hown4 : OwnI w.heap.size w4 u7 xs := hown.kept hg4 (Or.inr (fun e => by have := hown.lt B e; omega))
      have HG4 := Lib.hid (grown_trans hg hg4)
      have hsz := HG4.out.size
      clear hg hg4 hown hrd
      go_wp2_with (at_builtin; refine wp_app1 tabI w4 _ t rfl rfl rfl rfl rfl _ _ rfl w.heap.size _ xs rfl 1 rfl hown4 (by have := HX.out; omega) hsz ?_; intro v' w' hown' hgrow hnew)
      have hne : ∀ b, u7.ownBlock = some b → w.heap.size ≤ b := fun b e => (hown4.lt b e).1
      have hr5 := hrd4.grown hgrow (fun b e => by have := hne b e; omega)
      have hg5 := grown_own HG4.out hgrow hne
      go_roundw
      case rel => first | exact ⟨k + 1, xs ++ [t], by omega, by go_num, by simp [HX.out], hown', hr5.more (by omega), hg5⟩ | ((repeat apply Exists.intro); exact ⟨⟨k + 1, xs ++ [t], by omega, by go_num, by simp [HX.out], hown', hr5.more (by omega), hg5⟩, rfl⟩)
      case measure => simp [intOf]; omega
    · obtain rfl : k = n := by omega
      obtain ⟨a7, c7, hv7⟩ := (row_of_own hown).form
      rw [HX.out] at hv7
      subst hv7
      clear hmt hra
      go_wp2_with fail
      refine (odd_any _ _ _ _ _ hrd (by omega) (by omega) (by omega)).mono ?_
      rintro e w4 ⟨o, rfl, hrd4, hg4⟩
      have hown4 : OwnI w.heap.size w4 (.slice a7 k c7) xs := hown.kept hg4 (Or.inr (fun e => by have := hown.lt B e; omega))
      have HG4 := Lib.hid (grown_trans hg hg4)
      have hsz := HG4.out.size
      clear hg hg4 hown hrd
      cases o
      · go_wp2
        go_ret
        exact ⟨_, xs, rfl, hown4, by have := HX.out; omega, hrd4.more (by omega), HG4.out⟩
      · have hne : ∀ b, (Value.slice a7 k c7).ownBlock = some b → w.heap.size ≤ b := fun b e => (hown4.lt b e).1
        have HNE := Lib.hid hne
        clear hne
        by_cases hk0 : k = 0
        · subst hk0
          go_wp2_with (at_builtin; refine wp_app1 tabI w4 _ 0 rfl rfl rfl rfl rfl _ _ rfl w.heap.size _ xs rfl 1 rfl hown4 (by have := HX.out; omega) hsz ?_; intro v' w' hown' hgrow hnew)
          go_ret
          exact ⟨_, xs ++ [0], rfl, hown', by have := HX.out; simp; omega, (hrd4.grown hgrow (fun b e => by have := HNE.out b e; omega)).more (by omega), grown_own HG4.out hgrow HNE.out⟩
        · have hd : decide ((0 : Int) < (k : Int)) = true := decide_eq_true (by omega)
          have hkp : (0 : Int) < (k : Int) := by omega
          go_wp2_with fail
          refine (pick_any _ _ _ _ _ hrd4 (by omega) (by omega) (by omega)).mono ?_
          rintro e w5 ⟨t, rfl, ht0, ht1, hrd5, hg5⟩
          have hown5 : OwnI w.heap.size w5 (.slice a7 k c7) xs := hown4.kept hg5 (Or.inr (fun e => by have := hown4.lt B e; omega))
          have HG5 := Lib.hid (grown_trans HG4.out hg5)
          have hsz5 := HG5.out.size
          clear hg5 HG4 hown4 hrd4
          cases hb : (t == 0)
          · go_wp2_with (at_builtin; refine wp_app1 tabI w5 _ 0 rfl rfl rfl rfl rfl _ _ rfl w.heap.size _ xs rfl 1 rfl hown5 (by have := HX.out; omega) hsz5 ?_; intro v' w' hown' hgrow hnew)
            go_ret
            exact ⟨_, xs ++ [0], rfl, hown', by have := HX.out; simp; omega, (hrd5.grown hgrow (fun b e => by have := HNE.out b e; omega)).more (by omega), grown_own HG5.out hgrow HNE.out⟩
          · obtain ⟨g, rfl⟩ := own_form_pos hown5 (by have := HX.out; omega)
            have hgl := hown5.lt g rfl
            have hcell := hown5.cell HX.out 0 (by omega)
            have hfree := hown5.free HX.out 0
            have HST := Lib.hid (hown5.stored HX.out 0 2)
            clear hown5
            go_wp2_with fail
            go_ret
            exact ⟨_, xs.set 0 2, rfl, HST.out.1, by have := HX.out; simp; omega, (hrd5.grown HST.out.2 (fun b e => by cases e; omega)).more (by omega), grown_own HG5.out HST.out.2 (fun b e => by cases e; omega)⟩
end Go.Proofs.YtpfbmfnfcppjeadDoor
