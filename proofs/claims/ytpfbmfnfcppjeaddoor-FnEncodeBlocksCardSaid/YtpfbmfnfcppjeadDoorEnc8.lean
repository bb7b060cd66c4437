/-
  Blocks by the reference.
-/
import Derived.Test.YtpfbmfnfcppjeadDoorEnc4
import Derived.Test.YtpfbmfnfcppjeadDoorEnc5
import Derived.Test.YtpfbmfnfcppjeadDoorEnc6
namespace Go.Proofs.YtpfbmfnfcppjeadDoor
open Go.RowKit
theorem block_valid {zs : List Int} (h : BitL zs) (hl : zs.length ≤ 1024) : validB zs = true := bvalid_of h hl
set_option maxHeartbeats 1600000 in
theorem specEncodeBlocks_any (zs : List Int) (v : Value) (w : World) (hrow : RowK .i64 w v zs) :
    Calls Tryd.prog 7 #[v] w fun e w' => ∃ r, e = .returned r ∧ OwnI w.heap.size w' r (encL zs) ∧ Below w.heap.size w w' := by
  have hrow' := hrow
  have hm0 : OwnI w.heap.size (w.alloc (.cells #[] 3)) (.slice (some ⟨w.heap.size, 0, none⟩) 0 0) [] := World.ownsRow_made w #[] 0 (Nat.le_refl _) (by decide) rfl
  have hb0 : Below w.heap.size w (w.alloc (.cells #[] 3)) := (Below.refl _ w).alloc (Nat.le_refl _) _
  obtain ⟨a, cap, hv⟩ := hrow.form
  obtain ⟨n, hn⟩ : ∃ n, n = zs.length := ⟨_, rfl⟩
  rw [← hn] at hv
  subst hv
  have HN := Lib.hid hn.symm
  have hr0 := hrow'.belowAll hb0
  have hq : (n : Int).tmod 4 = ((n % 4 : Nat) : Int) := by rw [Int.tmod_eq_emod_of_nonneg (by omega)]; omega
  obtain ⟨q4, hq4⟩ : ∃ q, q = n % 4 := ⟨_, rfl⟩
  rw [← hq4] at hq
  cases h1 : validB zs
  · have HP := Lib.hid (encL_neg (zs := zs) (by rw [okE_parts, h1]; rfl))
    clear hn hq4
    go_enter Tryd.func7, Tryd.ntmps7
    go_wp2_with (go_at_call 16; refine (specBitsValid_any _ _ _ hr0).mono ?_; rw [h1]; rintro e w' ⟨rfl, rfl⟩)
    go_ret
    exact ⟨_, rfl, by rw [HP.out]; exact hm0, hb0⟩
  · by_cases h2 : q4 = 0
    · by_cases h3 : n ≤ 512
      · have hok : okE zs = true := by rw [okE_parts, h1, ← hn, ← hq4, h2, decide_eq_true h3]; rfl
        obtain ⟨hb, _, _, hE⟩ := okE_is hok
        obtain ⟨m, hm⟩ : ∃ m, m = zs.length / 4 := ⟨_, rfl⟩
        rw [← hm] at hE
        have hnm : n = 4 * m := by omega
        have HE := Lib.hid hE
        have HB := Lib.hid hb
        have HNM := Lib.hid hnm
        have hm128 : m ≤ 128 := by omega
        subst h2
        have h3' : (n : Int) ≤ 512 := by omega
        clear hok hE hm hnm hq4 hn hrow hb h3
        go_enter Tryd.func7, Tryd.ntmps7
        go_wp2_with (go_at_call 16; refine (specBitsValid_any _ _ _ hr0).mono ?_; rw [h1]; rintro e w' ⟨rfl, rfl⟩)
        go_loopw [3, 4] (fun r i wr => ∃ k q : Nat, k ≤ m ∧ q = 4 * k ∧ i = .int .i64 (q : Int) ∧ OwnI w.heap.size wr r (encB k zs) ∧ Below w.heap.size w wr) (fun _ i _ => n - (intOf i).toNat)
        case atStart => exact ⟨0, 0, Nat.zero_le _, rfl, rfl, hm0, hb0⟩
        case round =>
          obtain ⟨k, q, hk, hqk, rfl, ho, hbel⟩ := hrel
          by_cases hlt : q < n
          · have hk1 : k < m := by have := HNM.out; omega
            have hqn : q + 4 ≤ n := by have := HNM.out; omega
            have hqn' : (q : Int) + 4 ≤ (n : Int) := by omega
            obtain ⟨_, _, hnc, hcm, hcell⟩ := (hrow'.belowAll hbel).at
            obtain ⟨b, off, rfl, _⟩ := hcell (by omega)
            have hqc : q + 4 ≤ cap := by omega
            have hqc' : (q : Int) + 4 ≤ (cap : Int) := by omega
            have hr1 := (hrow'.belowAll hbel).mid q 4 (by omega)
            have hL4 : ((zs.drop q).take 4).length = 4 := by have := HN.out; simp; omega
            have hEN := encN_pos (zs := (zs.drop q).take 4) (by rw [block_valid ((HB.out.drop q).take 4) (by omega), hL4]; rfl)
            have HS := Lib.hid (show encB (k + 1) zs = encB k zs ++ encN ((zs.drop q).take 4) by rw [hEN, hqk]; exact encB_succ k zs)
            have HLK := Lib.hid (encB_length k zs)
            have HLE := Lib.hid (encN_len ((zs.drop q).take 4))
            have hsz := hbel.size
            have HQ := Lib.hid hqk
            have HO := Lib.hid ho
            have HBL0 := Lib.hid hbel
            clear hcell hqk hL4 hEN ho hbel
            go_wp2_with fail
            refine (specEncodeNibble_any ((zs.drop q).take 4) _ _ hr1).mono ?_
            rintro e w3 ⟨r3, rfl, ho3, hb3⟩
            have ho4 := HO.out.belowAll hb3
            have HBL := Lib.hid (HBL0.out.trans (hb3.mono hsz))
            have hs3 := HBL.out.size
            clear hb3 hr1
            go_wp2_with (at_builtin; refine wp_apps tabI _ rfl (.tmp 27) (.tmp 33) rfl w.heap.size _ _ (encB k zs) (encN ((zs.drop q).take 4)) rfl rfl ho4 (row_of_own ho3) (by have := HLK.out; have := HLE.out; omega) hs3 ?_; intro vc wc hoc hgc hnc)
            rw [← HS.out] at hoc
            have hfin2 := HBL.out.trans (below_of_row hgc hs3 (fun j e => (ho4.lt j e).1))
            go_roundw
            case rel => first | exact ⟨k + 1, q + 4, by omega, by have := HQ.out; omega, by go_num, hoc, hfin2⟩ | ((repeat apply Exists.intro); exact ⟨⟨k + 1, q + 4, by omega, by have := HQ.out; omega, by go_num, hoc, hfin2⟩, rfl⟩)
            case measure => simp [intOf]; omega
          · obtain rfl : k = m := by have := HNM.out; omega
            have hlt' : (n : Int) ≤ (q : Int) := by omega
            go_wp2
            go_ret
            exact ⟨_, rfl, by rw [HE.out]; exact ho, hbel⟩
      · have HP := Lib.hid (encL_neg (zs := zs) (by rw [okE_parts, ← hn, decide_eq_false h3]; simp))
        have h3' : (512 : Int) < (n : Int) := by omega
        subst h2
        clear hn hq4 h3
        go_enter Tryd.func7, Tryd.ntmps7
        go_wp2_with (go_at_call 16; refine (specBitsValid_any _ _ _ hr0).mono ?_; rw [h1]; rintro e w' ⟨rfl, rfl⟩)
        go_ret
        exact ⟨_, rfl, by rw [HP.out]; exact hm0, hb0⟩
    · have HP := Lib.hid (encL_neg (zs := zs) (by rw [okE_parts, ← hn, ← hq4]; simp [h2]))
      have ht : ((q4 : Int) != 0) = true := by rw [bne_iff_ne]; omega
      have ht2 : ¬ (q4 : Int) = 0 := by omega
      clear hn hq4 h2
      go_enter Tryd.func7, Tryd.ntmps7
      go_wp2_with (go_at_call 16; refine (specBitsValid_any _ _ _ hr0).mono ?_; rw [h1]; rintro e w' ⟨rfl, rfl⟩)
      go_ret
      exact ⟨_, rfl, by rw [HP.out]; exact hm0, hb0⟩
end Go.Proofs.YtpfbmfnfcppjeadDoor
