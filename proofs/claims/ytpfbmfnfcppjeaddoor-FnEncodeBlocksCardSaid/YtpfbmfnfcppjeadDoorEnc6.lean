/-
  Blocks by the program: coded and decoded one by one.
-/
import Derived.Test.YtpfbmfnfcppjeadDoorEnc3
namespace Go.Proofs.YtpfbmfnfcppjeadDoor
open Go.RowKit
theorem encL_neg {zs : List Int} (h : okE zs = false) : encL zs = [] := by simp only [encL, h]; rfl
theorem decL_neg {zs : List Int} (h : okD zs = false) : decL zs = [] ∧ badN zs = 0 := by simp [decL, badN, h]
theorem okE_parts {zs : List Int} : okE zs = (validB zs && (zs.length % 4 == 0) && decide (zs.length ≤ 512)) := rfl
theorem okD_parts {zs : List Int} : okD zs = (validB zs && (zs.length % 7 == 0) && decide (zs.length ≤ 896)) := rfl
set_option maxHeartbeats 1600000 in
theorem EncodeBlocks_any (zs : List Int) (v : Value) (w : World) (hT : Tabs w) (hrow : RowK .i64 w v zs) :
    Calls Tryd.prog 5 #[v] w fun e w' => ∃ r, e = .returned r ∧ OwnI w.heap.size w' r (encL zs) ∧ Below w.heap.size w w' := by
  have hrow' := hrow
  have HTT := Lib.hid hT
  obtain ⟨a, cap, hv⟩ := hrow.form
  obtain ⟨n, hn⟩ : ∃ n, n = zs.length := ⟨_, rfl⟩
  rw [← hn] at hv
  subst hv
  have HN := Lib.hid hn.symm
  have hq : (n : Int).tmod 4 = ((n % 4 : Nat) : Int) := by rw [Int.tmod_eq_emod_of_nonneg (by omega)]; omega
  obtain ⟨q4, hq4⟩ : ∃ q, q = n % 4 := ⟨_, rfl⟩
  rw [← hq4] at hq
  cases h1 : validB zs
  · have HP := Lib.hid (encL_neg (zs := zs) (by rw [okE_parts, h1]; rfl))
    clear hn hq4
    go_enter Tryd.func5, Tryd.ntmps5
    go_wp2_with (go_at_call 14; refine (BitsValid_any _ _ _ hrow').mono ?_; rw [h1]; rintro e w' ⟨rfl, rfl⟩)
    go_ret
    exact ⟨_, rfl, by rw [HP.out]; exact World.ownsRow_nil _ _ _ _, Below.refl _ _⟩
  · by_cases h2 : q4 = 0
    · by_cases h3 : n ≤ 512
      · have hok : okE zs = true := by rw [okE_parts, h1, ← hn, ← hq4, h2, decide_eq_true h3]; rfl
        obtain ⟨hb, _, _, hE⟩ := okE_is hok
        obtain ⟨m, hm⟩ : ∃ m, m = zs.length / 4 := ⟨_, rfl⟩
        rw [← hm] at hE
        have hnm : n = 4 * m := by omega
        have HE := Lib.hid hE
        have HB := Lib.hid hb
        have hqd : (n : Int).tdiv 4 = (m : Int) := by rw [Int.tdiv_eq_ediv_of_nonneg (by omega)]; omega
        have HNM := Lib.hid hnm
        have hm128 : m ≤ 128 := by omega
        subst h2
        have h3' : (n : Int) ≤ 512 := by omega
        clear hok hE hm hnm hq4 hn hT hrow hb h3
        go_enter Tryd.func5, Tryd.ntmps5
        go_wp2_with (first
          | (go_at_call 14; refine (BitsValid_any _ _ _ hrow').mono ?_; rw [h1]; rintro e w' ⟨rfl, rfl⟩)
          | (at_make; refine wp_make0 tabI _ rfl _ _ rfl (m * 7) rfl (by show Value.int .i64 ((m : Int) * 7) = _; simp) (by omega) ?_; intro w2 hown2 hbel2 hsz2))
        go_loopw [3, 4] (fun r i wr => ∃ k q : Nat, k ≤ m ∧ q = 4 * k ∧ i = .int .i64 (q : Int) ∧ OwnI w.heap.size wr r (encB k zs) ∧ Below w.heap.size w wr) (fun _ i _ => n - (intOf i).toNat)
        case atStart => exact ⟨0, 0, Nat.zero_le _, rfl, rfl, hown2, hbel2⟩
        case round =>
          obtain ⟨k, q, hk, hqk, rfl, ho, hbel⟩ := hrel
          by_cases hlt : q < n
          · have hk1 : k < m := by have := HNM.out; omega
            have hqn : q + 4 ≤ n := by have := HNM.out; omega
            have hqn' : (q : Int) + 4 ≤ (n : Int) := by omega
            obtain ⟨_, _, hnc, hcm, hcell⟩ := (hrow'.belowAll hbel).at
            obtain ⟨b, off, rfl, _⟩ := hcell (by omega)
            have hqc : q + 4 ≤ cap := by omega
            have hqc' : (q : Int) + 4 ≤ (cap : Int) := by omega
            have hr1 := (hrow'.belowAll hbel).mid q 4 (by omega)
            have HBI := Lib.hid ((HB.out.drop q).take 4)
            have HL4 := Lib.hid (show ((zs.drop q).take 4).length = 4 by have := HN.out; simp; omega)
            have HS := Lib.hid (show encB (k + 1) zs = encB k zs ++ enc ((zs.drop q).take 4) by rw [hqk]; exact encB_succ k zs)
            have HLK := Lib.hid (encB_length k zs)
            have HTW := Lib.hid (HTT.out.below hbel)
            have hsz := hbel.size
            have HQ := Lib.hid hqk
            clear hcell hqk
            go_wp2_with fail
            refine (appendNibble_any ((zs.drop q).take 4) (encB k zs) _ _ w.heap.size _ HTW.out hr1 HBI.out HL4.out ho (by have := HLK.out; omega) hsz).mono ?_
            rintro e w3 ⟨r3, rfl, ho3, hb3⟩
            rw [← HS.out] at ho3
            have HBL := Lib.hid (hbel.trans hb3)
            clear hb3 hr1
            go_wp2
            go_roundw
            case rel => first | exact ⟨k + 1, q + 4, by omega, by have := HQ.out; omega, by go_num, ho3, HBL.out⟩ | ((repeat apply Exists.intro); exact ⟨⟨k + 1, q + 4, by omega, by have := HQ.out; omega, by go_num, ho3, HBL.out⟩, rfl⟩)
            case measure => simp [intOf]; omega
          · obtain rfl : k = m := by have := HNM.out; omega
            have hlt' : (n : Int) ≤ (q : Int) := by omega
            go_wp2
            go_ret
            exact ⟨_, rfl, by rw [HE.out]; exact ho, hbel⟩
      · have HP := Lib.hid (encL_neg (zs := zs) (by rw [okE_parts, ← hn, decide_eq_false h3]; simp))
        have h3' : (512 : Int) < (n : Int) := by omega
        subst h2
        clear hn hq4 h3
        go_enter Tryd.func5, Tryd.ntmps5
        go_wp2_with (go_at_call 14; refine (BitsValid_any _ _ _ hrow').mono ?_; rw [h1]; rintro e w' ⟨rfl, rfl⟩)
        go_ret
        exact ⟨_, rfl, by rw [HP.out]; exact World.ownsRow_nil _ _ _ _, Below.refl _ _⟩
    · have HP := Lib.hid (encL_neg (zs := zs) (by rw [okE_parts, ← hn, ← hq4]; simp [h2]))
      have ht : ((q4 : Int) != 0) = true := by rw [bne_iff_ne]; omega
      have ht2 : ¬ (q4 : Int) = 0 := by omega
      clear hn hq4 h2
      go_enter Tryd.func5, Tryd.ntmps5
      go_wp2_with (go_at_call 14; refine (BitsValid_any _ _ _ hrow').mono ?_; rw [h1]; rintro e w' ⟨rfl, rfl⟩)
      go_ret
      exact ⟨_, rfl, by rw [HP.out]; exact World.ownsRow_nil _ _ _ _, Below.refl _ _⟩
end Go.Proofs.YtpfbmfnfcppjeadDoor
