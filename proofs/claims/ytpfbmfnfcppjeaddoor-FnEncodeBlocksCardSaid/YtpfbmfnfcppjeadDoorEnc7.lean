/-
  Blocks decoded by the program.
-/
import Derived.Test.YtpfbmfnfcppjeadDoorEnc6
namespace Go.Proofs.YtpfbmfnfcppjeadDoor
open Go.RowKit
set_option maxHeartbeats 1600000 in
theorem DecodeBlocks_any (zs : List Int) (v : Value) (w : World) (hT : TabP w) (hrow : RowK .i64 w v zs) :
    Calls Tryd.prog 9 #[v] w fun e w' => ∃ r, e = .returned (.tuple #[r, .int .i64 (badN zs)]) ∧ OwnI w.heap.size w' r (decL zs) ∧ Below w.heap.size w w' := by
  have hrow' := hrow
  have HTT := Lib.hid hT
  obtain ⟨a, cap, hv⟩ := hrow.form
  obtain ⟨n, hn⟩ : ∃ n, n = zs.length := ⟨_, rfl⟩
  rw [← hn] at hv
  subst hv
  have HN := Lib.hid hn.symm
  have hq : (n : Int).tmod 7 = ((n % 7 : Nat) : Int) := by rw [Int.tmod_eq_emod_of_nonneg (by omega)]; omega
  obtain ⟨q4, hq4⟩ : ∃ q, q = n % 7 := ⟨_, rfl⟩
  rw [← hq4] at hq
  cases h1 : validB zs
  · have HP := Lib.hid (decL_neg (zs := zs) (by rw [okD_parts, h1]; rfl))
    clear hn hq4
    go_enter Tryd.func9, Tryd.ntmps9
    go_wp2_with (go_at_call 14; refine (BitsValid_any _ _ _ hrow').mono ?_; rw [h1]; rintro e w' ⟨rfl, rfl⟩)
    go_ret2
    exact ⟨_, by rw [HP.out.2]; rfl, by rw [HP.out.1]; exact World.ownsRow_nil _ _ _ _, Below.refl _ _⟩
  · by_cases h2 : q4 = 0
    · by_cases h3 : n ≤ 896
      · have hok : okD zs = true := by rw [okD_parts, h1, ← hn, ← hq4, h2, decide_eq_true h3]; rfl
        obtain ⟨hb, _, _, hE, hE2⟩ := okD_is hok
        obtain ⟨m, hm⟩ : ∃ m, m = zs.length / 7 := ⟨_, rfl⟩
        rw [← hm] at hE hE2
        have hnm : n = 7 * m := by omega
        have HE := Lib.hid hE
        have HE2 := Lib.hid hE2
        have HB := Lib.hid hb
        have hqd : (n : Int).tdiv 7 = (m : Int) := by rw [Int.tdiv_eq_ediv_of_nonneg (by omega)]; omega
        have HNM := Lib.hid hnm
        have hm128 : m ≤ 128 := by omega
        subst h2
        have h3' : (n : Int) ≤ 896 := by omega
        clear hok hE hE2 hm hnm hq4 hn hT hrow hb h3
        go_enter Tryd.func9, Tryd.ntmps9
        go_wp2_with (first
          | (go_at_call 14; refine (BitsValid_any _ _ _ hrow').mono ?_; rw [h1]; rintro e w' ⟨rfl, rfl⟩)
          | (at_make; refine wp_make0 tabI _ rfl _ _ rfl (m * 4) rfl (by show Value.int .i64 ((m : Int) * 4) = _; simp) (by omega) ?_; intro w2 hown2 hbel2 hsz2))
        go_loopw [4, 5, 6] (fun r c i wr => ∃ k q B : Nat, k ≤ m ∧ q = 7 * k ∧ i = .int .i64 (q : Int) ∧ c = .int .i64 (B : Int) ∧ Hid (B = badB k zs) ∧ B ≤ k ∧ OwnI w.heap.size wr r (decB k zs) ∧ Below w.heap.size w wr) (fun _ _ i _ => n - (intOf i).toNat)
        case atStart => exact ⟨0, 0, 0, Nat.zero_le _, rfl, rfl, rfl, rfl, Nat.le_refl _, hown2, hbel2⟩
        case round =>
          obtain ⟨k, q, B, hk, hqk, rfl, rfl, HBB, hBk, ho, hbel⟩ := hrel
          by_cases hlt : q < n
          · have hk1 : k < m := by have := HNM.out; omega
            have hqn : q + 7 ≤ n := by have := HNM.out; omega
            have hqn' : (q : Int) + 7 ≤ (n : Int) := by omega
            obtain ⟨_, _, hnc, hcm, hcell⟩ := (hrow'.belowAll hbel).at
            obtain ⟨b, off, rfl, _⟩ := hcell (by omega)
            have hqc : q + 7 ≤ cap := by omega
            have hqc' : (q : Int) + 7 ≤ (cap : Int) := by omega
            have HR1 := Lib.hid (fun (W : World) (h : Below w.heap.size w W) => (hrow'.belowAll h).mid q 7 (by omega))
            have HBI := Lib.hid ((HB.out.drop q).take 7)
            have HL7 := Lib.hid (show ((zs.drop q).take 7).length = 7 by have := HN.out; simp; omega)
            have HS := Lib.hid (show decB (k + 1) zs = decB k zs ++ dec ((zs.drop q).take 7) by rw [hqk]; exact decB_succ k zs)
            have HS2 := Lib.hid (show badB (k + 1) zs = badB k zs + wrongN ((zs.drop q).take 7) by rw [hqk]; exact badB_succ k zs)
            have hwn := wrongN_le ((zs.drop q).take 7)
            have HLK := Lib.hid (decB_length k zs)
            have hsz := hbel.size
            have HBL0 := Lib.hid hbel
            have HAD := Lib.hid (fun u hu => appendDecoded_any ((zs.drop q).take 7) (decB k zs) u _ w.heap.size wr (HTT.out.below hbel) (HR1.out wr hbel) (fun W hW => HR1.out W (hbel.trans hW)) HBI.out HL7.out hu (by have := HLK.out; omega) hsz)
            obtain ⟨wn, ewn⟩ : ∃ wn, wn = wrongN ((zs.drop q).take 7) := ⟨_, rfl⟩
            rw [← ewn] at HS2 hwn HAD
            have HQ := Lib.hid hqk
            clear hcell hqk ewn hbel
            go_wp2_with fail
            refine (HAD.out _ ho).mono ?_
            rintro e w3 ⟨r3, rfl, ho3, hb3⟩
            rw [← HS.out] at ho3
            have HBL := Lib.hid (HBL0.out.trans hb3)
            clear hb3
            go_wp2
            go_roundw
            case rel => first | exact ⟨k + 1, q + 7, B + wn, by omega, by have := HQ.out; omega, by go_num, by go_num, by show _ = _; rw [HS2.out, HBB.out], by omega, ho3, HBL.out⟩ | ((repeat apply Exists.intro); exact ⟨⟨k + 1, q + 7, B + wn, by omega, by have := HQ.out; omega, by go_num, by go_num, by show _ = _; rw [HS2.out, HBB.out], by omega, ho3, HBL.out⟩, rfl⟩)
            case measure => simp [intOf]; omega
          · obtain rfl : k = m := by have := HNM.out; omega
            have hlt' : (n : Int) ≤ (q : Int) := by omega
            go_wp2
            go_ret2
            exact ⟨_, by rw [HE2.out, ← HBB.out]; rfl, by rw [HE.out]; exact ho, hbel⟩
      · have HP := Lib.hid (decL_neg (zs := zs) (by rw [okD_parts, ← hn, decide_eq_false h3]; simp))
        have h3' : (896 : Int) < (n : Int) := by omega
        subst h2
        clear hn hq4 h3
        go_enter Tryd.func9, Tryd.ntmps9
        go_wp2_with (go_at_call 14; refine (BitsValid_any _ _ _ hrow').mono ?_; rw [h1]; rintro e w' ⟨rfl, rfl⟩)
        go_ret2
        exact ⟨_, by rw [HP.out.2]; rfl, by rw [HP.out.1]; exact World.ownsRow_nil _ _ _ _, Below.refl _ _⟩
    · have HP := Lib.hid (decL_neg (zs := zs) (by rw [okD_parts, ← hn, ← hq4]; simp [h2]))
      have ht : ((q4 : Int) != 0) = true := by rw [bne_iff_ne]; omega
      have ht2 : ¬ (q4 : Int) = 0 := by omega
      clear hn hq4 h2
      go_enter Tryd.func9, Tryd.ntmps9
      go_wp2_with (go_at_call 14; refine (BitsValid_any _ _ _ hrow').mono ?_; rw [h1]; rintro e w' ⟨rfl, rfl⟩)
      go_ret2
      exact ⟨_, by rw [HP.out.2]; rfl, by rw [HP.out.1]; exact World.ownsRow_nil _ _ _ _, Below.refl _ _⟩
end Go.Proofs.YtpfbmfnfcppjeadDoor
