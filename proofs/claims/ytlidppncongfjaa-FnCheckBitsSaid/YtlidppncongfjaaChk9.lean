/-
  Bursts, by the program and by the reference.
-/
import Derived.Test.YtlidppncongfjaaChk8
namespace Go.Proofs.Ytlidppncongfjaa
open Go.RowKit

theorem addAt_get (xs : List Int) (p : Nat) (bs : List Int) (h : p + bs.length ≤ xs.length) (i : Nat) : (addAt xs p bs)[i]? = if p ≤ i ∧ i < p + bs.length then some (xorB (xs.getD i 0) (bs.getD (i - p) 0)) else xs[i]? := by
  have l1 : (xs.take p).length = p := by rw [List.length_take]; omega
  have l2 : (List.zipWith xorB ((xs.drop p).take bs.length) bs).length = bs.length := by rw [List.length_zipWith, List.length_take, List.length_drop]; omega
  unfold addAt
  by_cases h1 : i < p
  · rw [List.append_assoc, List.getElem?_append_left (by omega), List.getElem?_take_of_lt h1, if_neg (by omega)]
  · by_cases h2 : i < p + bs.length
    · rw [List.getElem?_append_left (by rw [List.length_append]; omega), List.getElem?_append_right (by omega), l1, if_pos ⟨by omega, h2⟩]
      rw [List.getElem?_zipWith, List.getElem?_take_of_lt (by omega), List.getElem?_drop]
      have e1 : p + (i - p) = i := by omega
      rw [e1, List.getElem?_eq_getElem (show i < xs.length by omega), List.getElem?_eq_getElem (show i - p < bs.length by omega)]
      simp [List.getD, show i < xs.length by omega, show i - p < bs.length by omega]
    · rw [List.getElem?_append_right (by rw [List.length_append]; omega), List.length_append, l1, l2, List.getElem?_drop, if_neg (by omega)]
      congr 1; omega
theorem addAt_nil (xs : List Int) (p : Nat) : addAt xs p [] = xs := by simp [addAt]
theorem addAt_step (xs : List Int) (p : Nat) (bs : List Int) (k : Nat) (h : p + bs.length ≤ xs.length) (hk : k < bs.length) :
    (addAt xs p (bs.take k)).set (p + k) (xorB (xs.getD (p + k) 0) (bs.getD k 0)) = addAt xs p (bs.take (k + 1)) := by
  have l1 : (bs.take k).length = k := by rw [List.length_take]; omega
  have l2 : (bs.take (k + 1)).length = k + 1 := by rw [List.length_take]; omega
  have hl := addAt_length xs p (bs.take k) (by omega)
  apply List.ext_getElem?
  intro i
  rw [addAt_get xs p _ (by omega), l2]
  by_cases e : i = p + k
  · subst e
    rw [List.getElem?_set_self (by omega), if_pos ⟨by omega, by omega⟩]
    simp [List.getD]
  · rw [List.getElem?_set_ne (by omega), addAt_get xs p _ (by omega), l1]
    by_cases h2 : p ≤ i ∧ i < p + k
    · rw [if_pos h2, if_pos ⟨h2.1, by omega⟩]
      simp [List.getD, show i - p < k by omega, show i - p < k + 1 by omega]
    · rw [if_neg h2, if_neg (by omega)]
theorem addAt_at (xs : List Int) (p : Nat) (bs : List Int) (k : Nat) (h : p + bs.length ≤ xs.length) (hk : k < bs.length) : (addAt xs p (bs.take k)).getD (p + k) 0 = xs.getD (p + k) 0 := by
  have l1 : (bs.take k).length = k := by rw [List.length_take]; omega
  rw [List.getD, addAt_get xs p _ (by omega), l1, if_neg (by omega), List.getD]
theorem bit_at {zs : List Int} (h : validB zs = true) (k : Nat) (hk : k < zs.length) : zs.getD k 0 = 0 ∨ zs.getD k 0 = 1 := by
  have := valid_bit h k hk
  simpa [List.getD, hk] using this
theorem passB_parts {zs : List Int} {g : Int} (h : passB zs g = true) : validB zs = true ∧ genB g = true ∧ 1 ≤ zs.length := by
  simp only [passB, Bool.and_eq_true, decide_eq_true_eq] at h
  obtain ⟨⟨⟨h1, h2⟩, h3⟩, _⟩ := h
  obtain ⟨G, rfl, _⟩ := gen_nat h2
  have := (gen_is h2).pos
  exact ⟨h1, h2, by omega⟩
theorem own_slice {e : Nat} {k : IntKind} {B : Nat} {w : World} {v : Value} {zs : List Int} (h : OwnK e k B w v zs) (n : Nat) (hn : zs.length = n) (hp : 0 < n) : ∃ g c, v = .slice (some ⟨g, 0, none⟩) n c := by
  subst hn
  rcases h.form with ⟨_, h0⟩ | ⟨g, c, e, _⟩
  · subst h0; simp at hp
  · exact ⟨g, c, e⟩
set_option maxHeartbeats 1000000 in
theorem BurstDetected_any (xs bs : List Int) (g p : Int) (v u : Value) (w : World) (hx : RowK .i64 w v xs) (hy : RowK .i64 w u bs) (hwf : (Lit.int .i64 g).wf = true) :
    Calls Try.prog 37 #[v, .int .i64 g, .int .i64 p, u] w fun e w' => e = .returned (.bool (burstB xs g p bs)) ∧ Below w.heap.size w w' := by
  have hx' := hx
  have hy' := hy
  have hlx := hx.len
  have hly := hy.len
  obtain ⟨a, cap, hv⟩ := hx.form
  subst hv
  obtain ⟨b, cbp, hu⟩ := hy.form
  subst hu
  cases h1 : passB xs g
  · have HP := Lib.hid (show burstB xs g p bs = false by simp [burstB, h1])
    go_enter Try.func37, Try.ntmps37
    go_wp2_with fail
    refine (CheckPasses_any xs g _ _ hx' hwf).mono ?_
    rintro e w1 ⟨rfl, hbel⟩
    have HB := Lib.hid hbel
    clear hbel
    go_wp2
    go_ret
    exact ⟨ret_bool HP.out.symm, HB.out⟩
  · cases h2 : validB bs
    · have HP := Lib.hid (show burstB xs g p bs = false by simp [burstB, h2])
      go_enter Try.func37, Try.ntmps37
      go_wp2_with fail
      refine (CheckPasses_any xs g _ _ hx' hwf).mono ?_
      rintro e w1 ⟨rfl, hbel⟩
      have hy1 := hy'.belowAll hbel
      have HB := Lib.hid hbel
      clear hbel
      go_wp2_with fail
      refine (BitsValid_any bs _ _ hy1).mono ?_
      rintro e w2 ⟨rfl, rfl⟩
      go_wp2
      go_ret
      exact ⟨ret_bool HP.out.symm, HB.out⟩
    · by_cases h3 : p < 0 ∨ (xs.length : Int) - (bs.length : Int) < p
      · have HP := Lib.hid (show burstB xs g p bs = false by
          have : inB p 0 ((xs.length : Int) - bs.length) = false := by simp [inB]; omega
          simp [burstB, this])
        have hcase : (p < 0 ∧ decide (p < 0) = true) ∨ (0 ≤ p ∧ decide (p < 0) = false ∧ (xs.length : Int) - (bs.length : Int) < p ∧ decide ((xs.length : Int) - (bs.length : Int) < p) = true) := by
          by_cases h4 : p < 0
          · left; exact ⟨h4, decide_eq_true h4⟩
          · right; exact ⟨by omega, decide_eq_false h4, by omega, decide_eq_true (by omega)⟩
        clear h3
        rcases hcase with ⟨h4, t4⟩ | ⟨h4, t4, h5, t5⟩
        all_goals
          go_enter Try.func37, Try.ntmps37
          go_wp2_with fail
          refine (CheckPasses_any xs g _ _ hx' hwf).mono ?_
          rintro e w1 ⟨rfl, hbel⟩
          have hy1 := hy'.belowAll hbel
          have HB := Lib.hid hbel
          clear hbel
          go_wp2_with fail
          refine (BitsValid_any bs _ _ hy1).mono ?_
          rintro e w2 ⟨rfl, rfl⟩
          go_wp2
          go_ret
          exact ⟨ret_bool HP.out.symm, HB.out⟩
      · obtain ⟨q, rfl⟩ := Int.eq_ofNat_of_zero_le (show 0 ≤ p by omega)
        have hq : q + bs.length ≤ xs.length := by omega
        have t4 : decide ((q : Int) < 0) = false := decide_eq_false (by omega)
        have h5 : (q : Int) ≤ (xs.length : Int) - (bs.length : Int) := by omega
        have t5 : decide ((xs.length : Int) - (bs.length : Int) < (q : Int)) = false := by simp; omega
        obtain ⟨hvx, hgen, hpos⟩ := passB_parts h1
        have hlx2 := valid_len hvx
        have HP := Lib.hid (show burstB xs g (q : Int) bs = !passB (addAt xs q bs) g by
          have : inB (q : Int) 0 ((xs.length : Int) - bs.length) = true := by simp [inB]; omega
          simp [burstB, this, h1, h2])
        obtain ⟨n, hn⟩ : ∃ n, n = xs.length := ⟨_, rfl⟩
        obtain ⟨m, hm⟩ : ∃ m, m = bs.length := ⟨_, rfl⟩
        have HN := Lib.hid hn.symm
        have HM := Lib.hid hm.symm
        have HQ := Lib.hid hq
        have HVX := Lib.hid hvx
        have HVB := Lib.hid h2
        rw [← hn] at hx' hlx2 h5 t5 hq hpos ⊢
        rw [← hm] at hy' h5 t5 hq ⊢
        clear h3 hlx hly hx hy hgen hvx hn hm
        go_enter Try.func37, Try.ntmps37
        go_wp2_with fail
        refine (CheckPasses_any xs g _ _ hx' hwf).mono ?_
        rintro e w1 ⟨rfl, hbel⟩
        have hx1 := hx'.belowAll hbel
        have hy1 := hy'.belowAll hbel
        have HB := Lib.hid hbel
        have hsz1 := hbel.size
        clear hbel
        go_wp2_with fail
        refine (BitsValid_any bs _ _ hy1).mono ?_
        rintro e w2 ⟨rfl, rfl⟩
        have hmt : OwnI w1.heap.size (w1.alloc (.cells #[] 3)) (.slice (some ⟨w1.heap.size, 0, none⟩) 0 0) [] := World.ownsRow_made w1 #[] 0 (Nat.le_refl _) (by decide) rfl
        have hb0 : Below w1.heap.size w1 (w1.alloc (.cells #[] 3)) := (Below.refl _ w1).alloc (Nat.le_refl _) _
        have hrm := hx1.belowAll hb0
        clear h1 h2 hx' hy'
        go_wp2_with (at_builtin; refine wp_apps tabI _ rfl (.tmp 34) (.tmp 35) rfl w1.heap.size _ _ [] xs rfl rfl hmt hrm (by have := HN.out; simp; omega) (by simp) ?_; intro v3 w3 hown3 hg3 hn3; simp only [List.nil_append] at hown3; obtain ⟨g3, c3, rfl⟩ := own_slice hown3 n HN.out (by omega))
        have hg3' : (w1.alloc (.cells #[] 3)).grownBy w3 (some w1.heap.size) := hg3
        have hb3 : Below w1.heap.size w1 w3 := hb0.trans (below_of_row hg3' (by simp) (by intro j e; cases e; omega))
        have hlt3 := hown3.lt g3 rfl
        clear hg3 hg3' hn3 hrm hmt hb0 hx1
        go_loopw [39] (fun i wr => ∃ k : Nat, k ≤ m ∧ i = .int .i64 k ∧ OwnI w1.heap.size wr (.slice (some ⟨g3, 0, none⟩) n c3) (addAt xs q (bs.take k)) ∧ Below w1.heap.size w1 wr) (fun i _ => m - (intOf i).toNat)
        case atStart => exact ⟨0, by omega, rfl, by rw [List.take_zero, addAt_nil]; exact hown3, hb3⟩
        case round =>
          clear hown3 hb3 hlt3
          obtain ⟨k, hk, rfl, hown, hbel⟩ := hrel
          have hgl := hown.lt g3 rfl
          by_cases hlt : k < m
          · have HL := Lib.hid (show (addAt xs q (bs.take k)).length = n by rw [addAt_length xs q _ (by have := HQ.out; have := HM.out; have := HN.out; rw [List.length_take]; omega), HN.out])
            have hyk := hy1.belowAll hbel
            obtain ⟨_, _, _, _, hcell⟩ := hyk.at
            obtain ⟨b0, off, rfl, hc⟩ := hcell (by omega)
            have hyc := hc k hlt
            have hxc := hown.cell HL.out (q + k) (by omega)
            rw [addAt_at xs q bs k HQ.out (by have := HM.out; omega)] at hxc
            have hf := hown.free HL.out (q + k)
            have HST := Lib.hid (hown.stored HL.out (q + k) (xorB (xs.getD (q + k) 0) (bs.getD k 0)))
            have HE := Lib.hid (addAt_step xs q bs k HQ.out (by have := HM.out; omega))
            have hxor := xor_bits (bit_at HVX.out (q + k) (by have := HN.out; omega)) (bit_at HVB.out k (by have := HM.out; omega))
            obtain ⟨x, ex⟩ : ∃ x, x = xs.getD (q + k) 0 := ⟨_, rfl⟩
            obtain ⟨y, ey⟩ : ∃ y, y = bs.getD k 0 := ⟨_, rfl⟩
            rw [← ex] at hxc hxor HST HE
            rw [← ey] at hyc hxor HST HE
            have hsz := hbel.size
            have hq1 : (0 : Int) ≤ (q : Int) + (k : Int) := by omega
            have hq2 : (q : Int) + (k : Int) < (n : Int) := by omega
            clear hc hcell hown ex ey hyk
            go_wp2
            go_roundw
            case rel => exact ⟨k + 1, by omega, by go_num, by have := HST.out.1; rw [HE.out] at this; exact this, hbel.trans (below_of_row HST.out.2 hsz (by intro j e; cases e; omega))⟩
            case measure => simp [intOf]; omega
          · obtain rfl : k = m := by omega
            have HE := Lib.hid (show addAt xs q (bs.take k) = addAt xs q bs by rw [← HM.out, List.take_length])
            have hrw := row_of_own hown
            rw [HE.out] at hrw
            have HB2 := Lib.hid (below_step HB.out hbel)
            clear hown hbel
            go_wp2_with fail
            refine (CheckPasses_any (addAt xs q bs) g _ _ hrw hwf).mono ?_
            rintro e w5 ⟨rfl, hbel⟩
            have HB3 := Lib.hid (below_step HB2.out hbel)
            clear hbel
            go_wp2
            go_ret
            exact ⟨ret_bool HP.out.symm, HB3.out⟩
set_option maxHeartbeats 1000000 in
theorem specBurstDetected_any (xs bs : List Int) (g p : Int) (v u : Value) (w : World) (hx : RowK .i64 w v xs) (hy : RowK .i64 w u bs) :
    Calls Try.prog 36 #[v, .int .i64 g, .int .i64 p, u] w fun e w' => e = .returned (.bool (burstB xs g p bs)) ∧ Below w.heap.size w w' := by
  have hx' := hx
  have hy' := hy
  have hlx := hx.len
  have hly := hy.len
  obtain ⟨a, cap, hv⟩ := hx.form
  subst hv
  obtain ⟨b, cbp, hu⟩ := hy.form
  subst hu
  cases h1 : passB xs g
  · have HP := Lib.hid (show burstB xs g p bs = false by simp [burstB, h1])
    go_enter Try.func36, Try.ntmps36
    go_wp2_with fail
    refine (specCheckPasses_any xs g _ _ hx').mono ?_
    rintro e w1 ⟨rfl, rfl⟩
    go_wp2
    go_ret
    exact ⟨ret_bool HP.out.symm, Below.refl _ _⟩
  · cases h2 : validB bs
    · have HP := Lib.hid (show burstB xs g p bs = false by simp [burstB, h2])
      go_enter Try.func36, Try.ntmps36
      go_wp2_with fail
      refine (specCheckPasses_any xs g _ _ hx').mono ?_
      rintro e w1 ⟨rfl, rfl⟩
      go_wp2_with fail
      refine (specBitsValid_any bs _ _ hy').mono ?_
      rintro e w2 ⟨rfl, rfl⟩
      go_wp2
      go_ret
      exact ⟨ret_bool HP.out.symm, Below.refl _ _⟩
    · by_cases h3 : p < 0 ∨ (xs.length : Int) - (bs.length : Int) < p
      · have hin : inB p 0 ((xs.length : Int) - (bs.length : Int)) = false := by simp [inB]; omega
        have HI := Lib.hid hin
        have HP := Lib.hid (show burstB xs g p bs = false by
          simp [burstB, HI.out])
        clear h3
        go_enter Try.func36, Try.ntmps36
        go_wp2_with fail
        refine (specCheckPasses_any xs g _ _ hx').mono ?_
        rintro e w1 ⟨rfl, rfl⟩
        go_wp2_with fail
        refine (specBitsValid_any bs _ _ hy').mono ?_
        rintro e w2 ⟨rfl, rfl⟩
        go_wp2_with (go_at_call 43; refine (l1In_any _ _ _ _).mono ?_; rintro e w' ⟨rfl, rfl⟩)
        go_ret
        exact ⟨ret_bool HP.out.symm, Below.refl _ _⟩
      · obtain ⟨q, rfl⟩ := Int.eq_ofNat_of_zero_le (show 0 ≤ p by omega)
        have hq : q + bs.length ≤ xs.length := by omega
        have t5 : inB (q : Int) 0 ((xs.length : Int) - (bs.length : Int)) = true := by simp [inB]; omega
        obtain ⟨hvx, hgen, hpos⟩ := passB_parts h1
        have hlx2 := valid_len hvx
        have HP := Lib.hid (show burstB xs g (q : Int) bs = !passB (addAt xs q bs) g by
          simp [burstB, t5, h1, h2])
        obtain ⟨n, hn⟩ : ∃ n, n = xs.length := ⟨_, rfl⟩
        obtain ⟨m, hm⟩ : ∃ m, m = bs.length := ⟨_, rfl⟩
        have HN := Lib.hid hn.symm
        have HM := Lib.hid hm.symm
        have HQ := Lib.hid hq
        have HVX := Lib.hid hvx
        have HVB := Lib.hid h2
        rw [← hn] at hx' hlx2 t5 hq hpos ⊢
        rw [← hm] at hy' t5 hq ⊢
        clear h3 hlx hly hx hy hgen hvx hn hm
        go_enter Try.func36, Try.ntmps36
        go_wp2_with fail
        refine (specCheckPasses_any xs g _ _ hx').mono ?_
        rintro e w1 ⟨rfl, rfl⟩
        go_wp2_with fail
        refine (specBitsValid_any bs _ _ hy').mono ?_
        rintro e w2 ⟨rfl, rfl⟩
        have hmt : OwnI w.heap.size (w.alloc (.cells #[] 3)) (.slice (some ⟨w.heap.size, 0, none⟩) 0 0) [] := World.ownsRow_made w #[] 0 (Nat.le_refl _) (by decide) rfl
        have hb0 : Below w.heap.size w (w.alloc (.cells #[] 3)) := (Below.refl _ w).alloc (Nat.le_refl _) _
        have hrm := hx'.belowAll hb0
        have hy1 := hy'
        clear h1 h2 hx' hy'
        go_wp2_with (first | (go_at_call 43; refine (l1In_any _ _ _ _).mono ?_; rintro e w' ⟨rfl, rfl⟩) | (at_builtin; refine wp_apps tabI _ rfl (.tmp 30) (.tmp 31) rfl w.heap.size _ _ [] xs rfl rfl hmt hrm (by have := HN.out; simp; omega) (by simp) ?_; intro v3 w3 hown3 hg3 hn3; simp only [List.nil_append] at hown3; obtain ⟨g3, c3, rfl⟩ := own_slice hown3 n HN.out (by omega)))
        have hg3' : (w.alloc (.cells #[] 3)).grownBy w3 (some w.heap.size) := hg3
        have hb3 : Below w.heap.size w w3 := hb0.trans (below_of_row hg3' (by simp) (by intro j e; cases e; omega))
        have hlt3 := hown3.lt g3 rfl
        clear hg3 hg3' hn3 hrm hmt hb0
        go_loopw [10] (fun i wr => ∃ k : Nat, k ≤ m ∧ i = .int .i64 k ∧ OwnI w.heap.size wr (.slice (some ⟨g3, 0, none⟩) n c3) (addAt xs q (bs.take k)) ∧ Below w.heap.size w wr) (fun i _ => m - (intOf i).toNat)
        case atStart => exact ⟨0, by omega, rfl, by rw [List.take_zero, addAt_nil]; exact hown3, hb3⟩
        case round =>
          clear hown3 hb3 hlt3
          obtain ⟨k, hk, rfl, hown, hbel⟩ := hrel
          have hgl := hown.lt g3 rfl
          by_cases hlt : k < m
          · have HL := Lib.hid (show (addAt xs q (bs.take k)).length = n by rw [addAt_length xs q _ (by have := HQ.out; have := HM.out; have := HN.out; rw [List.length_take]; omega), HN.out])
            have hyk := hy1.belowAll hbel
            obtain ⟨_, _, _, _, hcell⟩ := hyk.at
            obtain ⟨b0, off, rfl, hc⟩ := hcell (by omega)
            have hyc := hc k hlt
            have hxc := hown.cell HL.out (q + k) (by omega)
            rw [addAt_at xs q bs k HQ.out (by have := HM.out; omega)] at hxc
            have hf := hown.free HL.out (q + k)
            have HST := Lib.hid (hown.stored HL.out (q + k) (xorB (xs.getD (q + k) 0) (bs.getD k 0)))
            have HE := Lib.hid (addAt_step xs q bs k HQ.out (by have := HM.out; omega))
            have hxor := xor_bits (bit_at HVX.out (q + k) (by have := HN.out; omega)) (bit_at HVB.out k (by have := HM.out; omega))
            obtain ⟨x, ex⟩ : ∃ x, x = xs.getD (q + k) 0 := ⟨_, rfl⟩
            obtain ⟨y, ey⟩ : ∃ y, y = bs.getD k 0 := ⟨_, rfl⟩
            rw [← ex] at hxc hxor HST HE
            rw [← ey] at hyc hxor HST HE
            have hsz := hbel.size
            have hq1 : (0 : Int) ≤ (q : Int) + (k : Int) := by omega
            have hq2 : (q : Int) + (k : Int) < (n : Int) := by omega
            clear hc hcell hown ex ey hyk
            go_wp2
            go_region
            go_wp2
            go_roundw
            case rel => exact ⟨k + 1, by omega, by go_num, by have := HST.out.1.drew; rw [HE.out] at this; exact this, (hbel.trans (below_of_row HST.out.2 hsz (by intro j e; cases e; omega))).drew⟩
            case measure => simp [intOf]; omega
          · obtain rfl : k = m := by omega
            have HE := Lib.hid (show addAt xs q (bs.take k) = addAt xs q bs by rw [← HM.out, List.take_length])
            have hrw := row_of_own hown
            rw [HE.out] at hrw
            have HB2 := Lib.hid hbel
            clear hown hbel
            go_wp2_with fail
            refine (specCheckPasses_any (addAt xs q bs) g _ _ hrw).mono ?_
            rintro e w5 ⟨rfl, rfl⟩
            go_wp2
            go_ret
            exact ⟨ret_bool HP.out.symm, HB2.out⟩
end Go.Proofs.Ytlidppncongfjaa
