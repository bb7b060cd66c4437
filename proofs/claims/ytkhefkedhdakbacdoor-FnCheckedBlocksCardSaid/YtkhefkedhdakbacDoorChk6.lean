/-
  The check bits and what is appended, by the program and by the reference.
-/
import Derived.Test.YtkhefkedhdakbacDoorChk5
namespace Go.Proofs.YtkhefkedhdakbacDoor
open Go.RowKit

theorem digits_get (d r k : Nat) (hk : k < d) : (digits d r).getD k 0 = (((r >>> (d - 1 - k)) % 2 : Nat) : Int) := by
  simp [digits, List.getD, hk]
theorem digits_take (d r k : Nat) (hk : k < d) : (digits d r).take (k + 1) = (digits d r).take k ++ [(((r >>> (d - 1 - k)) % 2 : Nat) : Int)] := by
  rw [take_succ' _ 0 k (by rw [digits_length]; exact hk), digits_get d r k hk]
theorem CheckBits_neg (zs : List Int) (g : Int) (v : Value) (w : World) (hrow : RowK .i64 w v zs) (hwf : (Lit.int .i64 g).wf = true) (h : (validB zs && genB g) = false) :
    Calls Tryd.prog 19 #[v, .int .i64 g] w fun e w' => e = .returned (.slice none 0 0) ∧ w = w' := by
  have hrow' := hrow
  obtain ⟨a, cap, hv⟩ := hrow.form
  subst hv
  cases h1 : validB zs
  · go_enter Tryd.func19, Tryd.ntmps19
    go_wp2_with (go_at_call 17; refine (BitsValid_any _ _ _ hrow').mono ?_; rintro e w' ⟨rfl, rfl⟩)
    go_ret
    exact ⟨rfl, rfl⟩
  · have h2 : genB g = false := by rw [h1] at h; simpa using h
    go_enter Tryd.func19, Tryd.ntmps19
    go_wp2_with (first | (go_at_call 17; refine (BitsValid_any _ _ _ hrow').mono ?_; rintro e w' ⟨rfl, rfl⟩) | (go_at_call 27; refine (GeneratorValid_any _ _ hwf).mono ?_; rintro e w' ⟨rfl, rfl⟩))
    go_ret
    exact ⟨rfl, rfl⟩
set_option maxHeartbeats 400000 in
theorem CheckBits_pos (zs : List Int) (G : Nat) (v : Value) (w : World) (hrow : RowK .i64 w v zs) (h1 : validB zs = true) (h2 : genB (G : Int) = true) :
    Calls Tryd.prog 19 #[v, .int .i64 (G : Int)] w fun e w' => ∃ g0, e = .returned (.slice (some ⟨g0, 0, none⟩) (degN (G : Int)) (degN (G : Int))) ∧ OwnI w.heap.size w' (.slice (some ⟨g0, 0, none⟩) (degN (G : Int)) (degN (G : Int))) (cbits G (degN (G : Int)) zs) ∧ Below w.heap.size w w' := by
  have hrow' := hrow
  obtain ⟨a, cap, hv⟩ := hrow.form
  subst hv
  have HD := Lib.hid (show degI (G : Int) = (degN (G : Int) : Int) by simp [degI, h2])
  obtain ⟨G', e, hg1, hg2, _⟩ := gen_nat h2
  have hwf := gen_wf (G := G) (by omega)
  clear hg1 hg2 e
  have hd := deg_le h2
  have hb := bits_of h1
  have hl := valid_len h1
  have hG := gen_is h2
  have HC := Lib.hid (show cbits G (degN (G : Int)) zs = digits (degN (G : Int)) (crem G (degN (G : Int)) 0 (zs ++ List.replicate (degN (G : Int)) 0)) from rfl)
  obtain ⟨d, ed⟩ : ∃ d, d = degN (G : Int) := ⟨_, rfl⟩
  rw [← ed] at hd hG HC HD ⊢
  have ED := Lib.hid ed
  clear ed
  go_enter Tryd.func19, Tryd.ntmps19
  go_wp2_with fail
  refine (BitsValid_any _ _ _ hrow').mono ?_
  rintro e w' ⟨rfl, rfl⟩
  go_wp2_with fail
  refine (GeneratorValid_any _ _ hwf).mono ?_
  rintro e w' ⟨rfl, rfl⟩
  go_wp2_with fail
  refine (DegreeOf_any _ _ hwf).mono ?_
  rw [HD.out]
  rintro e w' ⟨rfl, rfl⟩
  go_wp2_with fail
  refine (newReducer_any G _ h2).mono ?_
  rintro e w1 ⟨rfl, hR, hbel, hsz⟩
  have HB := Lib.hid hbel
  have hrow1 := hrow'.belowAll hbel
  clear hbel
  rw [← ED.out] at hR
  have hRl := crem_rest_lt hG (hb.app (BitL.repl d))
  have hp := pow_le16 hd
  go_wp2_with fail
  refine (remainderOf_any zs d G d _ _ _ hrow1 hb hl hd hR hG hd).mono ?_
  rintro e w2 ⟨rfl, hq⟩
  have hsz2 : w.heap.size ≤ w2.heap.size := by have := (hq.below 0).size; omega
  have HB2 := Lib.hid (below_quiet HB.out hq)
  obtain ⟨R, eR⟩ : ∃ R, R = crem G d 0 (zs ++ List.replicate d 0) := ⟨_, rfl⟩
  rw [← eR] at hRl HC ⊢
  clear hq HB eR hR hrow1 hrow' hrow
  go_wp2_with (at_make; refine wp_make tabI _ rfl _ _ rfl d rfl rfl (by omega) ?_; intro w3 hown hbel3 hsz3)
  have hbw : Below w.heap.size w w3 := below_step HB2.out hbel3
  have hown0 := hown.mono hsz2
  clear hown
  have hgw : w.heap.size ≤ w2.heap.size := hsz2
  obtain ⟨B, eB⟩ : ∃ B, B = w2.heap.size := ⟨_, rfl⟩
  rw [← eB] at hown0 hsz3 hgw ⊢
  clear eB hsz2 hbel3 HB2
  go_loopw [28] (fun i wr => ∃ k : Nat, k ≤ d ∧ i = .int .i64 k ∧ OwnI w.heap.size wr (.slice (some ⟨B, 0, none⟩) d d) ((digits d R).take k ++ List.replicate (d - k) 0) ∧ Below w.heap.size w wr ∧ B < wr.heap.size) (fun i _ => d - (intOf i).toNat)
  case atStart => exact ⟨0, Nat.zero_le _, rfl, by simpa using hown0, hbw, hsz3⟩
  case round =>
    obtain ⟨k, hk, rfl, hown, hbel, hsz⟩ := hrel
    have HL := Lib.hid (show ((digits d R).take k ++ List.replicate (d - k) 0).length = d by simp [digits_length]; omega)
    by_cases hlt : k < d
    · obtain ⟨q, eq⟩ : ∃ q, q = R >>> (d - 1 - k) := ⟨_, rfl⟩
      have hqx : q ≤ R := by rw [eq, Nat.shiftRight_eq_div_pow]; exact Nat.div_le_self _ _
      have ed : ((d : Int) - 1 - (k : Int)).toNat = d - 1 - k := by omega
      have e1 : (R : Int) / 2 ^ (d - 1 - k) = (q : Int) := by rw [eq]; exact shr_cast R (d - 1 - k)
      have e2 : (R : Int) / 2 ^ (min (d - 1 - k) 64) = (q : Int) := by rw [Nat.min_eq_left (by omega)]; exact e1
      have hdi : (d : Int) - 1 - (k : Int) ≤ 64 := by omega
      have hdj : 0 ≤ (d : Int) - 1 - (k : Int) := by omega
      have e6 := i64_and1 q (by omega)
      have hcd := hown.cell HL.out k hlt
      have hf := hown.free HL.out k
      have HS := Lib.hid (hown.stored HL.out k ((q % 2 : Nat) : Int))
      have HE := Lib.hid (show ((digits d R).take k ++ List.replicate (d - k) 0).set k ((q % 2 : Nat) : Int) = (digits d R).take (k + 1) ++ List.replicate (d - (k + 1)) 0 by
        rw [eq, ← digits_get d R k hlt]; exact copy_step (digits d R) k d (digits_length d R).symm hlt)
      obtain ⟨m, em⟩ : ∃ m, m = q % 2 := ⟨_, rfl⟩
      rw [← em] at e6 HS HE
      clear hown eq em
      go_wp2
      go_roundw
      case rel => exact ⟨k + 1, by omega, by go_num, by have := HS.out.1; rw [HE.out] at this; exact this, hbel.trans (below_of_row HS.out.2 (by have := hbel.size; omega) (by intro j e; cases e; omega)), by simpa using hsz⟩
      case measure => simp [intOf]; omega
    · obtain rfl : k = d := by omega
      have HE := Lib.hid (show (digits k R).take k ++ List.replicate (k - k) 0 = cbits G k zs by rw [List.take_of_length_le (by rw [digits_length]; omega), HC.out]; simp)
      go_wp2
      go_ret
      exact ⟨B, rfl, by rw [HE.out] at hown; exact hown, hbel⟩
theorem CheckBits_any (zs : List Int) (g : Int) (v : Value) (w : World) (hrow : RowK .i64 w v zs) (hwf : (Lit.int .i64 g).wf = true) :
    Calls Tryd.prog 19 #[v, .int .i64 g] w fun e w' => ∃ r, e = .returned r ∧ OwnI w.heap.size w' r (chkL zs g) ∧ Below w.heap.size w w' := by
  cases h : (validB zs && genB g)
  · rw [chkL_neg h]
    exact (CheckBits_neg zs g v w hrow hwf h).mono fun _ _ ⟨he, hw⟩ => ⟨_, he, own_nil _ _, by rw [← hw]; exact Below.refl _ _⟩
  · simp only [Bool.and_eq_true] at h
    rw [chkL_pos h.1 h.2]
    obtain ⟨G, rfl, _⟩ := gen_nat h.2
    exact (CheckBits_pos zs G v w hrow h.1 h.2).mono fun _ _ ⟨g0, he, ho, hb⟩ => ⟨_, he, ho, hb⟩
end Go.Proofs.YtkhefkedhdakbacDoor
