/-
  Distances of words of symbols: the program's and the reference's functions compute the same.
-/
import Derived.Test.YtjcdinafghafcaaField2
import Derived.Test.YtjcdinafghafcaaHam
namespace Go.Proofs.Ytjcdinafghafcaa
open Go.RowKit

def wordB (zs : List Int) : Bool := decide (zs.length = 15) && zs.all elemB
def wordD (xs ys : List Int) : Int := if wordB xs && wordB ys then ham xs ys else -1
theorem word_len {zs : List Int} (h : wordB zs = true) : zs.length = 15 := by
  simp only [wordB, Bool.and_eq_true, decide_eq_true_eq] at h; exact h.1

set_option maxHeartbeats 400000 in
theorem isWord_any (zs : List Int) (v : Value) (w : World) (h : RowK .i64 w v zs) :
    Calls Try.prog 18 #[v] w fun e w' => e = .returned (.bool (wordB zs)) ∧ w = w' := by
  have hl := h.len
  obtain ⟨a, cap, hv⟩ := h.form
  subst hv
  by_cases h1 : zs.length = 15
  · have ht : ((zs.length : Int) == 15) = true := by simp; omega
    have HN := Lib.hid (show wordB zs = zs.all elemB by simp [wordB, h1])
    clear h1
    go_enter Try.func18, Try.ntmps18
    go_wp2_with (go_at_call 22; refine (allElements_any _ _ _ h).mono ?_; rintro e w' ⟨rfl, rfl⟩)
    all_goals go_ret
    all_goals exact ⟨ret_bool HN.out.symm, rfl⟩
  · have ht : ((zs.length : Int) == 15) = false := by simp; omega
    have HN := Lib.hid (show wordB zs = false by simp [wordB, h1])
    clear h1
    go_enter Try.func18, Try.ntmps18
    go_wp2
    go_ret
    exact ⟨ret_bool HN.out.symm, rfl⟩
set_option maxHeartbeats 400000 in
theorem l6Symbols_any (zs : List Int) (v : Value) (w : World) (h : RowK .i64 w v zs) :
    Calls Try.prog 17 #[v, .int .i64 15] w fun e w' => e = .returned (.bool (wordB zs)) ∧ w = w' := by
  have hl := h.len
  obtain ⟨a, cap, rfl, _, _, _, hc⟩ := h
  go_enter Try.func17, Try.ntmps17
  go_wp2
  go_loop [5] (fun i => ∃ k : Nat, k ≤ zs.length ∧ i = .int .i64 k ∧ (zs.take k).all elemB = true) (fun i => zs.length - (intOf i).toNat)
  case atStart => exact ⟨0, Nat.zero_le _, rfl, by simp⟩
  case round =>
    obtain ⟨k, hk, rfl, hb⟩ := hrel
    have Hb := Lib.hid hb
    clear hb
    by_cases hlt : k < zs.length
    · obtain ⟨b, off, rfl, hcc⟩ := hc (by omega)
      have hx := hcc k hlt
      cases hbit : inB zs[k] 0 15
      · go_wp2_with (go_at_call 15; refine (l1In_any _ _ _ _).mono ?_; rintro e w' ⟨rfl, rfl⟩)
        go_ret
        exact ⟨ret_bool (by rw [wordB, all_false elemB zs k hlt hbit]; simp), rfl⟩
      · have HB := Lib.hid (show elemB zs[k] = true from hbit)
        go_wp2_with (go_at_call 15; refine (l1In_any _ _ _ _).mono ?_; rintro e w' ⟨rfl, rfl⟩)
        go_round
        case rel => exact ⟨k + 1, by omega, by go_num, all_take_succ elemB zs k hlt Hb.out HB.out⟩
        case measure => simp [intOf]; omega
    · obtain rfl : k = zs.length := by omega
      have hb := Hb.out
      rw [List.take_length] at hb
      by_cases h15 : zs.length = 15
      · have ht : ((zs.length : Int) == 15) = true := by simp; omega
        have HV := Lib.hid (show wordB zs = true by simp [wordB, hb, h15])
        clear Hb hb h15
        go_wp2
        go_ret
        exact ⟨ret_bool HV.out.symm, rfl⟩
      · have ht : ((zs.length : Int) == 15) = false := by simp; omega
        have HV := Lib.hid (show wordB zs = false by simp [wordB, h15])
        clear Hb hb h15
        go_wp2
        go_ret
        exact ⟨ret_bool HV.out.symm, rfl⟩
set_option maxHeartbeats 400000 in
theorem WordDistance_any (xs ys : List Int) (v u : Value) (w : World) (hx : RowK .i64 w v xs) (hy : RowK .i64 w u ys) :
    Calls Try.prog 11 #[v, u] w fun e w' => e = .returned (.int .i64 (wordD xs ys)) ∧ Quiet w w' := by
  have hx' := hx
  have hy' := hy
  obtain ⟨a, cap, rfl, _, _, _, hc⟩ := hx
  obtain ⟨b, cbp, rfl, _, _, _, hd⟩ := hy
  cases h1 : wordB xs
  · go_enter Try.func11, Try.ntmps11
    go_wp2_with fail
    refine (isWord_any _ _ _ hx').mono ?_
    rintro e w' ⟨rfl, rfl⟩
    go_wp2
    go_ret
    exact ⟨ret_int (by simp [wordD, h1]), (by first | exact Quiet.same _ | exact Quiet.n _ _ | exact Quiet.nn _ _ _ | assumption)⟩
  · cases h2 : wordB ys
    · go_enter Try.func11, Try.ntmps11
      go_wp2_with fail
      refine (isWord_any _ _ _ hx').mono ?_
      rintro e w' ⟨rfl, rfl⟩
      go_wp2_with fail
      refine (isWord_any _ _ _ hy').mono ?_
      rintro e w' ⟨rfl, rfl⟩
      go_wp2
      go_ret
      exact ⟨ret_int (by simp [wordD, h1, h2]), (by first | exact Quiet.same _ | exact Quiet.n _ _ | exact Quiet.nn _ _ _ | assumption)⟩
    · have HF := Lib.hid (show wordD xs ys = ham xs ys by simp [wordD, h1, h2])
      have e1 := word_len h1
      have e2 := word_len h2
      rw [e1] at hx' ⊢
      rw [e2] at hy' ⊢
      have HX := Lib.hid e1
      have HY := Lib.hid e2
      clear e1 e2
      go_enter Try.func11, Try.ntmps11
      go_wp2_with fail
      refine (isWord_any _ _ _ hx').mono ?_
      rintro e w' ⟨rfl, rfl⟩
      go_wp2_with fail
      refine (isWord_any _ _ _ hy').mono ?_
      rintro e w' ⟨rfl, rfl⟩
      go_wp2
      clear h1 h2 hx' hy'
      have hlx2 : xs.length = 15 := HX.out
      have HXL := Lib.hid hlx2
      have hc' : ∀ i, i < 15 → ∃ b off, a = some ⟨b, off, none⟩ ∧ w.cell? ⟨b, off + i, none⟩ = some (.int .i64 (xs.getD i 0)) := fun i hi => by
        obtain ⟨b, off, e, h⟩ := hc (by rw [HX.out]; omega); exact ⟨b, off, e, h i (by rw [HX.out]; exact hi)⟩
      have hd' : ∀ i, i < 15 → ∃ c off, b = some ⟨c, off, none⟩ ∧ w.cell? ⟨c, off + i, none⟩ = some (.int .i64 (ys.getD i 0)) := fun i hi => by
        obtain ⟨c, off, e, h⟩ := hd (by rw [HY.out]; omega); exact ⟨c, off, e, h i (by rw [HY.out]; exact hi)⟩
      have HC := Lib.hid hc'
      have HD := Lib.hid hd'
      clear hlx2 hc' hd' hc hd
      go_loopw [5, 17] (fun n i wr => ∃ k q : Nat, k ≤ 15 ∧ i = .int .i64 k ∧ n = .int .i64 (ham (xs.take k) (ys.take k)) ∧ wr = w.drewN q) (fun _ i _ => 15 - (intOf i).toNat)
      case atStart => exact ⟨0, 0, Nat.zero_le _, rfl, by simp [ham], rfl⟩
      case round =>
        obtain ⟨k, q, hk, rfl, rfl, rfl⟩ := hrel
        have hb := ham_le (xs.take k) (ys.take k)
        have hb2 : ((xs.take k).length : Int) ≤ 15 := by have := HX.out; simp; omega
        by_cases hlt : k < 15
        · obtain ⟨b1, off1, rfl, hx⟩ := HC.out k hlt
          obtain ⟨b2, off2, rfl, hy⟩ := HD.out k hlt
          have HT := Lib.hid (ham_take xs ys k (by have := HX.out; omega) (by have := HY.out; omega))
          have ex : xs[k]'(by have := HX.out; omega) = xs.getD k 0 := by simp [List.getD, show k < xs.length by have := HX.out; omega]
          have ey : ys[k]'(by have := HY.out; omega) = ys.getD k 0 := by simp [List.getD, show k < ys.length by have := HY.out; omega]
          rw [ex, ey] at HT
          obtain ⟨x, hxx⟩ : ∃ x, x = xs.getD k 0 := ⟨_, rfl⟩
          obtain ⟨y, hyy⟩ : ∃ y, y = ys.getD k 0 := ⟨_, rfl⟩
          rw [← hxx] at hx HT
          rw [← hyy] at hy HT
          clear ex ey hxx hyy
          by_cases he : x = y
          · have HU := Lib.hid (show ham (xs.take (k + 1)) (ys.take (k + 1)) = ham (xs.take k) (ys.take k) by rw [HT.out, xorB, if_pos he]; omega)
            subst he
            clear HT
            go_wp2
            go_quiet (fail)
            go_wp2
            go_roundw
            case rel => exact ⟨k + 1, _, by omega, by go_num, by rw [HU.out], (by first | rfl | exact World.drewN_drewN ..)⟩
            case measure => simp [intOf]; omega
          · have HU := Lib.hid (show ham (xs.take (k + 1)) (ys.take (k + 1)) = ham (xs.take k) (ys.take k) + 1 by rw [HT.out, xorB, if_neg he])
            have hne : (x != y) = true := by rw [bne_iff_ne]; exact he
            clear HT he
            go_wp2
            go_quiet (fail)
            go_wp2
            go_roundw
            case rel => exact ⟨k + 1, _, by omega, by go_num, by rw [HU.out], (by first | rfl | exact World.drewN_drewN ..)⟩
            case measure => simp [intOf]; omega
        · obtain rfl : k = 15 := by omega
          have HE := Lib.hid (show ham (xs.take 15) (ys.take 15) = wordD xs ys by rw [HF.out, List.take_of_length_le (by rw [HX.out]; omega), List.take_of_length_le (by rw [HY.out]; omega)])
          go_wp2
          go_ret
          exact ⟨ret_int HE.out, (by first | exact Quiet.same _ | exact Quiet.n _ _ | exact Quiet.nn _ _ _ | assumption)⟩
set_option maxHeartbeats 400000 in
theorem specWordDistance_any (xs ys : List Int) (v u : Value) (w : World) (hx : RowK .i64 w v xs) (hy : RowK .i64 w u ys) :
    Calls Try.prog 9 #[v, u] w fun e w' => e = .returned (.int .i64 (wordD xs ys)) ∧ Quiet w w' := by
  have hx' := hx
  have hy' := hy
  obtain ⟨a, cap, rfl, _, _, _, hc⟩ := hx
  obtain ⟨b, cbp, rfl, _, _, _, hd⟩ := hy
  cases h1 : wordB xs
  · go_enter Try.func9, Try.ntmps9
    go_wp2_with fail
    refine (l6Symbols_any _ _ _ hx').mono ?_
    rintro e w' ⟨rfl, rfl⟩
    go_wp2
    go_ret
    exact ⟨ret_int (by simp [wordD, h1]), (by first | exact Quiet.same _ | exact Quiet.n _ _ | exact Quiet.nn _ _ _ | assumption)⟩
  · cases h2 : wordB ys
    · go_enter Try.func9, Try.ntmps9
      go_wp2_with fail
      refine (l6Symbols_any _ _ _ hx').mono ?_
      rintro e w' ⟨rfl, rfl⟩
      go_wp2_with fail
      refine (l6Symbols_any _ _ _ hy').mono ?_
      rintro e w' ⟨rfl, rfl⟩
      go_wp2
      go_ret
      exact ⟨ret_int (by simp [wordD, h1, h2]), (by first | exact Quiet.same _ | exact Quiet.n _ _ | exact Quiet.nn _ _ _ | assumption)⟩
    · have HF := Lib.hid (show wordD xs ys = ham xs ys by simp [wordD, h1, h2])
      have e1 := word_len h1
      have e2 := word_len h2
      rw [e1] at hx' ⊢
      rw [e2] at hy' ⊢
      have HX := Lib.hid e1
      have HY := Lib.hid e2
      clear e1 e2
      go_enter Try.func9, Try.ntmps9
      go_wp2_with fail
      refine (l6Symbols_any _ _ _ hx').mono ?_
      rintro e w' ⟨rfl, rfl⟩
      go_wp2_with fail
      refine (l6Symbols_any _ _ _ hy').mono ?_
      rintro e w' ⟨rfl, rfl⟩
      go_wp2
      clear h1 h2 hx' hy'
      have hlx2 : xs.length = 15 := HX.out
      have HXL := Lib.hid hlx2
      have hc' : ∀ i, i < 15 → ∃ b off, a = some ⟨b, off, none⟩ ∧ w.cell? ⟨b, off + i, none⟩ = some (.int .i64 (xs.getD i 0)) := fun i hi => by
        obtain ⟨b, off, e, h⟩ := hc (by rw [HX.out]; omega); exact ⟨b, off, e, h i (by rw [HX.out]; exact hi)⟩
      have hd' : ∀ i, i < 15 → ∃ c off, b = some ⟨c, off, none⟩ ∧ w.cell? ⟨c, off + i, none⟩ = some (.int .i64 (ys.getD i 0)) := fun i hi => by
        obtain ⟨c, off, e, h⟩ := hd (by rw [HY.out]; omega); exact ⟨c, off, e, h i (by rw [HY.out]; exact hi)⟩
      have HC := Lib.hid hc'
      have HD := Lib.hid hd'
      clear hlx2 hc' hd' hc hd
      go_loopw [5, 6] (fun n i wr => ∃ k q : Nat, k ≤ 15 ∧ i = .int .i64 k ∧ n = .int .i64 (ham (xs.take k) (ys.take k)) ∧ wr = w.drewN q) (fun _ i _ => 15 - (intOf i).toNat)
      case atStart => exact ⟨0, 0, Nat.zero_le _, rfl, by simp [ham], rfl⟩
      case round =>
        obtain ⟨k, q, hk, rfl, rfl, rfl⟩ := hrel
        have hb := ham_le (xs.take k) (ys.take k)
        have hb2 : ((xs.take k).length : Int) ≤ 15 := by have := HX.out; simp; omega
        by_cases hlt : k < 15
        · obtain ⟨b1, off1, rfl, hx⟩ := HC.out k hlt
          obtain ⟨b2, off2, rfl, hy⟩ := HD.out k hlt
          have HT := Lib.hid (ham_take xs ys k (by have := HX.out; omega) (by have := HY.out; omega))
          have ex : xs[k]'(by have := HX.out; omega) = xs.getD k 0 := by simp [List.getD, show k < xs.length by have := HX.out; omega]
          have ey : ys[k]'(by have := HY.out; omega) = ys.getD k 0 := by simp [List.getD, show k < ys.length by have := HY.out; omega]
          rw [ex, ey] at HT
          obtain ⟨x, hxx⟩ : ∃ x, x = xs.getD k 0 := ⟨_, rfl⟩
          obtain ⟨y, hyy⟩ : ∃ y, y = ys.getD k 0 := ⟨_, rfl⟩
          rw [← hxx] at hx HT
          rw [← hyy] at hy HT
          clear ex ey hxx hyy
          by_cases he : x = y
          · have HU := Lib.hid (show ham (xs.take (k + 1)) (ys.take (k + 1)) = ham (xs.take k) (ys.take k) by rw [HT.out, xorB, if_pos he]; omega)
            subst he
            clear HT
            go_wp2
            go_quiet (fail)
            go_wp2
            go_roundw
            case rel => exact ⟨k + 1, _, by omega, by go_num, by rw [HU.out], (by first | rfl | exact World.drewN_drewN ..)⟩
            case measure => simp [intOf]; omega
          · have HU := Lib.hid (show ham (xs.take (k + 1)) (ys.take (k + 1)) = ham (xs.take k) (ys.take k) + 1 by rw [HT.out, xorB, if_neg he])
            have hne : (x != y) = true := by rw [bne_iff_ne]; exact he
            clear HT he
            go_wp2
            go_quiet (fail)
            go_wp2
            go_roundw
            case rel => exact ⟨k + 1, _, by omega, by go_num, by rw [HU.out], (by first | rfl | exact World.drewN_drewN ..)⟩
            case measure => simp [intOf]; omega
        · obtain rfl : k = 15 := by omega
          have HE := Lib.hid (show ham (xs.take 15) (ys.take 15) = wordD xs ys by rw [HF.out, List.take_of_length_le (by rw [HX.out]; omega), List.take_of_length_le (by rw [HY.out]; omega)])
          go_wp2
          go_ret
          exact ⟨ret_int HE.out, (by first | exact Quiet.same _ | exact Quiet.n _ _ | exact Quiet.nn _ _ _ | assumption)⟩
end Go.Proofs.Ytjcdinafghafcaa
