/-
  Distances and sums of lists of bits: the program's and the reference's functions compute the same.
-/
import Derived.Test.YtpfbmfnfcppjeabDoorMake
import Derived.Test.YtpfbmfnfcppjeabDoorArith
import Derived.StillTailTactics
import Derived.RegionTactic
import Derived.Deep.RegionLaw
namespace Go.Proofs.YtpfbmfnfcppjeabDoor
open Go.RowKit

def xorB (x y : Int) : Int := if x = y then 0 else 1
def ham : List Int → List Int → Int
  | x :: xs, y :: ys => xorB x y + ham xs ys
  | _, _ => 0
def sameB (xs ys : List Int) : Bool := validB xs && validB ys && decide (xs.length = ys.length)
def hamD (xs ys : List Int) : Int := if sameB xs ys then ham xs ys else -1
def addL (xs ys : List Int) : List Int := if sameB xs ys then List.zipWith xorB xs ys else []

theorem xorB_le (x y : Int) : 0 ≤ xorB x y ∧ xorB x y ≤ 1 := by unfold xorB; split <;> omega
theorem ham_take (xs : List Int) : ∀ (ys : List Int) (k : Nat) (hx : k < xs.length) (hy : k < ys.length), ham (xs.take (k + 1)) (ys.take (k + 1)) = ham (xs.take k) (ys.take k) + xorB xs[k] ys[k] := by
  induction xs with
  | nil => intro ys k hx; simp at hx
  | cons x xs ih =>
    intro ys k hx hy
    cases ys with
    | nil => simp at hy
    | cons y ys =>
      cases k with
      | zero => simp [ham]
      | succ k =>
        have := ih ys k (by simpa using hx) (by simpa using hy)
        simp only [List.take_succ_cons, ham, List.getElem_cons_succ]
        omega
theorem ham_le (xs : List Int) : ∀ ys : List Int, 0 ≤ ham xs ys ∧ ham xs ys ≤ xs.length := by
  induction xs with
  | nil => intro ys; simp [ham]
  | cons x xs ih =>
    intro ys
    cases ys with
    | nil => simp [ham]; omega
    | cons y ys => have := ih ys; have := xorB_le x y; simp only [ham, List.length_cons]; omega
theorem valid_bit {zs : List Int} (h : validB zs = true) (k : Nat) (hk : k < zs.length) : zs[k] = 0 ∨ zs[k] = 1 := by
  simp only [validB, Bool.and_eq_true, List.all_eq_true] at h
  simpa [bitB] using h.2 _ (List.getElem_mem hk)
theorem xor_bits {x y : Int} (hx : x = 0 ∨ x = 1) (hy : y = 0 ∨ y = 1) : bits .xor .i64 x y = xorB x y := by
  rcases hx with rfl | rfl <;> rcases hy with rfl | rfl <;> rfl
theorem valid_len {zs : List Int} (h : validB zs = true) : zs.length ≤ 1024 := by
  simp only [validB, Bool.and_eq_true, decide_eq_true_eq] at h; exact h.1
theorem zip_take (xs ys : List Int) (k : Nat) (hx : k < xs.length) (hy : k < ys.length) : (List.zipWith xorB xs ys).take (k + 1) = (List.zipWith xorB xs ys).take k ++ [xorB xs[k] ys[k]] := by
  rw [take_succ' _ 0 k (by simp; omega)]
  simp [List.getD, List.getElem?_zipWith, hx, hy]

theorem sameB_len {xs ys : List Int} (h : sameB xs ys = true) : xs.length ≤ 1024 ∧ xs.length = ys.length := by
  simp only [sameB, Bool.and_eq_true, decide_eq_true_eq] at h; exact ⟨valid_len h.1.1, h.2⟩
theorem addL_len (xs ys : List Int) : (addL xs ys).length ≤ 1024 := by
  unfold addL; split
  · rename_i h; have := sameB_len h; simp; omega
  · simp

set_option maxHeartbeats 400000 in
theorem samePlaces_any (xs ys : List Int) (v u : Value) (w : World) (hx : RowK .i64 w v xs) (hy : RowK .i64 w u ys) :
    Calls Tryd.prog 17 #[v, u] w fun e w' => e = .returned (.bool (sameB xs ys)) ∧ w = w' := by
  have hx' := hx
  have hy' := hy
  have hlx := hx.len
  have hly := hy.len
  obtain ⟨a, cap, rfl⟩ := hx.form
  obtain ⟨b, cbp, rfl⟩ := hy.form
  cases h1 : validB xs
  · go_enter Tryd.func17, Tryd.ntmps17
    go_wp2_with (go_at_call 18; refine (BitsValid_any _ _ _ hx').mono ?_; rintro e w' ⟨rfl, rfl⟩)
    go_ret
    exact ⟨ret_bool (by simp [sameB, h1]), rfl⟩
  · cases h2 : validB ys
    · go_enter Tryd.func17, Tryd.ntmps17
      go_wp2_with fail
      refine (BitsValid_any _ _ _ hx').mono ?_
      rintro e w' ⟨rfl, rfl⟩
      go_wp2_with fail
      refine (BitsValid_any _ _ _ hy').mono ?_
      rintro e w' ⟨rfl, rfl⟩
      go_wp2
      go_ret
      exact ⟨ret_bool (by simp [sameB, h1, h2]), rfl⟩
    · by_cases h3 : xs.length = ys.length
      · have HN := Lib.hid h3
        have ht : ((xs.length : Int) == (ys.length : Int)) = true := by simp; omega
        clear h3
        go_enter Tryd.func17, Tryd.ntmps17
        go_wp2_with fail
        refine (BitsValid_any _ _ _ hx').mono ?_
        rintro e w' ⟨rfl, rfl⟩
        go_wp2_with fail
        refine (BitsValid_any _ _ _ hy').mono ?_
        rintro e w' ⟨rfl, rfl⟩
        go_wp2
        go_ret
        exact ⟨ret_bool (by simp [sameB, h1, h2, HN.out]), rfl⟩
      · have ht : ((xs.length : Int) == (ys.length : Int)) = false := by simp; omega
        go_enter Tryd.func17, Tryd.ntmps17
        go_wp2_with fail
        refine (BitsValid_any _ _ _ hx').mono ?_
        rintro e w' ⟨rfl, rfl⟩
        go_wp2_with fail
        refine (BitsValid_any _ _ _ hy').mono ?_
        rintro e w' ⟨rfl, rfl⟩
        go_wp2
        go_ret
        exact ⟨ret_bool (by simp [sameB, h1, h2]; omega), rfl⟩

set_option maxHeartbeats 400000 in
theorem HammingDistance_any (xs ys : List Int) (v u : Value) (w : World) (hx : RowK .i64 w v xs) (hy : RowK .i64 w u ys) :
    Calls Tryd.prog 15 #[v, u] w fun e w' => e = .returned (.int .i64 (hamD xs ys)) ∧ Quiet w w' := by
  have hx' := hx
  have hy' := hy
  obtain ⟨a, cap, rfl, _, _, _, hc⟩ := hx
  obtain ⟨b, cbp, rfl, _, _, _, hd⟩ := hy
  cases hs : sameB xs ys
  · go_enter Tryd.func15, Tryd.ntmps15
    go_wp2_with (go_at_call 17; refine (samePlaces_any _ _ _ _ _ hx' hy').mono ?_; rintro e w' ⟨rfl, rfl⟩)
    go_ret
    exact ⟨ret_int (by simp [hamD, hs]), (by first | exact Quiet.same _ | exact Quiet.n _ _ | exact Quiet.nn _ _ _ | assumption)⟩
  · have hs2 := hs
    simp only [sameB, Bool.and_eq_true, decide_eq_true_eq] at hs2
    obtain ⟨⟨hvx, hvy⟩, hlen⟩ := hs2
    have HN := Lib.hid hlen
    have hl1 := valid_len hvx
    have HX := Lib.hid hvx
    have HY := Lib.hid hvy
    clear hlen hvx hvy
    go_enter Tryd.func15, Tryd.ntmps15
    go_wp2_with (go_at_call 17; refine (samePlaces_any _ _ _ _ _ hx' hy').mono ?_; rintro e w' ⟨rfl, rfl⟩)
    have HS := Lib.hid hs
    clear hs hx' hy'
    go_loopw [5, 13] (fun n i wr => ∃ k q : Nat, k ≤ xs.length ∧ i = .int .i64 k ∧ n = .int .i64 (ham (xs.take k) (ys.take k)) ∧ wr = w.drewN q) (fun _ i _ => xs.length - (intOf i).toNat)
    case atStart => exact ⟨0, 0, Nat.zero_le _, rfl, by simp [ham], rfl⟩
    case round =>
      obtain ⟨k, q, hk, rfl, rfl, rfl⟩ := hrel
      have hb := ham_le (xs.take k) (ys.take k)
      have hb2 : ((xs.take k).length : Int) ≤ 1024 := by simp; omega
      by_cases hlt : k < xs.length
      · have hlt2 : k < ys.length := by have := HN.out; omega
        obtain ⟨b1, off1, rfl, hcc⟩ := hc (by omega)
        obtain ⟨b2, off2, rfl, hdd⟩ := hd (by omega)
        have hx := hcc k hlt
        have hy := hdd k hlt2
        have HT := Lib.hid (ham_take xs ys k hlt hlt2)
        have hx01 := valid_bit HX.out k hlt
        have hy01 := valid_bit HY.out k hlt2
        have hxor := xor_bits hx01 hy01
        have hxb := xorB_le xs[k] ys[k]
        have hwr := IntWalk.i64_in (ham (xs.take k) (ys.take k) + xorB xs[k] ys[k]) (by omega)
        clear hx01 hy01
        go_wp2
        go_quiet (fail)
        go_wp2
        go_roundw
        case rel => exact ⟨k + 1, _, by omega, by go_num, by rw [HT.out], (by first | rfl | exact World.drewN_drewN ..)⟩
        case measure => simp [intOf]; omega
      · obtain rfl : k = xs.length := by omega
        have HE := Lib.hid (show ham (xs.take xs.length) (ys.take xs.length) = hamD xs ys by rw [hamD, HS.out, List.take_length, HN.out, List.take_length]; rfl)
        go_wp2
        go_ret
        exact ⟨ret_int (by simpa using HE.out), (by first | exact Quiet.same _ | exact Quiet.n _ _ | exact Quiet.nn _ _ _ | assumption)⟩


theorem own_nil (B : Nat) (w : World) : OwnI B w (.slice none 0 0) [] := World.ownsRow_nil _ _ _ _
theorem addL_step (xs ys : List Int) (k n : Nat) (hn : n = xs.length) (h : k < n) (hx : k < xs.length) (hy : k < ys.length) (hm : xs.length = ys.length) :
    ((List.zipWith xorB xs ys).take k ++ List.replicate (n - k) 0).set k (xorB xs[k] ys[k]) = (List.zipWith xorB xs ys).take (k + 1) ++ List.replicate (n - (k + 1)) 0 := by
  have e := copy_step (List.zipWith xorB xs ys) k n (by simp; omega) h
  rw [← e]
  congr 1
  simp [List.getD, List.getElem?_zipWith, hx, hy]


end Go.Proofs.YtpfbmfnfcppjeabDoor
