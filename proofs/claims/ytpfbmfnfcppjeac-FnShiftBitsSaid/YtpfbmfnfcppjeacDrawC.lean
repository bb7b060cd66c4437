/-
  The drawn generator polynomials and the lists that go with them.
-/
import Derived.Test.YtpfbmfnfcppjeacDraw2
import Derived.Test.YtpfbmfnfcppjeacChk9
namespace Go.Proofs.Ytpfbmfnfcppjeac
open Go.RowKit

theorem wf_small {g : Int} (h0 : -1000000 ≤ g) (h1 : g ≤ 1000000) : (Lit.int .i64 g).wf = true := by
  simp [Lit.wf, IntKind.min, IntKind.max, IntKind.signed, IntKind.bits]; omega
def genA : List Int := [0, 1, 2, 131072, 131073, -3]
def genC (x : Int) : List Int := [3, 7, 11, 19, 25, 37, 263, 69665, 65537, x]
theorem genA_at (w : World) : ∀ i, i < 6 → (w.alloc (.cells #[.int .i64 0, .int .i64 1, .int .i64 2, .int .i64 131072, .int .i64 131073, .int .i64 (-3)] 3)).cell? ⟨w.heap.size, i, none⟩ = some (.int .i64 (genA.getD i 0)) := by
  intro i hi
  rw [World.cell?_alloc_at _ _ _ _ rfl]
  match i, hi with
  | 0, _ => rfl
  | 1, _ => rfl
  | 2, _ => rfl
  | 3, _ => rfl
  | 4, _ => rfl
  | 5, _ => rfl
theorem genC_at (w : World) (x : Int) : ∀ i, i < 10 → (w.alloc (.cells #[.int .i64 3, .int .i64 7, .int .i64 11, .int .i64 19, .int .i64 25, .int .i64 37, .int .i64 263, .int .i64 69665, .int .i64 65537, .int .i64 x] 3)).cell? ⟨w.heap.size, i, none⟩ = some (.int .i64 ((genC x).getD i 0)) := by
  intro i hi
  rw [World.cell?_alloc_at _ _ _ _ rfl]
  match i, hi with
  | 0, _ => rfl
  | 1, _ => rfl
  | 2, _ => rfl
  | 3, _ => rfl
  | 4, _ => rfl
  | 5, _ => rfl
  | 6, _ => rfl
  | 7, _ => rfl
  | 8, _ => rfl
  | 9, _ => rfl
theorem genA_le : ∀ i, i < 6 → -1000 ≤ genA.getD i 0 ∧ genA.getD i 0 ≤ 200000 := by decide
theorem genC_le (x : Int) (h0 : 0 ≤ x) (h1 : x ≤ 1000) : ∀ i, i < 10 → -1000 ≤ (genC x).getD i 0 ∧ (genC x).getD i 0 ≤ 200000 := by
  intro i hi
  match i, hi with
  | 0, _ => show -1000 ≤ (3 : Int) ∧ (3 : Int) ≤ 200000; omega
  | 1, _ => show -1000 ≤ (7 : Int) ∧ (7 : Int) ≤ 200000; omega
  | 2, _ => show -1000 ≤ (11 : Int) ∧ (11 : Int) ≤ 200000; omega
  | 3, _ => show -1000 ≤ (19 : Int) ∧ (19 : Int) ≤ 200000; omega
  | 4, _ => show -1000 ≤ (25 : Int) ∧ (25 : Int) ≤ 200000; omega
  | 5, _ => show -1000 ≤ (37 : Int) ∧ (37 : Int) ≤ 200000; omega
  | 6, _ => show -1000 ≤ (263 : Int) ∧ (263 : Int) ≤ 200000; omega
  | 7, _ => show -1000 ≤ (69665 : Int) ∧ (69665 : Int) ≤ 200000; omega
  | 8, _ => show -1000 ≤ (65537 : Int) ∧ (65537 : Int) ≤ 200000; omega
  | 9, _ => show -1000 ≤ x ∧ x ≤ 200000; omega
set_option maxHeartbeats 800000 in
theorem l20Generator_any (n : Int) (S B m : Nat) (w : World) (h : Rd w S B m) (hm : m ≤ 100000) (hn : 0 ≤ n) (hn2 : n ≤ 1000) :
    Calls Try.prog 21 #[.pointer (some ⟨B, 0, none⟩), .int .i64 n] w fun e w' => ∃ r : Int, e = .returned (.int .i64 r) ∧ -1000 ≤ r ∧ r ≤ 200000 ∧ Rd w' S B (m + 4) ∧ w.grownBy w' (some B) := by
  go_enter Try.func21, Try.ntmps21
  go_wp2_with fail
  refine (odd_any _ _ _ _ _ h (by omega) (by omega) (by omega)).mono ?_
  rintro e w1 ⟨t, rfl, hr1, hg1⟩
  clear h
  cases t
  · go_wp2_with fail
    refine (pick_any _ _ _ _ _ hr1 (by omega) (by omega) (by omega)).mono ?_
    rintro e w2 ⟨x, rfl, h0, h1, hr2, hg2⟩
    have hr3 := hr2.below ((Below.refl _ w2).alloc (Nat.le_refl _) (.cells #[.int .i64 3, .int .i64 7, .int .i64 11, .int .i64 19, .int .i64 25, .int .i64 37, .int .i64 263, .int .i64 69665, .int .i64 65537, .int .i64 (2 * x + 3)] 3))
    have HG3 := Lib.hid (grown_trans (grown_trans hg1 hg2) (World.grownBy_alloc w2 (.cells #[.int .i64 3, .int .i64 7, .int .i64 11, .int .i64 19, .int .i64 25, .int .i64 37, .int .i64 263, .int .i64 69665, .int .i64 65537, .int .i64 (2 * x + 3)] 3) (some B)))
    have HC := Lib.hid (genC_at w2 (2 * x + 3))
    have HL := Lib.hid (genC_le (2 * x + 3) (by omega) (by omega))
    have hlt : B < w2.heap.size := hr2.lt
    clear hr1 hr2 hg1 hg2
    go_wp2_with fail
    refine (pick_any _ _ _ _ _ hr3 (by omega) (by omega) (by omega)).mono ?_
    rintro e w4 ⟨r, rfl, h2, h3, hr4, hg4⟩
    obtain ⟨r, rfl⟩ := Int.eq_ofNat_of_zero_le h2
    have hr10 : r < 10 := by omega
    obtain ⟨y, ey⟩ : ∃ y, y = (genC (2 * x + 3)).getD r 0 := ⟨_, rfl⟩
    have hle := HL.out r hr10
    have hc := hg4.cell (HC.out r hr10) (by simp; omega)
    rw [← ey] at hle hc
    have HG4 := Lib.hid (grown_trans HG3.out hg4)
    clear hg4 hr3 ey
    go_wp2_with fail
    go_ret
    exact ⟨y, rfl, hle.1, hle.2, hr4.more (by omega), HG4.out⟩
  · have hr3 := hr1.below ((Below.refl _ w1).alloc (Nat.le_refl _) (.cells #[.int .i64 0, .int .i64 1, .int .i64 2, .int .i64 131072, .int .i64 131073, .int .i64 (-3)] 3))
    have HG3 := Lib.hid (grown_trans hg1 (World.grownBy_alloc w1 (.cells #[.int .i64 0, .int .i64 1, .int .i64 2, .int .i64 131072, .int .i64 131073, .int .i64 (-3)] 3) (some B)))
    have HC := Lib.hid (genA_at w1)
    have hlt : B < w1.heap.size := hr1.lt
    clear hr1 hg1
    go_wp2_with fail
    refine (pick_any _ _ _ _ _ hr3 (by omega) (by omega) (by omega)).mono ?_
    rintro e w4 ⟨r, rfl, h2, h3, hr4, hg4⟩
    obtain ⟨r, rfl⟩ := Int.eq_ofNat_of_zero_le h2
    have hr6 : r < 6 := by omega
    obtain ⟨y, ey⟩ : ∃ y, y = genA.getD r 0 := ⟨_, rfl⟩
    have hle := genA_le r hr6
    have hc := hg4.cell (HC.out r hr6) (by simp; omega)
    rw [← ey] at hle hc
    have HG4 := Lib.hid (grown_trans HG3.out hg4)
    clear hg4 hr3 ey
    go_wp2_with fail
    go_ret
    exact ⟨y, rfl, hle.1, hle.2, hr4.more (by omega), HG4.out⟩
end Go.Proofs.Ytpfbmfnfcppjeac
