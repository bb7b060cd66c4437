/-
  The drawn elements and polynomials.
-/
import Derived.Test.YtpfbmfnfcppjeabDoorDraw2
namespace Go.Proofs.YtpfbmfnfcppjeabDoor
open Go.RowKit

set_option maxHeartbeats 800000 in
theorem l20Element_any (n : Int) (S B m : Nat) (w : World) (h : Rd w S B m) (hm : m ≤ 100000) (hn : 1 ≤ n) (hn2 : n ≤ 1000) :
    Calls Tryd.prog 10 #[.pointer (some ⟨B, 0, none⟩), .int .i64 n] w fun e w' => ∃ r : Int, e = .returned (.int .i64 r) ∧ -1 ≤ r ∧ r ≤ 16 ∧ Rd w' S B (m + 2) ∧ w.grownBy w' (some B) := by
  go_enter Tryd.func10, Tryd.ntmps10
  go_wp2_with fail
  refine (odd_any _ _ _ _ _ h (by omega) (by omega) (by omega)).mono ?_
  rintro e w1 ⟨t, rfl, hr1, hg1⟩
  clear h
  cases t
  · go_wp2_with fail
    refine (pick_any _ _ _ _ _ hr1 (by omega) (by omega) (by omega)).mono ?_
    rintro e w2 ⟨r, rfl, h0, h1, hr2, hg2⟩
    go_wp2_with fail
    go_ret
    exact ⟨r, rfl, by omega, by omega, hr2, grown_trans hg1 hg2⟩
  · have hr2 := hr1.below ((Below.refl _ w1).alloc (Nat.le_refl _) (.cells #[.int .i64 (-1), .int .i64 16] 3))
    have HG2 := Lib.hid (grown_trans hg1 (World.grownBy_alloc w1 (.cells #[.int .i64 (-1), .int .i64 16] 3) (some B)))
    have hc0 : (w1.alloc (.cells #[.int .i64 (-1), .int .i64 16] 3)).cell? ⟨w1.heap.size, 0, none⟩ = some (.int .i64 (-1)) := by rw [World.cell?_alloc_at _ _ _ _ rfl]; rfl
    have hc1 : (w1.alloc (.cells #[.int .i64 (-1), .int .i64 16] 3)).cell? ⟨w1.heap.size, 1, none⟩ = some (.int .i64 16) := by rw [World.cell?_alloc_at _ _ _ _ rfl]; rfl
    have hlt : B < w1.heap.size := hr1.lt
    clear hr1 hg1
    go_wp2_with fail
    refine (pick_any _ _ _ _ _ hr2 (by omega) (by omega) (by omega)).mono ?_
    rintro e w3 ⟨r, rfl, h0, h1, hr3, hg3⟩
    have hc0' := hg3.cell hc0 (by simp; omega)
    have hc1' := hg3.cell hc1 (by simp; omega)
    have HG3 := Lib.hid (grown_trans HG2.out hg3)
    clear hg3 hc0 hc1 hr2
    have hr : r = 0 ∨ r = 1 := by omega
    rcases hr with rfl | rfl
    · go_wp2_with fail
      go_ret
      exact ⟨-1, rfl, by omega, by omega, hr3, HG3.out⟩
    · go_wp2_with fail
      go_ret
      exact ⟨16, rfl, by omega, by omega, hr3, HG3.out⟩
end Go.Proofs.YtpfbmfnfcppjeabDoor
