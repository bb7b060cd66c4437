/-
  Walks of the laws over lists of bits: each returns true at every input and leaves what was there as it was.
-/
import Derived.Test.YtjlocicelnndhaaMake
namespace Go.Proofs.Ytjlocicelnndhaa
open Go.RowKit

set_option maxHeartbeats 400000 in
theorem walk_FnExactBitsValid (w : World) (v0 : Value) (z0 : List Int) (h0 : RowK .i64 w v0 z0) (_hw0 : ∀ n ∈ z0, (Lit.int .i64 n).wf = true) :
    Calls Try.prog 3 #[v0] w fun e w' => e = .returned (.bool true) ∧ Below w.heap.size w w' := by
  obtain ⟨a, cap, rfl⟩ := h0.form
  by_cases hlen : 1048576 < z0.length
  · go_enter Try.func3, Try.ntmps3
    go_wp2
    go_ret
    exact ⟨rfl, Below.refl _ _⟩
  · go_enter Try.func3, Try.ntmps3
    go_wp2_with fail
    refine (toIntS_any z0 _ _ h0 (by omega)).mono ?_
    rintro e w1 ⟨c1, rfl, ho1, hb1, hs1⟩
    go_wp2_with fail
    refine (specBitsValid_any z0 _ _ (row_of_own ho1)).mono ?_
    rintro e w2 ⟨rfl, rfl⟩
    go_wp2_with fail
    have h1 := h0.belowAll hb1
    refine (toIntS_any z0 _ _ h1 (by omega)).mono ?_
    rintro e w2 ⟨c2, rfl, ho2, hb2, hs2⟩
    go_wp2_with fail
    refine (BitsValid_any z0 _ _ (row_of_own ho2)).mono ?_
    rintro e w3 ⟨rfl, rfl⟩
    have hne : (validB z0 != validB z0) = false := by simp
    go_wp2_with fail
    refine (toIntS_any z0 _ _ (h1.belowAll hb2) (by omega)).mono ?_
    rintro e w3 ⟨c3, rfl, ho3, hb3, hs3⟩
    go_wp2_with fail
    refine (eqIntS_any z0 z0 _ _ _ ((row_of_own ho2).belowAll hb3) (row_of_own ho3)).mono ?_
    rintro e w4 ⟨rfl, hq⟩
    have HQ := Lib.hid hq
    have hee : (z0 == z0) = true := by simp
    clear hq
    go_wp2
    go_ret
    exact ⟨rfl, ((hb1.trans (hb2.mono (by omega))).trans (hb3.mono (by omega))).trans (HQ.out.below _)⟩
end Go.Proofs.Ytjlocicelnndhaa
