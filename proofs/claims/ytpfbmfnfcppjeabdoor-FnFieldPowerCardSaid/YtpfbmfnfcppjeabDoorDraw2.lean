/-
  The drawn lists of bits, and the fixed answer.
-/
import Derived.Test.YtpfbmfnfcppjeabDoorDraw
import Derived.Test.YtpfbmfnfcppjeabDoorHam
namespace Go.Proofs.YtpfbmfnfcppjeabDoor
open Go.RowKit

theorem own_form_pos {e : Nat} {k : IntKind} {B : Nat} {w : World} {a : Option Addr} {n cap : Nat} {zs : List Int} (h : OwnK e k B w (.slice a n cap) zs) (hp : 0 < zs.length) : ∃ g, a = some ⟨g, 0, none⟩ := by
  rcases h.form with ⟨_, h0⟩ | ⟨g, c, e, _⟩
  · subst h0; simp at hp
  · cases e; exact ⟨g, rfl⟩

/-- Behind an opened code: all that was there is as it was. -/
theorem below_open {w w1 w2 : World} (h1 : Below w.heap.size w w1) (h2 : w1.grownBy w2 (some w.heap.size)) : Below w.heap.size w w2 :=
  h1.trans (below_of_row h2 h1.size (fun k e => by cases e; exact Nat.le_refl _))

set_option maxHeartbeats 400000 in
theorem alive_any (w : World) : Calls Tryd.prog 7 #[] w fun e w' => e = .returned (.bool true) ∧ Below w.heap.size w w' := by
  have h1 : RowK .i64 ((w.alloc (.cells #[.int .i64 1] 3)).alloc (.cells #[.int .i64 0] 3)) (.slice (some ⟨w.heap.size, 0, none⟩) 1 1) [1] :=
    ⟨_, 1, rfl, (fun h => by cases h), by simp, by decide, fun _ => ⟨_, 0, rfl, fun i hi => by
      have : i = 0 := by simp at hi; omega
      subst this
      rw [World.cell?_alloc_past _ _ _ (by simp), World.cell?_alloc_at _ _ _ _ rfl]; rfl⟩⟩
  have h2 : RowK .i64 ((w.alloc (.cells #[.int .i64 1] 3)).alloc (.cells #[.int .i64 0] 3)) (.slice (some ⟨w.heap.size + 1, 0, none⟩) 1 1) [0] :=
    ⟨_, 1, rfl, (fun h => by cases h), by simp, by decide, fun _ => ⟨_, 0, rfl, fun i hi => by
      have : i = 0 := by simp at hi; omega
      subst this
      rw [World.cell?_alloc_at _ _ _ _ (by simp)]; rfl⟩⟩
  have HB := Lib.hid (((Below.refl w.heap.size w).alloc (Nat.le_refl _) (.cells #[.int .i64 1] 3)).alloc (by simp) (.cells #[.int .i64 0] 3))
  have hd : hamD [1] [0] = 1 := by decide
  go_enter Tryd.func7, Tryd.ntmps7
  go_wp2_with (go_at_call 15; refine (HammingDistance_any _ _ _ _ _ h1 h2).mono ?_; rintro e w' ⟨rfl, hq⟩)
  go_ret
  exact ⟨rfl, HB.out.trans (hq.below _)⟩
end Go.Proofs.YtpfbmfnfcppjeabDoor
