/-
  Walks of the laws over drawn lists of bits: each returns true at every input and leaves what was there as it was.
-/
import Derived.Test.YtjlocicelnndhaaDraw2
import Derived.Test.YtjlocicelnndhaaHamM
namespace Go.Proofs.Ytjlocicelnndhaa
open Go.RowKit

theorem valid_take {xs : List Int} (h : validB xs = true) (n : Nat) : validB (xs.take n) = true := by
  simp only [validB, Bool.and_eq_true, decide_eq_true_eq, List.all_eq_true] at h ⊢
  exact ⟨by have := List.length_take_le n xs; simp; omega, fun x hx => h.2 x (List.mem_of_mem_take hx)⟩
theorem valid_two (xs : List Int) : validB (xs ++ [2]) = false := by
  simp [validB, bitB]
theorem nilSlice (B : Nat) (w : World) (hB : B ≤ w.heap.size) : OwnI B (w.alloc (.cells #[] 3)) (.slice (some ⟨w.heap.size, 0, none⟩) 0 0) [] := World.ownsRow_made w #[] 0 hB (by decide) rfl

set_option maxHeartbeats 1000000 in
theorem walk_FnBitsValid (w : World) (v0 : Value) (z0 : List Int) (h0 : RowK .u8 w v0 z0) (hw0 : ∀ n ∈ z0, (Lit.int .u8 n).wf = true) :
    Calls Try.prog 7 #[v0] w fun e w' => e = .returned (.bool true) ∧ Below w.heap.size w w' := by
  obtain ⟨a, cap, rfl⟩ := h0.form
  by_cases hlen : 1048576 < z0.length
  · go_enter Try.func7, Try.ntmps7
    go_wp2
    go_ret
    exact ⟨rfl, Below.refl _ _⟩
  go_enter Try.func7, Try.ntmps7
  go_wp2_with fail
  refine (DrawBitsValid_any _ _ _ h0 hw0).mono ?_
  rintro e w1 ⟨r, xs, rfl, ho, hl, hb⟩
  have HB := Lib.hid hb
  have hs1 := hb.size
  clear hb h0 hw0
  go_wp2_with fail
  refine (BitsValid_any xs _ _ (row_of_own ho)).mono ?_
  rintro e w2 ⟨rfl, rfl⟩
  go_wp2_with fail
  refine (specBitsValid_any xs _ _ (row_of_own ho)).mono ?_
  rintro e w2 ⟨rfl, rfl⟩
  have hne : (validB xs != validB xs) = false := by simp
  go_wp2_with fail
  refine (isBits_any xs _ _ (row_of_own ho)).mono ?_
  rintro e w2 ⟨rfl, hq⟩
  have heq : (validB xs == validB xs) = true := by simp
  have ho2 := ho.quiet hq
  have HB2 := Lib.hid (below_quiet HB.out hq)
  have hs2 : w.heap.size ≤ w2.heap.size := HB2.out.size
  have hrow := row_of_own (ho2.belowAll ((Below.refl _ w2).alloc (Nat.le_refl _) (.cells #[] 3)))
  have hmt := nilSlice w2.heap.size w2 (Nat.le_refl _)
  clear hq ho HB
  obtain ⟨n, hn⟩ : ∃ n, n = xs.length := ⟨_, rfl⟩
  obtain ⟨ax, cx, hvx⟩ := (row_of_own ho2).form
  rw [← hn] at hvx hl
  subst hvx
  have HN := Lib.hid hn.symm
  clear hn
  have hv2 := valid_two xs
  have hv2 := valid_two xs
  cases hv : validB xs
  · go_wp2_with (first | (at_builtin; refine wp_apps tabI _ rfl (.tmp 33) (.tmp 34) rfl w2.heap.size _ _ [] xs rfl rfl hmt hrow (by simp; have := HN.out; omega) (by simp) ?_; intro v3 w3 hown3 hg3' hn3; simp only [List.nil_append] at hown3) | (at_builtin; refine wp_app1 tabI w3 _ 2 rfl rfl rfl rfl rfl (.tmp 35) (.tmp 36) rfl w2.heap.size v3 xs rfl 1 rfl hown3 (by have := HN.out; omega) (by have := hg3'.size; simp at this; omega) ?_; intro v4 w4 hown4 hg4 hn4))
    have hg3 : (w2.alloc (.cells #[] 3)).grownBy w3 (some w2.heap.size) := hg3'
    have hb3 : Below w2.heap.size w2 w3 := ((Below.refl _ w2).alloc (Nat.le_refl _) _).grown hg3 (by simp) (fun k e => by cases e; exact Nat.le_refl _)
    have HB3 := Lib.hid (below_step HB2.out hb3)
    have HB4 := Lib.hid (below_mark HB3.out hg4 (fun k e => by have := (hown3.lt k e).1; omega))
    have hown4b : OwnI w2.heap.size w4 v4 (xs ++ [2]) := by simpa using hown4
    clear hg4 hn4 hg3 hg3' hb3 hn3 hmt hrow hown3 hown4
    go_wp2_with fail
    refine (BitsValid_any _ _ _ (row_of_own hown4b)).mono ?_
    rintro e w5 ⟨rfl, rfl⟩
    go_wp2_with fail
    refine (alive_any _).mono ?_
    rintro e w5 ⟨rfl, hb5⟩
    have HB5 := Lib.hid (below_step HB4.out hb5)
    clear hb5
    go_wp2
    go_ret
    exact ⟨rfl, HB5.out⟩
  · have hv3 := valid_take hv (n / 2)
    obtain ⟨hlen, _, hxc, _⟩ := RowK.at (row_of_own ho2)
    have hhalf := RowK.pre (row_of_own ho2) (n / 2) (by omega)
    have hncx : n / 2 ≤ cx := by omega
    clear hlen hxc
    go_wp2_with fail
    refine (BitsValid_any (xs.take (n / 2)) _ _ hhalf).mono ?_
    rintro e w' ⟨rfl, rfl⟩
    go_wp2_with (first | (at_builtin; refine wp_apps tabI _ rfl (.tmp 33) (.tmp 34) rfl w2.heap.size _ _ [] xs rfl rfl hmt hrow (by simp; have := HN.out; omega) (by simp) ?_; intro v3 w3 hown3 hg3' hn3; simp only [List.nil_append] at hown3) | (at_builtin; refine wp_app1 tabI w3 _ 2 rfl rfl rfl rfl rfl (.tmp 35) (.tmp 36) rfl w2.heap.size v3 xs rfl 1 rfl hown3 (by have := HN.out; omega) (by have := hg3'.size; simp at this; omega) ?_; intro v4 w4 hown4 hg4 hn4))
    have hg3 : (w2.alloc (.cells #[] 3)).grownBy w3 (some w2.heap.size) := hg3'
    have hb3 : Below w2.heap.size w2 w3 := ((Below.refl _ w2).alloc (Nat.le_refl _) _).grown hg3 (by simp) (fun k e => by cases e; exact Nat.le_refl _)
    have HB3 := Lib.hid (below_step HB2.out hb3)
    have HB4 := Lib.hid (below_mark HB3.out hg4 (fun k e => by have := (hown3.lt k e).1; omega))
    have hown4b : OwnI w2.heap.size w4 v4 (xs ++ [2]) := by simpa using hown4
    clear hg4 hn4 hg3 hg3' hb3 hn3 hmt hrow hown3 hown4
    go_wp2_with fail
    refine (BitsValid_any _ _ _ (row_of_own hown4b)).mono ?_
    rintro e w5 ⟨rfl, rfl⟩
    go_wp2_with fail
    refine (alive_any _).mono ?_
    rintro e w5 ⟨rfl, hb5⟩
    have HB5 := Lib.hid (below_step HB4.out hb5)
    clear hb5
    go_wp2
    go_ret
    exact ⟨rfl, HB5.out⟩
end Go.Proofs.Ytjlocicelnndhaa
