/-
  Scrambling, by the program and by the reference.
-/
import Derived.Test.YtelaceakilhpcaaShB
import Derived.Test.YtelaceakilhpcaaHam
namespace Go.Proofs.Ytelaceakilhpcaa
open Go.RowKit
theorem scrL_len (bs : List Int) (t s : Int) : (scrL bs t s).length ≤ 1024 := addL_len _ _
set_option maxHeartbeats 400000 in
theorem ScrambleBits_any (zs : List Int) (t s : Int) (v : Value) (w : World) (hrow : RowK .i64 w v zs) (hwf : (Lit.int .i64 t).wf = true) :
    Calls Try.prog 29 #[v, .int .i64 t, .int .i64 s] w fun e w' => ∃ r, e = .returned r ∧ OwnI w.heap.size w' r (scrL zs t s) ∧ Below w.heap.size w w' := by
  have HR := Lib.hid hrow
  obtain ⟨a, cap, hv⟩ := hrow.form
  have HV := Lib.hid hv
  obtain ⟨n, hn⟩ : ∃ n, n = zs.length := ⟨_, rfl⟩
  have HS := Lib.hid (show scrL zs t s = addL zs (shiftL t s n) by rw [hn]; rfl)
  rw [← hn] at hv
  subst hv
  clear hn hrow
  go_enter Try.func29, Try.ntmps29
  go_wp2_with fail
  refine (ShiftBits_any t s n _ hwf).mono ?_
  rintro e w1 ⟨r, rfl, ho, hb⟩
  have hsz := hb.size
  have hr1 := HR.out.belowAll hb
  have HB := Lib.hid hb
  clear hb
  go_wp2_with fail
  refine (AddBits_any zs (shiftL t s n) _ _ _ hr1 (row_of_own ho)).mono ?_
  rintro e w2 ⟨r2, rfl, ho2, hb2⟩
  have HB2 := Lib.hid (below_step HB.out hb2)
  clear hb2 ho hr1
  go_wp2
  go_ret
  exact ⟨r2, rfl, by rw [HS.out]; exact ho2.mono hsz, HB2.out⟩
set_option maxHeartbeats 400000 in
theorem specScrambleBits_any (zs : List Int) (t s : Int) (v : Value) (w : World) (hrow : RowK .i64 w v zs) :
    Calls Try.prog 27 #[v, .int .i64 t, .int .i64 s] w fun e w' => ∃ r, e = .returned r ∧ OwnI w.heap.size w' r (scrL zs t s) ∧ Below w.heap.size w w' := by
  have HR := Lib.hid hrow
  have HN := Lib.hid (fun h => scr_neg (bs := zs) (t := t) (s := s) h)
  have hm0 : OwnI w.heap.size (w.alloc (.cells #[] 3)) (.slice (some ⟨w.heap.size, 0, none⟩) 0 0) [] := World.ownsRow_made w #[] 0 (Nat.le_refl _) (by decide) rfl
  have hb0 : Below w.heap.size w (w.alloc (.cells #[] 3)) := (Below.refl _ w).alloc (Nat.le_refl _) _
  obtain ⟨a, cap, hv⟩ := hrow.form
  obtain ⟨n, hn⟩ : ∃ n, n = zs.length := ⟨_, rfl⟩
  have HS := Lib.hid (show scrL zs t s = addL zs (shiftL t s n) by rw [hn]; rfl)
  rw [← hn] at hv
  subst hv
  clear hn hrow
  cases h1 : validB zs
  · have HE := Lib.hid (HN.out (by rw [h1]; rfl))
    go_enter Try.func27, Try.ntmps27
    go_wp2_with (go_at_call 46; refine (specBitsValid_any _ _ _ HR.out).mono ?_; rintro e w' ⟨rfl, rfl⟩)
    go_ret
    exact ⟨_, rfl, by rw [HE.out]; exact hm0, hb0⟩
  · cases h2 : regB t s
    · have HE := Lib.hid (HN.out (by rw [h1, h2]; rfl))
      go_enter Try.func27, Try.ntmps27
      go_wp2_with (first | (go_at_call 46; refine (specBitsValid_any _ _ _ HR.out).mono ?_; rintro e w' ⟨rfl, rfl⟩) | (go_at_call 35; refine (l3Ok_any _ _ _).mono ?_; rw [h2]; rintro e w' ⟨rfl, rfl⟩))
      go_ret
      exact ⟨_, rfl, by rw [HE.out]; exact hm0, hb0⟩
    · clear hm0 hb0
      go_enter Try.func27, Try.ntmps27
      go_wp2_with (first | (go_at_call 46; refine (specBitsValid_any _ _ _ HR.out).mono ?_; rintro e w' ⟨rfl, rfl⟩) | (go_at_call 35; refine (l3Ok_any _ _ _).mono ?_; rw [h2]; rintro e w' ⟨rfl, rfl⟩))
      refine (specShiftBits_any t s n _).mono ?_
      rintro e w1 ⟨r, rfl, ho, hb⟩
      have hsz := hb.size
      have hr1 := HR.out.belowAll hb
      have HB := Lib.hid hb
      clear hb
      go_wp2_with fail
      refine (specAddBits_any zs (shiftL t s n) _ _ _ hr1 (row_of_own ho)).mono ?_
      rintro e w2 ⟨r2, rfl, ho2, hb2⟩
      have HB2 := Lib.hid (below_step HB.out hb2)
      clear hb2 ho hr1
      go_wp2
      go_ret
      exact ⟨r2, rfl, by rw [HS.out]; exact ho2.mono hsz, HB2.out⟩
end Go.Proofs.Ytelaceakilhpcaa
