/-
  Walks of laws. Written by a program (laws_bytes.py).
-/
import Derived.Test.YtjlocicelnndhaaBytesM
namespace Go.Proofs.Ytjlocicelnndhaa
open Go.RowKit
set_option maxHeartbeats 1000000 in
set_option linter.unusedVariables false in
theorem walk_FnBytesOfBits (w : World) (v0 : Value) (z0 : List Int) (ra0 : RowK .u8 w v0 z0) (hw0 : ∀ n ∈ z0, (Lit.int .u8 n).wf = true) :
    Calls Try.prog 13 #[v0] w fun e w' => e = .returned (.bool true) ∧ Below w.heap.size w w' := by
  obtain ⟨aa0, cc0, rfl⟩ := ra0.form
  by_cases hlen0 : 1048576 < z0.length
  · go_enter Try.func13, Try.ntmps13
    go_wp2
    go_ret
    exact ⟨rfl, Below.refl _ _⟩
  have HB : Hid (Below w.heap.size w w) := Below.refl _ _
  go_enter Try.func13, Try.ntmps13
  go_wp2_with fail
  refine (DrawBytesOfBits_any _ _ _ (ra0.belowAll HB.out) hw0).mono ?_
  rintro e w1 ⟨r1, xs, rfl, ho1, hl1, hbel⟩
  have s1 : w.heap.size ≤ w1.heap.size := hbel.size
  have HB1 := Lib.hid (below_step HB.out hbel)
  have HE := Lib.hid hbel
  clear hbel
  clear HB HE
  have HB := HB1
  clear HB1
  have O1 := ho1
  have lt2 := ho1.lt
  clear ho1
  go_wp2_with fail
  refine (BytesOfBits_any xs _ _ (row_of_own O1)).mono ?_
  rintro e w2 ⟨r3, rfl, hown, hbel⟩
  have s2 : w1.heap.size ≤ w2.heap.size := hbel.size
  have HB2 := Lib.hid (below_step HB.out hbel)
  have HE := Lib.hid hbel
  clear hbel
  have O4 := O1.belowAll HE.out
  clear O1
  clear HB HE
  have HB := HB2
  clear HB2
  have O5 := hown
  have lt6 := hown.lt
  clear hown
  go_wp2_with fail
  refine (specBytesOfBits_any xs _ _ (row_of_own O4)).mono ?_
  rintro e w3 ⟨r7, rfl, hown, hbel⟩
  have s3 : w2.heap.size ≤ w3.heap.size := hbel.size
  have HB3 := Lib.hid (below_step HB.out hbel)
  have HE := Lib.hid hbel
  clear hbel
  have O8 := O4.belowAll HE.out
  clear O4
  have O9 := O5.belowAll HE.out
  clear O5
  clear HB HE
  have HB := HB3
  clear HB3
  have O10 := hown
  have lt11 := hown.lt
  clear hown
  have hs1 := conv_bytes (row_of_own O9)
  have hs2 := conv_bytes (row_of_own O10)
  have t1 : (bytesV xs != bytesV xs) = false := by simp
  cases hv : bytesV xs
  · have HE2 := Lib.hid (show bytesOf xs = [] by simp [bytesOf, hv])
    obtain ⟨ac, cc, hvc⟩ := (row_of_own O9).form
    rw [HE2.out] at hvc
    simp only [List.length_nil] at hvc
    subst hvc
    go_wp2_with fail
    refine (alive_any _).mono ?_
    rintro e w4 ⟨rfl, hbel⟩
    have s4 : w3.heap.size ≤ w4.heap.size := hbel.size
    have HB4 := Lib.hid (below_step HB.out hbel)
    have HE := Lib.hid hbel
    clear hbel
    have O12 := O8.belowAll HE.out
    clear O8
    have O13 := O9.belowAll HE.out
    clear O9
    have O14 := O10.belowAll HE.out
    clear O10
    clear HB HE
    have HB := HB4
    clear HB4
    go_wp2
    go_ret
    exact ⟨rfl, HB.out⟩
  · obtain ⟨n, hn1⟩ : ∃ k, k = (xs).length := ⟨_, rfl⟩
    obtain ⟨a1, c1, hv1⟩ := (row_of_own O8).form
    rw [← hn1] at hv1
    subst hv1
    have HN1 := Lib.hid hn1.symm
    clear hn1
    have hl2 : xs.length ≤ 1025 := hl1
    have hmt := nilSlice w3.heap.size w3 (Nat.le_refl _)
    have hrow := row_of_own (O8.belowAll ((Below.refl _ w3).alloc (Nat.le_refl _) (.cells #[] 3)))
    have HM := Lib.hid (bytesV_more hv 0)
    have HV := Lib.hid hv
    clear hl1 hv
    go_wp2_with (first | (at_builtin; refine wp_apps tabI _ rfl (.tmp 44) (.tmp 45) rfl w3.heap.size _ _ [] xs rfl rfl hmt hrow (by simp; omega) (by simp) ?_; intro vp wp1 hown3 hg3' hn3; simp only [List.nil_append] at hown3) | (at_builtin; refine wp_app1 tabI wp1 _ 0 rfl rfl rfl rfl rfl (.tmp 46) (.tmp 47) rfl w3.heap.size vp xs rfl 1 rfl hown3 (by omega) (by have := hg3'.size; simp at this; omega) ?_; intro vq wp2 hown4 hg4 hn4))
    have hg3 : (w3.alloc (.cells #[] 3)).grownBy wp1 (some w3.heap.size) := hg3'
    have hb3 : Below w3.heap.size w3 wp1 := ((Below.refl _ w3).alloc (Nat.le_refl _) _).grown hg3 (by simp) (fun k e => by cases e; exact Nat.le_refl _)
    have HBa := Lib.hid (below_step HB.out hb3)
    have hb4 : Below w3.heap.size w3 wp2 := hb3.trans (below_of_row hg4 hb3.size (fun k e => (hown3.lt k e).1))
    have Oa := O8.belowAll hb4
    have Od := O9.belowAll hb4
    have HBb := Lib.hid (below_step HB.out hb4)
    clear hg4 hn4 hg3 hg3' hb3 hb4 hn3 hmt hrow hown3 HBa
    go_wp2_with fail
    refine (BytesOfBits_any (xs ++ [0]) _ _ (row_of_own hown4)).mono ?_
    rintro e wp3 ⟨vr, rfl, hown5, hb5⟩
    have HBc := Lib.hid (below_step HBb.out hb5)
    have Oa2 := Oa.belowAll hb5
    have Od2 := Od.belowAll hb5
    have e5 := HM.out
    clear hb5 hown5 hown4 HBb Oa Od
    go_wp2_with fail
    refine (BitsOfBytes_any (bytesOf xs) _ _ (row_of_own Od2) (byt_bytesOf xs)).mono ?_
    rintro e wp4 ⟨vs, rfl, hown6, hb6⟩
    have HBd := Lib.hid (below_step HBc.out hb6)
    have Oa3 := Oa2.belowAll hb6
    clear hb6
    rw [bits_back HV.out] at hown6
    go_wp2_with fail
    refine (sameInts_any xs xs _ _ _ (row_of_own hown6) (row_of_own Oa3)).mono ?_
    rintro e wp5 ⟨rfl, hq⟩
    have HQ := Lib.hid hq
    clear hq
    have t6 : (xs == xs) = true := by simp
    go_wp2
    go_ret
    exact ⟨rfl, below_quiet HBd.out HQ.out⟩
end Go.Proofs.Ytjlocicelnndhaa
