/-
  Walks of laws. Written by a program (laws_check3.py).
-/
import Derived.Test.YtlidppncongfjaaDrawD
import Derived.Test.YtlidppncongfjaaHamM
namespace Go.Proofs.Ytlidppncongfjaa
open Go.RowKit
set_option maxHeartbeats 1000000 in
set_option linter.unusedVariables false in
theorem walk_FnCheckPasses (w : World) (v0 : Value) (z0 : List Int) (ra0 : RowK .u8 w v0 z0) (hw0 : ∀ n ∈ z0, (Lit.int .u8 n).wf = true) :
    Calls Try.prog 4 #[v0] w fun e w' => e = .returned (.bool true) ∧ Below w.heap.size w w' := by
  obtain ⟨aa0, cc0, rfl⟩ := ra0.form
  by_cases hlen0 : 1048576 < z0.length
  · go_enter Try.func4, Try.ntmps4
    go_wp2
    go_ret
    exact ⟨rfl, Below.refl _ _⟩
  have HB : Hid (Below w.heap.size w w) := Below.refl _ _
  go_enter Try.func4, Try.ntmps4
  go_wp2_with fail
  refine (DrawCheckPasses_any _ _ _ (ra0.belowAll HB.out) hw0).mono ?_
  rintro e w1 ⟨r1, xs, g, rfl, ho1, hl1, hg0, hg1, hbel⟩
  have s1 : w.heap.size ≤ w1.heap.size := hbel.size
  have HB1 := Lib.hid (below_step HB.out hbel)
  have HE := Lib.hid hbel
  clear hbel
  clear HB HE
  have HB := HB1
  clear HB1
  have O1 := ho1
  have lt2 := ho1.lt
  clear ho1
  have hwf : (Lit.int .i64 g).wf = true := wf_small (by omega) (by omega)
  go_wp2_with fail
  refine (CheckPasses_any xs g _ _ (row_of_own O1) hwf).mono ?_
  rintro e w2 ⟨rfl, hbel⟩
  have s2 : w1.heap.size ≤ w2.heap.size := hbel.size
  have HB2 := Lib.hid (below_step HB.out hbel)
  have HE := Lib.hid hbel
  clear hbel
  have O3 := O1.belowAll HE.out
  clear O1
  clear HB HE
  have HB := HB2
  clear HB2
  go_wp2_with fail
  refine (specCheckPasses_any xs g _ _ (row_of_own O3)).mono ?_
  rintro e wx ⟨rfl, rfl⟩
  have t1 : (passB xs g != passB xs g) = false := by simp
  obtain ⟨n, hn1⟩ : ∃ k, k = (xs).length := ⟨_, rfl⟩
  obtain ⟨a1, c1, hv1⟩ := (row_of_own O3).form
  rw [← hn1] at hv1
  subst hv1
  have HN1 := Lib.hid hn1.symm
  clear hn1
  have hnn : n ≤ 1100 := by have := HN1.out; omega
  cases hs : genB g
  · have hD := Lib.hid (show degI g = -1 by simp [degI, hs])
    have hf : passB xs g = false := by simp [passB, hs]
    go_wp2_with fail
    refine (DegreeOf_any g _ hwf).mono ?_
    rw [hD.out]
    rintro e wx ⟨rfl, rfl⟩
    go_wp2_with fail
    refine (alive_any _).mono ?_
    rintro e w3 ⟨rfl, hbel⟩
    have s3 : w2.heap.size ≤ w3.heap.size := hbel.size
    have HB3 := Lib.hid (below_step HB.out hbel)
    have HE := Lib.hid hbel
    clear hbel
    have O4 := O3.belowAll HE.out
    clear O3
    clear HB HE
    have HB := HB3
    clear HB3
    go_wp2
    go_ret
    exact ⟨rfl, HB.out⟩
  · have hb := deg_bounds hs
    have hD := Lib.hid (show degI g = (degN g : Int) by simp [degI, hs])
    have HZ := Lib.hid (pass_zeros hs)
    have HPL := Lib.hid (fun (h1 : validB xs = true) (hl : degN g ≤ xs.length) => passB_split h1 hs hl)
    have HPS := Lib.hid (show ¬ degN g ≤ xs.length → passB xs g = false from fun h => by simp [passB, h])
    obtain ⟨d, ed⟩ : ∃ d, d = degN g := ⟨_, rfl⟩
    rw [← ed] at hb hD HZ HPL HPS
    clear ed
    obtain ⟨_, _, hb3, hb4⟩ := hb
    go_wp2_with fail
    refine (DegreeOf_any g _ hwf).mono ?_
    rw [hD.out]
    rintro e wx ⟨rfl, rfl⟩
    go_wp2_with fail
    refine (isBits_any xs _ _ (row_of_own O3)).mono ?_
    rintro e w3 ⟨rfl, hq⟩
    have HQ := Lib.hid hq
    clear hq
    have s3 : w2.heap.size ≤ w3.heap.size := (HQ.out.below 0).size
    have HB3 := Lib.hid (below_quiet HB.out HQ.out)
    have O4 := O3.quiet HQ.out
    clear O3
    clear HB HQ
    have HB := HB3
    clear HB3
    cases hv : validB xs
    · have hf : passB xs g = false := by simp [passB, hv]
      go_wp2_with fail
      refine (alive_any _).mono ?_
      rintro e w4 ⟨rfl, hbel⟩
      have s4 : w3.heap.size ≤ w4.heap.size := hbel.size
      have HB4 := Lib.hid (below_step HB.out hbel)
      have HE := Lib.hid hbel
      clear hbel
      have O5 := O4.belowAll HE.out
      clear O4
      clear HB HE
      have HB := HB4
      clear HB4
      go_wp2
      go_ret
      exact ⟨rfl, HB.out⟩
    · by_cases hnd : n < d
      · have hf : passB xs g = false := HPS.out (by rw [HN1.out]; omega)
        go_wp2_with fail
        refine (alive_any _).mono ?_
        rintro e w4 ⟨rfl, hbel⟩
        have s4 : w3.heap.size ≤ w4.heap.size := hbel.size
        have HB4 := Lib.hid (below_step HB.out hbel)
        have HE := Lib.hid hbel
        clear hbel
        have O5 := O4.belowAll HE.out
        clear O4
        clear HB HE
        have HB := HB4
        clear HB4
        go_wp2
        go_ret
        exact ⟨rfl, HB.out⟩
      · have hsp := HPL.out hv (by rw [HN1.out]; omega)
        rw [HN1.out] at hsp
        obtain ⟨k, hk⟩ : ∃ k, k = n - d := ⟨_, rfl⟩
        rw [← hk] at hsp
        have hkn : k ≤ n := by omega
        have hkn2 : k < n := by omega
        have hks : (n : Int) - (d : Int) = (k : Int) := by omega
        have hkd : n - k = d := by omega
        obtain ⟨g1, rfl⟩ := own_form_pos O4 (by have := HN1.out; omega)
        have hcp : n ≤ c1 := (row_of_own O4).at.2.2.1
        have hkc : k < c1 := by omega
        have hrA := (row_of_own O4).pre k hkn
        have hrB := (row_of_own O4).mid k (n - k) (by omega)
        rw [Nat.zero_add] at hrB
        rw [List.take_of_length_le (by have := HN1.out; rw [List.length_drop]; omega)] at hrB
        have HSM : Hid (∀ v u W, RowK .i64 W v (chkL (xs.take k) g) → RowK .i64 W u (xs.drop k) → Calls Try.prog 25 #[v, u] W fun e w' => e = .returned (.bool (passB xs g)) ∧ Quiet W w') := by
          intro v u W h1 h2; rw [hsp]; exact sameInts_any _ _ v u W h1 h2
        have hz := HZ.out
        have hd16 : d ≤ 1000000000 := by omega
        have HBR : Below w3.heap.size w3 w3.drew := (show Quiet w3 w3.drew from ⟨1, rfl⟩).below _
        clear hsp hv hs hnd hk hkd
        go_wp2_with fail
        go_region_with (first
          | (go_at_call 26; refine (CheckBits_any (xs.take k) g _ _ (hrA.belowAll HBR) hwf).mono ?_; rintro e wa ⟨ra, rfl, hX, hbx⟩; have HBR := below_step HBR hbx; clear hbx)
          | (go_at_call 25; refine (HSM.out _ _ _ (row_of_own hX) (hrB.belowAll HBR)).mono ?_; rintro e wa ⟨rfl, hbx⟩; (try have hM := hM.quiet hbx); have HBR := below_quiet HBR hbx; clear hbx hX)
          | (with_reducible refine upon_make tabI _ d hd16 ?_; intro wa hM hbx hsx; (try have hX := hX.belowAll hbx); have HBR := below_step HBR hbx; clear hbx)
          | (go_at_call 20; refine (CheckPasses_any (List.replicate d 0) g _ _ (row_of_own hM) hwf).mono ?_; rintro e wa ⟨rfl, hbx⟩; have HBR := below_step HBR hbx; clear hbx))
        all_goals (go_wp2; go_ret; exact ⟨rfl, below_step HB.out HBR⟩)
end Go.Proofs.Ytlidppncongfjaa
