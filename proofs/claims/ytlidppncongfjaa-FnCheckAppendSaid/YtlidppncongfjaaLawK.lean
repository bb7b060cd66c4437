/-
  Walks of laws. Written by a program (laws_check.py).
-/
import Derived.Test.YtlidppncongfjaaDrawD
import Derived.Test.YtlidppncongfjaaHamM
namespace Go.Proofs.Ytlidppncongfjaa
open Go.RowKit
set_option maxHeartbeats 1000000 in
set_option linter.unusedVariables false in
theorem walk_FnGeneratorValid (w : World) (v0 : Value) (z0 : List Int) (ra0 : RowK .u8 w v0 z0) (hw0 : ∀ n ∈ z0, (Lit.int .u8 n).wf = true) :
    Calls Try.prog 7 #[v0] w fun e w' => e = .returned (.bool true) ∧ Below w.heap.size w w' := by
  obtain ⟨aa0, cc0, rfl⟩ := ra0.form
  by_cases hlen0 : 1048576 < z0.length
  · go_enter Try.func7, Try.ntmps7
    go_wp2
    go_ret
    exact ⟨rfl, Below.refl _ _⟩
  have HB : Hid (Below w.heap.size w w) := Below.refl _ _
  go_enter Try.func7, Try.ntmps7
  go_wp2_with fail
  refine (DrawGeneratorValid_any _ _ _ (ra0.belowAll HB.out) hw0).mono ?_
  rintro e w1 ⟨g, rfl, hg0, hg1, hbel⟩
  have s1 : w.heap.size ≤ w1.heap.size := hbel.size
  have HB1 := Lib.hid (below_step HB.out hbel)
  have HE := Lib.hid hbel
  clear hbel
  clear HB HE
  have HB := HB1
  clear HB1
  have hwf : (Lit.int .i64 g).wf = true := wf_small (by omega) (by omega)
  have hwf2 : (Lit.int .i64 (g + 1)).wf = true := wf_small (by omega) (by omega)
  go_wp2_with fail
  refine (GeneratorValid_any g _ hwf).mono ?_
  rintro e wx ⟨rfl, rfl⟩
  go_wp2_with fail
  refine (specGeneratorValid_any g _).mono ?_
  rintro e wx ⟨rfl, rfl⟩
  have t1 : (genB g != genB g) = false := by simp
  go_wp2_with fail
  refine (DegreeOf_any g _ hwf).mono ?_
  rintro e wx ⟨rfl, rfl⟩
  cases hs : genB g
  · have t2 : degI g = -1 := by simp [degI, hs]
    have t3 : decide ((1 : Int) ≤ degI g) = false := by rw [t2]; rfl
    have t4 : degI g < 1 := by rw [t2]; decide
    clear t2
    go_wp2_with fail
    refine (alive_any _).mono ?_
    rintro e w2 ⟨rfl, hbel⟩
    have s2 : w1.heap.size ≤ w2.heap.size := hbel.size
    have HB2 := Lib.hid (below_step HB.out hbel)
    have HE := Lib.hid hbel
    clear hbel
    clear HB HE
    have HB := HB2
    clear HB2
    go_wp2
    go_ret
    exact ⟨rfl, HB.out⟩
  · have hb := deg_bounds hs
    have t2 : degI g = (degN g : Int) := by simp [degI, hs]
    have t3 : decide ((1 : Int) ≤ degI g) = true := by rw [t2]; simp; omega
    have t4 : decide (degI g ≤ (16 : Int)) = true := by rw [t2]; simp; omega
    have t5 : (1 : Int) ≤ degI g ∧ degI g ≤ 16 := by rw [t2]; omega
    have hg2 : g % 2 = 1 := by obtain ⟨G, rfl, _, _, h3⟩ := gen_nat hs; omega
    have hgp : 2 ≤ g := by obtain ⟨G, rfl, _, _, h3⟩ := gen_nat hs; omega
    have t6 : (g % 2 == 1) = true := by rw [hg2]; rfl
    have t7 : (g.tmod 2 == 1) = true := by rw [Int.tmod_eq_emod_of_nonneg (by omega), hg2]; rfl
    have t8 := gen_more hs
    clear t2 hg2 hb
    go_wp2_with fail
    refine (GeneratorValid_any (g + 1) _ hwf2).mono ?_
    rintro e wx ⟨rfl, rfl⟩
    go_wp2_with fail
    refine (alive_any _).mono ?_
    rintro e w2 ⟨rfl, hbel⟩
    have s2 : w1.heap.size ≤ w2.heap.size := hbel.size
    have HB2 := Lib.hid (below_step HB.out hbel)
    have HE := Lib.hid hbel
    clear hbel
    clear HB HE
    have HB := HB2
    clear HB2
    go_wp2
    go_ret
    exact ⟨rfl, HB.out⟩
set_option maxHeartbeats 1000000 in
set_option linter.unusedVariables false in
theorem walk_FnDegreeOf (w : World) (v0 : Value) (z0 : List Int) (ra0 : RowK .u8 w v0 z0) (hw0 : ∀ n ∈ z0, (Lit.int .u8 n).wf = true) :
    Calls Try.prog 8 #[v0] w fun e w' => e = .returned (.bool true) ∧ Below w.heap.size w w' := by
  obtain ⟨aa0, cc0, rfl⟩ := ra0.form
  by_cases hlen0 : 1048576 < z0.length
  · go_enter Try.func8, Try.ntmps8
    go_wp2
    go_ret
    exact ⟨rfl, Below.refl _ _⟩
  have HB : Hid (Below w.heap.size w w) := Below.refl _ _
  go_enter Try.func8, Try.ntmps8
  go_wp2_with fail
  refine (DrawDegreeOf_any _ _ _ (ra0.belowAll HB.out) hw0).mono ?_
  rintro e w1 ⟨g, rfl, hg0, hg1, hbel⟩
  have s1 : w.heap.size ≤ w1.heap.size := hbel.size
  have HB1 := Lib.hid (below_step HB.out hbel)
  have HE := Lib.hid hbel
  clear hbel
  clear HB HE
  have HB := HB1
  clear HB1
  have hwf : (Lit.int .i64 g).wf = true := wf_small (by omega) (by omega)
  cases hs : genB g
  · have hD := Lib.hid (show degI g = -1 by simp [degI, hs])
    go_wp2_with fail
    refine (DegreeOf_any g _ hwf).mono ?_
    rw [hD.out]
    rintro e wx ⟨rfl, rfl⟩
    go_wp2_with fail
    refine (specDegreeOf_any g _).mono ?_
    rw [hD.out]
    rintro e wx ⟨rfl, rfl⟩
    go_wp2_with fail
    refine (GeneratorValid_any g _ hwf).mono ?_
    rintro e wx ⟨rfl, rfl⟩
    go_wp2_with fail
    refine (alive_any _).mono ?_
    rintro e w2 ⟨rfl, hbel⟩
    have s2 : w1.heap.size ≤ w2.heap.size := hbel.size
    have HB2 := Lib.hid (below_step HB.out hbel)
    have HE := Lib.hid hbel
    clear hbel
    clear HB HE
    have HB := HB2
    clear HB2
    go_wp2
    go_ret
    exact ⟨rfl, HB.out⟩
  · have hb := deg_bounds hs
    have hD := Lib.hid (show degI g = (degN g : Int) by simp [degI, hs])
    obtain ⟨d, ed⟩ : ∃ d, d = degN g := ⟨_, rfl⟩
    rw [← ed] at hb hD
    clear ed
    obtain ⟨hb1, hb2, hb3, hb4⟩ := hb
    obtain ⟨p, ep⟩ : ∃ p, p = 2 ^ d := ⟨_, rfl⟩
    have e1 : (2 : Int) ^ d = (p : Int) := by rw [ep]; simp
    have e2 : (2 : Int) ^ (min d 64) = (p : Int) := by rw [Nat.min_eq_left (by omega)]; exact e1
    have hp := pow_le16 hb4
    rw [← ep] at hp
    rw [e1] at hb1 hb2
    have hd64 : (d : Int) ≤ 64 := by omega
    clear ep
    go_wp2_with fail
    refine (DegreeOf_any g _ hwf).mono ?_
    rw [hD.out]
    rintro e wx ⟨rfl, rfl⟩
    go_wp2_with fail
    refine (specDegreeOf_any g _).mono ?_
    rw [hD.out]
    rintro e wx ⟨rfl, rfl⟩
    go_wp2
    go_ret
    exact ⟨rfl, HB.out⟩
set_option maxHeartbeats 1000000 in
set_option linter.unusedVariables false in
theorem walk_FnCheckShift (w : World) (v0 : Value) (z0 : List Int) (ra0 : RowK .u8 w v0 z0) (hw0 : ∀ n ∈ z0, (Lit.int .u8 n).wf = true) :
    Calls Try.prog 13 #[v0] w fun e w' => e = .returned (.bool true) ∧ Below w.heap.size w w' := by
  obtain ⟨aa0, cc0, rfl⟩ := ra0.form
  by_cases hlen0 : 1048576 < z0.length
  · go_enter Try.func13, Try.ntmps13
    go_wp2
    go_ret
    exact ⟨rfl, Below.refl _ _⟩
  have HB : Hid (Below w.heap.size w w) := Below.refl _ _
  go_enter Try.func13, Try.ntmps13
  go_wp2_with fail
  refine (DrawCheckPasses_any _ _ _ (ra0.belowAll HB.out) hw0).mono ?_
  rintro e w1 ⟨r1, xs, g, rfl, ho1, hl1, hg0, hg1, hbel⟩
  have s1 : w.heap.size ≤ w1.heap.size := hbel.size
  have HB1 := Lib.hid (below_step HB.out hbel)
  have HE := Lib.hid hbel
  clear hbel
  clear HB HE
  have HB := HB1
  clear HB1
  have O1 := ho1
  have lt2 := ho1.lt
  clear ho1
  have hwf : (Lit.int .i64 g).wf = true := wf_small (by omega) (by omega)
  go_wp2_with fail
  refine (CheckPasses_any xs g _ _ (row_of_own O1) hwf).mono ?_
  rintro e w2 ⟨rfl, hbel⟩
  have s2 : w1.heap.size ≤ w2.heap.size := hbel.size
  have HB2 := Lib.hid (below_step HB.out hbel)
  have HE := Lib.hid hbel
  clear hbel
  have O3 := O1.belowAll HE.out
  clear O1
  clear HB HE
  have HB := HB2
  clear HB2
  go_wp2_with fail
  refine (specCheckPasses_any xs g _ _ (row_of_own O3)).mono ?_
  rintro e wx ⟨rfl, rfl⟩
  have t1 : (passB xs g != passB xs g) = false := by simp
  obtain ⟨n, hn1⟩ : ∃ k, k = (xs).length := ⟨_, rfl⟩
  obtain ⟨a1, c1, hv1⟩ := (row_of_own O3).form
  rw [← hn1] at hv1
  subst hv1
  have HN1 := Lib.hid hn1.symm
  clear hn1
  cases hs : passB xs g
  · go_wp2_with fail
    refine (alive_any _).mono ?_
    rintro e w3 ⟨rfl, hbel⟩
    have s3 : w2.heap.size ≤ w3.heap.size := hbel.size
    have HB3 := Lib.hid (below_step HB.out hbel)
    have HE := Lib.hid hbel
    clear hbel
    have O4 := O3.belowAll HE.out
    clear O3
    clear HB HE
    have HB := HB3
    clear HB3
    go_wp2
    go_ret
    exact ⟨rfl, HB.out⟩
  · by_cases hn : n = 1024
    · have t2 : ((n : Int) == 1024) = true := by rw [hn]; rfl
      clear hn
      go_wp2_with fail
      refine (alive_any _).mono ?_
      rintro e w3 ⟨rfl, hbel⟩
      have s3 : w2.heap.size ≤ w3.heap.size := hbel.size
      have HB3 := Lib.hid (below_step HB.out hbel)
      have HE := Lib.hid hbel
      clear hbel
      have O4 := O3.belowAll HE.out
      clear O3
      clear HB HE
      have HB := HB3
      clear HB3
      go_wp2
      go_ret
      exact ⟨rfl, HB.out⟩
    · have t2 : ((n : Int) == 1024) = false := by rw [beq_eq_false_iff_ne]; omega
      have hv := (passB_parts hs).1
      have hnl : n < 1024 := by have := valid_len hv; have := HN1.out; omega
      have HF := Lib.hid (pass_front hs (by have := HN1.out; omega))
      have HG := Lib.hid (pass_back hs (by have := HN1.out; omega))
      clear hn hv hs
      have hm1 : OwnI w2.heap.size (w2.alloc (.cells #[.int .i64 0] 3)) (.slice (some ⟨w2.heap.size, 0, none⟩) 1 1) [0] := own_one w2 0
      have hb1 : Below w2.heap.size w2 (w2.alloc (.cells #[.int .i64 0] 3)) := (Below.refl _ w2).alloc (Nat.le_refl _) _
      have hr1 := (row_of_own O3).belowAll hb1
      go_wp2_with (at_builtin; refine wp_apps tabI _ rfl (.tmp 30) (.tmp 31) rfl w2.heap.size _ _ [0] xs rfl rfl hm1 hr1 (by have := HN1.out; simp; omega) (by simp) ?_; intro va wa hoa hga hna)
      have hga' : (w2.alloc (.cells #[.int .i64 0] 3)).grownBy wa (some w2.heap.size) := hga
      have hba : Below w2.heap.size w2 wa := hb1.trans (below_of_row hga' (by simp) (by intro j e; cases e; omega))
      have HBa := Lib.hid (below_step HB.out hba)
      have Oa := O3.belowAll hba
      clear hga hga' hna hba hb1 hm1 hr1
      refine (CheckPasses_any (0 :: xs) g _ _ (row_of_own hoa) hwf).mono ?_
      rintro e wb ⟨rfl, hbel⟩
      have HBb := Lib.hid (below_step HBa.out hbel)
      have Ob := Oa.belowAll hbel
      have t3 := HF.out
      clear hbel Oa hoa
      have hm2 := emptySl wb
      have hb2 : Below wb.heap.size wb (wb.alloc (.cells #[] 3)) := (Below.refl _ wb).alloc (Nat.le_refl _) _
      have hr2 := (row_of_own Ob).belowAll hb2
      go_wp2_with (first | (at_builtin; refine wp_apps tabI _ rfl (.tmp 36) (.tmp 37) rfl wb.heap.size _ _ [] xs rfl rfl hm2 hr2 (by have := HN1.out; simp; omega) (by simp) ?_; intro vc wc hoc hgc hnc; simp only [List.nil_append] at hoc) | (at_builtin; refine wp_app1 tabI wc _ 0 rfl rfl rfl rfl rfl (.tmp 38) (.tmp 39) rfl wb.heap.size vc xs rfl 1 rfl hoc (by have := HN1.out; omega) (by have := hgc.size; simp at this; omega) ?_; intro vd wd hod hgd hnd))
      have hgc' : (wb.alloc (.cells #[] 3)).grownBy wc (some wb.heap.size) := hgc
      have hbc : Below wb.heap.size wb wc := hb2.trans (below_of_row hgc' (by simp) (by intro j e; cases e; omega))
      have hbd : Below wb.heap.size wb wd := hbc.trans (below_of_row hgd hbc.size (fun j e => (hoc.lt j e).1))
      have HBd := Lib.hid (below_step HBb.out hbd)
      clear hgc hgc' hnc hbc hgd hnd hbd hb2 hm2 hr2 hoc
      refine (CheckPasses_any (xs ++ [0]) g _ _ (row_of_own hod) hwf).mono ?_
      rintro e we ⟨rfl, hbel⟩
      have HBe := Lib.hid (below_step HBd.out hbel)
      have t4 := HG.out
      clear hbel
      go_wp2
      go_ret
      exact ⟨rfl, HBe.out⟩
set_option maxHeartbeats 1000000 in
set_option linter.unusedVariables false in
theorem walk_FnCheckAppend (w : World) (v0 : Value) (z0 : List Int) (ra0 : RowK .u8 w v0 z0) (hw0 : ∀ n ∈ z0, (Lit.int .u8 n).wf = true) (v1 : Value) (z1 : List Int) (ra1 : RowK .u8 w v1 z1) (hw1 : ∀ n ∈ z1, (Lit.int .u8 n).wf = true) :
    Calls Try.prog 15 #[v0, v1] w fun e w' => e = .returned (.bool true) ∧ Below w.heap.size w w' := by
  obtain ⟨aa0, cc0, rfl⟩ := ra0.form
  obtain ⟨aa1, cc1, rfl⟩ := ra1.form
  by_cases hlen0 : 1048576 < z0.length
  · go_enter Try.func15, Try.ntmps15
    go_wp2
    go_ret
    exact ⟨rfl, Below.refl _ _⟩
  by_cases hlen1 : 1048576 < z1.length
  · go_enter Try.func15, Try.ntmps15
    go_wp2
    go_ret
    exact ⟨rfl, Below.refl _ _⟩
  have HB : Hid (Below w.heap.size w w) := Below.refl _ _
  go_enter Try.func15, Try.ntmps15
  go_wp2_with fail
  refine (DrawCheckAppend_any _ _ _ (ra0.belowAll HB.out) hw0).mono ?_
  rintro e w1 ⟨r1, xs, g, rfl, ho1, hl1, hg0, hg1, hbel⟩
  have s1 : w.heap.size ≤ w1.heap.size := hbel.size
  have HB1 := Lib.hid (below_step HB.out hbel)
  have HE := Lib.hid hbel
  clear hbel
  clear HB HE
  have HB := HB1
  clear HB1
  have O1 := ho1
  have lt2 := ho1.lt
  clear ho1
  have hwf : (Lit.int .i64 g).wf = true := wf_small (by omega) (by omega)
  go_wp2_with fail
  refine (CheckAppend_any xs g _ _ (row_of_own O1) hwf).mono ?_
  rintro e w2 ⟨r3, rfl, hown, hbel⟩
  have s2 : w1.heap.size ≤ w2.heap.size := hbel.size
  have HB2 := Lib.hid (below_step HB.out hbel)
  have HE := Lib.hid hbel
  clear hbel
  have O4 := O1.belowAll HE.out
  clear O1
  clear HB HE
  have HB := HB2
  clear HB2
  have O5 := hown
  have lt6 := hown.lt
  clear hown
  go_wp2_with fail
  refine (specCheckAppend_any xs g _ _ (row_of_own O4)).mono ?_
  rintro e w3 ⟨r7, rfl, hown, hbel⟩
  have s3 : w2.heap.size ≤ w3.heap.size := hbel.size
  have HB3 := Lib.hid (below_step HB.out hbel)
  have HE := Lib.hid hbel
  clear hbel
  have O8 := O4.belowAll HE.out
  clear O4
  have O9 := O5.belowAll HE.out
  clear O5
  clear HB HE
  have HB := HB3
  clear HB3
  have O10 := hown
  have lt11 := hown.lt
  clear hown
  go_wp2_with fail
  refine (sameInts_any (appL xs g) (appL xs g) _ _ _ (row_of_own O9) (row_of_own O10)).mono ?_
  rintro e w4 ⟨rfl, hq⟩
  have HQ := Lib.hid hq
  clear hq
  have s4 : w3.heap.size ≤ w4.heap.size := (HQ.out.below 0).size
  have HB4 := Lib.hid (below_quiet HB.out HQ.out)
  have O12 := O8.quiet HQ.out
  clear O8
  have O13 := O9.quiet HQ.out
  clear O9
  have O14 := O10.quiet HQ.out
  clear O10
  clear HB HQ
  have HB := HB4
  clear HB4
  have t1 : (appL xs g == appL xs g) = true := by simp
  have hlx := appL_len xs g
  obtain ⟨n, hn1⟩ : ∃ k, k = (xs).length := ⟨_, rfl⟩
  obtain ⟨a1, c1, hv1⟩ := (row_of_own O12).form
  rw [← hn1] at hv1
  subst hv1
  have HN1 := Lib.hid hn1.symm
  clear hn1
  obtain ⟨m, hn2⟩ : ∃ k, k = (appL xs g).length := ⟨_, rfl⟩
  obtain ⟨a2, c2, hv2⟩ := (row_of_own O13).form
  rw [← hn2] at hv2
  subst hv2
  have HN2 := Lib.hid hn2.symm
  clear hn2
  by_cases hm0 : m = 0
  · have t2 : ((m : Int) == 0) = true := by rw [hm0]; rfl
    clear hm0
    go_wp2_with fail
    refine (alive_any _).mono ?_
    rintro e w5 ⟨rfl, hbel⟩
    have s5 : w4.heap.size ≤ w5.heap.size := hbel.size
    have HB5 := Lib.hid (below_step HB.out hbel)
    have HE := Lib.hid hbel
    clear hbel
    have O15 := O12.belowAll HE.out
    clear O12
    have O16 := O13.belowAll HE.out
    clear O13
    have O17 := O14.belowAll HE.out
    clear O14
    clear HB HE
    have HB := HB5
    clear HB5
    go_wp2
    go_ret
    exact ⟨rfl, HB.out⟩
  · have t2 : ((m : Int) == 0) = false := by rw [beq_eq_false_iff_ne]; omega
    have hne : appL xs g ≠ [] := by intro e; have := HN2.out; rw [e] at this; simp at this; omega
    have hpa := pass_app hne
    have HP := Lib.hid hpa.1
    have HT := Lib.hid hpa.2
    have hap := appL_pos hne
    have hnm : n ≤ m := by have e1 := HN1.out; have e2 := HN2.out; have e3 := congrArg List.length hap.2.2.2; rw [List.length_append] at e3; omega
    have hml : m ≤ 1024 := by have := HN2.out; omega
    have HBI := Lib.hid (appL_bits xs g)
    have hmp : 0 < m := by omega
    clear hpa hne hap hm0
    obtain ⟨ys, ey⟩ : ∃ ys, ys = appL xs g := ⟨_, rfl⟩
    have Ox := O13
    rw [← ey] at Ox
    rw [← ey] at HP HT HBI HN2
    clear ey
    obtain ⟨g2, rfl⟩ := own_form_pos Ox (by have := HN2.out; omega)
    obtain ⟨k, ek⟩ : ∃ k, k = z1.length % m := ⟨_, rfl⟩
    have hkm : k < m := by rw [ek]; exact Nat.mod_lt _ (by omega)
    have e1 : (z1.length : Int) % (m : Int) = (k : Int) := by rw [ek]; simp
    have e2 : (z1.length : Int).tmod (m : Int) = (k : Int) := by rw [Int.tmod_eq_emod_of_nonneg (by omega)]; exact e1
    have HK := Lib.hid (turn_fails HP.out k (by have := HN2.out; omega))
    clear ek
    obtain ⟨x, hx, hx2⟩ := bit_nat HBI.out k (by have := HN2.out; omega)
    have HX := Lib.hid hx
    clear hx
    have hmc : m ≤ c2 := (row_of_own Ox).at.2.2.1
    have hm1 := emptySl w4
    have hb1 : Below w4.heap.size w4 (w4.alloc (.cells #[] 3)) := (Below.refl _ w4).alloc (Nat.le_refl _) _
    have hr1 := (row_of_own Ox).belowAll hb1
    go_wp2_with (at_builtin; refine wp_apps tabI _ rfl (.tmp 36) (.tmp 37) rfl w4.heap.size _ _ [] ys rfl rfl hm1 hr1 (by have := HN2.out; simp; omega) (by simp) ?_; intro vc wc hoc hgc hnc; simp only [List.nil_append] at hoc; obtain ⟨g3, c3, rfl⟩ := own_slice hoc m HN2.out (by omega); have hcell := hoc.cell HN2.out k hkm; rw [HX.out] at hcell; have hf := hoc.free HN2.out k)
    have hgc' : (w4.alloc (.cells #[] 3)).grownBy wc (some w4.heap.size) := hgc
    have hbc : Below w4.heap.size w4 wc := hb1.trans (below_of_row hgc' (by simp) (by intro j e; cases e; omega))
    have Oa := O12.belowAll hbc
    have Oy := Ox.belowAll hbc
    have HBc := Lib.hid (below_step HB.out hbc)
    have hszc := hbc.size
    have HST := Lib.hid (hoc.stored HN2.out k (1 - (x : Int)))
    have HTU := Lib.hid (show ys.set k (1 - (x : Int)) = turnAt ys k by rw [turnAt, HX.out])
    have hg3 := hoc.lt g3 rfl
    have hpre := (row_of_own Oy).pre n hnm
    rw [show ys.take n = xs by rw [← HN1.out]; exact HT.out] at hpre
    clear hgc hgc' hnc hbc hm1 hb1 hr1 hoc
    have HBd := Lib.hid (below_mark HBc.out HST.out.2 (fun j e => by cases e; omega))
    have Oa2 := Oa.kept HST.out.2 (Or.inr (by intro e; have := lt2 _ e; omega))
    have Oy2 := Oy.kept HST.out.2 (Or.inr (by intro e; have := lt6 _ e; omega))
    have hpre2 := hpre.grown HST.out.2 (by intro j e1 e2; cases e1; cases e2; have := lt6 _ rfl; omega)
    refine (sameInts_any xs xs _ _ _ hpre2 (row_of_own Oa2)).mono ?_
    rintro e wd ⟨rfl, hq⟩
    have HQ := Lib.hid hq
    have t3 : (xs == xs) = true := by simp
    have HBe := Lib.hid (below_quiet HBd.out hq)
    have Oy3 := Oy2.quiet hq
    have Oz := HST.out.1.quiet hq
    rw [HTU.out] at Oz
    clear hq
    go_wp2_with fail
    refine (CheckPasses_any ys g _ _ (row_of_own Oy3) hwf).mono ?_
    rintro e we ⟨rfl, hbel⟩
    have HBf := Lib.hid (below_step HBe.out hbel)
    have Oz2 := Oz.belowAll hbel
    have t4 := HP.out
    clear hbel
    go_wp2_with fail
    refine (CheckPasses_any (turnAt ys k) g _ _ (row_of_own Oz2) hwf).mono ?_
    rintro e wf ⟨rfl, hbel⟩
    have HBg := Lib.hid (below_step HBf.out hbel)
    have t5 := HK.out
    clear hbel
    go_wp2
    go_ret
    exact ⟨rfl, HBg.out⟩
end Go.Proofs.Ytlidppncongfjaa
