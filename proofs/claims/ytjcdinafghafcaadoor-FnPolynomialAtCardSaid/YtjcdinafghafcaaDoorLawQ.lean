/-
  Walks of laws. Written by a program (laws_field3.py).
-/
import Derived.Test.YtjcdinafghafcaaDoorFieldM
import Derived.Test.YtjcdinafghafcaaDoorDrawF
namespace Go.Proofs.YtjcdinafghafcaaDoor
open Go.RowKit
theorem emptyS (w : World) : OwnI w.heap.size (w.alloc (.cells #[] 3)) (.slice (some ⟨w.heap.size, 0, none⟩) 0 0) [] := World.ownsRow_made w #[] 0 (Nat.le_refl _) (by decide) rfl
set_option maxHeartbeats 2000000 in
set_option linter.unusedVariables false in
theorem walk_FnPolynomialAt (w : World) (hT : Tabs w) (v0 : Value) (z0 : List Int) (ra0 : RowK .u8 w v0 z0) (hw0 : ∀ n ∈ z0, (Lit.int .u8 n).wf = true) :
    Calls Tryd.prog 13 #[v0] w fun e w' => e = .returned (.bool true) ∧ Below w.heap.size w w' := by
  obtain ⟨aa0, cc0, rfl⟩ := ra0.form
  by_cases hlen0 : 1048576 < z0.length
  · go_enter Tryd.func13, Tryd.ntmps13
    go_wp2
    go_ret
    exact ⟨rfl, Below.refl _ _⟩
  have HB : Hid (Below w.heap.size w w) := Below.refl _ _
  go_enter Tryd.func13, Tryd.ntmps13
  go_wp2_with fail
  refine (DrawPolynomialAt_any _ _ _ (ra0.belowAll HB.out) hw0).mono ?_
  rintro e w1 ⟨r1, zs, x, rfl, ho1, hl1, hx0, hx1, hbel⟩
  have s1 : w.heap.size ≤ w1.heap.size := hbel.size
  have HB1 := Lib.hid (below_step HB.out hbel)
  have HE := Lib.hid hbel
  clear hbel
  clear HB HE
  have HB := HB1
  clear HB1
  have O1 := ho1
  have lt2 := ho1.lt
  clear ho1
  go_wp2_with fail
  refine (PolynomialAt_any zs x _ _ (hT.below HB.out) (row_of_own O1)).mono ?_
  rintro e w2 ⟨rfl, hq⟩
  have HQ := Lib.hid hq
  clear hq
  have s2 : w1.heap.size ≤ w2.heap.size := (HQ.out.below 0).size
  have HB2 := Lib.hid (below_quiet HB.out HQ.out)
  have O3 := O1.quiet HQ.out
  clear O1
  clear HB HQ
  have HB := HB2
  clear HB2
  go_wp2_with fail
  refine (specPolynomialAt_any zs x _ _ (row_of_own O3)).mono ?_
  rintro e w3 ⟨rfl, hq⟩
  have HQ := Lib.hid hq
  clear hq
  have s3 : w2.heap.size ≤ w3.heap.size := (HQ.out.below 0).size
  have HB3 := Lib.hid (below_quiet HB.out HQ.out)
  have O4 := O3.quiet HQ.out
  clear O3
  clear HB HQ
  have HB := HB3
  clear HB3
  have t1 : (fPoly zs x != fPoly zs x) = false := by simp
  cases hs : (inB x 0 15 && decide (zs.length ≤ 15) && zs.all elemB)
  · have t2 : decide (fPoly zs x < 0) = true := by rw [fPoly_out hs]; rfl
    have t2b : fPoly zs x < 0 := by rw [fPoly_out hs]; decide
    have t3 : (fPoly zs x == -1) = true := by rw [fPoly_out hs]; rfl
    go_wp2_with fail
    refine (alive_any _).mono ?_
    rintro e w4 ⟨rfl, hbel⟩
    have s4 : w3.heap.size ≤ w4.heap.size := hbel.size
    have HB4 := Lib.hid (below_step HB.out hbel)
    have HE := Lib.hid hbel
    clear hbel
    have O5 := O4.belowAll HE.out
    clear O4
    clear HB HE
    have HB := HB4
    clear HB4
    go_wp2
    go_ret
    exact ⟨rfl, HB.out⟩
  · have t2b := (fPoly_range hs).1
    have t2 : decide (fPoly zs x < 0) = false := decide_eq_false (by omega)
    obtain ⟨hp1, hp2, hp3⟩ := fPoly_parts hs
    obtain ⟨X, rfl, hX⟩ := inB_nat hp1
    have HP3 := Lib.hid hp3
    have HONE := Lib.hid (fPoly_one hp2 hp3)
    have HZER := Lib.hid (fPoly_zero hp2 hp3)
    have HMOR := Lib.hid (fun h => fPoly_more (x := X) hX h hp3)
    have HP2 := Lib.hid hp2
    clear hs hp1 hp2 hp3
    obtain ⟨n, hn1⟩ : ∃ k, k = (zs).length := ⟨_, rfl⟩
    obtain ⟨a1, c1, hv1⟩ := (row_of_own O4).form
    rw [← hn1] at hv1
    subst hv1
    have HN1 := Lib.hid hn1.symm
    clear hn1
    have hn15 : n ≤ 15 := by have := HN1.out; have := HP2.out; omega
    go_wp2_with fail
    go_loopw [6, 7] (fun s i wr => ∃ j : Nat, j ≤ n ∧ i = .int .i64 j ∧ s = .int .i64 ((sumX (zs.take j) : Nat) : Int) ∧ Quiet w3 wr) (fun _ i _ => n - (intOf i).toNat)
    case atStart => exact ⟨0, by omega, rfl, rfl, Quiet.same _⟩
    case round =>
      obtain ⟨j, hj, rfl, rfl, hq⟩ := hrel
      have HQ := Lib.hid hq
      clear hq
      by_cases hlt : j < n
      · obtain ⟨_, _, _, _, hcell⟩ := RowK.at ((row_of_own O4).quiet HQ.out)
        obtain ⟨b0, off, rfl, hc⟩ := hcell (by omega)
        have hcj := hc j hlt
        have HS := Lib.hid (sumX_add HP3.out j (by have := HN1.out; omega))
        obtain ⟨y, ey⟩ : ∃ y, y = zs.getD j 0 := ⟨_, rfl⟩
        rw [← ey] at hcj HS
        clear hcell hc ey
        go_wp2_with fail
        refine (FieldAdd_any ((sumX (zs.take j) : Nat) : Int) y _).mono ?_
        rintro e wx ⟨rfl, rfl⟩
        go_wp2_with fail
        go_roundw
        case rel => exact ⟨j + 1, by omega, by go_num, by rw [HS.out], HQ.out⟩
        case measure => simp [intOf]; omega
      · obtain rfl : j = n := by omega
        have HSU := Lib.hid (show ((sumX (zs.take j) : Nat) : Int) = fPoly zs 1 by rw [HONE.out, ← HN1.out, List.take_length])
        have Oa := O4.quiet HQ.out
        have HB2 := Lib.hid (below_quiet HB.out HQ.out)
        obtain ⟨s, es⟩ : ∃ s, s = ((sumX (zs.take j) : Nat) : Int) := ⟨_, rfl⟩
        rw [← es] at HSU ⊢
        clear HQ es
        have hm1 := emptyS wr
        have hb1 : Below wr.heap.size wr (wr.alloc (.cells #[] 3)) := (Below.refl _ wr).alloc (Nat.le_refl _) _
        have hr1 := (row_of_own Oa).belowAll hb1
        go_wp2_with (first | (at_builtin; refine wp_apps tabI _ rfl (.tmp 44) (.tmp 45) rfl wr.heap.size _ _ [] zs rfl rfl hm1 hr1 (by have := HN1.out; simp; omega) (by simp) ?_; intro vc wc hoc hgc hnc; simp only [List.nil_append] at hoc) | (at_builtin; refine wp_app1 tabI wc _ 5 rfl rfl rfl rfl rfl (.tmp 46) (.tmp 47) rfl wr.heap.size vc zs rfl 1 rfl hoc (by have := HN1.out; omega) (by have := hgc.size; simp at this; omega) ?_; intro vd wd hod hgd hnd))
        have hgc' : (wr.alloc (.cells #[] 3)).grownBy wc (some wr.heap.size) := hgc
        have hbc : Below wr.heap.size wr wc := hb1.trans (below_of_row hgc' (by simp) (by intro j e; cases e; omega))
        have hbd : Below wr.heap.size wr wd := hbc.trans (below_of_row hgd hbc.size (fun j e => (hoc.lt j e).1))
        have HBd := Lib.hid (below_step HB2.out hbd)
        have Od := Oa.belowAll hbd
        clear hgc hgc' hnc hbc hgd hnd hbd hb1 hm1 hr1 hoc Oa
        refine (PolynomialAt_any (zs ++ [5]) X _ _ (hT.below HBd.out) (row_of_own hod)).mono ?_
        rintro e we ⟨rfl, hq⟩
        have HBe := Lib.hid (below_quiet HBd.out hq)
        have Oe := Od.quiet hq
        have hTe := hT.below HBe.out
        clear hq Od hod
        have t4 : (fPoly zs 1 == s) = true := by rw [HSU.out]; simp
        have hfin : ∀ nq, Below w.heap.size w (we.drewN nq) := fun nq => below_quiet HBe.out (Quiet.n _ _)
        have HFIN := Lib.hid hfin
        clear hfin
        by_cases hn0 : j = 0
        · subst hn0
          have t6 : (fPoly (zs ++ [5]) (X : Int) == fAdd (fMul (fPoly zs (X : Int)) (X : Int)) 5) = true := by rw [HMOR.out (by have := HN1.out; omega)]; simp
          go_wp2
          go_quiet ((first
            | (go_at_call 23; exact Calls.quiet_of (PolynomialAt_any zs _ _ _ (hTe.quiet (Quiet.n _ _)) (row_of_own (Oe.quiet (Quiet.n _ _)))))
            | (go_at_call 17; exact Calls.quiet_of (FieldMul_any _ _ _ (hTe.quiet (Quiet.n _ _))))
            | (go_at_call 26; exact Calls.quiet_of_same ((FieldAdd_any _ _ _).mono fun _ _ h => ⟨h.1, h.2.symm⟩))))
          go_wp2
          go_ret
          exact ⟨rfl, HFIN.out _⟩
        · have t5 : ((j : Int) == 0) = false := beq_eq_false_iff_ne.2 (by omega)
          have HZ2 := HZER.out (by have := HN1.out; omega)
          rw [HN1.out] at HZ2
          obtain ⟨_, _, _, _, hcell⟩ := (row_of_own Oe).at
          obtain ⟨b0, off, rfl, hc⟩ := hcell (by omega)
          have hcl := hc (j - 1) (by omega)
          rw [← HZ2] at hcl
          have t7 : (fPoly zs 0 == fPoly zs 0) = true := by simp
          have hj1 : (j : Int) - 1 = ((j - 1 : Nat) : Int) := by omega
          obtain ⟨i, rfl⟩ : ∃ i, j = i + 1 := ⟨j - 1, by omega⟩
          have hcl2 : we.cell? ⟨b0, off + i, none⟩ = some (.int .i64 (fPoly zs 0)) := hcl
          clear hcl hc hcell HZ2 hj1
          by_cases h15 : i + 1 = 15
          · obtain rfl : i = 14 := by omega
            go_wp2
            go_quiet ((first
              | (go_at_call 23; exact Calls.quiet_of (PolynomialAt_any zs _ _ _ (hTe.quiet (Quiet.n _ _)) (row_of_own (Oe.quiet (Quiet.n _ _)))))
              | (go_at_call 17; exact Calls.quiet_of (FieldMul_any _ _ _ (hTe.quiet (Quiet.n _ _))))
              | (go_at_call 26; exact Calls.quiet_of_same ((FieldAdd_any _ _ _).mono fun _ _ h => ⟨h.1, h.2.symm⟩))))
            go_wp2
            go_ret
            exact ⟨rfl, HFIN.out _⟩
          · have t8 : (((i + 1 : Nat) : Int) == 15) = false := beq_eq_false_iff_ne.2 (by omega)
            have t8b : ((i : Int) + 1 == 15) = false := beq_eq_false_iff_ne.2 (by omega)
            have t5b : ((i : Int) + 1 == 0) = false := beq_eq_false_iff_ne.2 (by omega)
            have t6 : (fPoly (zs ++ [5]) (X : Int) == fAdd (fMul (fPoly zs (X : Int)) (X : Int)) 5) = true := by rw [HMOR.out (by have := HN1.out; omega)]; simp
            go_wp2
            go_quiet ((first
              | (go_at_call 23; exact Calls.quiet_of (PolynomialAt_any zs _ _ _ (hTe.quiet (Quiet.n _ _)) (row_of_own (Oe.quiet (Quiet.n _ _)))))
              | (go_at_call 17; exact Calls.quiet_of (FieldMul_any _ _ _ (hTe.quiet (Quiet.n _ _))))
              | (go_at_call 26; exact Calls.quiet_of_same ((FieldAdd_any _ _ _).mono fun _ _ h => ⟨h.1, h.2.symm⟩))))
            go_wp2
            go_ret
            exact ⟨rfl, HFIN.out _⟩
end Go.Proofs.YtjcdinafghafcaaDoor
