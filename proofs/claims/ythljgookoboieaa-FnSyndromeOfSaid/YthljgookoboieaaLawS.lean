/-
  Walks of laws. Written by a program (laws_block.py).
-/
import Derived.Test.YthljgookoboieaaDrawB
namespace Go.Proofs.Ythljgookoboieaa
open Go.RowKit
set_option maxHeartbeats 1000000 in
set_option linter.unusedVariables false in
theorem walk_FnSyndromeOf (w : World) (v0 : Value) (z0 : List Int) (ra0 : RowK .u8 w v0 z0) (hw0 : ∀ n ∈ z0, (Lit.int .u8 n).wf = true) :
    Calls Try.prog 4 #[v0] w fun e w' => e = .returned (.bool true) ∧ Below w.heap.size w w' := by
  obtain ⟨aa0, cc0, rfl⟩ := ra0.form
  by_cases hlen0 : 1048576 < z0.length
  · go_enter Try.func4, Try.ntmps4
    go_wp2
    go_ret
    exact ⟨rfl, Below.refl _ _⟩
  have HB : Hid (Below w.heap.size w w) := Below.refl _ _
  go_enter Try.func4, Try.ntmps4
  go_wp2_with fail
  refine (DrawSyndromeOf_any _ _ _ (ra0.belowAll HB.out) hw0).mono ?_
  rintro e w1 ⟨r1, xs, rfl, ho1, hl1, hbel⟩
  have s1 : w.heap.size ≤ w1.heap.size := hbel.size
  have HB1 := Lib.hid (below_step HB.out hbel)
  have HE := Lib.hid hbel
  clear hbel
  clear HB HE
  have HB := HB1
  clear HB1
  have O1 := ho1
  have lt2 := ho1.lt
  clear ho1
  go_wp2_with fail
  refine (SyndromeOf_any xs _ _ (row_of_own O1)).mono ?_
  rintro e wx ⟨rfl, rfl⟩
  go_wp2_with fail
  refine (specSyndromeOf_any xs _ _ (row_of_own O1)).mono ?_
  rintro e wx ⟨rfl, rfl⟩
  have t1 : (synI xs != synI xs) = false := by simp
  obtain ⟨n, hn1⟩ : ∃ k, k = (xs).length := ⟨_, rfl⟩
  obtain ⟨a1, c1, hv1⟩ := (row_of_own O1).form
  rw [← hn1] at hv1
  subst hv1
  have HN1 := Lib.hid hn1.symm
  clear hn1
  cases hs : (validB xs && xs.length == 7)
  · have e0 := synI_neg hs
    have t2 : (synI xs == -1) = true := by rw [e0]; rfl
    have t3 : decide (synI xs < 0) = true := by rw [e0]; rfl
    have t4 : synI xs < 0 := by rw [e0]; decide
    clear e0
    cases hv : validB xs
    · go_wp2_with fail
      refine (isBits_any xs _ _ (row_of_own O1)).mono ?_
      rintro e w2 ⟨rfl, hq⟩
      have HQ := Lib.hid hq
      clear hq
      have s2 : w1.heap.size ≤ w2.heap.size := (HQ.out.below 0).size
      have HB2 := Lib.hid (below_quiet HB.out HQ.out)
      have O3 := O1.quiet HQ.out
      clear O1
      clear HB HQ
      have HB := HB2
      clear HB2
      go_wp2_with fail
      refine (alive_any _).mono ?_
      rintro e w3 ⟨rfl, hbel⟩
      have s3 : w2.heap.size ≤ w3.heap.size := hbel.size
      have HB3 := Lib.hid (below_step HB.out hbel)
      have HE := Lib.hid hbel
      clear hbel
      have O4 := O3.belowAll HE.out
      clear O3
      clear HB HE
      have HB := HB3
      clear HB3
      go_wp2
      go_ret
      exact ⟨rfl, HB.out⟩
    · have t5 : ((n : Int) != 7) = true := by
        rw [hv, HN1.out] at hs
        rw [bne_iff_ne]; intro e
        have : n = 7 := by omega
        subst this; simp at hs
      go_wp2_with fail
      refine (isBits_any xs _ _ (row_of_own O1)).mono ?_
      rintro e w2 ⟨rfl, hq⟩
      have HQ := Lib.hid hq
      clear hq
      have s2 : w1.heap.size ≤ w2.heap.size := (HQ.out.below 0).size
      have HB2 := Lib.hid (below_quiet HB.out HQ.out)
      have O3 := O1.quiet HQ.out
      clear O1
      clear HB HQ
      have HB := HB2
      clear HB2
      go_wp2_with fail
      refine (alive_any _).mono ?_
      rintro e w3 ⟨rfl, hbel⟩
      have s3 : w2.heap.size ≤ w3.heap.size := hbel.size
      have HB3 := Lib.hid (below_step HB.out hbel)
      have HE := Lib.hid hbel
      clear hbel
      have O4 := O3.belowAll HE.out
      clear O3
      clear HB HE
      have HB := HB3
      clear HB3
      go_wp2
      go_ret
      exact ⟨rfl, HB.out⟩
  · have hbl := ok7 hs
    have hsn : synI xs = (syn 0 0 xs : Int) := by simp only [synI, hs, if_true]
    have hS8 := syn_lt xs 0 0 (by omega) (by omega)
    have HFL := Lib.hid (fun h => syn_flip hbl.1 hbl.2 h)
    obtain ⟨S, eS⟩ : ∃ S, S = syn 0 0 xs := ⟨_, rfl⟩
    rw [← eS] at hsn hS8 HFL
    have n7 : n = 7 := by have := HN1.out; omega
    subst n7
    have HBI := Lib.hid hbl.1
    have hm1 := emptySl w1
    have hb1 : Below w1.heap.size w1 (w1.alloc (.cells #[] 3)) := (Below.refl _ w1).alloc (Nat.le_refl _) _
    have hr1 := (row_of_own O1).belowAll hb1
    rw [hsn] at t1
    rw [hsn]
    have HSN := Lib.hid hsn
    clear hbl hsn eS
    by_cases hS0 : S = 0
    · subst hS0
      go_wp2_with (at_builtin; refine wp_apps tabI _ rfl (.tmp 30) (.tmp 31) rfl w1.heap.size _ _ [] xs rfl rfl hm1 hr1 (by have := HN1.out; simp; omega) (by simp) ?_; intro vc wc hoc hgc hnc; simp only [List.nil_append] at hoc)
      have hgc' : (w1.alloc (.cells #[] 3)).grownBy wc (some w1.heap.size) := hgc
      have hbc : Below w1.heap.size w1 wc := hb1.trans (below_of_row hgc' (by simp) (by intro j e; cases e; omega))
      have HBc := Lib.hid (below_step HB.out hbc)
      clear hgc hgc' hnc hbc hm1 hb1 hr1
      refine (SyndromeOf_any xs _ _ (row_of_own hoc)).mono ?_
      rw [HSN.out]
      rintro e wd ⟨rfl, rfl⟩
      go_wp2
      go_ret
      exact ⟨rfl, HBc.out⟩
    · obtain ⟨k, rfl⟩ : ∃ k, S = k + 1 := ⟨S - 1, by omega⟩
      have hkm : k < 7 := by omega
      obtain ⟨x, hx, hx2⟩ := bit_nat HBI.out k (by have := HN1.out; omega)
      have HX := Lib.hid hx
      have HTU := Lib.hid (show xs.set k (1 - (x : Int)) = flipAt xs k by rw [flipAt, hx])
      have HZ : Hid (synI (flipAt xs k) = 0) := by
        have h1 := HFL.out (by omega)
        rw [show k + 1 - 1 = k by omega] at h1
        have h2 := flip_bits HBI.out k (by have := HN1.out; omega)
        have hl := HN1.out
        rw [synI_pos (bvalid_of h2 (by rw [flip_length]; omega)) (by rw [flip_length]; exact hl), h1]; rfl
      clear hx HFL
      go_wp2_with (at_builtin; refine wp_apps tabI _ rfl (.tmp 30) (.tmp 31) rfl w1.heap.size _ _ [] xs rfl rfl hm1 hr1 (by have := HN1.out; simp; omega) (by simp) ?_; intro vc wc hoc hgc hnc; simp only [List.nil_append] at hoc; obtain ⟨g3, c3, rfl⟩ := own_slice hoc 7 HN1.out (by omega); have hcell := hoc.cell HN1.out k hkm; rw [HX.out] at hcell; have hf := hoc.free HN1.out k)
      have hgc' : (w1.alloc (.cells #[] 3)).grownBy wc (some w1.heap.size) := hgc
      have hbc : Below w1.heap.size w1 wc := hb1.trans (below_of_row hgc' (by simp) (by intro j e; cases e; omega))
      have HBc := Lib.hid (below_step HB.out hbc)
      have hszc := hbc.size
      have HST := Lib.hid (hoc.stored HN1.out k (1 - (x : Int)))
      have hg3 := hoc.lt g3 rfl
      clear hgc hgc' hnc hbc hm1 hb1 hr1 hoc
      have HBd := Lib.hid (below_mark HBc.out HST.out.2 (fun j e => by cases e; omega))
      have Oz := HST.out.1
      rw [HTU.out] at Oz
      refine (SyndromeOf_any (flipAt xs k) _ _ (row_of_own Oz)).mono ?_
      rw [HZ.out]
      rintro e wd ⟨rfl, rfl⟩
      go_wp2
      go_ret
      exact ⟨rfl, HBd.out⟩
end Go.Proofs.Ythljgookoboieaa
