/-
  Walks of laws. Written by a program (laws_eb.py).
-/
import Derived.Test.YtpfbmfnfcppjeadDoorLaidB
import Derived.Test.YtpfbmfnfcppjeadDoorDrawE
import Derived.Test.YtpfbmfnfcppjeadDoorEnc7
import Derived.Test.YtpfbmfnfcppjeadDoorEnc8
import Derived.Test.YtpfbmfnfcppjeadDoorBlkN
import Derived.Deep.RegionHeld3
namespace Go.Proofs.YtpfbmfnfcppjeadDoor
open Go.RowKit
section
variable {ops : Array Oper} {o : Oper} {a : Act} {K : Act → World → Prop} {Q : Exit → Act → World → Prop} {E : Prop}
/-- append(v, ys..) as a step of a region that draws its order. -/
theorem st_apps {T e : Nat} {k : IntKind} (tab : Tab T e k) (w : World) (s x : Operand) (hop : o.op = .call { callee := .builtin .append, args := #[s, x], argTypes := #[T, T] }) (hg : Region.wanted o (yielded ops a.tmps) = true)
    (base : Nat) (v u : Value) (xs ys : List Int) (hs : a.eval s = v) (hx : a.eval x = u) (hown : OwnK e k base w v xs) (hrow : RowK k w u ys) (hn : xs.length + ys.length ≤ 1000000000) (hb : base ≤ w.heap.size)
    (hK : ∀ v' w', OwnK e k base w' v' (xs ++ ys) → w.grownBy w' v.ownBlock → NewAt w v v' → K (a.put o.dst v') w') : if Region.wanted o (yielded ops a.tmps) = true then Oper.wp Tryd.prog o a w K Q else E := by
  rw [if_pos hg]; exact op_apps tab w s x hop base v u xs ys hs hx hown hrow hn hb hK
end
set_option maxHeartbeats 2000000 in
set_option linter.unusedVariables false in
theorem walk_FnEncodeBlocks (w : World) (hT : Tabs w) (v0 : Value) (z0 : List Int) (ra0 : RowK .u8 w v0 z0) (hw0 : ∀ n ∈ z0, (Lit.int .u8 n).wf = true) :
    Calls Tryd.prog 3 #[v0] w fun e w' => e = .returned (.bool true) ∧ Below w.heap.size w w' := by
  obtain ⟨aa0, cc0, rfl⟩ := ra0.form
  by_cases hlen0 : 1048576 < z0.length
  · go_enter Tryd.func3, Tryd.ntmps3
    go_wp2
    go_ret
    exact ⟨rfl, Below.refl _ _⟩
  have HB : Hid (Below w.heap.size w w) := Below.refl _ _
  go_enter Tryd.func3, Tryd.ntmps3
  go_wp2_with fail
  refine (DrawEncodeBlocks_any _ _ _ (ra0.belowAll HB.out) hw0).mono ?_
  rintro e w1 ⟨r1, xs, rfl, ho1, hl1, hbel⟩
  have s1 : w.heap.size ≤ w1.heap.size := hbel.size
  have HB1 := Lib.hid (below_step HB.out hbel)
  have HE := Lib.hid hbel
  clear hbel
  clear HB HE
  have HB := HB1
  clear HB1
  have O1 := ho1
  have lt2 := ho1.lt
  clear ho1
  go_wp2_with fail
  refine (EncodeBlocks_any xs _ _ (hT.below HB.out) (row_of_own O1)).mono ?_
  rintro e w2 ⟨r3, rfl, hown, hbel⟩
  have s2 : w1.heap.size ≤ w2.heap.size := hbel.size
  have HB2 := Lib.hid (below_step HB.out hbel)
  have HE := Lib.hid hbel
  clear hbel
  have O4 := O1.belowAll HE.out
  clear O1
  clear HB HE
  have HB := HB2
  clear HB2
  have O5 := hown
  have lt6 := hown.lt
  clear hown
  go_wp2_with fail
  refine (specEncodeBlocks_any xs _ _ (row_of_own O4)).mono ?_
  rintro e w3 ⟨r7, rfl, hown, hbel⟩
  have s3 : w2.heap.size ≤ w3.heap.size := hbel.size
  have HB3 := Lib.hid (below_step HB.out hbel)
  have HE := Lib.hid hbel
  clear hbel
  have O8 := O4.belowAll HE.out
  clear O4
  have O9 := O5.belowAll HE.out
  clear O5
  clear HB HE
  have HB := HB3
  clear HB3
  have O10 := hown
  have lt11 := hown.lt
  clear hown
  go_wp2_with fail
  refine (sameInts_any (encL xs) (encL xs) _ _ _ (row_of_own O9) (row_of_own O10)).mono ?_
  rintro e w4 ⟨rfl, hq⟩
  have HQ := Lib.hid hq
  clear hq
  have s4 : w3.heap.size ≤ w4.heap.size := (HQ.out.below 0).size
  have HB4 := Lib.hid (below_quiet HB.out HQ.out)
  have O12 := O8.quiet HQ.out
  clear O8
  have O13 := O9.quiet HQ.out
  clear O9
  have O14 := O10.quiet HQ.out
  clear O10
  clear HB HQ
  have HB := HB4
  clear HB4
  have t1 : (encL xs == encL xs) = true := by simp
  obtain ⟨n, hn1⟩ : ∃ k, k = (encL xs).length := ⟨_, rfl⟩
  obtain ⟨a1, c1, hv1⟩ := (row_of_own O13).form
  rw [← hn1] at hv1
  subst hv1
  have HN1 := Lib.hid hn1.symm
  clear hn1
  by_cases hn0 : n = 0
  · subst hn0
    go_wp2_with fail
    refine (alive_any _).mono ?_
    rintro e w5 ⟨rfl, hbel⟩
    have s5 : w4.heap.size ≤ w5.heap.size := hbel.size
    have HB5 := Lib.hid (below_step HB.out hbel)
    have HE := Lib.hid hbel
    clear hbel
    have O15 := O12.belowAll HE.out
    clear O12
    have O16 := O13.belowAll HE.out
    clear O13
    have O17 := O14.belowAll HE.out
    clear O14
    clear HB HE
    have HB := HB5
    clear HB5
    go_wp2
    go_ret
    exact ⟨rfl, HB.out⟩
  · cases hok : okE xs
    · exact absurd (HN1.out.symm.trans (by simp [encL, hok])) hn0
    have HL := Lib.hid hl1
    clear hl1
    obtain ⟨m, hn2⟩ : ∃ k, k = (xs).length := ⟨_, rfl⟩
    obtain ⟨a2, c2, hv2⟩ := (row_of_own O12).form
    rw [← hn2] at hv2
    subst hv2
    have HN2 := Lib.hid hn2.symm
    clear hn2
    have hnm : 4 * n = 7 * m := by have := encL_half hok; have h1 := HN1.out; have h2 := HN2.out; omega
    have hm1 : m ≤ 512 := by obtain ⟨_, _, h3, _⟩ := okE_is hok; have h2 := HN2.out; omega
    obtain ⟨q, hq⟩ : ∃ q : Nat, q = m / 8 := ⟨_, rfl⟩
    obtain ⟨h, hh⟩ : ∃ h : Nat, h = 4 * q := ⟨_, rfl⟩
    have hd3 : (m : Int).tdiv 8 = (q : Int) := by rw [Int.tdiv_eq_ediv_of_nonneg (by omega)]; omega
    have hqh : (q : Int) * 4 = (h : Int) := by omega
    have hq512 : (q : Int) ≤ 512 := by omega
    have hh512 : (h : Int) ≤ 512 := by omega
    have hwh := IntWalk.i64_in (h : Int) (by omega)
    have HHM := Lib.hid (show h < m by omega)
    have hn0' : ((n : Int) == 0) = false := by rw [beq_eq_false_iff_ne]; omega
    have hn0'' : ¬ (n : Int) = 0 := by omega
    have HJ := Lib.hid (enc_split hok q (by have := HN2.out; omega))
    rw [← hh] at HJ
    have HDE := Lib.hid (dec_of_enc hok)
    have HNM := Lib.hid hnm
    have hm512 : (m : Int) ≤ 512 := by omega
    have hn896 : (n : Int) ≤ 896 := by omega
    have HD := Lib.hid (fun W v (hT' : Tabs W) (hr : RowK .i64 W v (encL xs)) => DecodeBlocks_any (encL xs) v W hT'.p hr)
    rw [HDE.out.1, HDE.out.2] at HD
    clear hok hq hh hnm hm1 hn0
    go_wp2_with fail
    refine (HD.out _ _ (hT.below HB.out) (row_of_own O13)).mono ?_
    rintro e w5 ⟨rb, rfl, hown, hbel⟩
    have s5 : w4.heap.size ≤ w5.heap.size := hbel.size
    have HB5 := Lib.hid (below_step HB.out hbel)
    have HE := Lib.hid hbel
    clear hbel
    have O15 := O12.belowAll HE.out
    clear O12
    have O16 := O13.belowAll HE.out
    clear O13
    have O17 := O14.belowAll HE.out
    clear O14
    clear HB HE
    have HB := HB5
    clear HB5
    have O18 := hown
    have lt19 := hown.lt
    clear hown
    have HBR : Below w5.heap.size w5 w5.drew := (show Quiet w5 w5.drew from ⟨1, rfl⟩).below _
    have hcp : m ≤ c2 := (row_of_own O15).at.2.2.1
    obtain ⟨g, rfl⟩ := own_form_pos O15 (by have := HN2.out; have := HHM.out; omega)
    have hhm : h ≤ m := by have := HHM.out; omega
    have HRA := Lib.hid ((row_of_own O15).pre h hhm)
    have hrB := (row_of_own O15).mid h (m - h) (by have := HN2.out; omega)
    rw [Nat.zero_add] at hrB
    rw [List.take_of_length_le (by have := HN2.out; rw [List.length_drop]; omega)] at hrB
    have HRB := Lib.hid hrB
    have hc0 : ¬ c2 = h := by have := HHM.out; omega
    have hw1 := IntWalk.i64_in (4 * (n : Int)) (by omega)
    have hw2 := IntWalk.i64_in (7 * (m : Int)) (by omega)
    have t2 : (4 * (n : Int) == 7 * (m : Int)) = true := by have := HNM.out; rw [beq_iff_eq]; omega
    have lA := encL_len (xs.take h)
    have lB := encL_len (xs.drop h)
    have hhm' : (h : Int) ≤ (m : Int) := by omega
    have hhc' : (h : Int) ≤ (c2 : Int) := by omega
    have hmc' : (m : Int) ≤ (c2 : Int) := by omega
    have HCA := Lib.hid (fun W v (hb : Below w5.heap.size w5 W) (hr : RowK .i64 W v (xs.take h)) => EncodeBlocks_any (xs.take h) v W (hT.below (below_step HB.out hb)) hr)
    have HCB := Lib.hid (fun W v (hb : Below w5.heap.size w5 W) (hr : RowK .i64 W v (xs.drop h)) => EncodeBlocks_any (xs.drop h) v W (hT.below (below_step HB.out hb)) hr)
    have HOX := Lib.hid O16
    have HOB := Lib.hid O18
    have HRX := Lib.hid (row_of_own O15)
    obtain ⟨BA, eBA⟩ : ∃ B, B = encL (xs.take h) := ⟨_, rfl⟩
    obtain ⟨BB, eBB⟩ : ∃ B, B = encL (xs.drop h) := ⟨_, rfl⟩
    obtain ⟨BZ, eBZ⟩ : ∃ B, B = encL xs := ⟨_, rfl⟩
    rw [← eBA] at HJ lA HCA
    rw [← eBB] at HJ lB HCB
    rw [← eBZ] at HJ HOX
    have HSS : Hid (∀ W v u, RowK .i64 W v BZ → RowK .i64 W u BZ → Calls Tryd.prog 6 #[v, u] W fun e w' => e = .returned (.bool true) ∧ Quiet W w') := fun W v u hv hu => by
      have := sameInts_any BZ BZ v u W hv hu
      simpa using this
    have HSX : Hid (∀ W v u, RowK .i64 W v xs → RowK .i64 W u xs → Calls Tryd.prog 6 #[v, u] W fun e w' => e = .returned (.bool true) ∧ Quiet W w') := fun W v u hv hu => by
      have := sameInts_any xs xs v u W hv hu
      simpa using this
    clear eBA eBB eBZ hrB hhm HD t1
    go_wp2_with fail
    go_region_held3 (fun W => Below w5.heap.size w5 W) (exact HBR) (first
      | (refine st_apps tabI _ (.tmp 53) (.tmp 57) (by with_reducible rfl) (by kernel_rfl) w5.heap.size _ _ BA BB rfl rfl hX (row_of_own hY) (by omega) HBR.size ?_; intro v' w' hZ hgrow hnw; rw [HJ.out] at hZ; have HBR := HBR.trans (below_of_row hgrow HBR.size (fun k e => (hX.lt k e).1)); clear hgrow hnw)
      | (go_at_call_of 5 (Value.slice (some ⟨g, 0, none⟩) h c2); refine (HCA.out _ _ HBR (HRA.out.belowAll HBR)).mono ?_; rintro e wa ⟨ra, rfl, hX, hbx⟩; have hX := hX.mono HBR.size; have HBR := below_step HBR hbx; clear hbx)
      | (go_at_call 5; refine (HCB.out _ _ HBR (HRB.out.belowAll HBR)).mono ?_; rintro e wa ⟨ra, rfl, hY, hbx⟩; have hX := hX.belowAll hbx; have HBR := below_step HBR hbx; clear hbx)
      | (go_at_call_of 6 rb; refine (HSX.out _ _ _ (row_of_own (HOB.out.belowAll HBR)) (HRX.out.belowAll HBR)).mono ?_; rintro e wa ⟨rfl, hbx⟩; have HBR := below_quiet HBR hbx; clear hbx)
      | (go_at_call 6; refine (HSS.out _ _ _ (row_of_own hZ) (row_of_own (HOX.out.belowAll HBR))).mono ?_; rintro e wa ⟨rfl, hbx⟩; have HBR := below_quiet HBR hbx; clear hbx))
    all_goals (go_wp2; go_ret; exact ⟨rfl, below_step HB.out HBR⟩)
end Go.Proofs.YtpfbmfnfcppjeadDoor
