/-
  Appending the check bits, by the program and by the reference.
-/
import Derived.Test.YtkhefkedhdakbacDoorChk7
namespace Go.Proofs.YtkhefkedhdakbacDoor
open Go.RowKit

theorem appL_yes {zs : List Int} {g : Int} (h1 : validB zs = true) (h2 : genB g = true) (h3 : zs.length + degN g ≤ 1024) : appL zs g = zs ++ cbits g.toNat (degN g) zs := by simp [appL, h1, h2, h3]
theorem appL_no {zs : List Int} {g : Int} (h : (validB zs && genB g) = false) : appL zs g = [] := by unfold appL; rw [h]; rfl
theorem appL_big {zs : List Int} {g : Int} (h3 : 1024 < zs.length + degN g) : appL zs g = [] := by
  unfold appL; rw [if_neg]; simp; omega
theorem eq_nil (W : World) (a : Option Addr) (n c : Nat) : (Op.equal 23 (.slice a n c) (.slice none 0 0)).run Tryd.prog W = .ok a.isNone W := by
  simp [Op.equal, Op.maxDepth, Lib.run_equalIn_slice_nil W 9999 23 3 a n c 0 0 Tryd.underlying23]
theorem eql_nil (W : World) (a : Option Addr) (n c : Nat) : (binOp .eql 23 (.slice a n c) (.slice none 0 0)).run Tryd.prog W = .ok (.bool a.isNone) W :=
  Lib.run_eql_slice_nil W 23 3 a n c 0 0 Tryd.underlying23
set_option maxHeartbeats 400000 in
theorem CheckAppend_any (zs : List Int) (g : Int) (v : Value) (w : World) (hrow : RowK .i64 w v zs) (hwf : (Lit.int .i64 g).wf = true) :
    Calls Tryd.prog 6 #[v, .int .i64 g] w fun e w' => ∃ r, e = .returned r ∧ OwnI w.heap.size w' r (appL zs g) ∧ Below w.heap.size w w' := by
  have hrow' := hrow
  have hq1 := eq_nil
  have hq2 := eql_nil
  obtain ⟨a, cap, hv⟩ := hrow.form
  subst hv
  cases h : (validB zs && genB g)
  · have HA := Lib.hid (appL_no h)
    have HC := Lib.hid (show Calls Tryd.prog 19 #[.slice a zs.length cap, .int .i64 g] w fun e w' => e = .returned (.slice none 0 0) ∧ w = w' from CheckBits_neg zs g _ w hrow' hwf h)
    go_enter Tryd.func6, Tryd.ntmps6
    go_wp2_with (go_at_call 19; refine (HC.out).mono ?_; rintro e w' ⟨rfl, rfl⟩)
    go_ret
    exact ⟨_, rfl, by rw [HA.out]; exact own_nil _ _, Below.refl _ _⟩
  · simp only [Bool.and_eq_true] at h
    obtain ⟨h1, h2⟩ := h
    obtain ⟨G, rfl, hg1, hg2, _⟩ := gen_nat h2
    have hl := valid_len h1
    have hd := deg_le h2
    have HA := Lib.hid (appL_yes (zs := zs) h1 h2)
    have HB := Lib.hid (appL_big (zs := zs) (g := (G : Int)))
    have HC := Lib.hid (CheckBits_pos zs G _ w hrow' h1 h2)
    have HL := Lib.hid (cbits_length G (degN (G : Int)) zs)
    have HB1 : BitL (cbits G (degN (G : Int)) zs) := cbits_bits _ _ _
    clear HB1
    simp only [Int.toNat_natCast] at HA
    obtain ⟨cs, ecs⟩ : ∃ cs, cs = cbits G (degN (G : Int)) zs := ⟨_, rfl⟩
    rw [← ecs] at HA HC HL
    obtain ⟨d, ed⟩ : ∃ d, d = degN (G : Int) := ⟨_, rfl⟩
    rw [← ed] at hd HA HB HC HL
    clear ed ecs h1 h2
    by_cases hbig : 1024 < zs.length + d
    · have ht : decide ((1024 : Int) < (zs.length : Int) + (d : Int)) = true := by simp; omega
      have hti : (1024 : Int) < (zs.length : Int) + (d : Int) := by omega
      go_enter Tryd.func6, Tryd.ntmps6
      go_wp2_with fail
      refine (HC.out).mono ?_
      rintro e w1 ⟨g0, rfl, hown, hbel⟩
      have HBe := Lib.hid hbel
      clear hbel
      go_wp2
      go_ret
      exact ⟨_, rfl, by rw [HB.out hbig]; exact own_nil _ _, HBe.out⟩
    · have ht : decide ((1024 : Int) < (zs.length : Int) + (d : Int)) = false := by simp; omega
      have hti : (zs.length : Int) + (d : Int) ≤ 1024 := by omega
      have hsum : (zs.length : Int) + (d : Int) = ((zs.length + d : Nat) : Int) := by simp
      go_enter Tryd.func6, Tryd.ntmps6
      go_wp2_with fail
      refine (HC.out).mono ?_
      rintro e w1 ⟨g0, rfl, hown, hbel⟩
      have HBe := Lib.hid hbel
      have hsz1 := hbel.size
      have hrow1 := hrow'.belowAll hbel
      have hlt1 := hown.lt
      clear hbel hsum
      go_wp2_with (first | (at_make; refine wp_make0 tabI _ rfl _ _ rfl (zs.length + d) rfl (by show Value.int .i64 ((zs.length : Int) + (d : Int)) = _; simp) (by omega) ?_; intro w2 hown2 hbel2 hsz2) | (at_builtin; refine wp_apps tabI _ rfl (.tmp 24) (.tmp 25) rfl w1.heap.size _ _ [] zs rfl rfl hown2 (hrow1.belowAll hbel2) (by simp; omega) (by omega) ?_; intro v3 w3 hown3 hg3 hn3; simp only [List.nil_append] at hown3) | (at_builtin; refine wp_apps tabI _ rfl (.tmp 26) (.tmp 27) rfl w1.heap.size _ _ zs cs rfl rfl hown3 ((row_of_own hown).belowAll (hbel2.trans (below_of_row hg3 (by omega) (by intro j e; have e' : some w1.heap.size = some j := e; cases e'; omega)))) (by have := HL.out; omega) (by have := hg3.size; omega) ?_; intro v4 w4 hown4 hg4 hn4))
      have hg3' : w2.grownBy w3 (some w1.heap.size) := hg3
      have hb3 := hbel2.trans (below_of_row hg3' (by omega) (by intro j e; cases e; omega))
      have hb4 := hb3.trans (below_of_row hg4 (by have := hg3.size; omega) (fun j e => (hown3.lt j e).1))
      go_ret
      exact ⟨_, rfl, by rw [HA.out (by omega)]; exact hown4.mono hsz1, below_step HBe.out hb4⟩
set_option maxHeartbeats 1000000 in
theorem specCheckAppend_any (zs : List Int) (g : Int) (v : Value) (w : World) (hrow : RowK .i64 w v zs) :
    Calls Tryd.prog 9 #[v, .int .i64 g] w fun e w' => ∃ r, e = .returned r ∧ OwnI w.heap.size w' r (appL zs g) ∧ Below w.heap.size w w' := by
  have hrow' := hrow
  have hlen := hrow.len
  have hmt : OwnI w.heap.size (w.alloc (.cells #[] 3)) (.slice (some ⟨w.heap.size, 0, none⟩) 0 0) [] := World.ownsRow_made w #[] 0 (Nat.le_refl _) (by decide) rfl
  have hb0 : Below w.heap.size w (w.alloc (.cells #[] 3)) := (Below.refl _ w).alloc (Nat.le_refl _) _
  have hrm : RowK .i64 (w.alloc (.cells #[] 3)) v zs := hrow.belowAll hb0
  obtain ⟨a, cap, hv⟩ := hrow.form
  subst hv
  cases h1 : validB zs
  · have HA := Lib.hid (appL_no (zs := zs) (g := g) (by rw [h1]; rfl))
    go_enter Tryd.func9, Tryd.ntmps9
    go_wp2_with (go_at_call 20; refine (specBitsValid_any _ _ _ hrow').mono ?_; rintro e w' ⟨rfl, rfl⟩)
    go_ret
    exact ⟨_, rfl, by rw [HA.out]; exact hmt, hb0⟩
  · cases h2 : genB g
    · have HA := Lib.hid (appL_no (zs := zs) (g := g) (by rw [h1, h2]; rfl))
      go_enter Tryd.func9, Tryd.ntmps9
      go_wp2_with (first | (go_at_call 20; refine (specBitsValid_any _ _ _ hrow').mono ?_; rintro e w' ⟨rfl, rfl⟩) | (go_at_call 22; refine (specGeneratorValid_any _ _).mono ?_; rintro e w' ⟨rfl, rfl⟩))
      go_ret
      exact ⟨_, rfl, by rw [HA.out]; exact hmt, hb0⟩
    · obtain ⟨G, rfl, hg1, hg2, _⟩ := gen_nat h2
      have hl := valid_len h1
      have hd := deg_le h2
      have HA := Lib.hid (appL_yes (zs := zs) h1 h2)
      have HB := Lib.hid (appL_big (zs := zs) (g := (G : Int)))
      have HK := Lib.hid (chkL_pos (zs := zs) h1 h2)
      have HL := Lib.hid (chk_length (zs := zs) h1 h2)
      rw [← HK.out] at HA
      clear HK
      have HG := Lib.hid (show Nat.log2 G = degN (G : Int) from deg_log.symm)
      obtain ⟨d, ed⟩ : ∃ d, d = degN (G : Int) := ⟨_, rfl⟩
      rw [← ed] at hd HA HB HL HG
      clear ed
      by_cases hbig : 1024 < zs.length + d
      · have ht : decide ((1024 : Int) < (zs.length : Int) + (d : Int)) = true := by simp; omega
        have hti : (1024 : Int) < (zs.length : Int) + (d : Int) := by omega
        go_enter Tryd.func9, Tryd.ntmps9
        go_wp2_with (first | (go_at_call 20; refine (specBitsValid_any _ _ _ hrow').mono ?_; rintro e w' ⟨rfl, rfl⟩) | (go_at_call 22; refine (specGeneratorValid_any _ _).mono ?_; rintro e w' ⟨rfl, rfl⟩) | (go_at_call 23; refine (l2Degree_any G _ (by omega) (by omega)).mono ?_; rw [HG.out]; rintro e w' ⟨rfl, rfl⟩))
        go_ret
        exact ⟨_, rfl, by rw [HB.out hbig]; exact hmt, hb0⟩
      · have ht : decide ((1024 : Int) < (zs.length : Int) + (d : Int)) = false := by simp; omega
        have hti : (zs.length : Int) + (d : Int) ≤ 1024 := by omega
        go_enter Tryd.func9, Tryd.ntmps9
        go_wp2_with (first | (go_at_call 20; refine (specBitsValid_any _ _ _ hrow').mono ?_; rintro e w' ⟨rfl, rfl⟩) | (go_at_call 22; refine (specGeneratorValid_any _ _).mono ?_; rintro e w' ⟨rfl, rfl⟩) | (go_at_call 23; refine (l2Degree_any G _ (by omega) (by omega)).mono ?_; rw [HG.out]; rintro e w' ⟨rfl, rfl⟩) | (at_builtin; refine wp_apps tabI _ rfl (.tmp 22) (.tmp 23) rfl w.heap.size _ _ [] zs rfl rfl hmt hrm (by simp; omega) (by simp) ?_; intro v3 w3 hown3 hg3 hn3; simp only [List.nil_append] at hown3))
        have hg3' : (w.alloc (.cells #[] 3)).grownBy w3 (some w.heap.size) := hg3
        have hb3 : Below w.heap.size w w3 := hb0.trans (below_of_row hg3' (by simp) (by intro j e; cases e; omega))
        have hr3 := hrow'.belowAll hb3
        have HB3 := Lib.hid hb3
        have hsz3 := hb3.size
        clear hg3 hg3' hn3 hb3 hrm hmt hb0
        refine (specCheckBits_any zs (G : Int) _ _ hr3).mono ?_
        rintro e w4 ⟨r, rfl, hown4, hb4⟩
        have hown5 := hown3.belowAll hb4
        have HB4 := Lib.hid (below_step HB3.out hb4)
        have hsz4 := hb4.size
        clear hb4 hown3 HB3
        go_wp2_with (at_builtin; refine wp_apps tabI _ rfl (.tmp 24) (.tmp 27) rfl w.heap.size _ _ zs (chkL zs (G : Int)) rfl rfl hown5 (row_of_own hown4) (by have := HL.out; omega) (by omega) ?_; intro v6 w6 hown6 hg6 hn6)
        have hb6 := HB4.out.trans (below_of_row hg6 (by omega) (fun j e => (hown5.lt j e).1))
        go_ret
        exact ⟨_, rfl, by rw [HA.out (by omega)]; exact hown6, hb6⟩
end Go.Proofs.YtkhefkedhdakbacDoor
