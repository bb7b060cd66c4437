/-
  Nibbles by the reference. Written by a program (enc2.py).
-/
import Derived.Test.YthljgookoboieabDoorEncP
namespace Go.Proofs.YthljgookoboieabDoor
open Go.RowKit
theorem fix_flip {zs : List Int} {k p : Nat} (hk : k < zs.length) : fixAt (k + 1) zs p = (zs.set k (1 - zs.getD k 0)).getD p 0 := by
  unfold fixAt
  by_cases h : p = k
  · subst h
    rw [if_pos rfl, List.getD_eq_getElem?_getD (l := zs.set p _), List.getElem?_set_self hk]; rfl
  · rw [if_neg (by omega), List.getD_eq_getElem?_getD, List.getD_eq_getElem?_getD, List.getElem?_set_ne (by omega)]
theorem own_slice7 {e : Nat} {k : IntKind} {B : Nat} {w : World} {v : Value} {zs : List Int} (h : OwnK e k B w v zs) (hl : zs.length = 7) : ∃ g c, v = .slice (some ⟨g, 0, none⟩) 7 c := by
  rcases h.form with ⟨_, h0⟩ | ⟨g, c, e, _⟩
  · subst h0; simp at hl
  · rw [hl] at e; exact ⟨g, c, e⟩
set_option maxHeartbeats 1600000 in
theorem specDecodeNibble_any (zs : List Int) (v : Value) (w : World) (hrow : RowK .i64 w v zs) :
    Calls Tryd.prog 22 #[v] w fun e w' => ∃ r, e = .returned (.tuple #[r, .bool (decW zs)]) ∧ OwnI w.heap.size w' r (decN zs) ∧ Below w.heap.size w w' := by
  have hrow' := hrow
  have hm0 : OwnI w.heap.size (w.alloc (.cells #[] 3)) (.slice (some ⟨w.heap.size, 0, none⟩) 0 0) [] := World.ownsRow_made w #[] 0 (Nat.le_refl _) (by decide) rfl
  have hb0 : Below w.heap.size w (w.alloc (.cells #[] 3)) := (Below.refl _ w).alloc (Nat.le_refl _) _
  obtain ⟨a, cap, hv⟩ := hrow.form
  subst hv
  cases h1 : (validB zs && zs.length == 7)
  · have HP := Lib.hid (decN_neg (zs := zs) h1)
    have HS := Lib.hid (synI_neg (zs := zs) h1)
    go_enter Tryd.func22, Tryd.ntmps22
    go_wp2_with (go_at_call 36; refine (specSyndromeOf_any _ _ _ hrow').mono ?_; rw [HS.out]; rintro e w' ⟨rfl, rfl⟩)
    go_ret2
    exact ⟨_, by rw [HP.out.2]; rfl, by rw [HP.out.1]; exact hm0, hb0⟩
  · have HP := Lib.hid (decN_pos (zs := zs) h1)
    have hbl := ok7 h1
    have hS8 := syn_lt zs 0 0 (by omega) (by omega)
    have HS := Lib.hid (show synI zs = ((syn 0 0 zs : Nat) : Int) by simp only [synI, h1, if_true])
    have HD := Lib.hid (dec_decS zs)
    have HW := Lib.hid (show wrongB zs = (syn 0 0 zs != 0) from rfl)
    obtain ⟨S, eS⟩ : ∃ S, S = syn 0 0 zs := ⟨_, rfl⟩
    rw [← eS] at hS8 HS HD HW
    have HL := Lib.hid hbl.2
    have HB := Lib.hid hbl.1
    have hr1 := hrow'.belowAll hb0
    clear eS hbl h1 hrow
    have h0s : S = 0 ∨ ∃ s, S = s + 1 := by cases S with | zero => exact .inl rfl | succ s => exact .inr ⟨s, rfl⟩
    rcases h0s with rfl | ⟨s, rfl⟩
    · have HW2 := Lib.hid (show wrongB zs = false from HW.out)
      have HDD := Lib.hid (show decS 0 zs = [zs.getD 2 0, zs.getD 4 0, zs.getD 5 0, zs.getD 6 0] from rfl)
      go_enter Tryd.func22, Tryd.ntmps22
      go_wp2_with (first
        | (go_at_call 36; refine (specSyndromeOf_any _ _ _ hrow').mono ?_; rw [HS.out]; rintro e w' ⟨rfl, rfl⟩)
        | (at_builtin; refine wp_apps tabI _ rfl (.tmp 11) (.tmp 12) rfl w.heap.size _ _ [] zs rfl rfl hm0 hr1 (by have := HL.out; simp; omega) (by simp) ?_; intro vc wc hoc hgc hnc; simp only [List.nil_append] at hoc; obtain ⟨g3, c3, rfl⟩ := own_slice7 hoc HL.out; have k2 := hoc.cell HL.out 2 (by omega); have k4 := hoc.cell HL.out 4 (by omega); have k5 := hoc.cell HL.out 5 (by omega); have k6 := hoc.cell HL.out 6 (by omega); have HBC := Lib.hid (hb0.trans (below_of_row hgc (by simp) (fun j e => (hm0.lt j e).1))); clear hoc hgc hnc))
      go_region
      all_goals go_wp2
      go_ret2
      have hnew := own_new4 wc.drew (zs.getD 2 0) (zs.getD 4 0) (zs.getD 5 0) (zs.getD 6 0)
      exact ⟨_, by rw [HP.out.2, HW2.out]; rfl, by rw [HP.out.1, HD.out, HDD.out]; exact hnew.mono HBC.out.size, HBC.out.drew.alloc HBC.out.size _⟩
    · have HW2 := Lib.hid (show wrongB zs = true by rw [HW.out]; simp)
      have hs7 : s < 7 := by omega
      obtain ⟨x, hx, hx2⟩ := bit_nat HB.out s (by have := HL.out; omega)
      have HX := Lib.hid hx
      obtain ⟨ys, eys⟩ : ∃ ys, ys = zs.set s (1 - (x : Int)) := ⟨_, rfl⟩
      have HY := Lib.hid eys
      have HDD := Lib.hid (show decS (s + 1) zs = [ys.getD 2 0, ys.getD 4 0, ys.getD 5 0, ys.getD 6 0] by
        have hk : s < zs.length := by have := HL.out; omega
        rw [decS, fix_flip hk, fix_flip hk, fix_flip hk, fix_flip hk, hx, eys])
      have HYL := Lib.hid (show ys.length = 7 by rw [eys, List.length_set]; exact HL.out)
      have hsp : (0 : Int) < (s : Int) + 1 := by omega
      have hsp2 : ¬ (s : Int) + 1 < 0 := by omega
      clear hx eys
      go_enter Tryd.func22, Tryd.ntmps22
      go_wp2_with (first
        | (go_at_call 36; refine (specSyndromeOf_any _ _ _ hrow').mono ?_; rw [HS.out]; rintro e w' ⟨rfl, rfl⟩)
        | (at_builtin; refine wp_apps tabI _ rfl (.tmp 11) (.tmp 12) rfl w.heap.size _ _ [] zs rfl rfl hm0 hr1 (by have := HL.out; simp; omega) (by simp) ?_; intro vc wc hoc hgc hnc; simp only [List.nil_append] at hoc; obtain ⟨g3, c3, rfl⟩ := own_slice7 hoc HL.out; have hcell := hoc.cell HL.out s hs7; rw [HX.out] at hcell; have hf := hoc.free HL.out s; have HO1 := Lib.hid (hoc.stored HL.out s (1 - (x : Int))); have hg3 := (hoc.lt g3 rfl).1; have hst := (show OwnI w.heap.size (wc.setCell ⟨g3, s, none⟩ (.int .i64 (1 - (x : Int)))) (.slice (some ⟨g3, 0, none⟩) 7 c3) ys from by rw [HY.out]; exact HO1.out.1); have k2 := hst.cell HYL.out 2 (by omega); have k4 := hst.cell HYL.out 4 (by omega); have k5 := hst.cell HYL.out 5 (by omega); have k6 := hst.cell HYL.out 6 (by omega); have HBC := Lib.hid (hb0.trans (below_of_row hgc (by simp) (fun j e => (hm0.lt j e).1))); clear hoc hgc hnc hst))
      go_region
      all_goals go_wp2
      go_ret2
      have HBD := Lib.hid (below_mark HBC.out HO1.out.2 (fun j e => by cases e; exact hg3))
      have hnew := own_new4 (wc.setCell ⟨g3, s, none⟩ (.int .i64 (1 - (x : Int)))) (ys.getD 2 0) (ys.getD 4 0) (ys.getD 5 0) (ys.getD 6 0)
      have hnew2 := hnew.mono HBD.out.size
      simp only [World.size_setCell] at hnew2
      have hfin : OwnI w.heap.size ((wc.setCell ⟨g3, s, none⟩ (.int .i64 (1 - (x : Int)))).alloc (.cells #[.int .i64 (ys.getD 2 0), .int .i64 (ys.getD 4 0), .int .i64 (ys.getD 5 0), .int .i64 (ys.getD 6 0)] 3)).drew (.slice (some ⟨wc.heap.size, 0, none⟩) 4 4) [ys.getD 2 0, ys.getD 4 0, ys.getD 5 0, ys.getD 6 0] := hnew2
      exact ⟨.slice (some ⟨wc.heap.size, 0, none⟩) 4 4, by rw [HP.out.2, HW2.out]; rfl, by rw [HP.out.1, HD.out, HDD.out]; exact hfin, (HBD.out.alloc HBD.out.size _).drew⟩
end Go.Proofs.YthljgookoboieabDoor
