/-
  The drawn element and exponent. Written by a program (drawp.py).
-/
import Derived.Test.YtpfbmfnfcppjeabDoorDrawF
import Derived.Deep.DrawnRows
namespace Go.Proofs.YtpfbmfnfcppjeabDoor
open Go.RowKit
theorem cellsNew (W : World) (cs : Array Value) (T : TypeId) (j : Nat) (u : Value) (hu : cs[j]? = some u) : (W.alloc (.cells cs T)).cell? ⟨W.heap.size, j, none⟩ = some u := by
  rw [World.cell?_alloc_at _ _ _ _ rfl]; exact hu
theorem cellsOld (W : World) (o : Obj) (b j : Nat) (u : Value) (h : W.cell? ⟨b, j, none⟩ = some u) : (W.alloc o).cell? ⟨b, j, none⟩ = some u := by
  exact (Below.cell (B := W.heap.size) ((Below.refl _ W).alloc (Nat.le_refl _) o) (World.block_lt_of_cell? W _ h)).trans h
theorem belowA {w W : World} (h : Below w.heap.size w W) (o : Obj) : Below w.heap.size w (W.alloc o) := h.alloc h.size o
theorem RdA {W : World} {S B m : Nat} (h : Rd W S B m) (o : Obj) : Rd (W.alloc o) S B m := h.below ((Below.refl _ W).alloc (Nat.le_refl _) o)
/-- Cells of another block stay as they are where only block B grows. -/
theorem cellsKept {W W' : World} {B b j : Nat} {u : Value} (hg : W.grownBy W' (some B)) (hne : b ≠ B) (h : W.cell? ⟨b, j, none⟩ = some u) : W'.cell? ⟨b, j, none⟩ = some u :=
  hg.cell h (fun e => hne (Option.some.inj e))
theorem cellsPick {w2 wb : World} {B : Nat} {cs : Array Value} {T : TypeId} (hg : (w2.alloc (.cells cs T)).drew.grownBy wb (some B)) (hne : w2.heap.size ≠ B) : ∀ j u, cs[j]? = some u → wb.cell? ⟨w2.heap.size, j, none⟩ = some u :=
  fun j u hu => cellsKept hg hne (cellsNew w2 cs T j u hu)
theorem cellsPick0 {w2 wb : World} {B : Nat} {cs : Array Value} {T : TypeId} (hg : (w2.alloc (.cells cs T)).grownBy wb (some B)) (hne : w2.heap.size ≠ B) : ∀ j u, cs[j]? = some u → wb.cell? ⟨w2.heap.size, j, none⟩ = some u :=
  fun j u hu => cellsKept hg hne (cellsNew w2 cs T j u hu)
theorem pick6 {tn : Nat} (ht : tn < 6) : ∃ q : Nat, q < 4 ∧ (#[Value.int .i64 0, .int .i64 0, .int .i64 0, .int .i64 1, .int .i64 2, .int .i64 3] : Array Value)[tn]? = some (.int .i64 (q : Int)) := by
  have h6 : tn = 0 ∨ tn = 1 ∨ tn = 2 ∨ tn = 3 ∨ tn = 4 ∨ tn = 5 := by omega
  rcases h6 with rfl | rfl | rfl | rfl | rfl | rfl
  · exact ⟨0, by omega, rfl⟩
  · exact ⟨0, by omega, rfl⟩
  · exact ⟨0, by omega, rfl⟩
  · exact ⟨1, by omega, rfl⟩
  · exact ⟨2, by omega, rfl⟩
  · exact ⟨3, by omega, rfl⟩
theorem pick4 {q : Nat} {x y : Int} (hq : q < 4) (hx0 : 0 ≤ x) (hx1 : x < 40) (hy0 : 0 ≤ y) (hy1 : y < 1001) :
    ∃ s : Int, -1 ≤ s ∧ s ≤ 1001 ∧ (#[Value.int .i64 x, .int .i64 y, .int .i64 (-1), .int .i64 1001] : Array Value)[q]? = some (.int .i64 s) ∧ ∀ h : q < 4, ([Value.int .i64 x, .int .i64 y, .int .i64 (-1), .int .i64 1001] : List Value)[q] = .int .i64 s := by
  have h4 : q = 0 ∨ q = 1 ∨ q = 2 ∨ q = 3 := by omega
  rcases h4 with rfl | rfl | rfl | rfl
  · exact ⟨x, by omega, by omega, rfl, fun _ => rfl⟩
  · exact ⟨y, by omega, by omega, rfl, fun _ => rfl⟩
  · exact ⟨-1, by omega, by omega, rfl, fun _ => rfl⟩
  · exact ⟨1001, by omega, by omega, rfl, fun _ => rfl⟩
attribute [local go_sem ↓] Go.wp_at_zero Go.wp_at_succ
set_option maxHeartbeats 3000000 in
theorem DrawFieldPower_any (zs : List Int) (v : Value) (w : World) (h : RowK .u8 w v zs) (hz : ∀ n ∈ zs, (Lit.int .u8 n).wf = true) :
    Calls Tryd.prog 4 #[v] w fun e w' => ∃ r s : Int, e = .returned (.tuple #[.int .i64 r, .int .i64 s]) ∧ -1 ≤ r ∧ r ≤ 16 ∧ -1 ≤ s ∧ s ≤ 1001 ∧ Below w.heap.size w w' := by
  go_enter Tryd.func4, Tryd.ntmps4
  go_wp2_with fail
  refine (l20Open_any _ _ _ h hz).mono ?_
  rintro e w1 ⟨rfl, hr, hb⟩
  go_wp2_with fail
  refine (l20Element_any _ _ _ _ _ hr (by omega) (by omega) (by omega)).mono ?_
  rintro e w2 ⟨r, rfl, h0, h1, hr2, hg⟩
  have HB2 := Lib.hid (below_open hb hg)
  have hlt := hr2.lt
  have hge := hr2.ge
  go_wp2_with fail
  have HR2 : Hid (Rd w2.drew w.heap.size w.heap.size 2000) := (hr2.quiet ⟨1, rfl⟩).more (by omega)
  have HBD : Hid (Below w.heap.size w w2.drew) := below_quiet HB2.out ⟨1, rfl⟩
  have HR3 := Lib.hid (fun o : Obj => (show Rd (w2.alloc o).drew w.heap.size w.heap.size 2000 from ((RdA hr2 o).quiet ⟨1, rfl⟩).more (by omega)))
  have HBD3 := Lib.hid (fun o : Obj => (show Below w.heap.size w (w2.alloc o).drew from below_quiet (belowA HB2.out o) ⟨1, rfl⟩))
  clear hr hb hr2 hg
  go_region_with (first
    | (go_at_call 11; with_reducible refine (pick_any 40 _ _ _ _ HR2.out (by omega) (by omega) (by omega)).mono ?_; rintro e wa ⟨ta, rfl, ha0, ha1, hra, hga⟩; have HRA := Lib.hid hra; have hla := hra.lt; have HBA := Lib.hid (below_mark HBD.out hga (fun j e => by cases e; omega)); clear hra hga)
    | (go_at_call 11; with_reducible refine (pick_any 40 _ _ _ _ (HR3.out (.cells #[.int .i64 0, .int .i64 0, .int .i64 0, .int .i64 1, .int .i64 2, .int .i64 3] 3)) (by omega) (by omega) (by omega)).mono ?_; rintro e wa ⟨ta, rfl, ha0, ha1, hra, hga⟩; have HRA := Lib.hid hra; have hla := hra.lt; have K2a := Lib.hid (cellsPick hga (by omega)); have HBA := Lib.hid (below_mark (HBD3.out _) hga (fun j e => by cases e; omega)); clear hra hga)
    | (go_at_call 11; with_reducible refine (pick_any 1001 _ _ _ _ HRA.out (by omega) (by omega) (by omega)).mono ?_; rintro e wb ⟨tb, rfl, hb0, hb1, hrb, hgb⟩; have HRB := Lib.hid hrb; have hlb := hrb.lt; (try have K2 := Lib.hid (fun j u hu => cellsKept hgb (by omega) (K2a.out j u hu))); have HBB := Lib.hid (below_mark HBA.out hgb (fun j e => by cases e; omega)); clear hrb hgb)
    | (go_at_call 11; with_reducible refine (pick_any 1001 _ _ _ _ (RdA HRA.out (.cells #[.int .i64 0, .int .i64 0, .int .i64 0, .int .i64 1, .int .i64 2, .int .i64 3] 3)) (by omega) (by omega) (by omega)).mono ?_; rintro e wb ⟨tb, rfl, hb0, hb1, hrb, hgb⟩; have HRB := Lib.hid hrb; have hlb := hrb.lt; have K2 := Lib.hid (cellsPick0 hgb (by omega)); have HBB := Lib.hid (below_mark (belowA HBA.out _) hgb (fun j e => by cases e; omega)); clear hrb hgb)
    | (go_at_call 11; with_reducible refine (pick_any 6 _ _ _ _ HRB.out (by omega) (by omega) (by omega)).mono ?_;
       (
       rintro e wc ⟨tc, rfl, hc0, hc1, hrc, hgc⟩
       obtain ⟨tn, rfl⟩ := Int.eq_ofNat_of_zero_le hc0
       obtain ⟨q, hq, e2⟩ := pick6 (tn := tn) (by omega)
       obtain ⟨x, hx0, hx1, e1, e3⟩ := pick4 (q := q) (x := ta) (y := tb) hq ha0 ha1 hb0 hb1
       have e4 := e3 hq
       have n2 := fun W : World => cellsNew W _ 3 _ _ e2
       have n1 := fun W : World => cellsNew W _ 3 _ _ e1
       have n21 := fun (W : World) (o : Obj) => cellsOld _ o _ _ _ (cellsNew W _ 3 _ _ e2)
       have n12 := fun (W : World) (o : Obj) => cellsOld _ o _ _ _ (cellsNew W _ 3 _ _ e1)
       (try have k2 := cellsKept hgc (by omega) (K2.out _ _ e2))
       (try have k2b := fun o => cellsOld _ o _ _ _ k2)
       have HBE := Lib.hid (below_mark (HBB.out) hgc (fun j e => by cases e; exact Nat.le_refl _))
       clear hgc hrc))
    | (go_at_call 11; with_reducible refine (pick_any 6 _ _ _ _ (RdA HRB.out (.cells #[.int .i64 ta, .int .i64 tb, .int .i64 (-1), .int .i64 1001] 3)) (by omega) (by omega) (by omega)).mono ?_;
       (
       rintro e wc ⟨tc, rfl, hc0, hc1, hrc, hgc⟩
       obtain ⟨tn, rfl⟩ := Int.eq_ofNat_of_zero_le hc0
       obtain ⟨q, hq, e2⟩ := pick6 (tn := tn) (by omega)
       obtain ⟨x, hx0, hx1, e1, e3⟩ := pick4 (q := q) (x := ta) (y := tb) hq ha0 ha1 hb0 hb1
       have e4 := e3 hq
       have n2 := fun W : World => cellsNew W _ 3 _ _ e2
       have n1 := fun W : World => cellsNew W _ 3 _ _ e1
       have n21 := fun (W : World) (o : Obj) => cellsOld _ o _ _ _ (cellsNew W _ 3 _ _ e2)
       have n12 := fun (W : World) (o : Obj) => cellsOld _ o _ _ _ (cellsNew W _ 3 _ _ e1)
       have k1 := cellsKept hgc (by omega) (cellsNew wb _ 3 _ _ e1)
       have k1b := fun o => cellsOld _ o _ _ _ k1
       (try have k2 := cellsKept hgc (by omega) (cellsOld _ _ _ _ _ (K2.out _ _ e2)))
       (try have k2b := fun o => cellsOld _ o _ _ _ k2)
       have HBE := Lib.hid (below_mark (belowA HBB.out _) hgc (fun j e => by cases e; exact Nat.le_refl _))
       clear hgc hrc))
    | (go_at_call 11; with_reducible refine (pick_any 6 _ _ _ _ (RdA HRB.out (.cells #[.int .i64 0, .int .i64 0, .int .i64 0, .int .i64 1, .int .i64 2, .int .i64 3] 3)) (by omega) (by omega) (by omega)).mono ?_;
       (
       rintro e wc ⟨tc, rfl, hc0, hc1, hrc, hgc⟩
       obtain ⟨tn, rfl⟩ := Int.eq_ofNat_of_zero_le hc0
       obtain ⟨q, hq, e2⟩ := pick6 (tn := tn) (by omega)
       obtain ⟨x, hx0, hx1, e1, e3⟩ := pick4 (q := q) (x := ta) (y := tb) hq ha0 ha1 hb0 hb1
       have e4 := e3 hq
       have n2 := fun W : World => cellsNew W _ 3 _ _ e2
       have n1 := fun W : World => cellsNew W _ 3 _ _ e1
       have n21 := fun (W : World) (o : Obj) => cellsOld _ o _ _ _ (cellsNew W _ 3 _ _ e2)
       have n12 := fun (W : World) (o : Obj) => cellsOld _ o _ _ _ (cellsNew W _ 3 _ _ e1)
       have k2 := cellsKept hgc (by omega) (cellsNew wb _ 3 _ _ e2)
       have k2b := fun o => cellsOld _ o _ _ _ k2
       have HBE := Lib.hid (below_mark (belowA HBB.out _) hgc (fun j e => by cases e; exact Nat.le_refl _))
       clear hgc hrc))
    | (go_at_call 11; with_reducible refine (pick_any 6 _ _ _ _ (RdA (RdA HRB.out (.cells #[.int .i64 ta, .int .i64 tb, .int .i64 (-1), .int .i64 1001] 3)) (.cells #[.int .i64 0, .int .i64 0, .int .i64 0, .int .i64 1, .int .i64 2, .int .i64 3] 3)) (by omega) (by omega) (by omega)).mono ?_;
       (
       rintro e wc ⟨tc, rfl, hc0, hc1, hrc, hgc⟩
       obtain ⟨tn, rfl⟩ := Int.eq_ofNat_of_zero_le hc0
       obtain ⟨q, hq, e2⟩ := pick6 (tn := tn) (by omega)
       obtain ⟨x, hx0, hx1, e1, e3⟩ := pick4 (q := q) (x := ta) (y := tb) hq ha0 ha1 hb0 hb1
       have e4 := e3 hq
       have n2 := fun W : World => cellsNew W _ 3 _ _ e2
       have n1 := fun W : World => cellsNew W _ 3 _ _ e1
       have n21 := fun (W : World) (o : Obj) => cellsOld _ o _ _ _ (cellsNew W _ 3 _ _ e2)
       have n12 := fun (W : World) (o : Obj) => cellsOld _ o _ _ _ (cellsNew W _ 3 _ _ e1)
       have k1 := cellsKept hgc (by omega) (n12 wb _)
       have k2 := cellsKept hgc (by simp; omega) (n2 (wb.alloc (.cells #[.int .i64 ta, .int .i64 tb, .int .i64 (-1), .int .i64 1001] 3)))
       simp only [World.size_alloc] at k2
       have HBE := Lib.hid (below_mark (belowA (belowA HBB.out _) _) hgc (fun j e => by cases e; exact Nat.le_refl _))
       clear hgc hrc))
    | (go_at_call 11; with_reducible refine (pick_any 6 _ _ _ _ (RdA (RdA HRB.out (.cells #[.int .i64 0, .int .i64 0, .int .i64 0, .int .i64 1, .int .i64 2, .int .i64 3] 3)) (.cells #[.int .i64 ta, .int .i64 tb, .int .i64 (-1), .int .i64 1001] 3)) (by omega) (by omega) (by omega)).mono ?_;
       (
       rintro e wc ⟨tc, rfl, hc0, hc1, hrc, hgc⟩
       obtain ⟨tn, rfl⟩ := Int.eq_ofNat_of_zero_le hc0
       obtain ⟨q, hq, e2⟩ := pick6 (tn := tn) (by omega)
       obtain ⟨x, hx0, hx1, e1, e3⟩ := pick4 (q := q) (x := ta) (y := tb) hq ha0 ha1 hb0 hb1
       have e4 := e3 hq
       have n2 := fun W : World => cellsNew W _ 3 _ _ e2
       have n1 := fun W : World => cellsNew W _ 3 _ _ e1
       have n21 := fun (W : World) (o : Obj) => cellsOld _ o _ _ _ (cellsNew W _ 3 _ _ e2)
       have n12 := fun (W : World) (o : Obj) => cellsOld _ o _ _ _ (cellsNew W _ 3 _ _ e1)
       have k2 := cellsKept hgc (by omega) (n21 wb _)
       have k1 := cellsKept hgc (by simp; omega) (n1 (wb.alloc (.cells #[.int .i64 0, .int .i64 0, .int .i64 0, .int .i64 1, .int .i64 2, .int .i64 3] 3)))
       simp only [World.size_alloc] at k1
       have HBE := Lib.hid (below_mark (belowA (belowA HBB.out _) _) hgc (fun j e => by cases e; exact Nat.le_refl _))
       clear hgc hrc)))
  all_goals (go_wp2; go_ret2; first
    | exact ⟨r, x, rfl, by omega, by omega, by omega, by omega, HBE.out⟩
    | exact ⟨r, x, rfl, by omega, by omega, by omega, by omega, belowA HBE.out _⟩
    | exact ⟨r, x, rfl, by omega, by omega, by omega, by omega, belowA (belowA HBE.out _) _⟩)
end Go.Proofs.YtpfbmfnfcppjeabDoor
