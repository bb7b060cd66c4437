/-
  Drawn taps, seeds and numbers.
-/
import Derived.Test.YtpfbmfnfcppjeacShf
import Derived.Test.YtpfbmfnfcppjeacDrawC
namespace Go.Proofs.Ytpfbmfnfcppjeac
open Go.RowKit
theorem cellsNew (W : World) (cs : Array Value) (T : TypeId) (j : Nat) (u : Value) (hu : cs[j]? = some u) : (W.alloc (.cells cs T)).cell? ⟨W.heap.size, j, none⟩ = some u := by
  rw [World.cell?_alloc_at _ _ _ _ rfl]; exact hu
theorem cellsOld (W : World) (o : Obj) (b j : Nat) (u : Value) (h : W.cell? ⟨b, j, none⟩ = some u) : (W.alloc o).cell? ⟨b, j, none⟩ = some u := by
  exact (Below.cell (B := W.heap.size) ((Below.refl _ W).alloc (Nat.le_refl _) o) (World.block_lt_of_cell? W _ h)).trans h
theorem belowA {w W : World} (h : Below w.heap.size w W) (o : Obj) : Below w.heap.size w (W.alloc o) := h.alloc h.size o
theorem RdA {W : World} {S B m : Nat} (h : Rd W S B m) (o : Obj) : Rd (W.alloc o) S B m := h.below ((Below.refl _ W).alloc (Nat.le_refl _) o)
/-- Cells of another block stay as they are where only block B grows. -/
theorem cellsKept {W W' : World} {B b j : Nat} {u : Value} (hg : W.grownBy W' (some B)) (hne : b ≠ B) (h : W.cell? ⟨b, j, none⟩ = some u) : W'.cell? ⟨b, j, none⟩ = some u :=
  hg.cell h (fun e => hne (Option.some.inj e))
theorem cellsPick {w2 wb : World} {B : Nat} {cs : Array Value} {T : TypeId} (hg : (w2.alloc (.cells cs T)).drew.grownBy wb (some B)) (hne : w2.heap.size ≠ B) : ∀ j u, cs[j]? = some u → wb.cell? ⟨w2.heap.size, j, none⟩ = some u :=
  fun j u hu => cellsKept hg hne (cellsNew w2 cs T j u hu)
theorem pick7 {tn : Nat} (ht : tn < 7) : ∃ q : Nat, q < 3 ∧ (#[Value.int .i64 0, .int .i64 0, .int .i64 0, .int .i64 0, .int .i64 0, .int .i64 1, .int .i64 2] : Array Value)[tn]? = some (.int .i64 (q : Int)) := by
  have h7 : tn = 0 ∨ tn = 1 ∨ tn = 2 ∨ tn = 3 ∨ tn = 4 ∨ tn = 5 ∨ tn = 6 := by omega
  rcases h7 with rfl | rfl | rfl | rfl | rfl | rfl | rfl
  · exact ⟨0, by omega, rfl⟩
  · exact ⟨0, by omega, rfl⟩
  · exact ⟨0, by omega, rfl⟩
  · exact ⟨0, by omega, rfl⟩
  · exact ⟨0, by omega, rfl⟩
  · exact ⟨1, by omega, rfl⟩
  · exact ⟨2, by omega, rfl⟩
theorem pick3 {q : Nat} {x : Int} (hq : q < 3) (hx0 : 0 ≤ x) (hx1 : x < 40) :
    ∃ s : Int, -1 ≤ s ∧ s ≤ 1025 ∧ (#[Value.int .i64 x, .int .i64 (-1), .int .i64 1025] : Array Value)[q]? = some (.int .i64 s) ∧ ∀ h : q < 3, ([Value.int .i64 x, .int .i64 (-1), .int .i64 1025] : List Value)[q] = .int .i64 s := by
  have h3 : q = 0 ∨ q = 1 ∨ q = 2 := by omega
  rcases h3 with rfl | rfl | rfl
  · exact ⟨x, by omega, by omega, rfl, fun _ => rfl⟩
  · exact ⟨-1, by omega, by omega, rfl, fun _ => rfl⟩
  · exact ⟨1025, by omega, by omega, rfl, fun _ => rfl⟩
theorem resultsT3 {fn : Func} {t u v : Tmp} (h : fn.results = #[.tmp t, .tmp u, .tmp v]) (tmps : Array Value) (P : Program) (w : World) :
    (results fn tmps).run P w = .ok (.tuple #[tmps.getD t undef, tmps.getD u undef, tmps.getD v undef]) w := by simp [results, h]
theorem seedC_at (w : World) : ∀ r : Nat, r < 2 → (w.alloc (.cells #[.int .i64 0, .int .i64 65536] 3)).cell? ⟨w.heap.size, r, none⟩ = some (.int .i64 (([0, 65536] : List Int).getD r 0)) := by
  intro r hr
  rw [World.cell?_alloc_at _ _ _ _ rfl]
  have h2 : r = 0 ∨ r = 1 := by omega
  rcases h2 with rfl | rfl <;> rfl
theorem seedC_le : ∀ r : Nat, r < 2 → 0 ≤ ([0, 65536] : List Int).getD r 0 ∧ ([0, 65536] : List Int).getD r 0 ≤ 65536 := by decide
set_option maxHeartbeats 1600000 in
theorem l20Taps_any (n : Int) (S B m : Nat) (w : World) (h : Rd w S B m) (hm : m ≤ 10000) (hn : 0 ≤ n) (hn2 : n ≤ 100) :
    Calls Try.prog 12 #[.pointer (some ⟨B, 0, none⟩), .int .i64 n] w fun e w' => ∃ g s : Int, e = .returned (.tuple #[.int .i64 g, .int .i64 s]) ∧ -1000 ≤ g ∧ g ≤ 200000 ∧ 0 ≤ s ∧ s ≤ 65536 ∧ Rd w' S B (m + 20) ∧ w.grownBy w' (some B) := by
  go_enter Try.func12, Try.ntmps12
  go_wp2_with fail
  refine (l20Generator_any _ _ _ _ _ h (by omega) (by omega) (by omega)).mono ?_
  rintro e w1 ⟨g, rfl, hg0, hg1, hr1, hgr1⟩
  clear h
  go_wp2_with fail
  refine (pick_any _ _ _ _ _ hr1 (by omega) (by omega) (by omega)).mono ?_
  rintro e w2 ⟨t, rfl, ht0, ht1, hr2, hgr2⟩
  have HG2 := Lib.hid (grown_trans hgr1 hgr2)
  clear hr1 hgr1 hgr2
  cases hg : genB g
  · go_wp2_with fail
    refine (specGeneratorValid_any _ _).mono ?_
    rw [hg]
    rintro e w' ⟨rfl, rfl⟩
    clear hg
    go_wp2_with fail
    refine (odd_any _ _ _ _ _ hr2 (by omega) (by omega) (by omega)).mono ?_
    rintro e w3 ⟨o, rfl, hr3, hgr3⟩
    have HG3 := Lib.hid (grown_trans HG2.out hgr3)
    clear hr2 hgr3
    cases o
    · go_wp2
      go_ret2
      exact ⟨g, 1 + t, rfl, hg0, hg1, by omega, by omega, hr3.more (by omega), HG3.out⟩
    · have hr4 := hr3.below ((Below.refl _ w3).alloc (Nat.le_refl _) (.cells #[.int .i64 0, .int .i64 65536] 3))
      have HG4 := Lib.hid (grown_trans HG3.out (World.grownBy_alloc w3 (.cells #[.int .i64 0, .int .i64 65536] 3) (some B)))
      have HC := Lib.hid (seedC_at w3)
      have hlt : B < w3.heap.size := hr3.lt
      clear hr3
      go_wp2_with fail
      refine (pick_any _ _ _ _ _ hr4 (by omega) (by omega) (by omega)).mono ?_
      rintro e w5 ⟨r, rfl, h2, h3, hr5, hg5⟩
      obtain ⟨r, rfl⟩ := Int.eq_ofNat_of_zero_le h2
      have hr22 : r < 2 := by omega
      obtain ⟨y, ey⟩ : ∃ y, y = ([0, 65536] : List Int).getD r 0 := ⟨_, rfl⟩
      have hle := seedC_le r hr22
      have hc := hg5.cell (HC.out r hr22) (by simp; omega)
      rw [← ey] at hle hc
      have HG5 := Lib.hid (grown_trans HG4.out hg5)
      clear hg5 hr4 ey
      go_wp2
      go_ret2
      exact ⟨g, y, rfl, hg0, hg1, hle.1, hle.2, hr5.more (by omega), HG5.out⟩
  · have hb := deg_bounds hg
    have HG := Lib.hid hg
    obtain ⟨G, rfl, hgl⟩ := gen_nat hg
    have HL := Lib.hid (show Nat.log2 G = degN (G : Int) by rw [deg_log])
    clear hg
    obtain ⟨d, ed⟩ : ∃ d, d = degN (G : Int) := ⟨_, rfl⟩
    rw [← ed] at hb HL
    clear ed
    obtain ⟨hb1, hb2, hb3, hb4⟩ := hb
    obtain ⟨p, ep⟩ : ∃ p, p = 2 ^ d := ⟨_, rfl⟩
    have e1 : (2 : Int) ^ d = (p : Int) := by rw [ep]; simp
    have e2 : (2 : Int) ^ (min d 64) = (p : Int) := by rw [Nat.min_eq_left (by omega)]; exact e1
    have hp := pow16 hb4
    rw [← ep] at hp
    rw [e1] at hb1 hb2
    have hp2 : 2 ≤ p := by rw [ep]; exact Nat.pow_le_pow_right (n := 2) (by omega) hb3
    have hd64 : (d : Int) ≤ 64 := by omega
    have HW := Lib.hid (show wrap64 ((2 : Int) ^ d) = (p : Int) by rw [e1]; exact IntWalk.wrap64_in _ ⟨by omega, by omega⟩)
    clear ep hb1 hb2 e1
    go_wp2_with fail
    refine (specGeneratorValid_any _ _).mono ?_
    rw [HG.out]
    rintro e w' ⟨rfl, rfl⟩
    go_wp2_with fail
    refine (pick_any _ _ _ _ _ hr2 (by omega) (by omega) (by omega)).mono ?_
    rintro e w3 ⟨t2, rfl, h20, h21, hr3, hgr3⟩
    have HG3 := Lib.hid (grown_trans HG2.out hgr3)
    clear hr2 hgr3
    go_wp2_with fail
    refine (l2Degree_any G _ (by omega) (by omega)).mono ?_
    rw [HL.out]
    rintro e w' ⟨rfl, rfl⟩
    have hw1 := HW.out
    have hw2 : wrap64 ((p : Int) - 1) = (p : Int) - 1 := IntWalk.wrap64_in _ ⟨by omega, by omega⟩
    have hne : ((p : Int) - 1 == 0) = false := by rw [beq_eq_false_iff_ne]; omega
    have hne2 : (p : Int) - 1 ≠ 0 := by omega
    have hq : t2.tmod ((p : Int) - 1) = t2 % ((p : Int) - 1) := Int.tmod_eq_emod_of_nonneg h20
    have hu0 : 0 ≤ t2 % ((p : Int) - 1) := Int.emod_nonneg _ hne2
    have hu1 : t2 % ((p : Int) - 1) < (p : Int) - 1 := Int.emod_lt_of_pos _ (by omega)
    obtain ⟨u, eu⟩ : ∃ u, u = t2 % ((p : Int) - 1) := ⟨_, rfl⟩
    rw [← eu] at hq hu0 hu1
    clear eu HL
    go_wp2_with fail
    refine (odd_any _ _ _ _ _ hr3 (by omega) (by omega) (by omega)).mono ?_
    rintro e w9 ⟨o, rfl, hr9, hgr9⟩
    have HG9 := Lib.hid (grown_trans HG3.out hgr9)
    clear hr3 hgr9
    cases o
    · go_wp2
      go_ret2
      exact ⟨(G : Int), 1 + u, rfl, hg0, hg1, by omega, by omega, hr9.more (by omega), HG9.out⟩
    · have hr4 := hr9.below ((Below.refl _ w9).alloc (Nat.le_refl _) (.cells #[.int .i64 0, .int .i64 65536] 3))
      have HG4 := Lib.hid (grown_trans HG9.out (World.grownBy_alloc w9 (.cells #[.int .i64 0, .int .i64 65536] 3) (some B)))
      have HC := Lib.hid (seedC_at w9)
      have hlt : B < w9.heap.size := hr9.lt
      clear hr9
      go_wp2_with fail
      refine (pick_any _ _ _ _ _ hr4 (by omega) (by omega) (by omega)).mono ?_
      rintro e w5 ⟨r, rfl, h2, h3, hr5, hg5⟩
      obtain ⟨r, rfl⟩ := Int.eq_ofNat_of_zero_le h2
      have hr32 : r < 2 := by omega
      obtain ⟨y, ey⟩ : ∃ y, y = ([0, 65536] : List Int).getD r 0 := ⟨_, rfl⟩
      have hle := seedC_le r hr32
      have hc := hg5.cell (HC.out r hr32) (by simp; omega)
      rw [← ey] at hle hc
      have HG5 := Lib.hid (grown_trans HG4.out hg5)
      clear hg5 hr4 ey
      go_wp2
      go_ret2
      exact ⟨(G : Int), y, rfl, hg0, hg1, hle.1, hle.2, hr5.more (by omega), HG5.out⟩
set_option maxHeartbeats 2000000 in
theorem DrawShiftBits_any (zs : List Int) (v : Value) (w : World) (h : RowK .u8 w v zs) (hz : ∀ n ∈ zs, (Lit.int .u8 n).wf = true) :
    Calls Try.prog 4 #[v] w fun e w' => ∃ g s n : Int, e = .returned (.tuple #[.int .i64 g, .int .i64 s, .int .i64 n]) ∧ -1000 ≤ g ∧ g ≤ 200000 ∧ 0 ≤ s ∧ s ≤ 65536 ∧ -1 ≤ n ∧ n ≤ 1025 ∧ Below w.heap.size w w' := by
  go_enter Try.func4, Try.ntmps4
  go_wp2_with fail
  refine (l20Open_any _ _ _ h hz).mono ?_
  rintro e w1 ⟨rfl, hr, hb⟩
  go_wp2_with fail
  refine (l20Taps_any _ _ _ _ _ hr (by omega) (by omega) (by omega)).mono ?_
  rintro e w2 ⟨g, s, rfl, hg0, hg1, hs0, hs1, hr2, hg2⟩
  have HB2 := Lib.hid (below_open hb hg2)
  have hlt := hr2.lt
  have hge := hr2.ge
  go_wp2_with fail
  have HR2 : Hid (Rd w2.drew w.heap.size w.heap.size 2000) := (hr2.quiet ⟨1, rfl⟩).more (by omega)
  have HBD : Hid (Below w.heap.size w w2.drew) := below_quiet HB2.out ⟨1, rfl⟩
  have HR3 := Lib.hid (fun o : Obj => (show Rd (w2.alloc o).drew w.heap.size w.heap.size 2000 from ((RdA hr2 o).quiet ⟨1, rfl⟩).more (by omega)))
  have HBD3 := Lib.hid (fun o : Obj => (show Below w.heap.size w (w2.alloc o).drew from below_quiet (belowA HB2.out o) ⟨1, rfl⟩))
  clear hr hb hr2 hg2
  go_region_with (first
    | (go_at_call 13; with_reducible refine (pick_any 40 _ _ _ _ HR2.out (by omega) (by omega) (by omega)).mono ?_; rintro e wb ⟨ta, rfl, ha0, ha1, hrb, hgb⟩; have HRB := Lib.hid hrb; have hlb := hrb.lt; have HBB := Lib.hid (below_mark HBD.out hgb (fun j e => by cases e; omega)); clear hrb hgb)
    | (go_at_call 13; with_reducible refine (pick_any 40 _ _ _ _ (HR3.out (.cells #[.int .i64 0, .int .i64 0, .int .i64 0, .int .i64 0, .int .i64 0, .int .i64 1, .int .i64 2] 3)) (by omega) (by omega) (by omega)).mono ?_; rintro e wb ⟨ta, rfl, ha0, ha1, hrb, hgb⟩; have HRB := Lib.hid hrb; have hlb := hrb.lt; have K2 := Lib.hid (cellsPick hgb (by omega)); have HBB := Lib.hid (below_mark (HBD3.out _) hgb (fun j e => by cases e; omega)); clear hrb hgb)
    | (go_at_call 13; with_reducible refine (pick_any 7 _ _ _ _ HRB.out (by omega) (by omega) (by omega)).mono ?_;
       (
       rintro e wc ⟨tc, rfl, hc0, hc1, hrc, hgc⟩
       obtain ⟨tn, rfl⟩ := Int.eq_ofNat_of_zero_le hc0
       obtain ⟨q, hq, e2⟩ := pick7 (tn := tn) (by omega)
       obtain ⟨x, hx0, hx1, e1, e3⟩ := pick3 (q := q) (x := ta) hq ha0 ha1
       have e4 := e3 hq
       have n2 := fun W : World => cellsNew W _ 3 _ _ e2
       have n1 := fun W : World => cellsNew W _ 3 _ _ e1
       have n21 := fun (W : World) (o : Obj) => cellsOld _ o _ _ _ (cellsNew W _ 3 _ _ e2)
       have n12 := fun (W : World) (o : Obj) => cellsOld _ o _ _ _ (cellsNew W _ 3 _ _ e1)
       (try have k2 := cellsKept hgc (by omega) (K2.out _ _ e2))
       (try have k2b := fun o => cellsOld _ o _ _ _ k2)
       have HBE := Lib.hid (below_mark (HBB.out) hgc (fun j e => by cases e; exact Nat.le_refl _))
       clear hgc hrc))
    | (go_at_call 13; with_reducible refine (pick_any 7 _ _ _ _ (RdA HRB.out (.cells #[.int .i64 ta, .int .i64 (-1), .int .i64 1025] 3)) (by omega) (by omega) (by omega)).mono ?_;
       (
       rintro e wc ⟨tc, rfl, hc0, hc1, hrc, hgc⟩
       obtain ⟨tn, rfl⟩ := Int.eq_ofNat_of_zero_le hc0
       obtain ⟨q, hq, e2⟩ := pick7 (tn := tn) (by omega)
       obtain ⟨x, hx0, hx1, e1, e3⟩ := pick3 (q := q) (x := ta) hq ha0 ha1
       have e4 := e3 hq
       have n2 := fun W : World => cellsNew W _ 3 _ _ e2
       have n1 := fun W : World => cellsNew W _ 3 _ _ e1
       have n21 := fun (W : World) (o : Obj) => cellsOld _ o _ _ _ (cellsNew W _ 3 _ _ e2)
       have n12 := fun (W : World) (o : Obj) => cellsOld _ o _ _ _ (cellsNew W _ 3 _ _ e1)
       have k1 := cellsKept hgc (by omega) (cellsNew wb _ 3 _ _ e1)
       have k1b := fun o => cellsOld _ o _ _ _ k1
       (try have k2 := cellsKept hgc (by omega) (cellsOld _ _ _ _ _ (K2.out _ _ e2)))
       (try have k2b := fun o => cellsOld _ o _ _ _ k2)
       have HBE := Lib.hid (below_mark (belowA HBB.out _) hgc (fun j e => by cases e; exact Nat.le_refl _))
       clear hgc hrc))
    | (go_at_call 13; with_reducible refine (pick_any 7 _ _ _ _ (RdA HRB.out (.cells #[.int .i64 0, .int .i64 0, .int .i64 0, .int .i64 0, .int .i64 0, .int .i64 1, .int .i64 2] 3)) (by omega) (by omega) (by omega)).mono ?_;
       (
       rintro e wc ⟨tc, rfl, hc0, hc1, hrc, hgc⟩
       obtain ⟨tn, rfl⟩ := Int.eq_ofNat_of_zero_le hc0
       obtain ⟨q, hq, e2⟩ := pick7 (tn := tn) (by omega)
       obtain ⟨x, hx0, hx1, e1, e3⟩ := pick3 (q := q) (x := ta) hq ha0 ha1
       have e4 := e3 hq
       have n2 := fun W : World => cellsNew W _ 3 _ _ e2
       have n1 := fun W : World => cellsNew W _ 3 _ _ e1
       have n21 := fun (W : World) (o : Obj) => cellsOld _ o _ _ _ (cellsNew W _ 3 _ _ e2)
       have n12 := fun (W : World) (o : Obj) => cellsOld _ o _ _ _ (cellsNew W _ 3 _ _ e1)
       have k2 := cellsKept hgc (by omega) (cellsNew wb _ 3 _ _ e2)
       have k2b := fun o => cellsOld _ o _ _ _ k2
       have HBE := Lib.hid (below_mark (belowA HBB.out _) hgc (fun j e => by cases e; exact Nat.le_refl _))
       clear hgc hrc))
    | (go_at_call 13; with_reducible refine (pick_any 7 _ _ _ _ (RdA (RdA HRB.out (.cells #[.int .i64 ta, .int .i64 (-1), .int .i64 1025] 3)) (.cells #[.int .i64 0, .int .i64 0, .int .i64 0, .int .i64 0, .int .i64 0, .int .i64 1, .int .i64 2] 3)) (by omega) (by omega) (by omega)).mono ?_;
       (
       rintro e wc ⟨tc, rfl, hc0, hc1, hrc, hgc⟩
       obtain ⟨tn, rfl⟩ := Int.eq_ofNat_of_zero_le hc0
       obtain ⟨q, hq, e2⟩ := pick7 (tn := tn) (by omega)
       obtain ⟨x, hx0, hx1, e1, e3⟩ := pick3 (q := q) (x := ta) hq ha0 ha1
       have e4 := e3 hq
       have n2 := fun W : World => cellsNew W _ 3 _ _ e2
       have n1 := fun W : World => cellsNew W _ 3 _ _ e1
       have n21 := fun (W : World) (o : Obj) => cellsOld _ o _ _ _ (cellsNew W _ 3 _ _ e2)
       have n12 := fun (W : World) (o : Obj) => cellsOld _ o _ _ _ (cellsNew W _ 3 _ _ e1)
       have k1 := cellsKept hgc (by omega) (n12 wb _)
       have k2 := cellsKept hgc (by simp; omega) (n2 (wb.alloc (.cells #[.int .i64 ta, .int .i64 (-1), .int .i64 1025] 3)))
       simp only [World.size_alloc] at k2
       have HBE := Lib.hid (below_mark (belowA (belowA HBB.out _) _) hgc (fun j e => by cases e; exact Nat.le_refl _))
       clear hgc hrc))
    | (go_at_call 13; with_reducible refine (pick_any 7 _ _ _ _ (RdA (RdA HRB.out (.cells #[.int .i64 0, .int .i64 0, .int .i64 0, .int .i64 0, .int .i64 0, .int .i64 1, .int .i64 2] 3)) (.cells #[.int .i64 ta, .int .i64 (-1), .int .i64 1025] 3)) (by omega) (by omega) (by omega)).mono ?_;
       (
       rintro e wc ⟨tc, rfl, hc0, hc1, hrc, hgc⟩
       obtain ⟨tn, rfl⟩ := Int.eq_ofNat_of_zero_le hc0
       obtain ⟨q, hq, e2⟩ := pick7 (tn := tn) (by omega)
       obtain ⟨x, hx0, hx1, e1, e3⟩ := pick3 (q := q) (x := ta) hq ha0 ha1
       have e4 := e3 hq
       have n2 := fun W : World => cellsNew W _ 3 _ _ e2
       have n1 := fun W : World => cellsNew W _ 3 _ _ e1
       have n21 := fun (W : World) (o : Obj) => cellsOld _ o _ _ _ (cellsNew W _ 3 _ _ e2)
       have n12 := fun (W : World) (o : Obj) => cellsOld _ o _ _ _ (cellsNew W _ 3 _ _ e1)
       have k2 := cellsKept hgc (by omega) (n21 wb _)
       have k1 := cellsKept hgc (by simp; omega) (n1 (wb.alloc (.cells #[.int .i64 0, .int .i64 0, .int .i64 0, .int .i64 0, .int .i64 0, .int .i64 1, .int .i64 2] 3)))
       simp only [World.size_alloc] at k1
       have HBE := Lib.hid (below_mark (belowA (belowA HBB.out _) _) hgc (fun j e => by cases e; exact Nat.le_refl _))
       clear hgc hrc)))
  all_goals (go_wp2; refine bodyPost_ret (resultsT3 rfl _ _ _) rfl ?_; first
    | exact ⟨g, s, x, rfl, by omega, by omega, by omega, by omega, by omega, by omega, HBE.out⟩
    | exact ⟨g, s, x, rfl, by omega, by omega, by omega, by omega, by omega, by omega, belowA HBE.out _⟩
    | exact ⟨g, s, x, rfl, by omega, by omega, by omega, by omega, by omega, by omega, belowA (belowA HBE.out _) _⟩)
end Go.Proofs.Ytpfbmfnfcppjeac
