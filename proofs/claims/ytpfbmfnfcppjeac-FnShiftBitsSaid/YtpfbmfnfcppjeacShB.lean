/-
  ShiftBits by the program: a loop over an iterator that keeps a register in a block of its own.
-/
import Derived.RangeFuncNested
import Derived.RangeFuncBound
import Derived.RangeFuncCalls
import Derived.RangeFuncLeaves
import Derived.Shelf.Abstract
import Derived.WalkKit
import Derived.OwnWalkIn
import Derived.TacticsInMore
import Derived.LoopNIn
import Derived.LoopIn
import Derived.Deep.DeepAppendRoom
import Derived.Test.YtpfbmfnfcppjeacIter
import Derived.Test.YtpfbmfnfcppjeacShp
namespace Go.Proofs.Ytpfbmfnfcppjeac
open Go.RowKit Go.Shelf
attribute [local go_sem] Oper.semAt_some
theorem cell_belowI {w w' : World} {a : Addr} {v : Value} (h : w.cell? a = some v) (hb : Below w.heap.size w w') : w'.cell? a = some v :=
  (hb.cell (World.block_lt_of_cell? w _ h)).trans h
theorem RegAt.upper {w w' : World} {B H S : Nat} (h : RegAt w B H S) (hu : Upper B w w') : RegAt w' B H S := by
  obtain ⟨h1, h2, h3⟩ := h
  have hlt : B < w.heap.size := World.block_lt_of_cell? w _ h1
  have hb := hu.block B (Nat.le_refl _) hlt
  exact ⟨(World.cell?_of_block (w := w) (w' := w') (a := ⟨B, 0, none⟩) hb).trans h1, (World.cell?_of_block (w := w) (w' := w') (a := ⟨B, 1, none⟩) hb).trans h2, (World.frozen?_of_block (w := w) (w' := w') (a := ⟨B, 1, none⟩) hb).trans h3⟩
section
variable {F : Fence} {nF : Nat} {ops : Array Oper} {rest : List Oper} {o : Oper} {a : Act} {Q : Exit → Act → World → Prop}
/-- append(v, y) within a slice's room, in a fence: y has just been laid in a new block behind the world w0. -/
theorem wpListIn_app1s {T e : Nat} {k : IntKind} (tab : Tab T e k) (w0 w : World) (y : Int) (hh : w.heap = (w0.alloc (.cells #[.int k y] e)).heap) (ho : w.os = w0.os) (ht : w.tape = w0.tape) (hu : w.output = w0.output) (hg : o.guard = none)
    (s x : Operand) (hop : o.op = .call { callee := .builtin .append, args := #[s, x], argTypes := #[T, T] })
    (base g m cap : Nat) (xs : List Int) (hs : a.eval s = .slice (some ⟨g, 0, none⟩) m cap) (c : Nat) (hx : a.eval x = .slice (some ⟨w0.heap.size, 0, none⟩) 1 c) (hown : OwnK e k base w0 (.slice (some ⟨g, 0, none⟩) m cap) xs) (hm : xs.length = m) (hroom : m + 1 ≤ cap)
    (hK : ∀ w', OwnK e k base w' (.slice (some ⟨g, 0, none⟩) (m + 1) cap) (xs ++ [y]) → w0.grownBy w' (some g) → wpListIn F nF Try.prog ops Q rest (a.put o.dst (.slice (some ⟨g, 0, none⟩) (m + 1) cap)) w') :
    wpListIn F nF Try.prog ops Q (o :: rest) a w := by
  obtain ⟨hT, i0, by_, hi, hz0, hz1, hz2, hle⟩ := tab
  subst hm
  have hc0 : w.cell? ⟨w0.heap.size, 0, none⟩ = some (.int k y) := by
    have : w.cell? ⟨w0.heap.size, 0, none⟩ = (w0.alloc (.cells #[.int k y] e)).cell? ⟨w0.heap.size, 0, none⟩ := World.cell?_of_block (by rw [hh])
    rw [this, World.cell?_alloc_at _ _ _ _ rfl]; rfl
  have hg0 : w0.grownBy w none := ⟨ho, ht, hu, by rw [hh]; simp, fun j hj _ => by rw [hh]; exact Below.heap_alloc w0 _ j hj⟩
  have hown' : OwnK e k base w (.slice (some ⟨g, 0, none⟩) xs.length cap) xs := hown.kept hg0 (by simp [Value.ownBlock])
  have hnews : ∀ j u, [Value.int k y][j]? = some u → w.cell? ((⟨w0.heap.size, 0, none⟩ : Addr).add j) = some u := by
    intro j u hj
    match j, hj with
    | 0, hj => simp at hj; subst hj; simpa [Addr.add] using hc0
  obtain ⟨w', hr, h2, h3⟩ := run_append_own_spare (P := Try.prog) w base T o.type e i0 1 hT hi hz1 g xs.length cap _ hown' ⟨w0.heap.size, 0, none⟩ 1 c [Value.int k y] (by simp) hnews (ints_oneCell k [y]) hroom
  have hgr : w0.grownBy w' (some g) := grown_trans ⟨hg0.os, hg0.tape, hg0.output, hg0.size, fun j hj _ => hg0.block j hj (by simp)⟩ h3
  refine wpListIn_plain hg fun K hK' => ?_
  unfold Oper.wpIn
  refine ⟨by simp [Oper.about, hop, resolve, Target.leads, Sem.run_pure], ?_⟩
  rw [Oper.semAt_plain F _ _ (by rw [hop]; intro c hc'; cases hc')]
  simp [execOp, hop, resolve, invoke, builtin, hs, hx, hr, Result.andThen]
  exact hK' _ _ (hK w' (by unfold OwnK; rw [List.length_append, List.map_append]; exact h2) hgr)
/-- make(.., 0, n), in a fence. -/
theorem wpListIn_make0 {T e : Nat} {k : IntKind} (tab : Tab T e k) (w : World) (hg : o.guard = none) (l c : Operand) (hop : o.op = Op.makeSlice T l c) (n : Nat) (hl : a.eval l = .int .i64 0) (hc : a.eval c = .int .i64 (n : Int)) (hn : n ≤ 1000000000)
    (hK : ∀ w', OwnK e k w.heap.size w' (.slice (some ⟨w.heap.size, 0, none⟩) 0 n) [] → w.grownBy w' none → w.heap.size < w'.heap.size → wpListIn F nF Try.prog ops Q rest (a.put o.dst (.slice (some ⟨w.heap.size, 0, none⟩) 0 n)) w') :
    wpListIn F nF Try.prog ops Q (o :: rest) a w := by
  obtain ⟨hT, i0, by_, hi, hz0, hz1, hz2, hle⟩ := tab
  have hbytes : i0.bytes * n ≤ 8 * n := Nat.mul_le_mul_right _ (by omega)
  refine wpListIn_make_own w hg l c T hop w.heap.size e i0 (.int k 0) 1 hT hi hz0 hz1 .i64 .i64 n n hl hc rfl (by omega) (by unfold maxLen; omega) (Nat.le_refl _) ?_
  intro w' hown hgrow
  have ho : OwnK e k w.heap.size w' (.slice (some ⟨w.heap.size, 0, none⟩) 0 n) [] := hown
  exact hK w' ho hgrow (ho.lt w.heap.size rfl).2
end
set_option maxHeartbeats 400000 in
theorem outputs_any (t s : Int) (w : World) :
    Calls Try.prog 15 #[.int .i64 t, .int .i64 s] w fun e w' => e = .returned (.func (.func 27) #[] #[.pointer (some ⟨w.heap.size, 0, none⟩), .pointer (some ⟨w.heap.size + 1, 0, none⟩)]) ∧ w' = (w.alloc (.cells #[.int .i64 t] 3)).alloc (.cells #[.int .i64 s] 3) := by
  go_enter Try.func15, Try.ntmps15
  go_wp2
  go_ret
  exact ⟨by simp, rfl⟩
set_option maxRecDepth 100000 in
set_option maxHeartbeats 1000000 in
theorem outputs1_gives (T S d N bt bs : Nat) (lenOf : World → Nat) (w0 : World) (HH : Half (T / 2) d) (hd : d ≤ 16) (hS : S < 2 ^ d)
    (ht : w0.cell? ⟨bt, 0, none⟩ = some (.int .i64 (T : Int))) (hs : w0.cell? ⟨bs, 0, none⟩ = some (.int .i64 (S : Int))) :
    Gives Fence.wide 9 Try.prog 27 #[.pointer (some ⟨bt, 0, none⟩), .pointer (some ⟨bs, 0, none⟩)] (fun k => .int .i64 ((rrun (T / 2) S k : Int) % 2)) lenOf N w0 := by
  intro l J Jx W hW hJ hJl hY h0
  have ct := cell_belowI ht hW
  have cs := cell_belowI hs hW
  have HRL := Lib.hid (run_lt HH hS hd)
  have hT2 := half_lt HH hd
  have ht2 : ((T / 2 : Nat) : Int) = (T : Int) / 2 := by omega
  have hreg := regAt_new W (T / 2) S 46
  rw [ht2] at hreg
  have hJ0 := hJ 0 W _ h0 ((Below.refl _ W).alloc (Nat.le_refl _) (.cells #[.int .i64 ((T : Int) / 2), .int .i64 (S : Int)] 46))
  clear HH hW ht hs
  refine callsIn_of_wp Try.func27 rfl trivial ?_ rfl
  simp only [Try.ntmps27, List.size_toArray, List.length_cons, List.length_nil, Nat.reduceAdd, Nat.reduceSub, Array.replicate_succ, Array.replicate_zero, List.push_toArray, List.append_toArray, List.nil_append, List.cons_append]
  gi_wp2
  gi_loopw [] (fun wr => ∃ k : Nat, J k wr ∧ RegAt wr W.heap.size (T / 2) (rrun (T / 2) S k)) (fun wr => N - lenOf wr)
  case atStart => exact ⟨0, hJ0, hreg⟩
  case round =>
    obtain ⟨k, hj, hrg⟩ := hrel
    obtain ⟨hlen, hkN, hsz⟩ := hJl k wr hj
    have hX := HRL.out k
    gi_wp2_with (refine ⟨trivial, ?_⟩; gi_at_call 20; refine (callsIn_wide.2 (step_any (T / 2) (rrun (T / 2) S k) W.heap.size _ hrg hT2 hX hsz)).mono ?_; rintro e w1 ⟨rfl, hr1, hb1⟩; obtain ⟨fn, tmps, assign, body, hy, hR⟩ := hY k w1 (hJ k wr w1 hj hb1))
    refine hR.mono ?_
    rintro e W3 (⟨rfl, hJ3, hk3⟩ | ⟨rfl, hJx3⟩)
    · have hr3 : RegAt W3 W.heap.size (T / 2) (rrun (T / 2) S (k + 1)) := hr1.upper hk3
      gi_wp2
      go_roundw
      case rel => exact ⟨k + 1, hJ3, hr3⟩
      case measure => rw [(hJl _ _ hJ3).1, hlen]; omega
    · gi_wp2
      go_end0
      exact ⟨⟨_, rfl⟩, hJx3⟩
theorem cellN (w : World) (v : Value) (T : TypeId) : (w.alloc (.cells #[v] T)).cell? ⟨w.heap.size, 0, none⟩ = some v := by rw [World.cell?_alloc_at _ _ _ _ rfl]; rfl
theorem own_down {w w2 : World} {o : Obj} {n : Nat} (h : OwnI (w.alloc o).heap.size w2 (.slice (some ⟨(w.alloc o).heap.size, 0, none⟩) 0 n) []) : OwnI w.heap.size w2 (.slice (some ⟨w.heap.size + 1, 0, none⟩) 0 n) [] := by
  have := h.mono (B' := w.heap.size) (by simp)
  simpa using this
def lenAt (b : Nat) (W : World) : Nat := match W.cell? ⟨b, 0, none⟩ with
  | some (.slice _ n _) => n
  | _ => 0
set_option maxHeartbeats 800000 in
theorem ShiftBits_small (t s n : Int) (w : World) (hwf : (Lit.int .i64 t).wf = true) (h : (regB t s && inB n 0 1024) = false ∨ n = 0) :
    Calls Try.prog 5 #[.int .i64 t, .int .i64 s, .int .i64 n] w fun e w' => ∃ r, e = .returned r ∧ OwnI w.heap.size w' r (shiftL t s n) ∧ Below w.heap.size w w' := by
  have hb0 : Below w.heap.size w (w.alloc (.cells #[.int .i64 n] 3)) := (Below.refl _ w).alloc (Nat.le_refl _) _
  cases h1 : regB t s
  · have HP := Lib.hid (shiftL_neg (t := t) (s := s) (n := n) (by rw [h1]; rfl))
    go_enter Try.func5, Try.ntmps5
    go_wp2_with (go_at_call 14; refine (registerValid_any _ _ _ hwf).mono ?_; rw [h1]; rintro e w' ⟨rfl, rfl⟩)
    go_ret
    exact ⟨_, rfl, by rw [HP.out]; exact World.ownsRow_nil _ _ _ _, hb0⟩
  · by_cases hz : n < 0
    · have HP := Lib.hid (shiftL_neg (t := t) (s := s) (n := n) (by rw [h1]; simp [inB]; omega))
      go_enter Try.func5, Try.ntmps5
      go_wp2_with (go_at_call 14; refine (registerValid_any _ _ _ hwf).mono ?_; rw [h1]; rintro e w' ⟨rfl, rfl⟩)
      go_ret
      exact ⟨_, rfl, by rw [HP.out]; exact World.ownsRow_nil _ _ _ _, hb0⟩
    · by_cases hbig : 1024 < n
      · have HP := Lib.hid (shiftL_neg (t := t) (s := s) (n := n) (by rw [h1]; simp [inB]; omega))
        have hz2 : 0 ≤ n := by omega
        clear h hz
        go_enter Try.func5, Try.ntmps5
        go_wp2_with (go_at_call 14; refine (registerValid_any _ _ _ hwf).mono ?_; rw [h1]; rintro e w' ⟨rfl, rfl⟩)
        go_ret
        exact ⟨_, rfl, by rw [HP.out]; exact World.ownsRow_nil _ _ _ _, hb0⟩
      · have h2 : inB n 0 1024 = true := by simp [inB]; omega
        obtain rfl : n = 0 := by
          rcases h with h | h
          · rw [h1, h2] at h; simp at h
          · exact h
        have HP : Hid (shiftL t s 0 = []) := shift_pos (n := 0) h1 (by omega)
        clear h hz hbig h2
        go_enter Try.func5, Try.ntmps5
        have HN := Lib.hid (cellN w (.int .i64 0) 3)
        go_wp2_with (first | (go_at_call 14; refine (registerValid_any _ _ _ hwf).mono ?_; rw [h1]; rintro e w' ⟨rfl, rfl⟩) | (at_make; refine wp_make0 tabI _ rfl _ _ rfl 0 rfl rfl (by omega) ?_; intro w2 hown2 hbel2 hsz2; have hn1 := cell_belowI HN.out hbel2; have hlt2 : w.heap.size < w2.heap.size := (by have := hsz2; simp at this; omega); have HB2 := Lib.hid (hb0.trans (hbel2.mono (by simp))); have HO := Lib.hid (own_down hown2); clear hown2 hbel2))
        go_ret
        have hb3 : Below w2.heap.size w2 (w2.alloc (.cells #[.slice (some ⟨w.heap.size + 1, 0, none⟩) 0 0] 25)) := (Below.refl _ w2).alloc (Nat.le_refl _) _
        exact ⟨_, rfl, by rw [HP.out]; exact HO.out.belowAll hb3, HB2.out.trans (hb3.mono HB2.out.size)⟩
theorem shift_world (w2 : World) (T S n b : Nat) :
    let W0 := (((w2.alloc (.cells #[.slice (some ⟨b + 1, 0, none⟩) 0 n] 25)).alloc (.cells #[.int .i64 (T : Int)] 3)).alloc (.cells #[.int .i64 (S : Int)] 3))
    W0.heap.size = w2.heap.size + 3 ∧ Below w2.heap.size w2 W0 ∧ W0.cell? ⟨w2.heap.size + 1, 0, none⟩ = some (.int .i64 (T : Int)) ∧ W0.cell? ⟨w2.heap.size + 1 + 1, 0, none⟩ = some (.int .i64 (S : Int)) ∧
      W0.cell? ⟨w2.heap.size, 0, none⟩ = some (.slice (some ⟨b + 1, 0, none⟩) 0 n) ∧ W0.frozen? ⟨w2.heap.size, 0, none⟩ = false := by
  intro W0
  obtain ⟨A, hA⟩ : ∃ A, A = w2.alloc (.cells #[.slice (some ⟨b + 1, 0, none⟩) 0 n] 25) := ⟨_, rfl⟩
  obtain ⟨B, hB⟩ : ∃ B, B = A.alloc (.cells #[.int .i64 (T : Int)] 3) := ⟨_, rfl⟩
  have hAs : A.heap.size = w2.heap.size + 1 := by rw [hA]; simp
  have hBs : B.heap.size = w2.heap.size + 1 + 1 := by rw [hB]; simp [hAs]
  have hW : W0 = B.alloc (.cells #[.int .i64 (S : Int)] 3) := by rw [hB, hA]
  have bA : Below w2.heap.size w2 A := by rw [hA]; exact (Below.refl _ _).alloc (Nat.le_refl _) _
  have bB : Below A.heap.size A B := by rw [hB]; exact (Below.refl _ _).alloc (Nat.le_refl _) _
  have bW : Below B.heap.size B W0 := by rw [hW]; exact (Below.refl _ _).alloc (Nat.le_refl _) _
  have c1 : A.cell? ⟨w2.heap.size, 0, none⟩ = some (.slice (some ⟨b + 1, 0, none⟩) 0 n) := by rw [hA]; exact cellN _ _ _
  have f1 : A.frozen? ⟨w2.heap.size, 0, none⟩ = false := by rw [hA]; exact World.frozen?_alloc_at _ _ _ _ rfl
  have c2 : B.cell? ⟨A.heap.size, 0, none⟩ = some (.int .i64 (T : Int)) := by rw [hB]; exact cellN _ _ _
  have c3 : W0.cell? ⟨B.heap.size, 0, none⟩ = some (.int .i64 (S : Int)) := by rw [hW]; exact cellN _ _ _
  rw [hAs] at c2
  rw [hBs] at c3
  refine ⟨by rw [hW]; simp [hBs], bA.trans ((bB.mono (by omega)).trans (bW.mono (by omega))), cell_belowI c2 bW, c3, cell_belowI (cell_belowI c1 bB) bW, ?_⟩
  rw [bW.frozen (p := ⟨w2.heap.size, 0, none⟩) (by show w2.heap.size < _; omega), bB.frozen (p := ⟨w2.heap.size, 0, none⟩) (by show w2.heap.size < _; omega), f1]
theorem frozen_grown {W W' : World} {g b : Nat} (hg : W.grownBy W' (some g)) (hb : b < W.heap.size) (hne : b ≠ g) : W'.frozen? ⟨b, 0, none⟩ = W.frozen? ⟨b, 0, none⟩ :=
  World.frozen?_of_block (w := W) (a := ⟨b, 0, none⟩) (hg.block b hb (fun e => hne (Option.some.inj e)))
/-- A round's new world: the bit appended, the box set. -/
theorem shift_after {w W2 w3 : World} {b B2 k n : Nat} {xs : List Int} {v0 : Value} (hown : OwnI b w3 (.slice (some ⟨b + 1, 0, none⟩) (k + 1) n) xs) (hg : W2.grownBy w3 (some (b + 1))) (hb : Below b w W2) (hc : w3.cell? ⟨B2, 0, none⟩ = some v0) {B0 : Nat} (hB0 : B0 ≤ W2.heap.size) (hs : B0 = B2 + 3) (hlt : b + 1 < B2) :
    (w3.setCell ⟨B2, 0, none⟩ (.slice (some ⟨b + 1, 0, none⟩) (k + 1) n)).cell? ⟨B2, 0, none⟩ = some (.slice (some ⟨b + 1, 0, none⟩) (k + 1) n) ∧ OwnI b (w3.setCell ⟨B2, 0, none⟩ (.slice (some ⟨b + 1, 0, none⟩) (k + 1) n)) (.slice (some ⟨b + 1, 0, none⟩) (k + 1) n) xs ∧
      Below b w (w3.setCell ⟨B2, 0, none⟩ (.slice (some ⟨b + 1, 0, none⟩) (k + 1) n)) ∧ Upper B0 W2 (w3.setCell ⟨B2, 0, none⟩ (.slice (some ⟨b + 1, 0, none⟩) (k + 1) n)) := by
  have hg2 := grown_set w3 B2 0 (.slice (some ⟨b + 1, 0, none⟩) (k + 1) n)
  have hs3 := hg.size
  refine ⟨World.cell?_setCell_same _ _ _ hc, hown.kept hg2 (Or.inr (fun e => by simp [Value.ownBlock] at e; omega)), ?_, ?_⟩
  · have h1 : Below b W2 w3 := (Below.refl b W2).grown hg (by omega) (fun j e => by cases e; omega)
    exact (hb.trans h1).trans ((Below.refl b w3).grown hg2 (by omega) (fun j e => by cases e; omega))
  · exact (Upper.grown hg (fun r e => by cases e; omega)).trans (Upper.grown hg2 (fun r e => by cases e; omega))
set_option maxRecDepth 100000 in
set_option maxHeartbeats 4000000 in
theorem ShiftBits_main (T S n : Nat) (w : World) (hwf : (Lit.int .i64 (T : Int)).wf = true) (h1 : regB (T : Int) (S : Int) = true) (hn1 : 1 ≤ n) (hn2 : n ≤ 1024) (d : Nat) (HH : Half (T / 2) d) (hd : d ≤ 16) (hS : S < 2 ^ d) :
    Calls Try.prog 5 #[.int .i64 (T : Int), .int .i64 (S : Int), .int .i64 (n : Int)] w fun e w' => ∃ r, e = .returned r ∧ OwnI w.heap.size w' r (outs (T / 2) S n) ∧ Below w.heap.size w w' := by
  have hb0 : Below w.heap.size w (w.alloc (.cells #[.int .i64 (n : Int)] 3)) := (Below.refl _ w).alloc (Nat.le_refl _) _
  have HN := Lib.hid (cellN w (.int .i64 (n : Int)) 3)
  have HG := Lib.hid (fun (N bt bs : Nat) (lenOf : World → Nat) (w0 : World) h1 h2 => outputs1_gives T S d N bt bs lenOf w0 HH hd hS h1 h2)
  clear HH hd hS
  refine (callsIn_wide (n := 10)).1 ?_
  refine callsIn_of_wp_marks Try.func5 rfl trivial ?_ rfl
  simp only [Try.ntmps5, List.size_toArray, List.length_cons, List.length_nil, Nat.reduceAdd, Nat.reduceSub, Array.replicate_succ, Array.replicate_zero, List.push_toArray, List.append_toArray, List.nil_append, List.cons_append]
  gi_wp2_with (first
    | (refine ⟨trivial, ?_⟩; gi_at_call 14; refine (callsIn_wide.2 (registerValid_any _ _ _ hwf)).mono ?_; rw [h1]; rintro e w' ⟨rfl, rfl⟩)
    | (gi_at_make; refine wpListIn_make0 tabI _ rfl _ _ rfl n rfl rfl (by omega) ?_; intro w2 hown2 hg2 hsz2; have hbel2 := (Below.refl _ _).grown hg2 (Nat.le_refl _) (fun k e => by cases e); have hn3 := cell_belowI HN.out hbel2; have hlt2 : w.heap.size + 1 < w2.heap.size := (by simp at hsz2; exact hsz2); have hlt3 : w.heap.size < w2.heap.size := (by omega); have HB2 := Lib.hid (hb0.trans (hbel2.mono (by simp))); have HO := Lib.hid (own_down hown2); clear hown2 hbel2 hg2 hsz2)
    | (refine ⟨trivial, ?_⟩; gi_at_call 15; refine (callsIn_wide.2 (outputs_any _ _ _)).mono ?_; rintro e w' ⟨rfl, rfl⟩))
  obtain ⟨W0, hW0⟩ : ∃ W0, W0 = (((w2.alloc (.cells #[.slice (some ⟨w.heap.size + 1, 0, none⟩) 0 n] 25)).alloc (.cells #[.int .i64 (T : Int)] 3)).alloc (.cells #[.int .i64 (S : Int)] 3)) := ⟨_, rfl⟩
  obtain ⟨hs0, hbW, cT, cS, cO, fO⟩ := shift_world w2 T S n w.heap.size
  rw [← hW0] at hs0 hbW cT cS cO fO ⊢
  have cN := cell_belowI hn3 hbW
  have HOW := Lib.hid (HO.out.belowAll hbW)
  have HBW := Lib.hid (HB2.out.trans (hbW.mono HB2.out.size))
  have HL := Lib.hid (outs_length (T / 2) S)
  clear hW0 hbW hn3 HO HB2 HN hb0 h1 hwf
  refine wpIn_rangeFunc_gives rfl (by omega) (gf := 27) (lb := #[.pointer (some ⟨w2.heap.size + 1, 0, none⟩), .pointer (some ⟨w2.heap.size + 1 + 1, 0, none⟩)]) rfl trivial (enters_of Try.func27 (by kernel_rfl) rfl) (HG.out n _ _ (lenAt w2.heap.size) W0 cT cS) (Below.refl _ _) rfl 0
    (fun k W => k < n ∧ W.cell? ⟨w2.heap.size, 0, none⟩ = some (.slice (some ⟨w.heap.size + 1, 0, none⟩) k n) ∧ W.frozen? ⟨w2.heap.size, 0, none⟩ = false ∧ W.cell? ⟨w.heap.size, 0, none⟩ = some (.int .i64 (n : Int)) ∧ OwnI w.heap.size W (.slice (some ⟨w.heap.size + 1, 0, none⟩) k n) (outs (T / 2) S k) ∧ Below w.heap.size w W)
    (fun W => W.cell? ⟨w2.heap.size, 0, none⟩ = some (.slice (some ⟨w.heap.size + 1, 0, none⟩) n n) ∧ OwnI w.heap.size W (.slice (some ⟨w.heap.size + 1, 0, none⟩) n n) (outs (T / 2) S n) ∧ Below w.heap.size w W)
    ?hI ?hIx ?hIl ?h0 ?hround ?hstop
  case hI =>
    rintro k A A' ⟨a1, a2, a3, a4, a5, a6⟩ hb
    exact ⟨a1, (hb.cell (p := ⟨w2.heap.size, 0, none⟩) (by show w2.heap.size < _; omega)).trans a2, (hb.frozen (p := ⟨w2.heap.size, 0, none⟩) (by show w2.heap.size < _; omega)).trans a3, (hb.cell (p := ⟨w.heap.size, 0, none⟩) (by show w.heap.size < _; omega)).trans a4,
      a5.below hb (fun g e _ => by cases e; show w.heap.size + 1 < _; omega), a6.trans (hb.mono (by omega))⟩
  case hIx =>
    rintro A A' ⟨a2, a5, a6⟩ hb
    exact ⟨(hb.cell (p := ⟨w2.heap.size, 0, none⟩) (by show w2.heap.size < _; omega)).trans a2, a5.below hb (fun g e _ => by cases e; show w.heap.size + 1 < _; omega), a6.trans (hb.mono (by omega))⟩
  case hIl =>
    rintro k A ⟨a1, a2, _⟩
    exact ⟨by simp only [lenAt, a2], a1⟩
  case h0 => exact ⟨by omega, cO, fO, cN, HOW.out, HBW.out⟩
  case hround =>
    intro l k W hi hsz
    gi_wp2
    refine ⟨trivial, ?_⟩
    clear hi hsz
    rintro W2 ⟨a1, a2, a3, a4, a5, a6⟩ hs2
    have HO := Lib.hid (show outs (T / 2) S (k + 1) = outs (T / 2) S k ++ [(rrun (T / 2) S k : Int) % 2] by rw [outs_succ]; simp)
    have hl2 : w2.heap.size < W2.heap.size := by omega
    have A2 := Lib.hid a2
    by_cases hkn : k + 1 = n
    · have hB : ((k : Int) + 1 == (n : Int)) = true := by rw [beq_iff_eq]; omega
      gi_wp2_with (gi_at_builtin; refine wpListIn_app1s tabI W2 _ ((rrun (T / 2) S k : Int) % 2) rfl rfl rfl rfl rfl (.tmp 30) (.tmp 32) rfl w.heap.size (w.heap.size + 1) k n (outs (T / 2) S k) rfl 1 rfl a5 (HL.out k) (by omega) ?_; intro w3 hown3 hg3; have b2 := hg3.cell a2 (by simp; omega); have b3 := (frozen_grown hg3 hl2 (by omega)).trans a3; have b4 := hg3.cell a4 (by simp); have F3 := Lib.hid (shift_after hown3 hg3 a6 b2 hs2 hs0 hlt2))
      subst hkn
      exact ⟨rfl, ⟨F3.out.1, by rw [HO.out]; exact F3.out.2.1, F3.out.2.2.1⟩, F3.out.2.2.2⟩
    · have hB : ((k : Int) + 1 == (n : Int)) = false := by rw [beq_eq_false_iff_ne]; omega
      have hB2 : ¬ (k : Int) + 1 = (n : Int) := by omega
      gi_wp2_with (gi_at_builtin; refine wpListIn_app1s tabI W2 _ ((rrun (T / 2) S k : Int) % 2) rfl rfl rfl rfl rfl (.tmp 30) (.tmp 32) rfl w.heap.size (w.heap.size + 1) k n (outs (T / 2) S k) rfl 1 rfl a5 (HL.out k) (by omega) ?_; intro w3 hown3 hg3; have b2 := hg3.cell a2 (by simp; omega); have b3 := (frozen_grown hg3 hl2 (by omega)).trans a3; have b4 := hg3.cell a4 (by simp); have F3 := Lib.hid (shift_after hown3 hg3 a6 b2 hs2 hs0 hlt2))
      exact ⟨⟨by omega, F3.out.1, by rw [World.frozen?_setCell]; exact b3, by rw [World.cell?_setCell_other _ _ _ _ (by simp)]; exact b4, by rw [HO.out]; exact F3.out.2.1, F3.out.2.2.1⟩, F3.out.2.2.2⟩
  case hstop =>
    rintro D W hD ⟨a2, a5, a6⟩ hK
    gi_wp2
    refine ⟨by simp, .inl ⟨_, _, rfl, run_takeDeferred hK, ?_⟩⟩
    have hlD : D < W.heap.size := (Array.getElem?_eq_some_iff.1 hK).1
    have hsW := a6.size
    have hbD : Below w.heap.size W (W.putObj D (.deferred none)) := putObj_below _ (by omega) hlD
    have hfin : OwnI w.heap.size (W.putObj D (.deferred none)) (.slice (some ⟨w.heap.size + 1, 0, none⟩) n n) (outs (T / 2) S n) := ownsRow_putObj a5 _ hK rfl
    exact ⟨_, results_tmp rfl _ _ _, .slice (some ⟨w.heap.size + 1, 0, none⟩) n n, rfl, hfin, a6.trans hbD⟩
/-- ShiftBits, at all arguments. -/
theorem ShiftBits_any (t s n : Int) (w : World) (hwf : (Lit.int .i64 t).wf = true) :
    Calls Try.prog 5 #[.int .i64 t, .int .i64 s, .int .i64 n] w fun e w' => ∃ r, e = .returned r ∧ OwnI w.heap.size w' r (shiftL t s n) ∧ Below w.heap.size w w' := by
  cases h1 : (regB t s && inB n 0 1024)
  · exact ShiftBits_small t s n w hwf (.inl h1)
  · by_cases hn : n = 0
    · exact ShiftBits_small t s n w hwf (.inr hn)
    · simp only [Bool.and_eq_true] at h1
      have hin : 0 ≤ n ∧ n ≤ 1024 := by simpa [inB] using h1.2
      obtain ⟨n, rfl⟩ := Int.eq_ofNat_of_zero_le hin.1
      have HP := shift_pos (n := n) h1.1 (by omega)
      obtain ⟨T, S, d, rfl, rfl, _, hd, hT, hS1, hS, HH, _⟩ := reg_nums h1.1
      rw [HP]
      exact ShiftBits_main T S n w hwf h1.1 (by omega) (by omega) d HH hd hS
end Go.Proofs.Ytpfbmfnfcppjeac
