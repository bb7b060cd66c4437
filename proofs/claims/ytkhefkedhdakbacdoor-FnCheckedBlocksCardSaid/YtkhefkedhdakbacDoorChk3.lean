/-
  The table of remainders is made.
-/
import Derived.Test.YtkhefkedhdakbacDoorChk2
import Derived.Laws.Tables
namespace Go.Proofs.YtkhefkedhdakbacDoor
open Go.RowKit
/-- The cells of a new reducer. -/
def zeroCells : Array Value := (List.replicate 258 (Value.int .i64 0)).toArray
theorem red_zero (w : World) : (zeroValue 58).run Tryd.prog w = .ok (.agg zeroCells) w := by kernel_rfl
theorem zeroCells_size : zeroCells.size = 258 := by rw [zeroCells, List.size_toArray, List.length_replicate]
theorem zeroCells_ne : (zeroCells = #[]) = False := by
  apply eq_false; intro h
  have := congrArg Array.size h
  rw [zeroCells_size] at this; cases this
theorem zeroCells_at (i : Nat) (hi : i < 258) : zeroCells[i]? = some (.int .i64 0) := by
  unfold zeroCells
  rw [List.getElem?_toArray, List.getElem?_replicate, if_pos hi]
/-- The table is filled up to k. -/
def RdU (w : World) (B G d k : Nat) : Prop :=
  ∃ f : Nat → Value, w.rowIs B 58 258 f ∧ f 0 = .int .i64 (d : Int) ∧ f 1 = .int .i64 ((2 ^ d - 1 : Nat) : Int) ∧ ∀ t, t < k → f (2 + t) = .int .i64 ((tabAt G d t : Nat) : Int)
theorem RdU.done {w : World} {B G d : Nat} (h : RdU w B G d 256) : Rdc w B G d := by
  obtain ⟨f, hr, h0, h1, h2⟩ := h
  exact ⟨by rw [hr.cell (by omega), h0], by rw [hr.cell (by omega), h1], fun t ht => by rw [hr.cell (by omega), h2 t ht]⟩
theorem RdU.set {w : World} {B G d k : Nat} (h : RdU w B G d k) : RdU (w.setCell ⟨B, 2 + k, none⟩ (.int .i64 ((tabAt G d k : Nat) : Int))) B G d (k + 1) := by
  obtain ⟨f, hr, h0, h1, h2⟩ := h
  refine ⟨_, hr.set (2 + k) _, ?_, ?_, fun t ht => ?_⟩
  · show (if _ then _ else _) = _; rw [if_neg (by omega)]; exact h0
  · show (if _ then _ else _) = _; rw [if_neg (by omega)]; exact h1
  · show (if _ then _ else _) = _
    by_cases e : t = k
    · subst e; rw [if_pos rfl]
    · rw [if_neg (by omega)]; exact h2 t (by omega)
theorem RdU.start (w : World) (G d : Nat) (m : Int) (hm : m = ((2 ^ d - 1 : Nat) : Int)) : RdU (w.alloc (.cells ((zeroCells.setIfInBounds 0 (.int .i64 (d : Int))).setIfInBounds 1 (.int .i64 m)) 58)) w.heap.size G d 0 := by
  have hr := World.rowIs_alloc w ((zeroCells.setIfInBounds 0 (.int .i64 (d : Int))).setIfInBounds 1 (.int .i64 m)) 58 (fun i => if i = 0 then .int .i64 (d : Int) else if i = 1 then .int .i64 m else .int .i64 0) (by
    intro i hi
    rw [Array.size_setIfInBounds, Array.size_setIfInBounds, zeroCells_size] at hi
    by_cases e1 : i = 1
    · subst e1; rw [Array.getElem?_setIfInBounds_self_of_lt (by rw [Array.size_setIfInBounds, zeroCells_size]; omega)]; rfl
    · rw [Array.getElem?_setIfInBounds_ne (by omega)]
      by_cases e : i = 0
      · subst e; rw [Array.getElem?_setIfInBounds_self_of_lt (by rw [zeroCells_size]; omega)]; rfl
      · rw [Array.getElem?_setIfInBounds_ne (by omega), zeroCells_at i hi]; simp [e, e1])
  rw [Array.size_setIfInBounds, Array.size_setIfInBounds, zeroCells_size] at hr
  exact ⟨_, hr, rfl, by rw [hm]; rfl, fun t ht => by omega⟩
theorem pmod_end {G d t r : Nat} (h : pmod G d 0 r = t) : r = t := h
set_option maxHeartbeats 1000000 in
set_option maxRecDepth 100000 in
theorem newReducer_any (G : Nat) (w : World) (hg : genB (G : Int) = true) :
    Calls Tryd.prog 30 #[.int .i64 (G : Int)] w fun e w' => e = .returned (.pointer (some ⟨w.heap.size, 0, none⟩)) ∧ Rdc w' w.heap.size G (degN (G : Int)) ∧ Below w.heap.size w w' ∧ w.heap.size < w'.heap.size := by
  have hG := gen_is hg
  have hd := deg_le hg
  obtain ⟨G', e, hg1, hg2, _⟩ := gen_nat hg
  have hG2 : G ≤ 131071 := by omega
  clear hg1 hg2 e
  have HD := Lib.hid (show degI (G : Int) = (degN (G : Int) : Int) by simp [degI, hg])
  obtain ⟨d, ed⟩ : ∃ d, d = degN (G : Int) := ⟨_, rfl⟩
  rw [← ed] at hG hd HD ⊢
  clear ed
  have hwf : (Lit.int .i64 (G : Int)).wf = true := by
    simp [Lit.wf, IntKind.min, IntKind.max, IntKind.signed, IntKind.bits]; omega
  have hz := red_zero
  have hzn := zeroCells_ne
  have hp := pow_le16 hd
  have hp2 := Nat.two_pow_pos d
  obtain ⟨p, ep⟩ : ∃ p, p = 2 ^ d := ⟨_, rfl⟩
  have HS := Lib.hid (RdU.start w G d ((p : Int) - 1) (by rw [ep]; have := Nat.two_pow_pos d; omega))
  have e1 : (2 : Int) ^ d = (p : Int) := by rw [ep]; simp
  have e2 : (2 : Int) ^ (min d 64) = (p : Int) := by rw [Nat.min_eq_left (by omega)]; exact e1
  have hd64 : (d : Int) ≤ 64 := by omega
  have c0 : (w.alloc (.cells (zeroCells.setIfInBounds 0 (.int .i64 (d : Int))) 58)).cell? ⟨w.heap.size, 0, none⟩ = some (.int .i64 (d : Int)) := by
    rw [World.cell?_alloc_at _ _ _ _ rfl, Array.getElem?_setIfInBounds_self_of_lt (by rw [zeroCells_size]; omega)]
  have c1 : (w.alloc (.cells (zeroCells.setIfInBounds 0 (.int .i64 (d : Int))) 58)).cell? ⟨w.heap.size, 1, none⟩ = some (.int .i64 0) := by
    rw [World.cell?_alloc_at _ _ _ _ rfl, Array.getElem?_setIfInBounds_ne (by omega), zeroCells_at 1 (by omega)]
  rw [← ep] at hp hp2
  have HP := Lib.hid ep
  clear ep
  go_enter Tryd.func30, Tryd.ntmps30
  go_wp2_with (go_at_call 28; refine (DegreeOf_any _ _ hwf).mono ?_; rw [HD.out]; rintro e w' ⟨rfl, rfl⟩)
  clear hz hzn c0 c1 e1 e2
  go_loopw [20] (fun i wr => ∃ k : Nat, k ≤ 256 ∧ i = .int .i64 k ∧ RdU wr w.heap.size G d k ∧ Below w.heap.size w wr ∧ w.heap.size < wr.heap.size) (fun i _ => 256 - (intOf i).toNat)
  case atStart => exact ⟨0, by omega, rfl, HS.out, (Below.refl _ w).alloc (Nat.le_refl _) _, by simp⟩
  case round =>
    obtain ⟨k, hk, rfl, hrd, hbel, hsz⟩ := hrel
    by_cases hlt : k < 256
    · obtain ⟨f, hrow, h0, h1, h2⟩ := hrd
      have c0 : wr.cell? ⟨w.heap.size, 0, none⟩ = some (.int .i64 (d : Int)) := by rw [hrow.cell (by omega), h0]
      have c2 : wr.cell? ⟨w.heap.size, 2 + k, none⟩ = some (f (2 + k)) := hrow.cell (by omega)
      have cf : wr.frozen? ⟨w.heap.size, 2 + k, none⟩ = false := hrow.frozen _
      have HN := Lib.hid (RdU.set ⟨f, hrow, h0, h1, h2⟩)
      have HB := Lib.hid (hbel.setCell (p := ⟨w.heap.size, 2 + k, none⟩) (Nat.le_refl _) (.int .i64 ((tabAt G d k : Nat) : Int)))
      have hkd : k * 2 ^ d ≤ 256 * 65536 := Nat.mul_le_mul (by omega) (by rw [← HP.out]; exact hp)
      have HT : Hid (pmod G d 8 (k * 2 ^ d) = tabAt G d k) := by show _ = tabAt G d k; unfold tabAt; rw [Nat.shiftLeft_eq]
      obtain ⟨r0, er0⟩ : ∃ r, r = k * 2 ^ d := ⟨_, rfl⟩
      have e1 : (k : Int) * 2 ^ d = (r0 : Int) := by rw [er0]; simp
      have e2 : (k : Int) * 2 ^ (min d 64) = (r0 : Int) := by rw [Nat.min_eq_left (by omega)]; exact e1
      rw [← er0] at hkd HT
      clear er0 h0 h1 h2 hrow hbel
      go_wp2
      clear e1 e2
      go_loop [5, 6] (fun r i => ∃ (x j : Nat) (y : Int), j ≤ 8 ∧ r = .int .i64 x ∧ i = .int .i64 y ∧ y = (j : Int) - 1 ∧ x < 33554432 ∧ Hid (pmod G d j x = tabAt G d k)) (fun _ i => (intOf i + 1).toNat)
      case atStart => exact ⟨r0, 8, 7, by omega, rfl, rfl, by omega, by omega, HT.out⟩
      case round =>
        obtain ⟨x, j, y, hj, rfl, rfl, hy, hx, HX⟩ := hrel
        by_cases hj0 : 0 < j
        · obtain ⟨i, rfl⟩ : ∃ i, j = i + 1 := ⟨j - 1, by omega⟩
          obtain rfl : y = (i : Int) := by omega
          clear hy
          obtain ⟨q, eq⟩ : ∃ q, q = x >>> (d + i) := ⟨_, rfl⟩
          have hqx : q ≤ x := by rw [eq, Nat.shiftRight_eq_div_pow]; exact Nat.div_le_self _ _
          have ed : ((d : Int) + (i : Int)).toNat = d + i := by omega
          have e1 : (x : Int) / 2 ^ (d + i) = (q : Int) := by rw [eq]; exact shr_cast x (d + i)
          have e2 : (x : Int) / 2 ^ (min (d + i) 64) = (q : Int) := by rw [Nat.min_eq_left (by omega)]; exact e1
          have hdi : (d : Int) + (i : Int) ≤ 64 := by omega
          have hg0 : G * 2 ^ i ≤ 131071 * 128 := Nat.mul_le_mul hG2 (Nat.pow_le_pow_right (n := 2) (by omega) (show i ≤ 7 by omega))
          obtain ⟨s, es⟩ : ∃ s, s = G * 2 ^ i := ⟨_, rfl⟩
          have e3 : (G : Int) * 2 ^ i = (s : Int) := by rw [es]; simp
          have e4 : (G : Int) * 2 ^ (min i 64) = (s : Int) := by rw [Nat.min_eq_left (by omega)]; exact e3
          have hi64 : (i : Int) ≤ 64 := by omega
          rw [← es] at hg0
          have e5 := i64_xor x s (by omega) (by omega)
          have e6 := i64_and1 q (by omega)
          have hxs : x ^^^ s < 33554432 := Nat.xor_lt_two_pow (n := 25) (by omega) (by omega)
          have HE := Lib.hid (show pmod G d (i + 1) x = pmod G d i (if q % 2 = 1 then x ^^^ s else x) by rw [pmod, ← eq, es, ← Nat.shiftLeft_eq])
          have h01 : q % 2 = 0 ∨ q % 2 = 1 := by omega
          rcases h01 with h01 | h01
          · have HF := Lib.hid (show pmod G d i x = tabAt G d k by have := HE.out; rw [h01] at this; simp at this; rw [← this]; exact HX.out)
            rw [h01] at e6
            clear HE HX eq es h01
            go_wp2
            go_round
            case rel => exact ⟨x, i, (i : Int) - 1, by omega, rfl, by go_num, rfl, hx, HF.out⟩
            case measure => simp [intOf]
          · have HF := Lib.hid (show pmod G d i (x ^^^ s) = tabAt G d k by have := HE.out; rw [h01] at this; simp at this; rw [← this]; exact HX.out)
            rw [h01] at e6
            clear HE HX eq es h01
            go_wp2
            go_round
            case rel => exact ⟨x ^^^ s, i, (i : Int) - 1, by omega, by go_num, by go_num, rfl, hxs, HF.out⟩
            case measure => simp [intOf]
        · obtain rfl : j = 0 := by omega
          obtain rfl : x = tabAt G d k := HX.out
          obtain rfl : y = -1 := by omega
          clear HX hy
          go_wp2
          go_roundw
          case rel => exact ⟨k + 1, by omega, by go_num, HN.out, HB.out, by simpa using hsz⟩
          case measure => simp [intOf]; omega
    · obtain rfl : k = 256 := by omega
      go_wp2
      go_ret
      exact ⟨rfl, hrd.done, hbel, hsz⟩
end Go.Proofs.YtkhefkedhdakbacDoor
