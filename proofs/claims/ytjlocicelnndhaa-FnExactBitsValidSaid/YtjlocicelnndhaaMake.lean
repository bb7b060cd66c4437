/-
  Making and appending, in the words of Mem: make of a list of numbers, append of one number and of a list.
-/
import Derived.Test.YtjlocicelnndhaaBits
import Derived.Laws.AppendOwnNone
namespace Go.Proofs.Ytjlocicelnndhaa
open Go.RowKit

section
variable {ops : Array Oper} {rest : List Oper} {o : Oper} {a : Act} {Q : Exit → Act → World → Prop}

theorem own_repl {base : Nat} {w : World} {v : Value} {n : Nat} (h : w.ownsRow base 3 1 v n (madeCells (Value.int .i64 0).cells (n * 1)).toList) : OwnI base w v (List.replicate n 0) := by
  unfold OwnI
  rw [List.length_replicate, List.map_replicate]
  have e : (madeCells (Value.int .i64 0).cells (n * 1)).toList = List.replicate n (Value.int .i64 0) := by rw [Nat.mul_one]; exact toList_madeCells_one _ _
  rw [e] at h; exact h

/-- make([]int, n) -/
theorem wp_make_ints (w : World) (hg : o.guard = none) (l c : Operand) (hop : o.op = Op.makeSlice 22 l c) (n : Nat) (hl : a.eval l = .int .i64 (n : Int)) (hc : a.eval c = .int .i64 (n : Int)) (hn : n ≤ 1000000000)
    (hK : ∀ w', OwnI w.heap.size w' (.slice (some ⟨w.heap.size, 0, none⟩) n n) (List.replicate n 0) → Below w.heap.size w w' → w.heap.size < w'.heap.size → wpList Try.prog ops Q rest (a.put o.dst (.slice (some ⟨w.heap.size, 0, none⟩) n n)) w') :
    wpList Try.prog ops Q (o :: rest) a w := by
  obtain ⟨i0, hi, hz0, hz1, hz2⟩ := info_parts info3
  refine wpList_make_full w hg l c 22 hop w.heap.size 3 i0 (.int .i64 0) 1 Try.underlying22 hi hz0 hz1 .i64 .i64 n n n hl hc rfl rfl (by rw [hz2]; omega) (by unfold maxLen; omega) (Nat.le_refl _) ?_
  intro w' hown hgrow
  refine hK w' (own_repl hown) (below_of_grown hgrow) ?_
  rcases hown.2 with ⟨h, _⟩ | ⟨g, cap, cur, h, _, hh, _⟩
  · cases h
  · cases h; exact (Array.getElem?_eq_some_iff.1 hh).1

/-- make([]int, 0, n) -/
theorem wp_make0_ints (w : World) (hg : o.guard = none) (l c : Operand) (hop : o.op = Op.makeSlice 22 l c) (n : Nat) (hl : a.eval l = .int .i64 0) (hc : a.eval c = .int .i64 (n : Int)) (hn : n ≤ 1000000000)
    (hK : ∀ w', OwnI w.heap.size w' (.slice (some ⟨w.heap.size, 0, none⟩) 0 n) [] → Below w.heap.size w w' → w.heap.size < w'.heap.size → wpList Try.prog ops Q rest (a.put o.dst (.slice (some ⟨w.heap.size, 0, none⟩) 0 n)) w') :
    wpList Try.prog ops Q (o :: rest) a w := by
  obtain ⟨i0, hi, hz0, hz1, hz2⟩ := info_parts info3
  refine wpList_make_own w hg l c 22 hop w.heap.size 3 i0 (.int .i64 0) 1 Try.underlying22 hi hz0 hz1 .i64 .i64 n n hl hc rfl (by rw [hz2]; omega) (by unfold maxLen; omega) (Nat.le_refl _) ?_
  intro w' hown hgrow
  refine hK w' hown (below_of_grown hgrow) ?_
  rcases hown.2 with ⟨h, _⟩ | ⟨g, cap, cur, h, _, hh, _⟩
  · cases h
  · cases h; exact (Array.getElem?_eq_some_iff.1 hh).1

/-- append(v, ys..): ys read as numbers, wherever they lie. -/
theorem wp_apps (w : World) (hg : o.guard = none) (s x : Operand) (hop : o.op = .call { callee := .builtin .append, args := #[s, x], argTypes := #[22, 22] })
    (base : Nat) (v u : Value) (xs ys : List Int) (hs : a.eval s = v) (hx : a.eval x = u) (hown : OwnI base w v xs) (hrow : RowK .i64 w u ys) (hn : xs.length + ys.length ≤ 1000000000) (hb : base ≤ w.heap.size)
    (hK : ∀ v' w', OwnI base w' v' (xs ++ ys) → w.grownBy w' v.ownBlock → wpList Try.prog ops Q rest (a.put o.dst v') w') : wpList Try.prog ops Q (o :: rest) a w := by
  obtain ⟨i0, hi, hz0, hz1, hz2⟩ := info_parts info3
  obtain ⟨ao, cap, rfl, hnone, _, _, hcell⟩ := hrow
  cases ao with
  | none =>
    have h0 : ys = [] := by
      cases ys with
      | nil => rfl
      | cons y ys => obtain ⟨_, _, h, _⟩ := hcell (by simp); cases h
    subst h0
    obtain rfl := hnone rfl
    refine wpList_append_own_none hg s x 22 hop base 3 i0 1 Try.underlying22 hi v xs.length _ hs hown hx ?_
    exact hK v w (by simpa using hown) (World.grownBy.refl _ _)
  | some ad =>
    have hoc := ints_oneCell .i64 ys
    refine wpList_append_own w hg s x 22 hop base 3 i0 (.int .i64 0) 1 8 Try.underlying22 hi hz0 hz1 hz2 rfl (by decide) v xs.length _ hs hown ad ys.length cap (ys.map (Value.int .i64)) hx (by simp) ?_ hoc (by unfold maxLen; omega) (by omega) hb ?_
    · intro j y hj
      have hlt : j < ys.length := by have := (List.getElem?_eq_some_iff.1 hj).1; simpa using this
      obtain ⟨b, off, e, hc⟩ := hcell (by omega)
      cases e
      rw [Addr.add_lit, hc j hlt, ← hj, getD_map_int _ _ _ hlt]
    · intro v' w' h1 h2 _
      refine hK v' w' ?_ h2
      unfold OwnI
      rw [List.length_append, List.map_append]
      exact h1

/-- append(v, y): y has just been stored in a new block. -/
theorem wp_app (w : World) (hg : o.guard = none) (s x : Operand) (hop : o.op = .call { callee := .builtin .append, args := #[s, x], argTypes := #[22, 22] })
    (base : Nat) (v : Value) (xs : List Int) (y : Int) (hs : a.eval s = v) (ad : Addr) (c : Nat) (hx : a.eval x = .slice (some ad) 1 c) (hown : OwnI base w v xs) (hcell : w.cell? ad = some (.int .i64 y)) (hn : xs.length + 1 ≤ 1000000000) (hb : base ≤ w.heap.size)
    (hK : ∀ v' w', OwnI base w' v' (xs ++ [y]) → w.grownBy w' v.ownBlock → wpList Try.prog ops Q rest (a.put o.dst v') w') : wpList Try.prog ops Q (o :: rest) a w := by
  obtain ⟨i0, hi, hz0, hz1, hz2⟩ := info_parts info3
  refine wpList_append_own w hg s x 22 hop base 3 i0 (.int .i64 0) 1 8 Try.underlying22 hi hz0 hz1 hz2 rfl (by decide) v xs.length _ hs hown ad 1 c [.int .i64 y] hx (by simp) ?_ (ints_oneCell .i64 [y]) (by unfold maxLen; omega) (by omega) hb ?_
  · intro j u hj
    match j, hj with
    | 0, hj => simp at hj; subst hj; simpa [Addr.add] using hcell
  · intro v' w' h1 h2 _
    refine hK v' w' ?_ h2
    unfold OwnI
    rw [List.length_append, List.map_append]
    exact h1
end

set_option maxHeartbeats 400000 in
theorem toIntS_any (zs : List Int) (v : Value) (w : World) (h : RowK .i64 w v zs) (hz : zs.length ≤ 1000000000) :
    Calls Try.prog 15 #[v] w fun e w' => ∃ cap, e = .returned (.slice (some ⟨w.heap.size, 0, none⟩) zs.length cap) ∧ OwnI w.heap.size w' (.slice (some ⟨w.heap.size, 0, none⟩) zs.length cap) zs ∧ Below w.heap.size w w' ∧ w.heap.size < w'.heap.size := by
  obtain ⟨a, cap, rfl, _, _, _, hc⟩ := h
  obtain ⟨n, hn⟩ : ∃ n, n = zs.length := ⟨_, rfl⟩
  rw [← hn] at hz hc ⊢
  have HN := Lib.hid hn.symm
  clear hn
  go_enter Try.func15, Try.ntmps15
  go_wp2_with (at_make; refine wp_make_ints _ rfl _ _ rfl n rfl rfl (by omega) ?_; intro w1 hown hbel hsz)
  go_loopw [4] (fun i wr => ∃ k : Nat, k ≤ n ∧ i = .int .i64 k ∧ OwnI w.heap.size wr (.slice (some ⟨w.heap.size, 0, none⟩) n n) (zs.take k ++ List.replicate (n - k) 0) ∧ Below w.heap.size w wr ∧ w.heap.size < wr.heap.size) (fun i _ => n - (intOf i).toNat)
  case atStart => exact ⟨0, Nat.zero_le _, rfl, by simpa using hown, hbel, hsz⟩
  case round =>
    obtain ⟨k, hk, rfl, hown, hbel, hsz⟩ := hrel
    have HL := Lib.hid (show (zs.take k ++ List.replicate (n - k) 0).length = n by simp [HN.out]; omega)
    by_cases hlt : k < n
    · obtain ⟨b, off, rfl, hcc⟩ := hc (by omega)
      have hx0 := hcc k hlt
      have hb := World.block_lt_of_cell? w _ hx0
      have hx := (hbel.cell (p := ⟨b, off + k, none⟩) hb).trans hx0
      clear hx0 hcc
      have hd := hown.cell HL.out k hlt
      have hf := hown.free HL.out k
      have HS := Lib.hid (hown.stored HL.out k (zs.getD k 0))
      have HE := Lib.hid (copy_step zs k n HN.out.symm hlt)
      clear hown
      go_wp2
      go_roundw
      case rel => exact ⟨k + 1, by omega, by go_num, by have := HS.out.1; rw [HE.out] at this; exact this, hbel.trans (below_of_row HS.out.2 (by omega) (by simp)), by simpa using hsz⟩
      case measure => simp [intOf]; omega
    · obtain rfl : k = n := by omega
      have HE := Lib.hid (show zs.take k ++ List.replicate (k - k) 0 = zs by have := HN.out; rw [List.take_of_length_le (by omega)]; simp)
      go_wp2
      go_ret
      exact ⟨_, rfl, by rw [HE.out] at hown; exact hown, hbel, hsz⟩
end Go.Proofs.Ytjlocicelnndhaa
