/-
  Making and appending, in the words of Mem: make of a list of numbers, append of one number and of a list.
-/
import Derived.Test.YtpfbmfnfcppjeabDoorBits
import Derived.Laws.AppendOwnNone
import Derived.Deep.AppendLies
namespace Go.Proofs.YtpfbmfnfcppjeabDoor
open Go.RowKit

section
variable {ops : Array Oper} {rest : List Oper} {o : Oper} {a : Act} {K : Act → World → Prop} {Q : Exit → Act → World → Prop} {E : Prop}

/-- What the program's table says of a slice type T of numbers of kind k. -/
def Tab (T e : Nat) (k : IntKind) : Prop := Tryd.prog.underlying T = some (.slice e) ∧ ∃ i by_, Tryd.prog.info? e = some i ∧ i.zero = some (.int k 0) ∧ i.size = 1 ∧ i.bytes = by_ ∧ by_ ≤ 8
theorem tabI : Tab 32 3 .i64 := ⟨Tryd.underlying32, by obtain ⟨i, h1, h2, h3, h4⟩ := info_parts info3; exact ⟨i, 8, h1, h2, h3, h4, by omega⟩⟩
theorem info5 : (Tryd.prog.info? 5).map (fun i => (i.zero, i.size, i.bytes)) = some (some (.int .u8 0), 1, 1) := by kernel_rfl
theorem tabB : Tab 22 5 .u8 := ⟨Tryd.underlying22, by obtain ⟨i, h1, h2, h3, h4⟩ := info_parts info5; exact ⟨i, 1, h1, h2, h3, h4, by omega⟩⟩

theorem own_repl {e base : Nat} {k : IntKind} {w : World} {v : Value} {n : Nat} (h : w.ownsRow base e 1 v n (madeCells (Value.int k 0).cells (n * 1)).toList) : OwnK e k base w v (List.replicate n 0) := by
  unfold OwnK
  rw [List.length_replicate, List.map_replicate]
  have e : (madeCells (Value.int k 0).cells (n * 1)).toList = List.replicate n (Value.int k 0) := by rw [Nat.mul_one]; exact toList_madeCells_one _ _
  rw [e] at h; exact h

/-- make([]T, n), as a step of any region -/
theorem op_make {T e : Nat} {k : IntKind} (tab : Tab T e k) (w : World) (l c : Operand) (hop : o.op = Op.makeSlice T l c) (n : Nat) (hl : a.eval l = .int .i64 (n : Int)) (hc : a.eval c = .int .i64 (n : Int)) (hn : n ≤ 1000000000)
    (hK : ∀ w', OwnK e k w.heap.size w' (.slice (some ⟨w.heap.size, 0, none⟩) n n) (List.replicate n 0) → Below w.heap.size w w' → w.heap.size < w'.heap.size → K (a.put o.dst (.slice (some ⟨w.heap.size, 0, none⟩) n n)) w') :
    o.wp Tryd.prog a w K Q := by
  obtain ⟨hT, i0, by_, hi, hz0, hz1, hz2, hle⟩ := tab
  have hbytes : i0.bytes * n ≤ 8 * n := Nat.mul_le_mul_right _ (by omega)
  obtain ⟨w', hrun, hown, hgrow⟩ := run_make_full (P := Tryd.prog) w w.heap.size T e i0 (.int k 0) 1 hT hi hz0 hz1 .i64 .i64 n (by omega) (by unfold maxLen; omega) (Nat.le_refl _)
  unfold Oper.wp
  simp [execOp, hop, hl, hc, hrun, Result.andThen]
  refine hK w' (own_repl hown) (below_of_grown hgrow) ?_
  rcases hown.2 with ⟨h, _⟩ | ⟨g, cap, cur, h, _, hh, _⟩
  · cases h
  · cases h; exact (Array.getElem?_eq_some_iff.1 hh).1
/-- make([]T, n) -/
theorem wp_make {T e : Nat} {k : IntKind} (tab : Tab T e k) (w : World) (hg : Region.wanted o (yielded ops a.tmps) = true) (l c : Operand) (hop : o.op = Op.makeSlice T l c) (n : Nat) (hl : a.eval l = .int .i64 (n : Int)) (hc : a.eval c = .int .i64 (n : Int)) (hn : n ≤ 1000000000)
    (hK : ∀ w', OwnK e k w.heap.size w' (.slice (some ⟨w.heap.size, 0, none⟩) n n) (List.replicate n 0) → Below w.heap.size w w' → w.heap.size < w'.heap.size → wpList Tryd.prog ops Q rest (a.put o.dst (.slice (some ⟨w.heap.size, 0, none⟩) n n)) w') :
    wpList Tryd.prog ops Q (o :: rest) a w :=
  BigFrame.wpList_want hg fun _ hKK => op_make tab w l c hop n hl hc hn fun w' h1 h2 h3 => hKK _ _ (hK w' h1 h2 h3)

/-- The same as a step of a region that draws its order. -/
theorem st_make {T e : Nat} {k : IntKind} (tab : Tab T e k) (w : World) (hg : Region.wanted o (yielded ops a.tmps) = true) (l c : Operand) (hop : o.op = Op.makeSlice T l c) (n : Nat) (hl : a.eval l = .int .i64 (n : Int)) (hc : a.eval c = .int .i64 (n : Int)) (hn : n ≤ 1000000000)
    (hK : ∀ w', OwnK e k w.heap.size w' (.slice (some ⟨w.heap.size, 0, none⟩) n n) (List.replicate n 0) → Below w.heap.size w w' → w.heap.size < w'.heap.size → K (a.put o.dst (.slice (some ⟨w.heap.size, 0, none⟩) n n)) w') :
    if Region.wanted o (yielded ops a.tmps) = true then Oper.wp Tryd.prog o a w K Q else E := by
  rw [if_pos hg]; exact op_make tab w l c hop n hl hc hn hK

/-- The same where a region's step has been run up to the machine's make. -/
theorem upon_make {T e : Nat} {k : IntKind} (tab : Tab T e k) (w : World) (n : Nat) (hn : n ≤ 1000000000)
    (hK : ∀ w', OwnK e k w.heap.size w' (.slice (some ⟨w.heap.size, 0, none⟩) n n) (List.replicate n 0) → Below w.heap.size w w' → w.heap.size < w'.heap.size → K (a.put o.dst (.slice (some ⟨w.heap.size, 0, none⟩) n n)) w') :
    Oper.upon Tryd.prog o a K Q ((Sem.run Tryd.prog (Instr.makeSlice T (.int .i64 (n : Int)) (.int .i64 (n : Int))) w).andThen fun a w' => Result.ok (Next.value a) w') := by
  obtain ⟨hT, i0, by_, hi, hz0, hz1, hz2, hle⟩ := tab
  have hbytes : i0.bytes * n ≤ 8 * n := Nat.mul_le_mul_right _ (by omega)
  obtain ⟨w', hrun, hown, hgrow⟩ := run_make_full (P := Tryd.prog) w w.heap.size T e i0 (.int k 0) 1 hT hi hz0 hz1 .i64 .i64 n (by omega) (by unfold maxLen; omega) (Nat.le_refl _)
  rw [hrun]
  refine hK w' (own_repl hown) (below_of_grown hgrow) ?_
  rcases hown.2 with ⟨h, _⟩ | ⟨g, cap, cur, h, _, hh, _⟩
  · cases h
  · cases h; exact (Array.getElem?_eq_some_iff.1 hh).1

/-- make([]T, 0, n) -/
theorem wp_make0 {T e : Nat} {k : IntKind} (tab : Tab T e k) (w : World) (hg : o.guard = none) (l c : Operand) (hop : o.op = Op.makeSlice T l c) (n : Nat) (hl : a.eval l = .int .i64 0) (hc : a.eval c = .int .i64 (n : Int)) (hn : n ≤ 1000000000)
    (hK : ∀ w', OwnK e k w.heap.size w' (.slice (some ⟨w.heap.size, 0, none⟩) 0 n) [] → Below w.heap.size w w' → w.heap.size < w'.heap.size → wpList Tryd.prog ops Q rest (a.put o.dst (.slice (some ⟨w.heap.size, 0, none⟩) 0 n)) w') :
    wpList Tryd.prog ops Q (o :: rest) a w := by
  obtain ⟨hT, i0, by_, hi, hz0, hz1, hz2, hle⟩ := tab
  have hbytes : i0.bytes * n ≤ 8 * n := Nat.mul_le_mul_right _ (by omega)
  refine wpList_make_own w hg l c T hop w.heap.size e i0 (.int k 0) 1 hT hi hz0 hz1 .i64 .i64 n n hl hc rfl (by omega) (by unfold maxLen; omega) (Nat.le_refl _) ?_
  intro w' hown hgrow
  refine hK w' hown (below_of_grown hgrow) ?_
  rcases hown.2 with ⟨h, _⟩ | ⟨g, cap, cur, h, _, hh, _⟩
  · cases h
  · cases h; exact (Array.getElem?_eq_some_iff.1 hh).1

/-- The block of the new value: the old one's, or new. -/
def NewAt (w : World) (v v' : Value) : Prop := ∀ b, v'.ownBlock = some b → v.ownBlock = some b ∨ w.heap.size ≤ b

/-- append(v, ys..): ys read as numbers, wherever they lie. -/
theorem op_apps {T e : Nat} {k : IntKind} (tab : Tab T e k) (w : World) (s x : Operand) (hop : o.op = .call { callee := .builtin .append, args := #[s, x], argTypes := #[T, T] })
    (base : Nat) (v u : Value) (xs ys : List Int) (hs : a.eval s = v) (hx : a.eval x = u) (hown : OwnK e k base w v xs) (hrow : RowK k w u ys) (hn : xs.length + ys.length ≤ 1000000000) (hb : base ≤ w.heap.size)
    (hK : ∀ v' w', OwnK e k base w' v' (xs ++ ys) → w.grownBy w' v.ownBlock → NewAt w v v' → K (a.put o.dst v') w') : o.wp Tryd.prog a w K Q := by
  obtain ⟨hT, i0, by_, hi, hz0, hz1, hz2, hle⟩ := tab
  obtain ⟨ao, cap, rfl, hnone, _, _, hcell⟩ := hrow
  cases ao with
  | none =>
    have h0 : ys = [] := by
      cases ys with
      | nil => rfl
      | cons y ys => obtain ⟨_, _, h, _⟩ := hcell (by simp); cases h
    subst h0
    obtain rfl := hnone rfl
    have hrun := run_append_owned_none (P := Tryd.prog) (w := w) base T o.type e i0 1 hT hi v xs.length (xs.map (Value.int k)) hown
    unfold Oper.wp
    simp [execOp, hop, resolve, invoke, builtin, hs, hx, hrun, Result.andThen]
    exact hK v w (by simpa using hown) (World.grownBy.refl _ _) (fun b h => .inl h)
  | some ad =>
    have hnews : ∀ j y, (ys.map (Value.int k))[j]? = some y → w.cell? (ad.add j) = some y := by
      intro j y hj
      have hlt : j < ys.length := by have := (List.getElem?_eq_some_iff.1 hj).1; simpa using this
      obtain ⟨b, off, e, hc⟩ := hcell (by omega)
      cases e
      rw [Addr.add_lit, hc j hlt, ← hj, getD_map_int _ _ _ hlt]
    have hbytes : (xs.length + ys.length) * by_ ≤ (xs.length + ys.length) * 8 := Nat.mul_le_mul_left _ hle
    obtain ⟨v', w', hr, h2, h3, _, h5⟩ := run_append_own_at (P := Tryd.prog) w base T o.type e i0 (.int k 0) 1 by_ hT hi hz0 hz1 hz2 rfl (by decide) v xs.length _ hown ad ys.length cap (ys.map (Value.int k)) (by simp) hnews (ints_oneCell k ys) (by unfold maxLen; omega) (by omega) hb
    unfold Oper.wp execOp
    simp only [hop, resolve, invoke, builtin, Sem.run_bind, Sem.run_pure, Result.andThen_ok, List.map_toArray, List.map_cons, List.map_nil, hs, hx, hr]
    refine hK v' w' (by unfold OwnK; rw [List.length_append, List.map_append]; exact h2) h3 (fun b h => ?_)
    rcases h5 with h5 | h5
    · left; rw [← h5, h]
    · right; rw [h5] at h; cases h; exact Nat.le_refl _
theorem wp_apps {T e : Nat} {k : IntKind} (tab : Tab T e k) (w : World) (hg : Region.wanted o (yielded ops a.tmps) = true) (s x : Operand) (hop : o.op = .call { callee := .builtin .append, args := #[s, x], argTypes := #[T, T] })
    (base : Nat) (v u : Value) (xs ys : List Int) (hs : a.eval s = v) (hx : a.eval x = u) (hown : OwnK e k base w v xs) (hrow : RowK k w u ys) (hn : xs.length + ys.length ≤ 1000000000) (hb : base ≤ w.heap.size)
    (hK : ∀ v' w', OwnK e k base w' v' (xs ++ ys) → w.grownBy w' v.ownBlock → NewAt w v v' → wpList Tryd.prog ops Q rest (a.put o.dst v') w') : wpList Tryd.prog ops Q (o :: rest) a w :=
  BigFrame.wpList_want hg fun _ hKK => op_apps tab w s x hop base v u xs ys hs hx hown hrow hn hb fun v' w' h1 h2 h3 => hKK _ _ (hK v' w' h1 h2 h3)

/-- append(v, y): y has just been laid in a new block behind the world w0 (draws aside). -/
theorem op_app1 {T e : Nat} {k : IntKind} (tab : Tab T e k) (w0 w : World) (y : Int) (hh : w.heap = (w0.alloc (.cells #[.int k y] e)).heap) (ho : w.os = w0.os) (ht : w.tape = w0.tape) (hu : w.output = w0.output)
    (s x : Operand) (hop : o.op = .call { callee := .builtin .append, args := #[s, x], argTypes := #[T, T] })
    (base : Nat) (v : Value) (xs : List Int) (hs : a.eval s = v) (c : Nat) (hx : a.eval x = .slice (some ⟨w0.heap.size, 0, none⟩) 1 c) (hown : OwnK e k base w0 v xs) (hn : xs.length + 1 ≤ 1000000000) (hb : base ≤ w0.heap.size)
    (hK : ∀ v' w', OwnK e k base w' v' (xs ++ [y]) → w0.grownBy w' v.ownBlock → NewAt w0 v v' → K (a.put o.dst v') w') : o.wp Tryd.prog a w K Q := by
  obtain ⟨hT, i0, by_, hi, hz0, hz1, hz2, hle⟩ := tab
  have hc0 : w.cell? ⟨w0.heap.size, 0, none⟩ = some (.int k y) := by
    have : w.cell? ⟨w0.heap.size, 0, none⟩ = (w0.alloc (.cells #[.int k y] e)).cell? ⟨w0.heap.size, 0, none⟩ := World.cell?_of_block (by rw [hh])
    rw [this, World.cell?_alloc_at _ _ _ _ rfl]; rfl
  have hg0 : w0.grownBy w none := ⟨ho, ht, hu, by rw [hh]; simp, fun j hj _ => by rw [hh]; exact heap_alloc_old w0 _ hj⟩
  have hsz : w.heap.size = w0.heap.size + 1 := by rw [hh]; simp
  have hown' : OwnK e k base w v xs := hown.kept hg0 (by cases v.ownBlock <;> simp)
  have hnews : ∀ j u, [Value.int k y][j]? = some u → w.cell? ((⟨w0.heap.size, 0, none⟩ : Addr).add j) = some u := by
    intro j u hj
    match j, hj with
    | 0, hj => simp at hj; subst hj; simpa [Addr.add] using hc0
  have hbytes : (xs.length + 1) * by_ ≤ (xs.length + 1) * 8 := Nat.mul_le_mul_left _ hle
  obtain ⟨v', w', hr, h2, h3, _, h5⟩ := run_append_own_at (P := Tryd.prog) w base T o.type e i0 (.int k 0) 1 by_ hT hi hz0 hz1 hz2 rfl (by decide) v xs.length _ hown' ⟨w0.heap.size, 0, none⟩ 1 c [Value.int k y] (by simp) hnews (ints_oneCell k [y]) (by unfold maxLen; omega) (by omega) (by omega)
  unfold Oper.wp execOp
  simp only [hop, resolve, invoke, builtin, Sem.run_bind, Sem.run_pure, Result.andThen_ok, List.map_toArray, List.map_cons, List.map_nil, hs, hx, hr]
  have hgr : w0.grownBy w' v.ownBlock := grown_trans ⟨hg0.os, hg0.tape, hg0.output, hg0.size, fun j hj _ => hg0.block j hj (by simp)⟩ h3
  refine hK v' w' (by unfold OwnK; rw [List.length_append, List.map_append]; exact h2) hgr (fun b h => ?_)
  rcases h5 with h5 | h5
  · left; rw [← h5, h]
  · right; rw [h5] at h; cases h; omega
theorem wp_app1 {T e : Nat} {k : IntKind} (tab : Tab T e k) (w0 w : World) (y : Int) (hh : w.heap = (w0.alloc (.cells #[.int k y] e)).heap) (ho : w.os = w0.os) (ht : w.tape = w0.tape) (hu : w.output = w0.output) (hg : Region.wanted o (yielded ops a.tmps) = true)
    (s x : Operand) (hop : o.op = .call { callee := .builtin .append, args := #[s, x], argTypes := #[T, T] })
    (base : Nat) (v : Value) (xs : List Int) (hs : a.eval s = v) (c : Nat) (hx : a.eval x = .slice (some ⟨w0.heap.size, 0, none⟩) 1 c) (hown : OwnK e k base w0 v xs) (hn : xs.length + 1 ≤ 1000000000) (hb : base ≤ w0.heap.size)
    (hK : ∀ v' w', OwnK e k base w' v' (xs ++ [y]) → w0.grownBy w' v.ownBlock → NewAt w0 v v' → wpList Tryd.prog ops Q rest (a.put o.dst v') w') : wpList Tryd.prog ops Q (o :: rest) a w :=
  BigFrame.wpList_want hg fun _ hKK => op_app1 tab w0 w y hh ho ht hu s x hop base v xs hs c hx hown hn hb fun v' w' h1 h2 h3 => hKK _ _ (hK v' w' h1 h2 h3)
/-- The same as a step of a region that draws its order. -/
theorem st_app1 {T e : Nat} {k : IntKind} (tab : Tab T e k) (w0 w : World) (y : Int) (hh : w.heap = (w0.alloc (.cells #[.int k y] e)).heap) (ho : w.os = w0.os) (ht : w.tape = w0.tape) (hu : w.output = w0.output) (hg : o.guard = none)
    (s x : Operand) (hop : o.op = .call { callee := .builtin .append, args := #[s, x], argTypes := #[T, T] })
    (base : Nat) (v : Value) (xs : List Int) (hs : a.eval s = v) (c : Nat) (hx : a.eval x = .slice (some ⟨w0.heap.size, 0, none⟩) 1 c) (hown : OwnK e k base w0 v xs) (hn : xs.length + 1 ≤ 1000000000) (hb : base ≤ w0.heap.size)
    (hK : ∀ v' w', OwnK e k base w' v' (xs ++ [y]) → w0.grownBy w' v.ownBlock → NewAt w0 v v' → K (a.put o.dst v') w') : if Region.wanted o (yielded ops a.tmps) = true then Oper.wp Tryd.prog o a w K Q else E := by
  have hw : Region.wanted o (yielded ops a.tmps) = true := by simp [Region.wanted, hg]
  rw [if_pos hw]
  exact op_app1 tab w0 w y hh ho ht hu s x hop base v xs hs c hx hown hn hb hK
end


theorem below_step {w a b : World} (h : Below w.heap.size w a) (k : Below a.heap.size a b) : Below w.heap.size w b := h.trans (k.mono h.size)
theorem below_quiet {w a b : World} (h : Below w.heap.size w a) (k : Quiet a b) : Below w.heap.size w b := h.trans (k.below _)
theorem below_mark {w a b : World} {row : Option Nat} (h : Below w.heap.size w a) (k : a.grownBy b row) (hr : ∀ j, row = some j → w.heap.size ≤ j) : Below w.heap.size w b := h.trans (below_of_row k h.size hr)
theorem apart_of {v u : Value} {a b c d : Nat} (h : ∀ i, v.ownBlock = some i → a ≤ i ∧ i < b) (k : ∀ i, u.ownBlock = some i → c ≤ i ∧ i < d) (hbc : b ≤ c ∨ d ≤ a) : v.ownBlock = none ∨ v.ownBlock ≠ u.ownBlock := by
  cases hv : v.ownBlock with
  | none => exact .inl rfl
  | some i =>
    right; intro e
    have := h i hv
    have := k i e.symm
    omega
end Go.Proofs.YtpfbmfnfcppjeabDoor
