/-
  Memory words that every contract of this seat uses: a slice value that reads as a list of numbers (RowK), a slice of the call's own that holds a list of numbers (OwnI), and how both are kept. No program is named here.
-/
import Derived.WalkKit
import Derived.ProofKit
import Derived.OpenShut
import Derived.WalkSpells
import Derived.WalkLawsBesides
import Derived.Lib.Hide
import Derived.Maps.AppendAt
namespace Go.Proofs.YtpfbmfnfcppjeabDoor
open Go.RowKit

/-- The slice value v reads as the numbers zs of kind k. -/
def RowK (k : IntKind) (w : World) (v : Value) (zs : List Int) : Prop :=
  ∃ a cap, v = .slice a zs.length cap ∧ (a = none → cap = 0) ∧ zs.length ≤ cap ∧ cap ≤ maxLen ∧
    (0 < zs.length → ∃ b off, a = some ⟨b, off, none⟩ ∧ ∀ i, i < zs.length → w.cell? ⟨b, off + i, none⟩ = some (.int k (zs.getD i 0)))

/-- The slice value v is the call's own (its block is at least base) and holds the numbers zs of kind k (e: the element type's number). -/
def OwnK (e : Nat) (k : IntKind) (base : Nat) (w : World) (v : Value) (zs : List Int) : Prop := w.ownsRow base e 1 v zs.length (zs.map (Value.int k))
/-- Numbers of kind int. -/
abbrev OwnI := OwnK 3 .i64
/-- Bytes. -/
abbrev OwnB := OwnK 5 .u8

theorem below_of_grown {w w' : World} (h : w.grownBy w' none) : Below w.heap.size w w' := ⟨h.os, h.tape, h.output, h.size, fun k hk => h.block k hk (by simp)⟩
theorem grown_of_below {w w' : World} (h : Below w.heap.size w w') (row : Option Nat) : w.grownBy w' row := ⟨h.os, h.tape, h.output, h.size, fun k hk _ => h.block k hk⟩

theorem getD_map_int (k : IntKind) (zs : List Int) (i : Nat) (h : i < zs.length) : (zs.map (Value.int k))[i]? = some (.int k (zs.getD i 0)) := by
  simp [List.getD, h]

theorem row_of_owns {base e : Nat} {k : IntKind} {w : World} {v : Value} {zs : List Int} (h : w.ownsRow base e 1 v zs.length (zs.map (Value.int k))) : RowK k w v zs := by
  rcases h.2 with ⟨rfl, h0⟩ | ⟨g, cap, cur, rfl, hb, hg, hn, hc, hs, ht⟩
  · exact ⟨none, 0, by rw [h0], fun _ => rfl, by omega, by simp [maxLen], fun hp => by omega⟩
  · refine ⟨_, cap, rfl, (fun h => by cases h), hn, hc, fun _ => ⟨g, 0, rfl, fun i hi => ?_⟩⟩
    have hc := h.cells (g := g) (by simp [Value.ownBlock]) i _ (getD_map_int k zs i hi)
    simpa [Addr.add_lit] using hc
theorem row_of_own {e base : Nat} {k : IntKind} {w : World} {v : Value} {zs : List Int} (h : OwnK e k base w v zs) : RowK k w v zs := row_of_owns h

/-- A row keeps its reading where its block is as it was. -/
theorem RowK.kept {k : IntKind} {w w' : World} {v : Value} {zs : List Int} (h : RowK k w v zs) (hb : 0 < zs.length → ∀ b, v.ownBlock = some b → b < w.heap.size → w'.heap[b]? = w.heap[b]?) : RowK k w' v zs := by
  obtain ⟨a, cap, rfl, h0, h1, h2, h3⟩ := h
  refine ⟨a, cap, rfl, h0, h1, h2, fun hp => ?_⟩
  obtain ⟨b, off, rfl, hc⟩ := h3 hp
  refine ⟨b, off, rfl, fun i hi => ?_⟩
  have hci := hc i hi
  have hlt := World.block_lt_of_cell? w _ hci
  rw [World.cell?_of_block (w := w) (hb hp b rfl hlt)]
  exact hci
theorem RowK.below {k : IntKind} {B : Nat} {w w' : World} {v : Value} {zs : List Int} (h : RowK k w v zs) (hb : Below B w w') (hlt : ∀ b, v.ownBlock = some b → b < w.heap.size → b < B) : RowK k w' v zs :=
  h.kept fun _ b hv hw => hb.block b (hlt b hv hw)
theorem RowK.belowAll {k : IntKind} {w w' : World} {v : Value} {zs : List Int} (h : RowK k w v zs) (hb : Below w.heap.size w w') : RowK k w' v zs := h.below hb fun _ _ h => h
theorem RowK.grown {k : IntKind} {w w' : World} {v : Value} {zs : List Int} {row : Option Nat} (h : RowK k w v zs) (hg : w.grownBy w' row) (hne : ∀ b, v.ownBlock = some b → some b ≠ row) : RowK k w' v zs :=
  h.kept fun _ b hv hw => hg.block b hw (hne b hv)

/-- The value's own form. -/
theorem RowK.form {k : IntKind} {w : World} {v : Value} {zs : List Int} (h : RowK k w v zs) : ∃ a cap, v = .slice a zs.length cap := let ⟨a, cap, e, _⟩ := h; ⟨a, cap, e⟩
theorem RowK.nil {k : IntKind} {w : World} {v : Value} (h : RowK k w v []) : ∃ a cap, v = .slice a 0 cap := by simpa using h.form
theorem RowK.cons {k : IntKind} {w : World} {v : Value} {zs : List Int} (h : RowK k w v zs) (hp : 0 < zs.length) :
    ∃ b off cap, v = .slice (some ⟨b, off, none⟩) zs.length cap ∧ zs.length ≤ cap ∧ cap ≤ maxLen ∧ ∀ i, i < zs.length → w.cell? ⟨b, off + i, none⟩ = some (.int k (zs.getD i 0)) := by
  obtain ⟨a, cap, rfl, _, h1, h2, h3⟩ := h
  obtain ⟨b, off, rfl, hc⟩ := h3 hp
  exact ⟨b, off, cap, rfl, h1, h2, hc⟩

/-- The same, of a value that is written out. -/
theorem RowK.at {k : IntKind} {w : World} {a : Option Addr} {n c : Nat} {zs : List Int} (h : RowK k w (.slice a n c) zs) :
    zs.length = n ∧ (a = none → c = 0) ∧ n ≤ c ∧ c ≤ maxLen ∧ (0 < n → ∃ b off, a = some ⟨b, off, none⟩ ∧ ∀ i, i < n → w.cell? ⟨b, off + i, none⟩ = some (.int k (zs.getD i 0))) := by
  obtain ⟨a', c', e, h0, h1, h2, h3⟩ := h
  simp only [Value.slice.injEq] at e
  obtain ⟨rfl, rfl, rfl⟩ := e
  exact ⟨rfl, h0, h1, h2, h3⟩
/-- x[:m] -/
theorem RowK.pre {k : IntKind} {w : World} {a : Option Addr} {n c : Nat} {zs : List Int} (h : RowK k w (.slice a n c) zs) (m : Nat) (hm : m ≤ n) : RowK k w (.slice a m c) (zs.take m) := by
  obtain ⟨hl, h0, h1, h2, h3⟩ := h.at
  have ht : (zs.take m).length = m := by rw [List.length_take]; omega
  refine ⟨a, c, by rw [ht], h0, by rw [ht]; omega, h2, fun hp => ?_⟩
  have hp' : 0 < m := by rw [ht] at hp; exact hp
  obtain ⟨b, off, rfl, hc⟩ := h3 (by omega)
  refine ⟨b, off, rfl, fun i hi => ?_⟩
  have hi' : i < m := by rw [ht] at hi; exact hi
  rw [hc i (by omega)]
  simp [List.getD, hi']
/-- x[lo:hi], lo below the capacity. -/
theorem RowK.mid {k : IntKind} {w : World} {b off n c : Nat} {zs : List Int} (h : RowK k w (.slice (some ⟨b, off, none⟩) n c) zs) (lo m : Nat) (hm : lo + m ≤ n) : RowK k w (.slice (some ⟨b, off + lo, none⟩) m (c - lo)) ((zs.drop lo).take m) := by
  obtain ⟨hl, h0, h1, h2, h3⟩ := h.at
  have ht : ((zs.drop lo).take m).length = m := by rw [List.length_take, List.length_drop]; omega
  refine ⟨_, c - lo, by rw [ht], (fun h => by cases h), by rw [ht]; omega, by omega, fun hp => ?_⟩
  have hp' : 0 < m := by rw [ht] at hp; exact hp
  obtain ⟨b', off', e, hc⟩ := h3 (by omega)
  cases e
  refine ⟨b, off + lo, rfl, fun i hi => ?_⟩
  have hi' : i < m := by rw [ht] at hi; exact hi
  rw [Nat.add_assoc, hc (lo + i) (by omega)]
  simp [List.getD, hi']
theorem RowK.len {k : IntKind} {w : World} {v : Value} {zs : List Int} (h : RowK k w v zs) : zs.length ≤ 9223372036854775807 := by
  obtain ⟨a, cap, _, _, h1, h2, _⟩ := h
  unfold maxLen at h2; omega

/-- Nothing has turned but the count of draws. -/
def Quiet (w w' : World) : Prop := ∃ n, w' = w.drewN n
theorem Quiet.same (w : World) : Quiet w w := ⟨0, rfl⟩
theorem Quiet.n (w : World) (n : Nat) : Quiet w (w.drewN n) := ⟨n, rfl⟩
theorem Quiet.nn (w : World) (n m : Nat) : Quiet w ((w.drewN n).drewN m) := ⟨n + m, World.drewN_drewN ..⟩
theorem Quiet.trans {a b c : World} (h : Quiet a b) (k : Quiet b c) : Quiet a c := by
  obtain ⟨n, rfl⟩ := h; obtain ⟨m, rfl⟩ := k; exact Quiet.nn _ _ _
theorem Quiet.cell {w w' : World} (h : Quiet w w') (a : Addr) : w'.cell? a = w.cell? a := by obtain ⟨n, rfl⟩ := h; rfl
theorem Quiet.heap {w w' : World} (h : Quiet w w') : w'.heap = w.heap := by obtain ⟨n, rfl⟩ := h; rfl
theorem Quiet.below {w w' : World} (h : Quiet w w') (B : Nat) : Below B w w' := by obtain ⟨n, rfl⟩ := h; exact below_drewN (Below.refl _ _) n
theorem RowK.quiet {k : IntKind} {w w' : World} {v : Value} {zs : List Int} (h : RowK k w v zs) (hq : Quiet w w') : RowK k w' v zs := h.kept fun _ b _ _ => by rw [hq.heap]
theorem OwnK.quiet {e : Nat} {k : IntKind} {B : Nat} {w w' : World} {v : Value} {zs : List Int} (h : OwnK e k B w v zs) (hq : Quiet w w') : OwnK e k B w' v zs := by obtain ⟨n, rfl⟩ := hq; exact h
theorem OwnK.drew {e : Nat} {k : IntKind} {B : Nat} {w : World} {v : Value} {zs : List Int} (h : OwnK e k B w v zs) : OwnK e k B w.drew v zs := h
theorem OwnK.below {e : Nat} {k : IntKind} {B B' : Nat} {w w' : World} {v : Value} {zs : List Int} (h : OwnK e k B w v zs) (hb : Below B' w w') (hlt : ∀ b, v.ownBlock = some b → b < w.heap.size → b < B') : OwnK e k B w' v zs := by
  refine ⟨h.1, ?_⟩
  rcases h.2 with h2 | ⟨g, cap, cur, rfl, hg, hh, r⟩
  · exact .inl h2
  · exact .inr ⟨g, cap, cur, rfl, hg, by rw [hb.block g (hlt g rfl (Array.getElem?_eq_some_iff.1 hh).1)]; exact hh, r⟩
theorem OwnK.belowAll {e : Nat} {k : IntKind} {B : Nat} {w w' : World} {v : Value} {zs : List Int} (h : OwnK e k B w v zs) (hb : Below w.heap.size w w') : OwnK e k B w' v zs := h.below hb fun _ _ h => h
theorem OwnK.mono {e : Nat} {k : IntKind} {B B' : Nat} {w : World} {v : Value} {zs : List Int} (h : OwnK e k B w v zs) (hle : B' ≤ B) : OwnK e k B' w v zs := by
  refine ⟨h.1, ?_⟩
  rcases h.2 with h2 | ⟨g, cap, cur, rfl, hg, r⟩
  · exact .inl h2
  · exact .inr ⟨g, cap, cur, rfl, by omega, r⟩
theorem OwnK.kept {e : Nat} {k : IntKind} {B : Nat} {w w' : World} {v : Value} {zs : List Int} {row : Option Nat} (h : OwnK e k B w v zs) (hg : w.grownBy w' row) (hne : v.ownBlock = none ∨ v.ownBlock ≠ row) : OwnK e k B w' v zs := World.ownsRow.kept h hg hne
theorem OwnK.lt {e : Nat} {k : IntKind} {B : Nat} {w : World} {v : Value} {zs : List Int} (h : OwnK e k B w v zs) : ∀ b, v.ownBlock = some b → B ≤ b ∧ b < w.heap.size := World.ownsRow.lt h
theorem OwnK.form {e : Nat} {k : IntKind} {B : Nat} {w : World} {v : Value} {zs : List Int} (h : OwnK e k B w v zs) : (v = .slice none 0 0 ∧ zs = []) ∨ ∃ g cap, v = .slice (some ⟨g, 0, none⟩) zs.length cap ∧ zs.length ≤ cap := by
  rcases h.2 with ⟨h1, h2⟩ | ⟨g, cap, cur, rfl, hg, _, hn, _⟩
  · exact .inl ⟨h1, by simpa using h2⟩
  · exact .inr ⟨g, cap, rfl, hn⟩
/-- One element of an owned list is written. -/
theorem OwnK.stored {e : Nat} {k : IntKind} {B g cap n : Nat} {w : World} {zs : List Int} (h : OwnK e k B w (.slice (some ⟨g, 0, none⟩) n cap) zs) (hn : zs.length = n) (j : Nat) (x : Int) :
    OwnK e k B (w.setCell ⟨g, j, none⟩ (.int k x)) (.slice (some ⟨g, 0, none⟩) n cap) (zs.set j x) ∧ w.grownBy (w.setCell ⟨g, j, none⟩ (.int k x)) (some g) := by
  subst hn
  have := World.ownsRow.stored h j (.int k x)
  refine ⟨?_, this.2⟩
  unfold OwnK
  rw [List.length_set, List.map_set]
  exact this.1
theorem OwnK.cell {e : Nat} {k : IntKind} {B g cap n : Nat} {w : World} {zs : List Int} (h : OwnK e k B w (.slice (some ⟨g, 0, none⟩) n cap) zs) (hn : zs.length = n) (j : Nat) (hj : j < n) : w.cell? ⟨g, j, none⟩ = some (.int k (zs.getD j 0)) := by
  subst hn
  rw [World.ownsRow.cellAt h j (by omega), getD_map_int _ _ _ hj]
theorem OwnK.free {e : Nat} {k : IntKind} {B g cap n : Nat} {w : World} {zs : List Int} (h : OwnK e k B w (.slice (some ⟨g, 0, none⟩) n cap) zs) (hn : zs.length = n) (j : Nat) : w.frozen? ⟨g, j, none⟩ = false := by
  subst hn; exact World.ownsRow.frozenAt h j
theorem grown_trans {a b c : World} {row : Option Nat} (h : a.grownBy b row) (k : b.grownBy c row) : a.grownBy c row := World.grownBy.trans h k
theorem grown_quiet {a b c : World} {row : Option Nat} (h : a.grownBy b row) (k : Quiet b c) : a.grownBy c row := by obtain ⟨n, rfl⟩ := k; exact ⟨h.os, h.tape, h.output, h.size, h.block⟩
/-- The cells at and above B alone may have been written. -/
theorem below_of_row {B : Nat} {w w' : World} {row : Option Nat} (h : w.grownBy w' row) (hB : B ≤ w.heap.size) (hr : ∀ k, row = some k → B ≤ k) : Below B w w' := (Below.refl B w).grown h hB hr

theorem take_succ' {α : Type} [Inhabited α] (zs : List α) (d : α) (k : Nat) (hk : k < zs.length) : zs.take (k + 1) = zs.take k ++ [zs.getD k d] := by
  rw [List.take_add_one, List.getElem?_eq_getElem hk]; simp [List.getD, hk]

/-- k, k + 1, .. : n numbers. -/
def marks (k : Int) (n : Nat) : List Int := (List.range n).map fun (i : Nat) => k + (i : Int)
theorem marks_length (k : Int) (n : Nat) : (marks k n).length = n := by simp [marks]
theorem marks_get (k : Int) (n i : Nat) (h : i < n) : (marks k n).getD i 0 = k + i := by simp [marks, List.getD, h]
theorem marks_succ (k : Int) (n : Nat) : marks k (n + 1) = marks k n ++ [k + n] := by simp [marks, List.range_succ]
theorem marks_step (k : Int) (j : Nat) (zs : List Int) (h : j < zs.length) : (marks k j ++ zs.drop j).set j (k + j) = marks k (j + 1) ++ zs.drop (j + 1) := by
  rw [marks_succ, List.set_append_right _ _ (by simp [marks_length]), marks_length, Nat.sub_self, List.drop_eq_getElem_cons h, List.set_cons_zero]
  simp
theorem copy_step (zs : List Int) (k n : Nat) (hn : n = zs.length) (h : k < n) : (zs.take k ++ List.replicate (n - k) 0).set k (zs.getD k 0) = zs.take (k + 1) ++ List.replicate (n - (k + 1)) 0 := by
  subst hn
  have hl : (zs.take k).length = k := by simp; omega
  have e : List.replicate (zs.length - k) (0 : Int) = 0 :: List.replicate (zs.length - (k + 1)) 0 := by
    rw [show zs.length - k = (zs.length - (k + 1)) + 1 from by omega, List.replicate_succ]
  rw [List.set_append_right _ _ (by omega), hl, Nat.sub_self, e, List.set_cons_zero, take_succ' zs 0 k h]
  simp

theorem rowK_nil (k : IntKind) (w : World) : RowK k w (.slice none 0 0) [] := ⟨none, 0, rfl, fun _ => rfl, by simp, by simp [maxLen], fun h => by simp at h⟩
/-- An argument as the row's reader gives it: its first 'len' numbers. -/
theorem rowK_args {k : IntKind} {w : World} {x : Addr} {len cap : Nat} {zs : List Int} (hl : len ≤ cap) (hm : cap ≤ maxLen) (hz : zs.length = cap)
    (hcell : ∀ i, i < zs.length → w.cell? (x.add i) = some (.int k (zs.getD i 0))) (hwz : ∀ n ∈ zs, (Lit.int k n).wf = true) :
    ∃ ys, RowK k w (.slice (some x) len cap) ys ∧ ∀ n ∈ ys, (Lit.int k n).wf = true := by
  refine ⟨zs.take len, ⟨some x, cap, ?_, (fun h => by cases h), ?_, hm, ?_⟩, fun n hn => hwz n (List.mem_of_mem_take hn)⟩
  · simp [hz, hl]
  · simp [hz]; omega
  · intro hp
    have hp' : 0 < len := by simp [hz] at hp; omega
    obtain ⟨b, off, spot⟩ := x
    have hc := hcell 0 (by omega)
    have hspot : spot = none := by simpa [Addr.add] using World.cell?_spot hc
    subst hspot
    refine ⟨b, off, rfl, fun i hi => ?_⟩
    have hi' : i < len := by simp [hz] at hi; omega
    have := hcell i (by omega)
    simpa [Addr.add_lit, List.getD, hi'] using this

end Go.Proofs.YtpfbmfnfcppjeabDoor
