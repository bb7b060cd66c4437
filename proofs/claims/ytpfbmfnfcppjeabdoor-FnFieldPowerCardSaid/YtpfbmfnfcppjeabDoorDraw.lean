/-
  The reader of codes: opening it, one number, one chance. All that is said of a number drawn is its range.
-/
import Derived.Test.YtpfbmfnfcppjeabDoorMake
import Derived.Test.YtpfbmfnfcppjeabDoorArith
namespace Go.Proofs.YtpfbmfnfcppjeabDoor
open Go.RowKit

/-- Block B holds a reader of a code that lay below S; at most m numbers have been drawn. -/
def Rd (w : World) (S B m : Nat) : Prop :=
  ∃ (v : Value) (zs : List Int) (p : Nat), S ≤ B ∧ B < w.heap.size ∧ p ≤ m ∧ w.cell? ⟨B, 0, none⟩ = some v ∧ w.cell? ⟨B, 1, none⟩ = some (.int .i64 p) ∧ w.frozen? ⟨B, 1, none⟩ = false ∧
    RowK .u8 w v zs ∧ zs.length ≤ 2000 ∧ (∀ i, i < zs.length → 0 ≤ zs.getD i 0 ∧ zs.getD i 0 ≤ 255) ∧ (0 < zs.length → ∀ b, v.ownBlock = some b → b < S)

theorem Rd.kept {w w' : World} {S B m : Nat} (h : Rd w S B m) (hsz : w.heap.size ≤ w'.heap.size) (hb : ∀ k, k < S ∨ k = B → k < w.heap.size → w'.heap[k]? = w.heap[k]?) : Rd w' S B m := by
  obtain ⟨v, zs, p, h1, h2, h3, h4, h5, h6, h7, h8, h9, h10⟩ := h
  have e := hb B (.inr rfl) h2
  refine ⟨v, zs, p, h1, by omega, h3, ?_, ?_, ?_, h7.kept (fun hp b hv hw => hb b (.inl (h10 hp b hv)) hw), h8, h9, h10⟩
  · rw [World.cell?_of_block (w := w) e]; exact h4
  · rw [World.cell?_of_block (w := w) e]; exact h5
  · rw [World.frozen?_of_block (w := w) e]; exact h6
theorem Rd.more {w : World} {S B m m' : Nat} (h : Rd w S B m) (hm : m ≤ m') : Rd w S B m' := by
  obtain ⟨v, zs, p, h1, h2, h3, h⟩ := h
  exact ⟨v, zs, p, h1, h2, by omega, h⟩
theorem Rd.lt {w : World} {S B m : Nat} (h : Rd w S B m) : B < w.heap.size := by obtain ⟨_, _, _, _, h, _⟩ := h; exact h
theorem Rd.ge {w : World} {S B m : Nat} (h : Rd w S B m) : S ≤ B := by obtain ⟨_, _, _, h, _⟩ := h; exact h
theorem Rd.grown {w w' : World} {S B m : Nat} {row : Option Nat} (h : Rd w S B m) (hg : w.grownBy w' row) (hr : ∀ k, row = some k → S ≤ k ∧ k ≠ B) : Rd w' S B m :=
  h.kept hg.size fun k hk hw => hg.block k hw fun e => by have := hr k e.symm; omega
theorem Rd.below {w w' : World} {S B m : Nat} (h : Rd w S B m) (hb : Below w.heap.size w w') : Rd w' S B m := h.kept hb.size fun k _ hw => hb.block k hw
theorem Rd.quiet {w w' : World} {S B m : Nat} (h : Rd w S B m) (hq : Quiet w w') : Rd w' S B m := h.below (hq.below _)

theorem u8_wf {n : Int} (h : (Lit.int .u8 n).wf = true) : 0 ≤ n ∧ n ≤ 255 := by
  simpa [Lit.wf, IntKind.min, IntKind.max, IntKind.signed, IntKind.bits] using h
theorem Rd_new {w : World} {v : Value} {zs : List Int} (h : RowK .u8 w v zs) (hl : zs.length ≤ 2000) (hz : ∀ n ∈ zs, (Lit.int .u8 n).wf = true) (T : Nat) :
    Rd (w.alloc (.cells #[v, .int .i64 0] T)) w.heap.size w.heap.size 0 := by
  have hk : RowK .u8 (w.alloc (.cells #[v, .int .i64 0] T)) v zs := h.belowAll ((Below.refl _ w).alloc (Nat.le_refl _) _)
  refine ⟨v, zs, 0, Nat.le_refl _, by simp, Nat.le_refl _, ?_, ?_, ?_, hk, hl, ?_, ?_⟩
  · rw [World.cell?_alloc_at _ _ _ _ rfl]; rfl
  · rw [World.cell?_alloc_at _ _ _ _ rfl]; rfl
  · exact World.frozen?_alloc_at _ _ _ _ rfl
  · intro i hi
    have : zs.getD i 0 ∈ zs := by rw [List.getD, List.getElem?_eq_getElem hi]; exact List.getElem_mem hi
    exact u8_wf (hz _ this)
  · intro hp b hb
    obtain ⟨b', off, cap, rfl, _, _, hc⟩ := h.cons hp
    simp [Value.ownBlock] at hb
    subst hb
    exact World.block_lt_of_cell? w _ (hc 0 hp)
theorem RowK.take {k : IntKind} {w : World} {b off n cap : Nat} {zs : List Int} (h : RowK k w (.slice (some ⟨b, off, none⟩) n cap) zs) (hp : 0 < zs.length) (m : Nat) (hm : m ≤ zs.length) : RowK k w (.slice (some ⟨b, off, none⟩) m cap) (zs.take m) := by
  obtain ⟨b', off', cap', e, h1, h2, hc⟩ := h.cons hp
  cases e
  refine ⟨_, cap, by simp [Nat.min_eq_left hm], (fun h => by cases h), by simp; omega, h2, fun _ => ⟨b, off, rfl, fun i hi => ?_⟩⟩
  have hi' : i < m := by simp at hi; omega
  rw [hc i (by omega)]
  simp [List.getD, hi']

set_option maxHeartbeats 400000 in
theorem l20Open_any (zs : List Int) (v : Value) (w : World) (h : RowK .u8 w v zs) (hz : ∀ n ∈ zs, (Lit.int .u8 n).wf = true) :
    Calls Tryd.prog 9 #[v] w fun e w' => e = .returned (.pointer (some ⟨w.heap.size, 0, none⟩)) ∧ Rd w' w.heap.size w.heap.size 0 ∧ Below w.heap.size w w' := by
  have h' := h
  obtain ⟨a, cap, rfl, hn, hlc, hcm, hc⟩ := h
  by_cases hlen : 2000 < zs.length
  · obtain ⟨b, off, rfl, hcc⟩ := hc (by omega)
    have HR := Lib.hid (Rd_new (h'.take (by omega) 2000 (by omega)) (by simp; omega) (fun n hn => hz n (List.mem_of_mem_take hn)) 39)
    clear h' hc hcc hn hz
    go_enter Tryd.func9, Tryd.ntmps9
    go_wp2
    go_ret
    exact ⟨rfl, HR.out, (Below.refl _ w).alloc (Nat.le_refl _) _⟩
  · have HR := Lib.hid (Rd_new h' (by omega) hz 39)
    clear h' hc hn hz
    go_enter Tryd.func9, Tryd.ntmps9
    go_wp2
    go_ret
    exact ⟨rfl, HR.out, (Below.refl _ w).alloc (Nat.le_refl _) _⟩

theorem grown_set (w : World) (B i : Nat) (x : Value) : w.grownBy (w.setCell ⟨B, i, none⟩ x) (some B) :=
  ⟨rfl, rfl, rfl, by simp [World.setCell], fun k _ hne => Below.heap_setCell _ _ _ _ (fun e => hne (by rw [e]))⟩
/-- The count has been raised. -/
theorem Rd_step {w : World} {S B m p : Nat} {v : Value} {zs : List Int} (h1 : S ≤ B) (h2 : B < w.heap.size) (h3 : p ≤ m) (h4 : w.cell? ⟨B, 0, none⟩ = some v) (h5 : w.cell? ⟨B, 1, none⟩ = some (.int .i64 p)) (h6 : w.frozen? ⟨B, 1, none⟩ = false)
    (h7 : RowK .u8 w v zs) (h8 : zs.length ≤ 2000) (h9 : ∀ i, i < zs.length → 0 ≤ zs.getD i 0 ∧ zs.getD i 0 ≤ 255) (h10 : 0 < zs.length → ∀ b, v.ownBlock = some b → b < S) :
    Rd (w.setCell ⟨B, 1, none⟩ (.int .i64 ((p : Int) + 1))) S B (m + 1) := by
  refine ⟨v, zs, p + 1, h1, by simpa using h2, by omega, ?_, ?_, ?_, ?_, h8, h9, h10⟩
  · rw [World.cell?_setCell_other _ _ _ _ (by simp)]; exact h4
  · rw [World.cell?_setCell_same _ _ _ h5]; simp
  · rw [World.frozen?_setCell]; exact h6
  · exact h7.kept fun hp b hb hw => (grown_set w B 1 _).block b hw (fun e => by have := h10 hp b hb; cases e; omega)
theorem xor_nonneg {x y : Int} (h1 : 0 ≤ x) (h2 : x < 4611686018427387904) (h3 : 0 ≤ y) (h4 : y < 4611686018427387904) : 0 ≤ bits .xor .i64 x y := by
  obtain ⟨a, rfl⟩ := Int.eq_ofNat_of_zero_le h1
  obtain ⟨b, rfl⟩ := Int.eq_ofNat_of_zero_le h3
  rw [i64_xor a b (by omega) (by omega)]; omega

set_option maxHeartbeats 800000 in
theorem pick_any (n : Int) (S B m : Nat) (w : World) (h : Rd w S B m) (hm : m ≤ 1000000) (hn : 1 ≤ n) (hn2 : n ≤ 1000000) :
    Calls Tryd.prog 11 #[.pointer (some ⟨B, 0, none⟩), .int .i64 n] w fun e w' => ∃ r : Int, e = .returned (.int .i64 r) ∧ 0 ≤ r ∧ r < n ∧ Rd w' S B (m + 1) ∧ w.grownBy w' (some B) := by
  obtain ⟨v, zs, p, h1, h2, h3, h4, h5, h6, h7, h8, h9, h10⟩ := h
  have HR := Lib.hid (Rd_step h1 h2 h3 h4 h5 h6 h7 h8 h9 h10)
  have HG := Lib.hid (grown_set w B 1 (.int .i64 ((p : Int) + 1)))
  have hcs : ∀ i, i < zs.length → ∃ b off cap, v = .slice (some ⟨b, off, none⟩) zs.length cap ∧ (w.setCell ⟨B, 1, none⟩ (.int .i64 ((p : Int) + 1))).cell? ⟨b, off + i, none⟩ = some (.int .u8 (zs.getD i 0)) := by
    intro i hi
    obtain ⟨b, off, cap, rfl, _, _, hc⟩ := h7.cons (by omega)
    refine ⟨b, off, cap, rfl, ?_⟩
    have hb := h10 (by omega) b rfl
    rw [World.cell?_setCell_other _ _ _ _ (by intro e; simp only [Addr.mk.injEq] at e; omega)]
    exact hc i hi
  obtain ⟨a, cap, rfl⟩ := h7.form
  clear h7 h10
  by_cases h0 : zs.length = 0
  · have ht : ((zs.length : Int) == 0) = true := by rw [h0]; rfl
    clear hcs h9 h0
    go_enter Tryd.func11, Tryd.ntmps11
    go_wp2
    go_ret
    exact ⟨0, rfl, by omega, by omega, HR.out, HG.out⟩
  · have ht : ((zs.length : Int) == 0) = false := beq_eq_false_iff_ne.2 (by omega)
    have hn1 : decide (n < 1) = false := by simp; omega
    have hzp : 0 < zs.length := by omega
    clear h0
    by_cases hp : p < zs.length
    · obtain ⟨b, off, cap', e, hc⟩ := hcs p hp
      cases e
      have hz := h9 p hp
      obtain ⟨z, hzz⟩ : ∃ z, z = zs.getD p 0 := ⟨_, rfl⟩
      rw [← hzz] at hz hc
      have hw1 := IntWalk.wrap64_in z (by omega)
      clear hcs h9 hzz
      go_enter Tryd.func11, Tryd.ntmps11
      go_wp2
      go_ret
      exact ⟨_, rfl, by first | exact Int.emod_nonneg _ (by omega) | exact Int.tmod_nonneg _ (by omega), by first | exact Int.emod_lt_of_pos _ (by omega) | exact Int.tmod_lt_of_pos _ (by omega), HR.out, HG.out⟩
    · obtain ⟨r1, hr1⟩ : ∃ r, r = p % zs.length := ⟨_, rfl⟩
      obtain ⟨r2, hr2⟩ : ∃ r, r = (p * 7 + 3) % zs.length := ⟨_, rfl⟩
      obtain ⟨q, hq⟩ : ∃ q, q = p / zs.length := ⟨_, rfl⟩
      have hl1 : r1 < zs.length := by rw [hr1]; exact Nat.mod_lt _ (by omega)
      have hl2 : r2 < zs.length := by rw [hr2]; exact Nat.mod_lt _ (by omega)
      have hq2 : q ≤ p := by rw [hq]; exact Nat.div_le_self _ _
      have ht1 : (p : Int).tmod (zs.length : Int) = (r1 : Int) := by rw [hr1, Int.tmod_eq_emod_of_nonneg (by omega)]; simp
      have ht1' : (p : Int) % (zs.length : Int) = (r1 : Int) := by rw [hr1]; simp
      have ht2 : ((p : Int) * 7 + 3).tmod (zs.length : Int) = (r2 : Int) := by rw [hr2, Int.tmod_eq_emod_of_nonneg (by omega)]; simp
      have ht2' : ((p : Int) * 7 + 3) % (zs.length : Int) = (r2 : Int) := by rw [hr2]; simp
      have ht3 : (p : Int).tdiv (zs.length : Int) = (q : Int) := by rw [hq, Int.tdiv_eq_ediv_of_nonneg (by omega)]; simp
      have ht3' : (p : Int) / (zs.length : Int) = (q : Int) := by rw [hq]; simp
      obtain ⟨b, off, cap', e, hc⟩ := hcs r1 hl1
      cases e
      obtain ⟨b', off', cap'', e, hc2⟩ := hcs r2 hl2
      cases e
      have hz1 := h9 r1 hl1
      have hz2 := h9 r2 hl2
      obtain ⟨z1, hzz1⟩ : ∃ z, z = zs.getD r1 0 := ⟨_, rfl⟩
      obtain ⟨z2, hzz2⟩ : ∃ z, z = zs.getD r2 0 := ⟨_, rfl⟩
      rw [← hzz1] at hz1 hc
      rw [← hzz2] at hz2 hc2
      clear hcs h9 hzz1 hzz2 hr1 hr2 hq
      have hb0 : (0 : Int) ≤ (r1 : Int) ∧ (r1 : Int) < (zs.length : Int) := by omega
      have hb1 : (0 : Int) ≤ (r2 : Int) ∧ (r2 : Int) < (zs.length : Int) := by omega
      have hp1 : (p : Int) ≤ 1000000 := by omega
      have e1 := IntWalk.i64_in ((p : Int) * 7) (by omega)
      have e2 := IntWalk.i64_in ((p : Int) * 7 + 3) (by omega)
      have e3 := IntWalk.i64_in z1 (by omega)
      have e4 := IntWalk.i64_in z2 (by omega)
      have e5 := IntWalk.i64_in (z1 * 131) (by omega)
      have e6 := IntWalk.i64_in (z2 * 1117) (by omega)
      have e7 := IntWalk.i64_in (z1 * 131 + z2 * 1117) (by omega)
      have e8 := IntWalk.i64_in ((p : Int) * 29) (by omega)
      have e9 := IntWalk.i64_in (z1 * 131 + z2 * 1117 + (p : Int) * 29) (by omega)
      have e10 := IntWalk.i64_in ((q : Int)) (by omega)
      have e11 := IntWalk.i64_in ((q : Int) * 53) (by omega)
      have e12 := IntWalk.i64_in (z1 * 131 + z2 * 1117 + (p : Int) * 29 + (q : Int) * 53) (by omega)
      have e13 := IntWalk.i64_in ((r1 : Int)) (by omega)
      have e14 := IntWalk.i64_in ((r2 : Int)) (by omega)
      have hX : 0 ≤ z1 * 131 + z2 * 1117 + (p : Int) * 29 + (q : Int) * 53 ∧ z1 * 131 + z2 * 1117 + (p : Int) * 29 + (q : Int) * 53 ≤ 4000000000 := by omega
      go_enter Tryd.func11, Tryd.ntmps11
      go_wp2
      go_quiet (fail)
      clear e1 e2 e3 e4 e5 e6 e7 e8 e9 e10 e11 e12 e13 e14 ht1 ht1' ht2 ht2' ht3 ht3'
      go_wp2
      go_ret
      exact ⟨_, rfl, Int.tmod_nonneg _ (xor_nonneg (by omega) (by omega) (by omega) (by omega)), Int.tmod_lt_of_pos _ (by omega), HR.out.quiet (Quiet.n _ _), grown_quiet HG.out (Quiet.n _ _)⟩

set_option maxHeartbeats 400000 in
theorem odd_pos (n : Int) (S B m : Nat) (w : World) (h : Rd w S B m) (hm : m ≤ 1000000) (hn : 1 ≤ n) (hn2 : n ≤ 1000000) :
    Calls Tryd.prog 16 #[.pointer (some ⟨B, 0, none⟩), .int .i64 n] w fun e w' => ∃ r : Bool, e = .returned (.bool r) ∧ Rd w' S B (m + 1) ∧ w.grownBy w' (some B) := by
  go_enter Tryd.func16, Tryd.ntmps16
  go_wp2_with (go_at_call 11; refine (pick_any _ _ _ _ _ h hm hn hn2).mono ?_; rintro e w' ⟨r, rfl, hr0, hr1, hrd, hg⟩)
  all_goals go_ret
  all_goals exact ⟨_, rfl, hrd, hg⟩
theorem odd_zero (B : Nat) (w : World) :
    Calls Tryd.prog 16 #[.pointer (some ⟨B, 0, none⟩), .int .i64 0] w fun e w' => e = .returned (.bool false) ∧ w = w' := by
  go_enter Tryd.func16, Tryd.ntmps16
  go_wp2
  go_ret
  exact ⟨rfl, rfl⟩
theorem odd_any (n : Int) (S B m : Nat) (w : World) (h : Rd w S B m) (hm : m ≤ 1000000) (hn : 0 ≤ n) (hn2 : n ≤ 1000000) :
    Calls Tryd.prog 16 #[.pointer (some ⟨B, 0, none⟩), .int .i64 n] w fun e w' => ∃ r : Bool, e = .returned (.bool r) ∧ Rd w' S B (m + 1) ∧ w.grownBy w' (some B) := by
  by_cases h0 : n = 0
  · subst h0
    exact (odd_zero B w).mono fun _ _ ⟨he, hw⟩ => ⟨false, he, by rw [← hw]; exact h.more (by omega), by rw [← hw]; exact World.grownBy.refl _ _⟩
  · exact odd_pos n S B m w h hm (by omega) hn2

/-- A step that writes one of the call's own rows, behind steps that write block B. -/
theorem grown_own {a b c : World} {B : Nat} {row : Option Nat} (h : a.grownBy b (some B)) (k : b.grownBy c row) (hr : ∀ j, row = some j → a.heap.size ≤ j) : a.grownBy c (some B) :=
  ⟨k.os.trans h.os, k.tape.trans h.tape, k.output.trans h.output, Nat.le_trans h.size k.size, fun i hi hne => (k.block i (Nat.lt_of_lt_of_le hi h.size) (fun e => by have := hr i e.symm; omega)).trans (h.block i hi hne)⟩

end Go.Proofs.YtpfbmfnfcppjeabDoor
