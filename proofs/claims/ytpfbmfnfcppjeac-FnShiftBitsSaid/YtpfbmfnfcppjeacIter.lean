/-
  'for x := range seq { .. }' over an iterator that keeps state in blocks of its own and never ends by itself: the law of the loop. No program stands here.
-/
import Derived.RangeFuncLeaves
import Derived.RangeFuncOwn
import Derived.RangeFuncBox
import Derived.Below
namespace Go.Proofs.Ytpfbmfnfcppjeac
open Go.RowKit

/-- Whatever lies at or beyond B stays as it is. -/
structure Upper (B : Nat) (W W' : World) : Prop where
  size : W.heap.size ≤ W'.heap.size
  block : ∀ b, B ≤ b → b < W.heap.size → W'.heap[b]? = W.heap[b]?
theorem Upper.refl (B : Nat) (W : World) : Upper B W W := ⟨Nat.le_refl _, fun _ _ _ => rfl⟩
theorem Upper.trans {B : Nat} {X Y Z : World} (h : Upper B X Y) (k : Upper B Y Z) : Upper B X Z :=
  ⟨Nat.le_trans h.size k.size, fun b hb hl => (k.block b hb (Nat.lt_of_lt_of_le hl h.size)).trans (h.block b hb hl)⟩
theorem Upper.mono {B B' : Nat} {X Y : World} (h : Upper B X Y) (hB : B ≤ B') : Upper B' X Y := ⟨h.size, fun b hb hl => h.block b (Nat.le_trans hB hb) hl⟩
theorem Upper.grown {B : Nat} {X Y : World} {row : Option Nat} (hg : X.grownBy Y row) (hr : ∀ r, row = some r → r < B) : Upper B X Y :=
  ⟨hg.size, fun b hb hl => hg.block b hl (fun e => by have := hr b e.symm; omega)⟩

/-- The iterator's word: round k is handed x k; it goes on until a round says that there is no more. -/
def Gives (F : Fence) (n : Nat) (P : Program) (g : Nat) (lb : Array Value) (x : Nat → Value) (lenOf : World → Nat) (N : Nat) (w0 : World) : Prop :=
  ∀ (l : Nat) (J : Nat → World → Prop) (Jx : World → Prop) (W : World), Below w0.heap.size w0 W →
    (∀ k A A', J k A → Below W.heap.size A A' → J k A') →
    (∀ k A, J k A → lenOf A = k ∧ k < N ∧ W.heap.size ≤ A.heap.size) →
    (∀ k A, J k A → YieldAt F (n - 1) P l #[x k] A fun e A' => (e = .returned (.bool true) ∧ J (k + 1) A' ∧ Upper W.heap.size A A') ∨ (e = .returned (.bool false) ∧ Jx A')) →
    J 0 W →
    CallsIn F n P g (#[.func (.yield l) #[] #[]] ++ lb) W fun e W' => (∃ v, e = .returned v) ∧ Jx W'

/-- How a round's body may be left: it goes on, or it breaks by cx. -/
def roundWays (B id : Nat) (I : Nat → World → Prop) (Ix : World → Prop) (k : Nat) (W : World) : Exit → Act → World → Prop
  | .normal, _, W' => I (k + 1) W' ∧ Upper B W W'
  | .exit i, _, W' => i = id ∧ Ix W' ∧ Upper B W W'
  | _, _, _ => False

theorem putObj_below {B : Nat} {A : World} {l : Nat} (o : Obj) (hB : B ≤ l) (hl : l < A.heap.size) : Below B A (A.putObj l o) :=
  (Below.refl B A).grown (grownBy_putObj' A l o) (by omega) (fun k e => by cases e; exact hB)
theorem putObj_upper {B : Nat} {A : World} {l : Nat} (o : Obj) (hl : l < B) : Upper B A (A.putObj l o) := Upper.grown (grownBy_putObj' A l o) (fun r e => by cases e; exact hl)

theorem wpIn_rangeFunc_gives {F : Fence} {n : Nat} {P : Program} {g : Operand} {ps : Array Tmp} {assign body : Code} {Q : Exit → Act → World → Prop} {a : Act} {w : World}
    (hro : F.round = none) (h1 : 1 ≤ n) {gf : Nat} {lb : Array Value} (hg : a.eval g = .func (.func gf) #[] lb) (hFg : F.fn gf) (eg : ∀ args w, (callFunc gf args).run P w = .ok (.enter gf args) w)
    {x : Nat → Value} {lenOf : World → Nat} {N : Nat} {w0 : World} (hseq : Gives F (n - 1) P gf lb x lenOf N w0) (hb0 : Below w0.heap.size w0 w) (hps : ps.size = 1)
    (id : Nat) (I : Nat → World → Prop) (Ix : World → Prop)
    (hI : ∀ k A A', I k A → Below w.heap.size A A' → I k A') (hIx : ∀ A A', Ix A → Below w.heap.size A A' → Ix A')
    (hIl : ∀ k A, I k A → lenOf A = k ∧ k < N) (h0 : I 0 w)
    (hround : ∀ (l k : Nat) (W : World), I k W → w.heap.size ≤ W.heap.size →
      assign.wpIn (F.inRound l) (n - 1 - 1) P (Exit.then (fun a' W' => W' = W ∧ ∀ W2, I k W2 → w.heap.size ≤ W2.heap.size → body.wpIn (F.inRound l) (n - 1 - 1) P (roundWays w.heap.size id I Ix k W2) a' W2) (fun _ _ _ => False))
        { tmps := (ps.zip #[x k]).foldl (fun t (p, v) => t.setIfInBounds p v) a.tmps, defers := [] } W)
    (hstop : ∀ (D : Nat) (W : World), w.heap.size ≤ D → Ix W → W.heap[D]? = some (.deferred (some [])) → (Code.exit id).wpIn F n P Q { a with defers := { target := .collected D, args := #[] } :: a.defers } W) :
    (Code.rangeFunc g ps assign body).wpIn F n P Q a w := by
  refine wpIn_rangeFunc ?_
  intro fn hfn
  rw [hro]
  obtain ⟨L, eL⟩ : ∃ L : LoopState → Option Code → Obj, L = fun st pe => .loop { state := st, pending := pe, fn, tmps := a.tmps, params := ps, assign, body, defers := w.heap.size } := ⟨_, rfl⟩
  have hLx : ∀ st pe, L st pe = .loop { state := st, pending := pe, fn, tmps := a.tmps, params := ps, assign, body, defers := w.heap.size } := fun st pe => by rw [eL]
  obtain ⟨D, hD⟩ : ∃ D, D = w.heap.size := ⟨_, rfl⟩
  obtain ⟨V, hV⟩ : ∃ V, V = (w.alloc (.deferred (some []))).alloc (L .ready none) := ⟨_, rfl⟩
  have hVD : V.heap[D]? = some (.deferred (some [])) := by
    rw [hV, hD]; exact (Below.heap_alloc _ _ _ (by simp)).trans (World.alloc_heap_new w _)
  have hVl : V.heap[D + 1]? = some (L .ready none) := by
    rw [hV, hD]; have := World.alloc_heap_new (w.alloc (.deferred (some []))) (L .ready none); rwa [World.size_alloc] at this
  have hVs : V.heap.size = D + 2 := by rw [hV, hD]; simp
  have hbV : Below w.heap.size w V := by rw [hV]; exact ((Below.refl _ w).alloc (Nat.le_refl _) _).alloc (by simp) _
  have hb1 : Below w0.heap.size w0 V := hb0.trans (hbV.mono hb0.size)
  refine ⟨D + 1, [{ target := .collected D, args := #[] }], V, { target := .fn (.func gf) lb, args := #[.func (.yield (D + 1)) #[] #[]] }, V, gf, #[.func (.yield (D + 1)) #[] #[]] ++ lb, V, ?_, ?_, ?_, ?_, fun _ => h1, ?_⟩
  · rw [hV, hLx, hD]; exact run_enterLoop_outer _ _ _ _ _
  · simp only [resolve, hg]
    simp [go_sem]
  · intro f' hf'; simp [Target.leads] at hf'; subst hf'; exact hFg
  · simp [invoke, go_sem, eg]
  · -- the two records stay where they are, whatever happens beyond them
    have keep : ∀ {A A' : World} {j : Nat} {o : Obj}, Below V.heap.size A A' → j < V.heap.size → A.heap[j]? = some o → A'.heap[j]? = some o := fun hb hj h => (hb.block _ hj).trans h
    refine (hseq (D + 1) (fun k A => I k A ∧ A.heap[D + 1]? = some (L .ready none) ∧ A.heap[D]? = some (.deferred (some []))) (fun A => Ix A ∧ A.heap[D + 1]? = some (L .done (some (.exit id))) ∧ A.heap[D]? = some (.deferred (some []))) V hb1
      (fun k A A' h hb => ⟨hI k A A' h.1 (hb.mono (by omega)), keep hb (by omega) h.2.1, keep hb (by omega) h.2.2⟩)
      (fun k A h => ⟨(hIl k A h.1).1, (hIl k A h.1).2, by have := (Array.getElem?_eq_some_iff.1 h.2.1).1; omega⟩) ?_ ⟨hI 0 w V h0 hbV, hVl, hVD⟩).mono ?_
    · -- one round
      rintro k A ⟨hi, hl, hk⟩
      have hlt : D + 1 < A.heap.size := (Array.getElem?_eq_some_iff.1 hl).1
      obtain ⟨A2, hA2⟩ : ∃ A2, A2 = A.putObj (D + 1) (L .busy none) := ⟨_, rfl⟩
      have hA2s : A2.heap.size = A.heap.size := by rw [hA2]; simp [World.putObj]
      have hl2 : A2.heap[D + 1]? = some (L .busy none) := by rw [hA2]; exact World.putObj_heap_same hlt
      have hk2 : A2.heap[D]? = some (.deferred (some [])) := by rw [hA2]; exact (World.putObj_heap_other (by omega)).trans hk
      have hi2 : I k A2 := by rw [hA2]; exact hI _ _ _ hi (putObj_below _ (by omega) hlt)
      have hu2 : Upper V.heap.size A A2 := by rw [hA2]; exact putObj_upper _ (by omega)
      have hl' := hl
      rw [hLx] at hl'
      have hl2' := hl2
      rw [hLx] at hl2'
      have hy := run_yield (P := P) (args := #[x k]) hl' (by simp [hps])
      have hbr := run_beginRound (P := P) hl' rfl
      refine ⟨fn, _, assign, body, hy, roundIn_of_wpIn hfn (wpIn_mono (hround (D + 1) k A hi (by omega)) ?_)⟩
      intro e0 a0 A0 hp0
      cases e0 with
      | normal => ?_
      | exit i => exact hp0.elim
      | ret => exact hp0.elim
      | goto t => exact hp0.elim
      | panic ch => exact hp0.elim
      | outgrown => exact hp0.elim
      obtain ⟨rfl, hbody⟩ := hp0
      refine ⟨_, hbr, ?_⟩
      rw [show A0.putObj (D + 1) _ = A2 by rw [hA2, hLx]]
      refine wpIn_mono (hbody A2 hi2 (by omega)) ?_
      rintro e a3 A3 hp
      cases e with
      | normal =>
        obtain ⟨hi3, hu3⟩ := hp
        have hl3 : A3.heap[D + 1]? = some (L .busy none) := (hu3.block _ (by omega) (by omega)).trans hl2
        have hk3 : A3.heap[D]? = some (.deferred (some [])) := (hu3.block _ (by omega) (by omega)).trans hk2
        have hlt3 : D + 1 < A3.heap.size := (Array.getElem?_eq_some_iff.1 hl3).1
        have hl3' := hl3
        rw [hLx] at hl3'
        have hr := run_endRound (P := P) none hl3'
        refine ⟨_, _, hr, .inl ⟨rfl, ⟨?_, ?_, ?_⟩, ?_⟩⟩
        · exact hI _ _ _ hi3 (putObj_below _ (by omega) hlt3)
        · rw [hLx]; exact World.putObj_heap_same hlt3
        · exact (World.putObj_heap_other (by omega)).trans hk3
        · exact (hu2.trans (hu3.mono (by omega))).trans (putObj_upper _ (by omega))
      | exit i =>
        obtain ⟨rfl, hi3, hu3⟩ := hp
        have hl3 : A3.heap[D + 1]? = some (L .busy none) := (hu3.block _ (by omega) (by omega)).trans hl2
        have hk3 : A3.heap[D]? = some (.deferred (some [])) := (hu3.block _ (by omega) (by omega)).trans hk2
        have hlt3 : D + 1 < A3.heap.size := (Array.getElem?_eq_some_iff.1 hl3).1
        have hl3' := hl3
        rw [hLx] at hl3'
        have hr := run_endRound (P := P) (some (.exit i)) hl3'
        refine ⟨_, _, hr, .inr ⟨rfl, ?_, ?_, ?_⟩⟩
        · exact hIx _ _ hi3 (putObj_below _ (by omega) hlt3)
        · rw [hLx]; exact World.putObj_heap_same hlt3
        · exact (World.putObj_heap_other (by omega)).trans hk3
      | ret => exact hp.elim
      | goto t => exact hp.elim
      | panic ch => exact hp.elim
      | outgrown => exact hp.elim
    · -- behind the iterator
      rintro e A2 ⟨⟨v, rfl⟩, hi, hl, hk⟩
      have hlt : D + 1 < A2.heap.size := (Array.getElem?_eq_some_iff.1 hl).1
      have hl' := hl
      rw [hLx] at hl'
      have hr := run_endLoop (P := P) hl' (by simp)
      refine ⟨some (.exit id), _, hr, ?_⟩
      exact hstop D _ (by omega) (hIx _ _ hi (putObj_below _ (by omega) hlt)) ((World.putObj_heap_other (by omega)).trans hk)
end Go.Proofs.Ytpfbmfnfcppjeac
