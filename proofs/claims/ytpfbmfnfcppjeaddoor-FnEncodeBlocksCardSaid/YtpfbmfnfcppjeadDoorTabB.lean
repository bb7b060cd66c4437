/-
  The tables of the block code: which places hold bits, which bits are added where.
-/
import Derived.Test.YtpfbmfnfcppjeadDoorBlkM
import Derived.Test.YtpfbmfnfcppjeadDoorDraw2
namespace Go.Proofs.YtpfbmfnfcppjeadDoor
open Go.RowKit
def placeZ : List Int := [2, 4, 5, 6]
def maskZ : List (List Int) := [[1, 1, 0, 1], [1, 0, 1, 1], [0, 1, 1, 1]]
/-- The places lie in their variable. -/
def TabP (w : World) : Prop := ∀ i, i < 4 → w.cell? ⟨0, i, none⟩ = some (.int .i64 (placeZ.getD i 0))
theorem cell_belowT {w w' : World} {a : Addr} {v : Value} (h : w.cell? a = some v) (hb : Below w.heap.size w w') : w'.cell? a = some v :=
  (hb.cell (World.block_lt_of_cell? w _ h)).trans h
theorem TabP.below {w w' : World} (h : TabP w) (hb : Below w.heap.size w w') : TabP w' := fun i hi => cell_belowT (h i hi) hb
theorem TabP.quiet {w w' : World} (h : TabP w) (hq : Quiet w w') : TabP w' := h.below (hq.below _)
theorem TabP.p {w : World} (h : TabP w) : TabP w := h
/-- The masks lie in their variable. -/
def TabM (w : World) : Prop := ∀ i, i < 3 → ∀ j, j < 4 → w.cell? ⟨1, 4 * i + j, none⟩ = some (.int .i64 ((maskZ.getD i []).getD j 0))
theorem TabM.below {w w' : World} (h : TabM w) (hb : Below w.heap.size w w') : TabM w' := fun i hi j hj => cell_belowT (h i hi j hj) hb
theorem TabM.quiet {w w' : World} (h : TabM w) (hq : Quiet w w') : TabM w' := h.below (hq.below _)
structure Tabs (w : World) : Prop where
  p : TabP w
  m : TabM w
theorem Tabs.below {w w' : World} (h : Tabs w) (hb : Below w.heap.size w w') : Tabs w' := ⟨h.p.below hb, h.m.below hb⟩
theorem Tabs.quiet {w w' : World} (h : Tabs w) (hq : Quiet w w') : Tabs w' := h.below (hq.below _)
end Go.Proofs.YtpfbmfnfcppjeadDoor
