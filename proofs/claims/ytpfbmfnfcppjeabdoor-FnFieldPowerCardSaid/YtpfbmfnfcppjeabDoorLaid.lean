/-
  What the listed package variables give: the tables' cells; and a world for the witness, in which they lie as the program lays them.
-/
import Derived.Test.YtpfbmfnfcppjeabDoorField
import Derived.Test.YtpfbmfnfcppjeabDoorCards
import Derived.Test.YtpfbmfnfcppjeabDoorTie
import Derived.Deep.DeepHandedRow
import Derived.Lib.LaidTab
import Derived.Stop.LaidErr
import Derived.OpenVars
namespace Go.Proofs.YtpfbmfnfcppjeabDoor
open Go.RowKit Go.ChangeShapes Go.WideShapes Go.ChangeAt

def layCells (cs : Array Value) : Obj → Obj
  | .cells _ t frozen => .cells cs t frozen
  | o => o
theorem g0 : Tryd.prog.globalNamed "loop.example/softwareradio/impl.powersOfTwo" = some 0 := by kernel_rfl
theorem g0t : (Tryd.prog.globals[0]?).map (·.type) = some 34 := by kernel_rfl
theorem g1 : Tryd.prog.globalNamed "loop.example/softwareradio/impl.logarithms" = some 1 := by kernel_rfl
theorem g1t : (Tryd.prog.globals[1]?).map (·.type) = some 35 := by kernel_rfl
theorem cells15 : Tryd.prog.cellsOf 34 = 15 := by kernel_rfl
theorem cells16 : Tryd.prog.cellsOf 35 = 16 := by kernel_rfl
theorem cells3 : Tryd.prog.cellsOf 3 = 1 := by kernel_rfl
def powZ : List Int := [1, 2, 4, 8, 3, 6, 12, 11, 5, 10, 7, 14, 15, 13, 9]
def logZ : List Int := [0, 0, 1, 4, 2, 8, 5, 10, 3, 14, 9, 7, 6, 13, 11, 12]
theorem powZ_get : ∀ i, i < 15 → powZ.getD i 0 = ((powT.getD i 0 : Nat) : Int) := by decide
theorem logZ_get : ∀ i, i < 16 → logZ.getD i 0 = ((logT.getD i 0 : Nat) : Int) := by decide
theorem tabs_of_laid {W : World} (h : laidMetH Tryd.prog [("loop.example/softwareradio/impl.powersOfTwo", Rows.laid_loop_example_softwareradio_impl_powersOfTwo), ("loop.example/softwareradio/impl.logarithms", Rows.laid_loop_example_softwareradio_impl_logarithms)] W) : Tabs W := by
  have h0 : Lib.TabIs Tryd.prog W "loop.example/softwareradio/impl.powersOfTwo" .i64 powZ := Lib.tabIs_of_head (rest := [("loop.example/softwareradio/impl.logarithms", Rows.laid_loop_example_softwareradio_impl_logarithms)]) g0 g0t Tryd.underlying34 Tryd.underlying3 cells3 cells15 h
  have h1 : Lib.TabIs Tryd.prog W "loop.example/softwareradio/impl.logarithms" .i64 logZ := Lib.tabIs_of_head (rest := []) g1 g1t Tryd.underlying35 Tryd.underlying3 cells3 cells16 (laidMet.tail h)
  have c0 : ∀ i, i < 15 → W.cell? ⟨0, i, none⟩ = some (.int .i64 ((powT.getD i 0 : Nat) : Int)) := fun i hi => by rw [← powZ_get i hi]; exact h0.cell g0 i hi
  have c1 : ∀ i, i < 16 → W.cell? ⟨1, i, none⟩ = some (.int .i64 ((logT.getD i 0 : Nat) : Int)) := fun i hi => by rw [← logZ_get i hi]; exact h1.cell g1 i hi
  refine ⟨?_, c0, c1⟩
  have a0 := World.block_lt_of_cell? W _ (c0 0 (by decide))
  have a1 := World.block_lt_of_cell? W _ (c1 0 (by decide))
  simp at a0 a1
  omega
/-- A world for the witness. -/
noncomputable def laidWorld (os : Os) : World :=
  { World.holding Tryd.prog os ⟨#[], #[], []⟩ with heap := ((World.holding Tryd.prog os ⟨#[], #[], []⟩).heap.modify 0 (layCells (powZ.map (Value.int .i64)).toArray)).modify 1 (layCells (logZ.map (Value.int .i64)).toArray) }
theorem varsTwo {H : Type} {enc : TypeId × Value → H} {P : Program} {w : World} {sp : Nat → Bool} {a b : String} {gs : List (DataW H)} {ps : List MemPlace} (h : DataW.TrodVars enc P w sp [a, b] gs ps) : ∃ x y, gs = [x, y] := by
  match gs, h with
  | [], h => exact h.elim
  | [_], h => obtain ⟨_, _, _, _, _, _, _, _, _, _, h, _⟩ := h; exact h.elim
  | [x, y], _ => exact ⟨x, y, rfl⟩
  | _ :: _ :: _ :: _, h => obtain ⟨_, _, _, _, _, _, _, _, _, _, h, _⟩ := h; obtain ⟨_, _, _, _, _, _, _, _, _, _, h, _⟩ := h; cases h
end Go.Proofs.YtpfbmfnfcppjeabDoor
