/-
  What the listed package variables of the block code give: the tables' cells; and a world for the witness, in which they lie as the program lays them.
-/
import Derived.Test.YtpfbmfnfcppjeadDoorTabB
import Derived.Test.YtpfbmfnfcppjeadDoorCards
import Derived.Test.YtpfbmfnfcppjeadDoorTie
import Derived.Deep.DeepHandedRow
import Derived.Lib.LaidTab
import Derived.Stop.LaidErr
import Derived.OpenVars
namespace Go.Proofs.YtpfbmfnfcppjeadDoor
open Go.RowKit Go.ChangeShapes Go.WideShapes Go.ChangeAt

def layCells (cs : Array Value) : Obj → Obj
  | .cells _ t frozen => .cells cs t frozen
  | o => o
theorem varsTwo {H : Type} {enc : TypeId × Value → H} {P : Program} {w : World} {sp : Nat → Bool} {a b : String} {gs : List (DataW H)} {ps : List MemPlace} (h : DataW.TrodVars enc P w sp [a, b] gs ps) : ∃ x y, gs = [x, y] := by
  match gs, h with
  | [], h => exact h.elim
  | [_], h => obtain ⟨_, _, _, _, _, _, _, _, _, _, h, _⟩ := h; exact h.elim
  | [x, y], _ => exact ⟨x, y, rfl⟩
  | _ :: _ :: _ :: _, h => obtain ⟨_, _, _, _, _, _, _, _, _, _, h, _⟩ := h; obtain ⟨_, _, _, _, _, _, _, _, _, _, h, _⟩ := h; cases h
theorem varsOne {H : Type} {enc : TypeId × Value → H} {P : Program} {w : World} {sp : Nat → Bool} {a : String} {gs : List (DataW H)} {ps : List MemPlace} (h : DataW.TrodVars enc P w sp [a] gs ps) : ∃ x, gs = [x] := by
  match gs, h with
  | [], h => exact h.elim
  | [x], _ => exact ⟨x, rfl⟩
  | _ :: _ :: _, h => obtain ⟨_, _, _, _, _, _, _, _, _, _, h, _⟩ := h; cases h
/-- An array of arrays of integers that reads as the grid holds the grid's numbers, row for row. -/
theorem rows_of_grid {H : Type} {enc : TypeId × Value → H} {P : Program} {w : World} {base : Nat} {sp : Nat → Bool} {held : Bool} {fuel : Nat} {t t1 e : TypeId} {n m : Nat} {k : IntKind} {cs : List Value} {zss : List (List Int)} {p : List MemPlace}
    (ht : P.underlying t = some (.array n t1)) (ht1 : P.underlying t1 = some (.array m e)) (he : P.underlying e = some (.int k)) (hce : P.cellsOf e = 1) (hc1 : P.cellsOf t1 = m)
    (h : DataW.trod enc P w base sp held fuel t cs = some (.agg (zss.map (Lib.tabData k)), p)) (i : Nat) (zs : List Int) (hi : i < n) (hz : zss[i]? = some zs) : (cs.drop (i * m)).take m = zs.map fun z => Value.int k z := by
  cases fuel with
  | zero => simp [DataW.trod] at h
  | succ fuel =>
    simp only [DataW.trod, ht, hc1] at h
    split at h
    · obtain ⟨xs, hm, hx⟩ := Option.map_eq_some_iff.1 h
      have hxs : xs.map (·.1) = zss.map (Lib.tabData k) := by
        have := congrArg Prod.fst hx
        simpa using this
      obtain ⟨b, hb, hf⟩ := Lib.mapM_at hm i i (by simp [hi])
      have h2 : (xs.map (·.1))[i]? = some b.1 := by simp [hb]
      rw [hxs] at h2
      simp only [List.getElem?_map, hz, Option.map_some, Option.some.injEq] at h2
      have hf2 : DataW.trod enc P w base sp held fuel t1 ((cs.drop (i * m)).take m) = some (Lib.tabData k zs, b.2) := by rw [hf, h2]
      exact Lib.cells_of_tab ht1 he hce hc1 hf2
    · cases h
theorem gp : Tryd.prog.globalNamed "loop.example/softwareradio/impl.dataPlaces" = some 0 := by kernel_rfl
theorem gpt : (Tryd.prog.globals[0]?).map (·.type) = some 43 := by kernel_rfl
theorem cellsP : Tryd.prog.cellsOf 43 = 4 := by kernel_rfl
theorem cells3 : Tryd.prog.cellsOf 3 = 1 := by kernel_rfl
theorem tabp_of_head {W : World} {rest : List (String × DataW Unit)} (h : laidMet Tryd.prog (("loop.example/softwareradio/impl.dataPlaces", Rows.laid_loop_example_softwareradio_impl_dataPlaces) :: rest) W) : TabP W := by
  have h0 : Lib.TabIs Tryd.prog W "loop.example/softwareradio/impl.dataPlaces" .i64 placeZ := Lib.tabIs_of_head (rest := rest) gp gpt Tryd.underlying43 Tryd.underlying3 cells3 cellsP h
  exact fun i hi => h0.cell gp i hi
theorem tabp_of_laid {W : World} (h : laidMetH Tryd.prog [("loop.example/softwareradio/impl.dataPlaces", Rows.laid_loop_example_softwareradio_impl_dataPlaces)] W) : TabP W := tabp_of_head h
theorem gm : Tryd.prog.globalNamed "loop.example/softwareradio/impl.checkMasks" = some 1 := by kernel_rfl
theorem gmt : (Tryd.prog.globals[1]?).map (·.type) = some 44 := by kernel_rfl
theorem tabm_of_head {W : World} {rest : List (String × DataW Unit)} (h : laidMet Tryd.prog (("loop.example/softwareradio/impl.checkMasks", Rows.laid_loop_example_softwareradio_impl_checkMasks) :: rest) W) : TabM W := by
  obtain ⟨ps, ⟨g', t', cs, fuel, p, q, hg', ht', hvar, hd, _, _⟩, _⟩ := h
  obtain rfl := Option.some.inj (gm.symm.trans hg')
  obtain rfl := Option.some.inj (gmt.symm.trans ht')
  intro i hi j hj
  have hc := World.var?_cell gm hvar (4 * i + j)
  have h3 : i = 0 ∨ i = 1 ∨ i = 2 := by omega
  obtain ⟨row, er⟩ : ∃ row, row = maskZ.getD i [] := ⟨_, rfl⟩
  have hz : maskZ[i]? = some row := by rw [er]; rcases h3 with rfl | rfl | rfl <;> rfl
  have hlen : j < row.length := by rw [er]; rcases h3 with rfl | rfl | rfl <;> exact hj
  have hr := rows_of_grid (zss := maskZ) Tryd.underlying44 Tryd.underlying43 Tryd.underlying3 cells3 cellsP hd i _ hi hz
  have hj2 := congrArg (·[j]?) hr
  simp only [List.getElem?_take, hj, if_true, List.getElem?_drop, List.getElem?_map] at hj2
  rw [List.getElem?_eq_getElem hlen] at hj2
  rw [hc, ← er, show 4 * i + j = i * 4 + j by omega, List.getD_eq_getElem?_getD, List.getElem?_eq_getElem hlen]
  rw [← Array.getElem?_toList]
  exact hj2
theorem tabs_of_laid {W : World} (h : laidMetH Tryd.prog [("loop.example/softwareradio/impl.dataPlaces", Rows.laid_loop_example_softwareradio_impl_dataPlaces), ("loop.example/softwareradio/impl.checkMasks", Rows.laid_loop_example_softwareradio_impl_checkMasks)] W) : Tabs W :=
  ⟨tabp_of_head h, tabm_of_head (laidMet.tail h)⟩
/-- A world for the witness. -/
noncomputable def laidWorld (os : Os) : World :=
  { World.holding Tryd.prog os ⟨#[], #[], []⟩ with heap := ((World.holding Tryd.prog os ⟨#[], #[], []⟩).heap.modify 0 (layCells (placeZ.map (Value.int .i64)).toArray)).modify 1 (layCells (maskZ.flatten.map (Value.int .i64)).toArray) }
end Go.Proofs.YtpfbmfnfcppjeadDoor
