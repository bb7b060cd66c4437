/-
  DERIVED. GIVEN WITH THE SEED: THE PROGRAM's TIES (one call each: nine closed facts by the kernel) AND EACH ROW's TIE, after the 31st guide's Derived/Test/Toyas{Tie, Card}.lean. No idea stands in it: it is a product of the set-up. Laid BY PROGRAM, IN A SANDBOX (cutbox-door.mjs). By AI agents, Wed Nov 11 2026. No macro, syntax, notation, axiom, sorry.
-/
import Derived.Test.YthljgookoboieabDoorRows
import Derived.LaidByTextLater
import Derived.SevenTiedAt
import Derived.LaidSub
import Derived.LaidOnce
namespace Go.Proofs.YthljgookoboieabDoor
open Go
set_option maxRecDepth 100000
theorem seatTie1 : Tryd.prog.laidByTextLater [("loop.example/softwareradio/impl.dataPlaces", Rows.laid_loop_example_softwareradio_impl_dataPlaces), ("loop.example/softwareradio/impl.checkMasks", Rows.laid_loop_example_softwareradio_impl_checkMasks)] [.data, .data] true :=
  Program.laidByTextLater_by_one 22 8 13 (by kernel_rfl) (by kernel_rfl) (by kernel_rfl) (by kernel_rfl) (by kernel_rfl) (by kernel_rfl) (fun _ _ => by kernel_rfl)
theorem noOwnUnsafe : Tryd.pinned.checked.prog.headLifts.contains "ownunsafe" = false := by kernel_rfl
theorem tie : Tryd.prog.laidByTextLater [("loop.example/softwareradio/impl.dataPlaces", Rows.laid_loop_example_softwareradio_impl_dataPlaces)] [.data] true :=
  Program.laidByTextLater.sub seatTie1 ["loop.example/softwareradio/impl.dataPlaces"] (by kernel_rfl) (by kernel_rfl)
theorem fnExactDecodeBlocks_row_tie : Rows.fnExactDecodeBlocksRow.laidByTextAt .later Tryd.pinned [.data] true :=
  OpenClaim.laidByTextAt_later rfl rfl tie noOwnUnsafe
theorem tie2 : Tryd.prog.laidByTextLater [("loop.example/softwareradio/impl.dataPlaces", Rows.laid_loop_example_softwareradio_impl_dataPlaces), ("loop.example/softwareradio/impl.checkMasks", Rows.laid_loop_example_softwareradio_impl_checkMasks)] [.data, .data] true :=
  Program.laidByTextLater.sub seatTie1 ["loop.example/softwareradio/impl.dataPlaces", "loop.example/softwareradio/impl.checkMasks"] (by kernel_rfl) (by kernel_rfl)
theorem fnNibbleTwo_row_tie : Rows.fnNibbleTwoRow.laidByTextAt .later Tryd.pinned [.data, .data] true :=
  OpenClaim.laidByTextAt_later rfl rfl tie2 noOwnUnsafe
theorem fnDecodeNibble_row_tie : Rows.fnDecodeNibbleRow.laidByTextAt .later Tryd.pinned [.data, .data] true :=
  OpenClaim.laidByTextAt_later rfl rfl tie2 noOwnUnsafe
theorem fnEncodeNibble_row_tie : Rows.fnEncodeNibbleRow.laidByTextAt .later Tryd.pinned [.data, .data] true :=
  OpenClaim.laidByTextAt_later rfl rfl tie2 noOwnUnsafe
theorem fnEncodeBlocks_row_tie : Rows.fnEncodeBlocksRow.laidByTextAt .later Tryd.pinned [.data, .data] true :=
  OpenClaim.laidByTextAt_later rfl rfl tie2 noOwnUnsafe
theorem fnDecodeBlocks_row_tie : Rows.fnDecodeBlocksRow.laidByTextAt .later Tryd.pinned [.data, .data] true :=
  OpenClaim.laidByTextAt_later rfl rfl tie2 noOwnUnsafe
theorem fnExactDecodeBlocksUpto_row_tie : Rows.fnExactDecodeBlocksUptoRow.laidByTextAt .later Tryd.pinned [.data] true :=
  OpenClaim.laidByTextAt_later rfl rfl tie noOwnUnsafe
theorem fnNibbleTwoUpto_row_tie : Rows.fnNibbleTwoUptoRow.laidByTextAt .later Tryd.pinned [.data, .data] true :=
  OpenClaim.laidByTextAt_later rfl rfl tie2 noOwnUnsafe
theorem fnDecodeNibbleUpto_row_tie : Rows.fnDecodeNibbleUptoRow.laidByTextAt .later Tryd.pinned [.data, .data] true :=
  OpenClaim.laidByTextAt_later rfl rfl tie2 noOwnUnsafe
theorem fnEncodeNibbleUpto_row_tie : Rows.fnEncodeNibbleUptoRow.laidByTextAt .later Tryd.pinned [.data, .data] true :=
  OpenClaim.laidByTextAt_later rfl rfl tie2 noOwnUnsafe
theorem fnEncodeBlocksUpto_row_tie : Rows.fnEncodeBlocksUptoRow.laidByTextAt .later Tryd.pinned [.data, .data] true :=
  OpenClaim.laidByTextAt_later rfl rfl tie2 noOwnUnsafe
theorem fnDecodeBlocksUpto_row_tie : Rows.fnDecodeBlocksUptoRow.laidByTextAt .later Tryd.pinned [.data, .data] true :=
  OpenClaim.laidByTextAt_later rfl rfl tie2 noOwnUnsafe
end Go.Proofs.YthljgookoboieabDoor
