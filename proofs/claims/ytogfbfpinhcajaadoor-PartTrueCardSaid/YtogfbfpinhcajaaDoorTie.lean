/-
  DERIVED. GIVEN WITH THE SEED: THE PROGRAM's TIES (one call each: nine closed facts by the kernel) AND EACH ROW's TIE, after the 31st guide's Derived/Test/Toyas{Tie, Card}.lean. No idea stands in it: it is a product of the set-up. Laid BY PROGRAM, IN A SANDBOX (cutbox-door.mjs). By AI agents, Wed Nov 11 2026. No macro, syntax, notation, axiom, sorry.
-/
import Derived.Test.YtogfbfpinhcajaaDoorRows
import Derived.LaidByTextLater
import Derived.SevenTiedAt
import Derived.LaidSub
import Derived.LaidOnce
namespace Go.Proofs.YtogfbfpinhcajaaDoor
open Go
set_option maxRecDepth 100000
theorem seatTie1 : Tryd.prog.laidByTextLater [("decani/part.silence", Rows.laid_decani_part_silence), ("decani/part.nowhere", Rows.laid_decani_part_nowhere), ("decani/part.measures", Rows.laid_decani_part_measures)] [.data, .data, .funcs] true :=
  Program.laidByTextLater_by_one 24 8 4 (by kernel_rfl) (by kernel_rfl) (by kernel_rfl) (by kernel_rfl) (by kernel_rfl) (by kernel_rfl) (fun _ _ => by kernel_rfl)
theorem noOwnUnsafe : Tryd.pinned.checked.prog.headLifts.contains "ownunsafe" = false := by kernel_rfl
theorem tie : Tryd.prog.laidByTextLater [("decani/part.silence", Rows.laid_decani_part_silence), ("decani/part.nowhere", Rows.laid_decani_part_nowhere), ("decani/part.measures", Rows.laid_decani_part_measures)] [.data, .data, .funcs] true :=
  Program.laidByTextLater.sub seatTie1 ["decani/part.silence", "decani/part.nowhere", "decani/part.measures"] (by kernel_rfl) (by kernel_rfl)
theorem partNotes_row_tie : Rows.partNotesRow.laidByTextAt .later Tryd.pinned [.data, .data, .funcs] true :=
  OpenClaim.laidByTextAt_later rfl rfl tie noOwnUnsafe
theorem partAsks_row_tie : Rows.partAsksRow.laidByTextAt .later Tryd.pinned [.data, .data, .funcs] true :=
  OpenClaim.laidByTextAt_later rfl rfl tie noOwnUnsafe
theorem partFits_row_tie : Rows.partFitsRow.laidByTextAt .later Tryd.pinned [.data, .data, .funcs] true :=
  OpenClaim.laidByTextAt_later rfl rfl tie noOwnUnsafe
theorem partTrue_row_tie : Rows.partTrueRow.laidByTextAt .later Tryd.pinned [.data, .data, .funcs] true :=
  OpenClaim.laidByTextAt_later rfl rfl tie noOwnUnsafe
theorem partCounts_row_tie : Rows.partCountsRow.laidByTextAt .later Tryd.pinned [.data, .data, .funcs] true :=
  OpenClaim.laidByTextAt_later rfl rfl tie noOwnUnsafe
theorem partMore_row_tie : Rows.partMoreRow.laidByTextAt .later Tryd.pinned [.data, .data, .funcs] true :=
  OpenClaim.laidByTextAt_later rfl rfl tie noOwnUnsafe
theorem partEasier_row_tie : Rows.partEasierRow.laidByTextAt .later Tryd.pinned [.data, .data, .funcs] true :=
  OpenClaim.laidByTextAt_later rfl rfl tie noOwnUnsafe
theorem partRaised_row_tie : Rows.partRaisedRow.laidByTextAt .later Tryd.pinned [.data, .data, .funcs] true :=
  OpenClaim.laidByTextAt_later rfl rfl tie noOwnUnsafe
theorem partAsk_row_tie : Rows.partAskRow.laidByTextAt .later Tryd.pinned [.data, .data, .funcs] true :=
  OpenClaim.laidByTextAt_later rfl rfl tie noOwnUnsafe
theorem partWrong_row_tie : Rows.partWrongRow.laidByTextAt .later Tryd.pinned [.data, .data, .funcs] true :=
  OpenClaim.laidByTextAt_later rfl rfl tie noOwnUnsafe
theorem partBar_row_tie : Rows.partBarRow.laidByTextAt .later Tryd.pinned [.data, .data, .funcs] true :=
  OpenClaim.laidByTextAt_later rfl rfl tie noOwnUnsafe
theorem partKnown_row_tie : Rows.partKnownRow.laidByTextAt .later Tryd.pinned [.data, .data, .funcs] true :=
  OpenClaim.laidByTextAt_later rfl rfl tie noOwnUnsafe
theorem partNotesUpto_row_tie : Rows.partNotesUptoRow.laidByTextAt .later Tryd.pinned [.data, .data, .funcs] true :=
  OpenClaim.laidByTextAt_later rfl rfl tie noOwnUnsafe
theorem partAsksUpto_row_tie : Rows.partAsksUptoRow.laidByTextAt .later Tryd.pinned [.data, .data, .funcs] true :=
  OpenClaim.laidByTextAt_later rfl rfl tie noOwnUnsafe
theorem partFitsUpto_row_tie : Rows.partFitsUptoRow.laidByTextAt .later Tryd.pinned [.data, .data, .funcs] true :=
  OpenClaim.laidByTextAt_later rfl rfl tie noOwnUnsafe
theorem partTrueUpto_row_tie : Rows.partTrueUptoRow.laidByTextAt .later Tryd.pinned [.data, .data, .funcs] true :=
  OpenClaim.laidByTextAt_later rfl rfl tie noOwnUnsafe
theorem partCountsUpto_row_tie : Rows.partCountsUptoRow.laidByTextAt .later Tryd.pinned [.data, .data, .funcs] true :=
  OpenClaim.laidByTextAt_later rfl rfl tie noOwnUnsafe
theorem partMoreUpto_row_tie : Rows.partMoreUptoRow.laidByTextAt .later Tryd.pinned [.data, .data, .funcs] true :=
  OpenClaim.laidByTextAt_later rfl rfl tie noOwnUnsafe
theorem partEasierUpto_row_tie : Rows.partEasierUptoRow.laidByTextAt .later Tryd.pinned [.data, .data, .funcs] true :=
  OpenClaim.laidByTextAt_later rfl rfl tie noOwnUnsafe
theorem partRaisedUpto_row_tie : Rows.partRaisedUptoRow.laidByTextAt .later Tryd.pinned [.data, .data, .funcs] true :=
  OpenClaim.laidByTextAt_later rfl rfl tie noOwnUnsafe
theorem partAskUpto_row_tie : Rows.partAskUptoRow.laidByTextAt .later Tryd.pinned [.data, .data, .funcs] true :=
  OpenClaim.laidByTextAt_later rfl rfl tie noOwnUnsafe
theorem partWrongUpto_row_tie : Rows.partWrongUptoRow.laidByTextAt .later Tryd.pinned [.data, .data, .funcs] true :=
  OpenClaim.laidByTextAt_later rfl rfl tie noOwnUnsafe
theorem partBarUpto_row_tie : Rows.partBarUptoRow.laidByTextAt .later Tryd.pinned [.data, .data, .funcs] true :=
  OpenClaim.laidByTextAt_later rfl rfl tie noOwnUnsafe
theorem partKnownUpto_row_tie : Rows.partKnownUptoRow.laidByTextAt .later Tryd.pinned [.data, .data, .funcs] true :=
  OpenClaim.laidByTextAt_later rfl rfl tie noOwnUnsafe
end Go.Proofs.YtogfbfpinhcajaaDoor
