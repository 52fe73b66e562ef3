/-
  DERIVED. GIVEN WITH THE SEED: THE PROGRAM's TIES (one call each: nine closed facts by the kernel) AND EACH ROW's TIE, after the 31st guide's Derived/Test/Toyas{Tie, Card}.lean. No idea stands in it: it is a product of the set-up. Laid BY PROGRAM, IN A SANDBOX (cutbox-door.mjs). By AI agents, Wed Nov 11 2026. No macro, syntax, notation, axiom, sorry.
-/
import Derived.Test.YtbjdaefdifofkaaDoorRows
import Derived.LaidByTextLater
import Derived.SevenTiedAt
import Derived.LaidSub
import Derived.LaidOnce
namespace Go.Proofs.YtbjdaefdifofkaaDoor
open Go
set_option maxRecDepth 100000
theorem seatTie1 : Tryd.prog.laidByTextLater [("decani/voice.unknown", Rows.laid_decani_voice_unknown), ("decani/voice.nobody", Rows.laid_decani_voice_nobody), ("decani/voice.kindsOf", Rows.laid_decani_voice_kindsOf), ("decani/organ.unknown", Rows.laid_decani_organ_unknown), ("decani/organ.nowhere", Rows.laid_decani_organ_nowhere), ("decani/organ.ends", Rows.laid_decani_organ_ends)] [.data, .data, .funcs, .data, .data, .funcs] true :=
  Program.laidByTextLater_by_one 39 8 7 (by kernel_rfl) (by kernel_rfl) (by kernel_rfl) (by kernel_rfl) (by kernel_rfl) (by kernel_rfl) (fun _ _ => by kernel_rfl)
theorem noOwnUnsafe : Tryd.pinned.checked.prog.headLifts.contains "ownunsafe" = false := by kernel_rfl
theorem tie : Tryd.prog.laidByTextLater [("decani/voice.unknown", Rows.laid_decani_voice_unknown), ("decani/voice.nobody", Rows.laid_decani_voice_nobody), ("decani/voice.kindsOf", Rows.laid_decani_voice_kindsOf), ("decani/organ.unknown", Rows.laid_decani_organ_unknown), ("decani/organ.nowhere", Rows.laid_decani_organ_nowhere), ("decani/organ.ends", Rows.laid_decani_organ_ends)] [.data, .data, .funcs, .data, .data, .funcs] true :=
  Program.laidByTextLater.sub seatTie1 ["decani/voice.unknown", "decani/voice.nobody", "decani/voice.kindsOf", "decani/organ.unknown", "decani/organ.nowhere", "decani/organ.ends"] (by kernel_rfl) (by kernel_rfl)
theorem organPitches_row_tie : Rows.organPitchesRow.laidByTextAt .later Tryd.pinned [.data, .data, .funcs, .data, .data, .funcs] true :=
  OpenClaim.laidByTextAt_later rfl rfl tie noOwnUnsafe
theorem organMoves_row_tie : Rows.organMovesRow.laidByTextAt .later Tryd.pinned [.data, .data, .funcs, .data, .data, .funcs] true :=
  OpenClaim.laidByTextAt_later rfl rfl tie noOwnUnsafe
theorem organFits_row_tie : Rows.organFitsRow.laidByTextAt .later Tryd.pinned [.data, .data, .funcs, .data, .data, .funcs] true :=
  OpenClaim.laidByTextAt_later rfl rfl tie noOwnUnsafe
theorem organTrue_row_tie : Rows.organTrueRow.laidByTextAt .later Tryd.pinned [.data, .data, .funcs, .data, .data, .funcs] true :=
  OpenClaim.laidByTextAt_later rfl rfl tie noOwnUnsafe
theorem organSings_row_tie : Rows.organSingsRow.laidByTextAt .later Tryd.pinned [.data, .data, .funcs, .data, .data, .funcs] true :=
  OpenClaim.laidByTextAt_later rfl rfl tie noOwnUnsafe
theorem organEnds_row_tie : Rows.organEndsRow.laidByTextAt .later Tryd.pinned [.data, .data, .funcs, .data, .data, .funcs] true :=
  OpenClaim.laidByTextAt_later rfl rfl tie noOwnUnsafe
theorem organMore_row_tie : Rows.organMoreRow.laidByTextAt .later Tryd.pinned [.data, .data, .funcs, .data, .data, .funcs] true :=
  OpenClaim.laidByTextAt_later rfl rfl tie noOwnUnsafe
theorem organTurn_row_tie : Rows.organTurnRow.laidByTextAt .later Tryd.pinned [.data, .data, .funcs, .data, .data, .funcs] true :=
  OpenClaim.laidByTextAt_later rfl rfl tie noOwnUnsafe
theorem organLess_row_tie : Rows.organLessRow.laidByTextAt .later Tryd.pinned [.data, .data, .funcs, .data, .data, .funcs] true :=
  OpenClaim.laidByTextAt_later rfl rfl tie noOwnUnsafe
theorem organShift_row_tie : Rows.organShiftRow.laidByTextAt .later Tryd.pinned [.data, .data, .funcs, .data, .data, .funcs] true :=
  OpenClaim.laidByTextAt_later rfl rfl tie noOwnUnsafe
theorem organWrong_row_tie : Rows.organWrongRow.laidByTextAt .later Tryd.pinned [.data, .data, .funcs, .data, .data, .funcs] true :=
  OpenClaim.laidByTextAt_later rfl rfl tie noOwnUnsafe
theorem organKnown_row_tie : Rows.organKnownRow.laidByTextAt .later Tryd.pinned [.data, .data, .funcs, .data, .data, .funcs] true :=
  OpenClaim.laidByTextAt_later rfl rfl tie noOwnUnsafe
theorem organPitchesUpto_row_tie : Rows.organPitchesUptoRow.laidByTextAt .later Tryd.pinned [.data, .data, .funcs, .data, .data, .funcs] true :=
  OpenClaim.laidByTextAt_later rfl rfl tie noOwnUnsafe
theorem organMovesUpto_row_tie : Rows.organMovesUptoRow.laidByTextAt .later Tryd.pinned [.data, .data, .funcs, .data, .data, .funcs] true :=
  OpenClaim.laidByTextAt_later rfl rfl tie noOwnUnsafe
theorem organFitsUpto_row_tie : Rows.organFitsUptoRow.laidByTextAt .later Tryd.pinned [.data, .data, .funcs, .data, .data, .funcs] true :=
  OpenClaim.laidByTextAt_later rfl rfl tie noOwnUnsafe
theorem organTrueUpto_row_tie : Rows.organTrueUptoRow.laidByTextAt .later Tryd.pinned [.data, .data, .funcs, .data, .data, .funcs] true :=
  OpenClaim.laidByTextAt_later rfl rfl tie noOwnUnsafe
theorem organSingsUpto_row_tie : Rows.organSingsUptoRow.laidByTextAt .later Tryd.pinned [.data, .data, .funcs, .data, .data, .funcs] true :=
  OpenClaim.laidByTextAt_later rfl rfl tie noOwnUnsafe
theorem organEndsUpto_row_tie : Rows.organEndsUptoRow.laidByTextAt .later Tryd.pinned [.data, .data, .funcs, .data, .data, .funcs] true :=
  OpenClaim.laidByTextAt_later rfl rfl tie noOwnUnsafe
theorem organMoreUpto_row_tie : Rows.organMoreUptoRow.laidByTextAt .later Tryd.pinned [.data, .data, .funcs, .data, .data, .funcs] true :=
  OpenClaim.laidByTextAt_later rfl rfl tie noOwnUnsafe
theorem organTurnUpto_row_tie : Rows.organTurnUptoRow.laidByTextAt .later Tryd.pinned [.data, .data, .funcs, .data, .data, .funcs] true :=
  OpenClaim.laidByTextAt_later rfl rfl tie noOwnUnsafe
theorem organLessUpto_row_tie : Rows.organLessUptoRow.laidByTextAt .later Tryd.pinned [.data, .data, .funcs, .data, .data, .funcs] true :=
  OpenClaim.laidByTextAt_later rfl rfl tie noOwnUnsafe
theorem organShiftUpto_row_tie : Rows.organShiftUptoRow.laidByTextAt .later Tryd.pinned [.data, .data, .funcs, .data, .data, .funcs] true :=
  OpenClaim.laidByTextAt_later rfl rfl tie noOwnUnsafe
theorem organWrongUpto_row_tie : Rows.organWrongUptoRow.laidByTextAt .later Tryd.pinned [.data, .data, .funcs, .data, .data, .funcs] true :=
  OpenClaim.laidByTextAt_later rfl rfl tie noOwnUnsafe
theorem organKnownUpto_row_tie : Rows.organKnownUptoRow.laidByTextAt .later Tryd.pinned [.data, .data, .funcs, .data, .data, .funcs] true :=
  OpenClaim.laidByTextAt_later rfl rfl tie noOwnUnsafe
end Go.Proofs.YtbjdaefdifofkaaDoor
