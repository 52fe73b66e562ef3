/-
  DERIVED. GIVEN WITH THE SEED: THE CARDS: each row of YtbjdaefdifofkaaDoorRows.lean that lists a variable, with what it lists TIED to the program's text (the seventh form; the later family's looks); each row that meets fmt, with fmt's text TOLD by the authors' own Lean function (tested against real Go, not proved from fmt's source: count such statements apart). THE CARD IS WHAT COUNTS. Prove the row's statement (the work); the ties are given (YtbjdaefdifofkaaDoorTie.lean); close each card by the builder's one call (the guide's Derived/Test/ToyasCard.lean, 'card_holds'). Laid BY PROGRAM, IN A SANDBOX (cutbox-door.mjs). By AI agents, Wed Nov 11 2026. No macro, syntax, notation, axiom, sorry.
-/
import Derived.Test.YtbjdaefdifofkaaDoorRows
import GoSem.ClaimSeven
namespace Go.Proofs.YtbjdaefdifofkaaDoor
namespace Rows

/-- THE TIED CARD OF 'decanilaw08.OrganPitches'. -/
def organPitchesCard : Claim7 := { stood := { row := organPitchesRow, standIns := [], harness := (true, "21002727c0c3a35cb3d044d7ca5ec41d8909e85af3bfbba53cd6712a98405357"), looks := false }, kinds := [], alts := [], laidByText := true, laidKinds := [.data, .data, .funcs, .data, .data, .funcs], laidTests := true, laidLooks := .later }
def OrganPitchesCardSaid : Prop := Claim7.holds Tryd.pinned (.plain (OpenSpec.ofChange organPitchesSpec)) organPitchesCard

/-- THE TIED CARD OF 'decanilaw08.OrganMoves'. -/
def organMovesCard : Claim7 := { stood := { row := organMovesRow, standIns := [], harness := (true, "21002727c0c3a35cb3d044d7ca5ec41d8909e85af3bfbba53cd6712a98405357"), looks := false }, kinds := [], alts := [], laidByText := true, laidKinds := [.data, .data, .funcs, .data, .data, .funcs], laidTests := true, laidLooks := .later }
def OrganMovesCardSaid : Prop := Claim7.holds Tryd.pinned (.plain (OpenSpec.ofChange organMovesSpec)) organMovesCard

/-- THE TIED CARD OF 'decanilaw08.OrganFits'. -/
def organFitsCard : Claim7 := { stood := { row := organFitsRow, standIns := [], harness := (true, "21002727c0c3a35cb3d044d7ca5ec41d8909e85af3bfbba53cd6712a98405357"), looks := false }, kinds := [], alts := [], laidByText := true, laidKinds := [.data, .data, .funcs, .data, .data, .funcs], laidTests := true, laidLooks := .later }
def OrganFitsCardSaid : Prop := Claim7.holds Tryd.pinned (.plain (OpenSpec.ofChange organFitsSpec)) organFitsCard

/-- THE TIED CARD OF 'decanilaw08.OrganTrue'. -/
def organTrueCard : Claim7 := { stood := { row := organTrueRow, standIns := [], harness := (true, "21002727c0c3a35cb3d044d7ca5ec41d8909e85af3bfbba53cd6712a98405357"), looks := false }, kinds := [], alts := [], laidByText := true, laidKinds := [.data, .data, .funcs, .data, .data, .funcs], laidTests := true, laidLooks := .later }
def OrganTrueCardSaid : Prop := Claim7.holds Tryd.pinned (.plain (OpenSpec.ofChange organTrueSpec)) organTrueCard

/-- THE TIED CARD OF 'decanilaw08.OrganSings'. -/
def organSingsCard : Claim7 := { stood := { row := organSingsRow, standIns := [], harness := (true, "21002727c0c3a35cb3d044d7ca5ec41d8909e85af3bfbba53cd6712a98405357"), looks := false }, kinds := [], alts := [], laidByText := true, laidKinds := [.data, .data, .funcs, .data, .data, .funcs], laidTests := true, laidLooks := .later }
def OrganSingsCardSaid : Prop := Claim7.holds Tryd.pinned (.plain (OpenSpec.ofChange organSingsSpec)) organSingsCard

/-- THE TIED CARD OF 'decanilaw08.OrganEnds'. -/
def organEndsCard : Claim7 := { stood := { row := organEndsRow, standIns := [], harness := (true, "21002727c0c3a35cb3d044d7ca5ec41d8909e85af3bfbba53cd6712a98405357"), looks := false }, kinds := [], alts := [], laidByText := true, laidKinds := [.data, .data, .funcs, .data, .data, .funcs], laidTests := true, laidLooks := .later }
def OrganEndsCardSaid : Prop := Claim7.holds Tryd.pinned (.plain (OpenSpec.ofChange organEndsSpec)) organEndsCard

/-- THE TIED CARD OF 'decanilaw08.OrganMore'. -/
def organMoreCard : Claim7 := { stood := { row := organMoreRow, standIns := [], harness := (true, "21002727c0c3a35cb3d044d7ca5ec41d8909e85af3bfbba53cd6712a98405357"), looks := false }, kinds := [], alts := [], laidByText := true, laidKinds := [.data, .data, .funcs, .data, .data, .funcs], laidTests := true, laidLooks := .later }
def OrganMoreCardSaid : Prop := Claim7.holds Tryd.pinned (.plain (OpenSpec.ofChange organMoreSpec)) organMoreCard

/-- THE TIED CARD OF 'decanilaw08.OrganTurn'. -/
def organTurnCard : Claim7 := { stood := { row := organTurnRow, standIns := [], harness := (true, "21002727c0c3a35cb3d044d7ca5ec41d8909e85af3bfbba53cd6712a98405357"), looks := false }, kinds := [], alts := [], laidByText := true, laidKinds := [.data, .data, .funcs, .data, .data, .funcs], laidTests := true, laidLooks := .later }
def OrganTurnCardSaid : Prop := Claim7.holds Tryd.pinned (.plain (OpenSpec.ofChange organTurnSpec)) organTurnCard

/-- THE TIED CARD OF 'decanilaw08.OrganLess'. -/
def organLessCard : Claim7 := { stood := { row := organLessRow, standIns := [], harness := (true, "21002727c0c3a35cb3d044d7ca5ec41d8909e85af3bfbba53cd6712a98405357"), looks := false }, kinds := [], alts := [], laidByText := true, laidKinds := [.data, .data, .funcs, .data, .data, .funcs], laidTests := true, laidLooks := .later }
def OrganLessCardSaid : Prop := Claim7.holds Tryd.pinned (.plain (OpenSpec.ofChange organLessSpec)) organLessCard

/-- THE TIED CARD OF 'decanilaw08.OrganShift'. -/
def organShiftCard : Claim7 := { stood := { row := organShiftRow, standIns := [], harness := (true, "21002727c0c3a35cb3d044d7ca5ec41d8909e85af3bfbba53cd6712a98405357"), looks := false }, kinds := [], alts := [], laidByText := true, laidKinds := [.data, .data, .funcs, .data, .data, .funcs], laidTests := true, laidLooks := .later }
def OrganShiftCardSaid : Prop := Claim7.holds Tryd.pinned (.plain (OpenSpec.ofChange organShiftSpec)) organShiftCard

/-- THE TIED CARD OF 'decanilaw08.OrganWrong'. -/
def organWrongCard : Claim7 := { stood := { row := organWrongRow, standIns := [], harness := (true, "21002727c0c3a35cb3d044d7ca5ec41d8909e85af3bfbba53cd6712a98405357"), looks := false }, kinds := [], alts := [], laidByText := true, laidKinds := [.data, .data, .funcs, .data, .data, .funcs], laidTests := true, laidLooks := .later }
def OrganWrongCardSaid : Prop := Claim7.holds Tryd.pinned (.plain (OpenSpec.ofChange organWrongSpec)) organWrongCard

/-- THE TIED CARD OF 'decanilaw08.OrganKnown'. -/
def organKnownCard : Claim7 := { stood := { row := organKnownRow, standIns := [], harness := (true, "21002727c0c3a35cb3d044d7ca5ec41d8909e85af3bfbba53cd6712a98405357"), looks := false }, kinds := [], alts := [], laidByText := true, laidKinds := [.data, .data, .funcs, .data, .data, .funcs], laidTests := true, laidLooks := .later }
def OrganKnownCardSaid : Prop := Claim7.holds Tryd.pinned (.plain (OpenSpec.ofChange organKnownSpec)) organKnownCard

/-- THE SECOND FORM's CARD OF 'decanilaw08.OrganPitches'. -/
def organPitchesUptoCard : Claim7 := { stood := { row := organPitchesUptoRow, standIns := [], harness := (true, "21002727c0c3a35cb3d044d7ca5ec41d8909e85af3bfbba53cd6712a98405357"), looks := false }, kinds := [], alts := [], laidByText := true, laidKinds := [.data, .data, .funcs, .data, .data, .funcs], laidTests := true, laidLooks := .later }
def OrganPitchesUptoCardSaid : Prop := Claim7.holds Tryd.pinned (.plain (OpenSpec.upto organPitchesSpec)) organPitchesUptoCard

/-- THE SECOND FORM's CARD OF 'decanilaw08.OrganMoves'. -/
def organMovesUptoCard : Claim7 := { stood := { row := organMovesUptoRow, standIns := [], harness := (true, "21002727c0c3a35cb3d044d7ca5ec41d8909e85af3bfbba53cd6712a98405357"), looks := false }, kinds := [], alts := [], laidByText := true, laidKinds := [.data, .data, .funcs, .data, .data, .funcs], laidTests := true, laidLooks := .later }
def OrganMovesUptoCardSaid : Prop := Claim7.holds Tryd.pinned (.plain (OpenSpec.upto organMovesSpec)) organMovesUptoCard

/-- THE SECOND FORM's CARD OF 'decanilaw08.OrganFits'. -/
def organFitsUptoCard : Claim7 := { stood := { row := organFitsUptoRow, standIns := [], harness := (true, "21002727c0c3a35cb3d044d7ca5ec41d8909e85af3bfbba53cd6712a98405357"), looks := false }, kinds := [], alts := [], laidByText := true, laidKinds := [.data, .data, .funcs, .data, .data, .funcs], laidTests := true, laidLooks := .later }
def OrganFitsUptoCardSaid : Prop := Claim7.holds Tryd.pinned (.plain (OpenSpec.upto organFitsSpec)) organFitsUptoCard

/-- THE SECOND FORM's CARD OF 'decanilaw08.OrganTrue'. -/
def organTrueUptoCard : Claim7 := { stood := { row := organTrueUptoRow, standIns := [], harness := (true, "21002727c0c3a35cb3d044d7ca5ec41d8909e85af3bfbba53cd6712a98405357"), looks := false }, kinds := [], alts := [], laidByText := true, laidKinds := [.data, .data, .funcs, .data, .data, .funcs], laidTests := true, laidLooks := .later }
def OrganTrueUptoCardSaid : Prop := Claim7.holds Tryd.pinned (.plain (OpenSpec.upto organTrueSpec)) organTrueUptoCard

/-- THE SECOND FORM's CARD OF 'decanilaw08.OrganSings'. -/
def organSingsUptoCard : Claim7 := { stood := { row := organSingsUptoRow, standIns := [], harness := (true, "21002727c0c3a35cb3d044d7ca5ec41d8909e85af3bfbba53cd6712a98405357"), looks := false }, kinds := [], alts := [], laidByText := true, laidKinds := [.data, .data, .funcs, .data, .data, .funcs], laidTests := true, laidLooks := .later }
def OrganSingsUptoCardSaid : Prop := Claim7.holds Tryd.pinned (.plain (OpenSpec.upto organSingsSpec)) organSingsUptoCard

/-- THE SECOND FORM's CARD OF 'decanilaw08.OrganEnds'. -/
def organEndsUptoCard : Claim7 := { stood := { row := organEndsUptoRow, standIns := [], harness := (true, "21002727c0c3a35cb3d044d7ca5ec41d8909e85af3bfbba53cd6712a98405357"), looks := false }, kinds := [], alts := [], laidByText := true, laidKinds := [.data, .data, .funcs, .data, .data, .funcs], laidTests := true, laidLooks := .later }
def OrganEndsUptoCardSaid : Prop := Claim7.holds Tryd.pinned (.plain (OpenSpec.upto organEndsSpec)) organEndsUptoCard

/-- THE SECOND FORM's CARD OF 'decanilaw08.OrganMore'. -/
def organMoreUptoCard : Claim7 := { stood := { row := organMoreUptoRow, standIns := [], harness := (true, "21002727c0c3a35cb3d044d7ca5ec41d8909e85af3bfbba53cd6712a98405357"), looks := false }, kinds := [], alts := [], laidByText := true, laidKinds := [.data, .data, .funcs, .data, .data, .funcs], laidTests := true, laidLooks := .later }
def OrganMoreUptoCardSaid : Prop := Claim7.holds Tryd.pinned (.plain (OpenSpec.upto organMoreSpec)) organMoreUptoCard

/-- THE SECOND FORM's CARD OF 'decanilaw08.OrganTurn'. -/
def organTurnUptoCard : Claim7 := { stood := { row := organTurnUptoRow, standIns := [], harness := (true, "21002727c0c3a35cb3d044d7ca5ec41d8909e85af3bfbba53cd6712a98405357"), looks := false }, kinds := [], alts := [], laidByText := true, laidKinds := [.data, .data, .funcs, .data, .data, .funcs], laidTests := true, laidLooks := .later }
def OrganTurnUptoCardSaid : Prop := Claim7.holds Tryd.pinned (.plain (OpenSpec.upto organTurnSpec)) organTurnUptoCard

/-- THE SECOND FORM's CARD OF 'decanilaw08.OrganLess'. -/
def organLessUptoCard : Claim7 := { stood := { row := organLessUptoRow, standIns := [], harness := (true, "21002727c0c3a35cb3d044d7ca5ec41d8909e85af3bfbba53cd6712a98405357"), looks := false }, kinds := [], alts := [], laidByText := true, laidKinds := [.data, .data, .funcs, .data, .data, .funcs], laidTests := true, laidLooks := .later }
def OrganLessUptoCardSaid : Prop := Claim7.holds Tryd.pinned (.plain (OpenSpec.upto organLessSpec)) organLessUptoCard

/-- THE SECOND FORM's CARD OF 'decanilaw08.OrganShift'. -/
def organShiftUptoCard : Claim7 := { stood := { row := organShiftUptoRow, standIns := [], harness := (true, "21002727c0c3a35cb3d044d7ca5ec41d8909e85af3bfbba53cd6712a98405357"), looks := false }, kinds := [], alts := [], laidByText := true, laidKinds := [.data, .data, .funcs, .data, .data, .funcs], laidTests := true, laidLooks := .later }
def OrganShiftUptoCardSaid : Prop := Claim7.holds Tryd.pinned (.plain (OpenSpec.upto organShiftSpec)) organShiftUptoCard

/-- THE SECOND FORM's CARD OF 'decanilaw08.OrganWrong'. -/
def organWrongUptoCard : Claim7 := { stood := { row := organWrongUptoRow, standIns := [], harness := (true, "21002727c0c3a35cb3d044d7ca5ec41d8909e85af3bfbba53cd6712a98405357"), looks := false }, kinds := [], alts := [], laidByText := true, laidKinds := [.data, .data, .funcs, .data, .data, .funcs], laidTests := true, laidLooks := .later }
def OrganWrongUptoCardSaid : Prop := Claim7.holds Tryd.pinned (.plain (OpenSpec.upto organWrongSpec)) organWrongUptoCard

/-- THE SECOND FORM's CARD OF 'decanilaw08.OrganKnown'. -/
def organKnownUptoCard : Claim7 := { stood := { row := organKnownUptoRow, standIns := [], harness := (true, "21002727c0c3a35cb3d044d7ca5ec41d8909e85af3bfbba53cd6712a98405357"), looks := false }, kinds := [], alts := [], laidByText := true, laidKinds := [.data, .data, .funcs, .data, .data, .funcs], laidTests := true, laidLooks := .later }
def OrganKnownUptoCardSaid : Prop := Claim7.holds Tryd.pinned (.plain (OpenSpec.upto organKnownSpec)) organKnownUptoCard
end Rows
end Go.Proofs.YtbjdaefdifofkaaDoor
