/-
  DERIVED. GIVEN WITH THE SEED: THE CARDS: each row of YtogfbfpinhcajaaDoorRows.lean that lists a variable, with what it lists TIED to the program's text (the seventh form; the later family's looks); each row that meets fmt, with fmt's text TOLD by the authors' own Lean function (tested against real Go, not proved from fmt's source: count such statements apart). THE CARD IS WHAT COUNTS. Prove the row's statement (the work); the ties are given (YtogfbfpinhcajaaDoorTie.lean); close each card by the builder's one call (the guide's Derived/Test/ToyasCard.lean, 'card_holds'). Laid BY PROGRAM, IN A SANDBOX (cutbox-door.mjs). By AI agents, Wed Nov 11 2026. No macro, syntax, notation, axiom, sorry.
-/
import Derived.Test.YtogfbfpinhcajaaDoorRows
import GoSem.ClaimSeven
namespace Go.Proofs.YtogfbfpinhcajaaDoor
namespace Rows

/-- THE TIED CARD OF 'decanilaw05.PartNotes'. -/
def partNotesCard : Claim7 := { stood := { row := partNotesRow, standIns := [], harness := (true, "20e993f4ee19d0eefb55b6c5dbdbd2853920bb1246738ed7e532c6c0953e187f"), looks := false }, kinds := [], alts := [], laidByText := true, laidKinds := [.data, .data, .funcs], laidTests := true, laidLooks := .later }
def PartNotesCardSaid : Prop := Claim7.holds Tryd.pinned (.plain (OpenSpec.ofChange partNotesSpec)) partNotesCard

/-- THE TIED CARD OF 'decanilaw05.PartAsks'. -/
def partAsksCard : Claim7 := { stood := { row := partAsksRow, standIns := [], harness := (true, "20e993f4ee19d0eefb55b6c5dbdbd2853920bb1246738ed7e532c6c0953e187f"), looks := false }, kinds := [], alts := [], laidByText := true, laidKinds := [.data, .data, .funcs], laidTests := true, laidLooks := .later }
def PartAsksCardSaid : Prop := Claim7.holds Tryd.pinned (.plain (OpenSpec.ofChange partAsksSpec)) partAsksCard

/-- THE TIED CARD OF 'decanilaw05.PartFits'. -/
def partFitsCard : Claim7 := { stood := { row := partFitsRow, standIns := [], harness := (true, "20e993f4ee19d0eefb55b6c5dbdbd2853920bb1246738ed7e532c6c0953e187f"), looks := false }, kinds := [], alts := [], laidByText := true, laidKinds := [.data, .data, .funcs], laidTests := true, laidLooks := .later }
def PartFitsCardSaid : Prop := Claim7.holds Tryd.pinned (.plain (OpenSpec.ofChange partFitsSpec)) partFitsCard

/-- THE TIED CARD OF 'decanilaw05.PartTrue'. -/
def partTrueCard : Claim7 := { stood := { row := partTrueRow, standIns := [], harness := (true, "20e993f4ee19d0eefb55b6c5dbdbd2853920bb1246738ed7e532c6c0953e187f"), looks := false }, kinds := [], alts := [], laidByText := true, laidKinds := [.data, .data, .funcs], laidTests := true, laidLooks := .later }
def PartTrueCardSaid : Prop := Claim7.holds Tryd.pinned (.plain (OpenSpec.ofChange partTrueSpec)) partTrueCard

/-- THE TIED CARD OF 'decanilaw05.PartCounts'. -/
def partCountsCard : Claim7 := { stood := { row := partCountsRow, standIns := [], harness := (true, "20e993f4ee19d0eefb55b6c5dbdbd2853920bb1246738ed7e532c6c0953e187f"), looks := false }, kinds := [], alts := [], laidByText := true, laidKinds := [.data, .data, .funcs], laidTests := true, laidLooks := .later }
def PartCountsCardSaid : Prop := Claim7.holds Tryd.pinned (.plain (OpenSpec.ofChange partCountsSpec)) partCountsCard

/-- THE TIED CARD OF 'decanilaw05.PartMore'. -/
def partMoreCard : Claim7 := { stood := { row := partMoreRow, standIns := [], harness := (true, "20e993f4ee19d0eefb55b6c5dbdbd2853920bb1246738ed7e532c6c0953e187f"), looks := false }, kinds := [], alts := [], laidByText := true, laidKinds := [.data, .data, .funcs], laidTests := true, laidLooks := .later }
def PartMoreCardSaid : Prop := Claim7.holds Tryd.pinned (.plain (OpenSpec.ofChange partMoreSpec)) partMoreCard

/-- THE TIED CARD OF 'decanilaw05.PartEasier'. -/
def partEasierCard : Claim7 := { stood := { row := partEasierRow, standIns := [], harness := (true, "20e993f4ee19d0eefb55b6c5dbdbd2853920bb1246738ed7e532c6c0953e187f"), looks := false }, kinds := [], alts := [], laidByText := true, laidKinds := [.data, .data, .funcs], laidTests := true, laidLooks := .later }
def PartEasierCardSaid : Prop := Claim7.holds Tryd.pinned (.plain (OpenSpec.ofChange partEasierSpec)) partEasierCard

/-- THE TIED CARD OF 'decanilaw05.PartRaised'. -/
def partRaisedCard : Claim7 := { stood := { row := partRaisedRow, standIns := [], harness := (true, "20e993f4ee19d0eefb55b6c5dbdbd2853920bb1246738ed7e532c6c0953e187f"), looks := false }, kinds := [], alts := [], laidByText := true, laidKinds := [.data, .data, .funcs], laidTests := true, laidLooks := .later }
def PartRaisedCardSaid : Prop := Claim7.holds Tryd.pinned (.plain (OpenSpec.ofChange partRaisedSpec)) partRaisedCard

/-- THE TIED CARD OF 'decanilaw05.PartAsk'. -/
def partAskCard : Claim7 := { stood := { row := partAskRow, standIns := [], harness := (true, "20e993f4ee19d0eefb55b6c5dbdbd2853920bb1246738ed7e532c6c0953e187f"), looks := false }, kinds := [], alts := [], laidByText := true, laidKinds := [.data, .data, .funcs], laidTests := true, laidLooks := .later }
def PartAskCardSaid : Prop := Claim7.holds Tryd.pinned (.plain (OpenSpec.ofChange partAskSpec)) partAskCard

/-- THE TIED CARD OF 'decanilaw05.PartWrong'. -/
def partWrongCard : Claim7 := { stood := { row := partWrongRow, standIns := [], harness := (true, "20e993f4ee19d0eefb55b6c5dbdbd2853920bb1246738ed7e532c6c0953e187f"), looks := false }, kinds := [], alts := [], laidByText := true, laidKinds := [.data, .data, .funcs], laidTests := true, laidLooks := .later }
def PartWrongCardSaid : Prop := Claim7.holds Tryd.pinned (.plain (OpenSpec.ofChange partWrongSpec)) partWrongCard

/-- THE TIED CARD OF 'decanilaw05.PartBar'. -/
def partBarCard : Claim7 := { stood := { row := partBarRow, standIns := [], harness := (true, "20e993f4ee19d0eefb55b6c5dbdbd2853920bb1246738ed7e532c6c0953e187f"), looks := false }, kinds := [], alts := [], laidByText := true, laidKinds := [.data, .data, .funcs], laidTests := true, laidLooks := .later }
def PartBarCardSaid : Prop := Claim7.holds Tryd.pinned (.plain (OpenSpec.ofChange partBarSpec)) partBarCard

/-- THE TIED CARD OF 'decanilaw05.PartKnown'. -/
def partKnownCard : Claim7 := { stood := { row := partKnownRow, standIns := [], harness := (true, "20e993f4ee19d0eefb55b6c5dbdbd2853920bb1246738ed7e532c6c0953e187f"), looks := false }, kinds := [], alts := [], laidByText := true, laidKinds := [.data, .data, .funcs], laidTests := true, laidLooks := .later }
def PartKnownCardSaid : Prop := Claim7.holds Tryd.pinned (.plain (OpenSpec.ofChange partKnownSpec)) partKnownCard

/-- THE SECOND FORM's CARD OF 'decanilaw05.PartNotes'. -/
def partNotesUptoCard : Claim7 := { stood := { row := partNotesUptoRow, standIns := [], harness := (true, "20e993f4ee19d0eefb55b6c5dbdbd2853920bb1246738ed7e532c6c0953e187f"), looks := false }, kinds := [], alts := [], laidByText := true, laidKinds := [.data, .data, .funcs], laidTests := true, laidLooks := .later }
def PartNotesUptoCardSaid : Prop := Claim7.holds Tryd.pinned (.plain (OpenSpec.upto partNotesSpec)) partNotesUptoCard

/-- THE SECOND FORM's CARD OF 'decanilaw05.PartAsks'. -/
def partAsksUptoCard : Claim7 := { stood := { row := partAsksUptoRow, standIns := [], harness := (true, "20e993f4ee19d0eefb55b6c5dbdbd2853920bb1246738ed7e532c6c0953e187f"), looks := false }, kinds := [], alts := [], laidByText := true, laidKinds := [.data, .data, .funcs], laidTests := true, laidLooks := .later }
def PartAsksUptoCardSaid : Prop := Claim7.holds Tryd.pinned (.plain (OpenSpec.upto partAsksSpec)) partAsksUptoCard

/-- THE SECOND FORM's CARD OF 'decanilaw05.PartFits'. -/
def partFitsUptoCard : Claim7 := { stood := { row := partFitsUptoRow, standIns := [], harness := (true, "20e993f4ee19d0eefb55b6c5dbdbd2853920bb1246738ed7e532c6c0953e187f"), looks := false }, kinds := [], alts := [], laidByText := true, laidKinds := [.data, .data, .funcs], laidTests := true, laidLooks := .later }
def PartFitsUptoCardSaid : Prop := Claim7.holds Tryd.pinned (.plain (OpenSpec.upto partFitsSpec)) partFitsUptoCard

/-- THE SECOND FORM's CARD OF 'decanilaw05.PartTrue'. -/
def partTrueUptoCard : Claim7 := { stood := { row := partTrueUptoRow, standIns := [], harness := (true, "20e993f4ee19d0eefb55b6c5dbdbd2853920bb1246738ed7e532c6c0953e187f"), looks := false }, kinds := [], alts := [], laidByText := true, laidKinds := [.data, .data, .funcs], laidTests := true, laidLooks := .later }
def PartTrueUptoCardSaid : Prop := Claim7.holds Tryd.pinned (.plain (OpenSpec.upto partTrueSpec)) partTrueUptoCard

/-- THE SECOND FORM's CARD OF 'decanilaw05.PartCounts'. -/
def partCountsUptoCard : Claim7 := { stood := { row := partCountsUptoRow, standIns := [], harness := (true, "20e993f4ee19d0eefb55b6c5dbdbd2853920bb1246738ed7e532c6c0953e187f"), looks := false }, kinds := [], alts := [], laidByText := true, laidKinds := [.data, .data, .funcs], laidTests := true, laidLooks := .later }
def PartCountsUptoCardSaid : Prop := Claim7.holds Tryd.pinned (.plain (OpenSpec.upto partCountsSpec)) partCountsUptoCard

/-- THE SECOND FORM's CARD OF 'decanilaw05.PartMore'. -/
def partMoreUptoCard : Claim7 := { stood := { row := partMoreUptoRow, standIns := [], harness := (true, "20e993f4ee19d0eefb55b6c5dbdbd2853920bb1246738ed7e532c6c0953e187f"), looks := false }, kinds := [], alts := [], laidByText := true, laidKinds := [.data, .data, .funcs], laidTests := true, laidLooks := .later }
def PartMoreUptoCardSaid : Prop := Claim7.holds Tryd.pinned (.plain (OpenSpec.upto partMoreSpec)) partMoreUptoCard

/-- THE SECOND FORM's CARD OF 'decanilaw05.PartEasier'. -/
def partEasierUptoCard : Claim7 := { stood := { row := partEasierUptoRow, standIns := [], harness := (true, "20e993f4ee19d0eefb55b6c5dbdbd2853920bb1246738ed7e532c6c0953e187f"), looks := false }, kinds := [], alts := [], laidByText := true, laidKinds := [.data, .data, .funcs], laidTests := true, laidLooks := .later }
def PartEasierUptoCardSaid : Prop := Claim7.holds Tryd.pinned (.plain (OpenSpec.upto partEasierSpec)) partEasierUptoCard

/-- THE SECOND FORM's CARD OF 'decanilaw05.PartRaised'. -/
def partRaisedUptoCard : Claim7 := { stood := { row := partRaisedUptoRow, standIns := [], harness := (true, "20e993f4ee19d0eefb55b6c5dbdbd2853920bb1246738ed7e532c6c0953e187f"), looks := false }, kinds := [], alts := [], laidByText := true, laidKinds := [.data, .data, .funcs], laidTests := true, laidLooks := .later }
def PartRaisedUptoCardSaid : Prop := Claim7.holds Tryd.pinned (.plain (OpenSpec.upto partRaisedSpec)) partRaisedUptoCard

/-- THE SECOND FORM's CARD OF 'decanilaw05.PartAsk'. -/
def partAskUptoCard : Claim7 := { stood := { row := partAskUptoRow, standIns := [], harness := (true, "20e993f4ee19d0eefb55b6c5dbdbd2853920bb1246738ed7e532c6c0953e187f"), looks := false }, kinds := [], alts := [], laidByText := true, laidKinds := [.data, .data, .funcs], laidTests := true, laidLooks := .later }
def PartAskUptoCardSaid : Prop := Claim7.holds Tryd.pinned (.plain (OpenSpec.upto partAskSpec)) partAskUptoCard

/-- THE SECOND FORM's CARD OF 'decanilaw05.PartWrong'. -/
def partWrongUptoCard : Claim7 := { stood := { row := partWrongUptoRow, standIns := [], harness := (true, "20e993f4ee19d0eefb55b6c5dbdbd2853920bb1246738ed7e532c6c0953e187f"), looks := false }, kinds := [], alts := [], laidByText := true, laidKinds := [.data, .data, .funcs], laidTests := true, laidLooks := .later }
def PartWrongUptoCardSaid : Prop := Claim7.holds Tryd.pinned (.plain (OpenSpec.upto partWrongSpec)) partWrongUptoCard

/-- THE SECOND FORM's CARD OF 'decanilaw05.PartBar'. -/
def partBarUptoCard : Claim7 := { stood := { row := partBarUptoRow, standIns := [], harness := (true, "20e993f4ee19d0eefb55b6c5dbdbd2853920bb1246738ed7e532c6c0953e187f"), looks := false }, kinds := [], alts := [], laidByText := true, laidKinds := [.data, .data, .funcs], laidTests := true, laidLooks := .later }
def PartBarUptoCardSaid : Prop := Claim7.holds Tryd.pinned (.plain (OpenSpec.upto partBarSpec)) partBarUptoCard

/-- THE SECOND FORM's CARD OF 'decanilaw05.PartKnown'. -/
def partKnownUptoCard : Claim7 := { stood := { row := partKnownUptoRow, standIns := [], harness := (true, "20e993f4ee19d0eefb55b6c5dbdbd2853920bb1246738ed7e532c6c0953e187f"), looks := false }, kinds := [], alts := [], laidByText := true, laidKinds := [.data, .data, .funcs], laidTests := true, laidLooks := .later }
def PartKnownUptoCardSaid : Prop := Claim7.holds Tryd.pinned (.plain (OpenSpec.upto partKnownSpec)) partKnownUptoCard
end Rows
end Go.Proofs.YtogfbfpinhcajaaDoor
