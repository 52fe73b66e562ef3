/-
  DERIVED. GIVEN WITH THE SEED: THE CARDS: each row of YtknklhodhkohlaaDoorRows.lean that lists a variable, with what it lists TIED to the program's text (the seventh form; the later family's looks); each row that meets fmt, with fmt's text TOLD by the authors' own Lean function (tested against real Go, not proved from fmt's source: count such statements apart). THE CARD IS WHAT COUNTS. Prove the row's statement (the work); the ties are given (YtknklhodhkohlaaDoorTie.lean); close each card by the builder's one call (the guide's Derived/Test/ToyasCard.lean, 'card_holds'). Laid BY PROGRAM, IN A SANDBOX (cutbox-door.mjs). By AI agents, Wed Nov 11 2026. No macro, syntax, notation, axiom, sorry.
-/
import Derived.Test.YtknklhodhkohlaaDoorRows
import GoSem.ClaimSeven
namespace Go.Proofs.YtknklhodhkohlaaDoor
namespace Rows

/-- THE TIED CARD OF 'decanilaw03.ColdTrue'. -/
def coldTrueCard : Claim7 := { stood := { row := coldTrueRow, standIns := [], harness := (true, "115d6dc855c574c75ae87aec991bb92d481039ea1d17524f69d9fdce438fa22e"), looks := false }, kinds := [], alts := [], laidByText := true, laidKinds := [.data, .data, .funcs], laidTests := true, laidLooks := .later }
def ColdTrueCardSaid : Prop := Claim7.holds Tryd.pinned (.plain (OpenSpec.ofChange coldTrueSpec)) coldTrueCard

/-- THE TIED CARD OF 'decanilaw03.ColdDays'. -/
def coldDaysCard : Claim7 := { stood := { row := coldDaysRow, standIns := [], harness := (true, "115d6dc855c574c75ae87aec991bb92d481039ea1d17524f69d9fdce438fa22e"), looks := false }, kinds := [], alts := [], laidByText := true, laidKinds := [.data, .data, .funcs], laidTests := true, laidLooks := .later }
def ColdDaysCardSaid : Prop := Claim7.holds Tryd.pinned (.plain (OpenSpec.ofChange coldDaysSpec)) coldDaysCard

/-- THE TIED CARD OF 'decanilaw03.ColdHears'. -/
def coldHearsCard : Claim7 := { stood := { row := coldHearsRow, standIns := [], harness := (true, "115d6dc855c574c75ae87aec991bb92d481039ea1d17524f69d9fdce438fa22e"), looks := false }, kinds := [], alts := [], laidByText := true, laidKinds := [.data, .data, .funcs], laidTests := true, laidLooks := .later }
def ColdHearsCardSaid : Prop := Claim7.holds Tryd.pinned (.plain (OpenSpec.ofChange coldHearsSpec)) coldHearsCard

/-- THE TIED CARD OF 'decanilaw03.ColdMore'. -/
def coldMoreCard : Claim7 := { stood := { row := coldMoreRow, standIns := [], harness := (true, "115d6dc855c574c75ae87aec991bb92d481039ea1d17524f69d9fdce438fa22e"), looks := false }, kinds := [], alts := [], laidByText := true, laidKinds := [.data, .data, .funcs], laidTests := true, laidLooks := .later }
def ColdMoreCardSaid : Prop := Claim7.holds Tryd.pinned (.plain (OpenSpec.ofChange coldMoreSpec)) coldMoreCard

/-- THE TIED CARD OF 'decanilaw03.ColdApart'. -/
def coldApartCard : Claim7 := { stood := { row := coldApartRow, standIns := [], harness := (true, "115d6dc855c574c75ae87aec991bb92d481039ea1d17524f69d9fdce438fa22e"), looks := false }, kinds := [], alts := [], laidByText := true, laidKinds := [.data, .data, .funcs], laidTests := true, laidLooks := .later }
def ColdApartCardSaid : Prop := Claim7.holds Tryd.pinned (.plain (OpenSpec.ofChange coldApartSpec)) coldApartCard

/-- THE TIED CARD OF 'decanilaw03.ColdFewest'. -/
def coldFewestCard : Claim7 := { stood := { row := coldFewestRow, standIns := [], harness := (true, "115d6dc855c574c75ae87aec991bb92d481039ea1d17524f69d9fdce438fa22e"), looks := false }, kinds := [], alts := [], laidByText := true, laidKinds := [.data, .data, .funcs], laidTests := true, laidLooks := .later }
def ColdFewestCardSaid : Prop := Claim7.holds Tryd.pinned (.plain (OpenSpec.ofChange coldFewestSpec)) coldFewestCard

/-- THE TIED CARD OF 'decanilaw03.ColdSooner'. -/
def coldSoonerCard : Claim7 := { stood := { row := coldSoonerRow, standIns := [], harness := (true, "115d6dc855c574c75ae87aec991bb92d481039ea1d17524f69d9fdce438fa22e"), looks := false }, kinds := [], alts := [], laidByText := true, laidKinds := [.data, .data, .funcs], laidTests := true, laidLooks := .later }
def ColdSoonerCardSaid : Prop := Claim7.holds Tryd.pinned (.plain (OpenSpec.ofChange coldSoonerSpec)) coldSoonerCard

/-- THE TIED CARD OF 'decanilaw03.ColdMirror'. -/
def coldMirrorCard : Claim7 := { stood := { row := coldMirrorRow, standIns := [], harness := (true, "115d6dc855c574c75ae87aec991bb92d481039ea1d17524f69d9fdce438fa22e"), looks := false }, kinds := [], alts := [], laidByText := true, laidKinds := [.data, .data, .funcs], laidTests := true, laidLooks := .later }
def ColdMirrorCardSaid : Prop := Claim7.holds Tryd.pinned (.plain (OpenSpec.ofChange coldMirrorSpec)) coldMirrorCard

/-- THE TIED CARD OF 'decanilaw03.ColdWrong'. -/
def coldWrongCard : Claim7 := { stood := { row := coldWrongRow, standIns := [], harness := (true, "115d6dc855c574c75ae87aec991bb92d481039ea1d17524f69d9fdce438fa22e"), looks := false }, kinds := [], alts := [], laidByText := true, laidKinds := [.data, .data, .funcs], laidTests := true, laidLooks := .later }
def ColdWrongCardSaid : Prop := Claim7.holds Tryd.pinned (.plain (OpenSpec.ofChange coldWrongSpec)) coldWrongCard

/-- THE TIED CARD OF 'decanilaw03.ColdKnown'. -/
def coldKnownCard : Claim7 := { stood := { row := coldKnownRow, standIns := [], harness := (true, "115d6dc855c574c75ae87aec991bb92d481039ea1d17524f69d9fdce438fa22e"), looks := false }, kinds := [], alts := [], laidByText := true, laidKinds := [.data, .data, .funcs], laidTests := true, laidLooks := .later }
def ColdKnownCardSaid : Prop := Claim7.holds Tryd.pinned (.plain (OpenSpec.ofChange coldKnownSpec)) coldKnownCard

/-- THE SECOND FORM's CARD OF 'decanilaw03.ColdTrue'. -/
def coldTrueUptoCard : Claim7 := { stood := { row := coldTrueUptoRow, standIns := [], harness := (true, "115d6dc855c574c75ae87aec991bb92d481039ea1d17524f69d9fdce438fa22e"), looks := false }, kinds := [], alts := [], laidByText := true, laidKinds := [.data, .data, .funcs], laidTests := true, laidLooks := .later }
def ColdTrueUptoCardSaid : Prop := Claim7.holds Tryd.pinned (.plain (OpenSpec.upto coldTrueSpec)) coldTrueUptoCard

/-- THE SECOND FORM's CARD OF 'decanilaw03.ColdDays'. -/
def coldDaysUptoCard : Claim7 := { stood := { row := coldDaysUptoRow, standIns := [], harness := (true, "115d6dc855c574c75ae87aec991bb92d481039ea1d17524f69d9fdce438fa22e"), looks := false }, kinds := [], alts := [], laidByText := true, laidKinds := [.data, .data, .funcs], laidTests := true, laidLooks := .later }
def ColdDaysUptoCardSaid : Prop := Claim7.holds Tryd.pinned (.plain (OpenSpec.upto coldDaysSpec)) coldDaysUptoCard

/-- THE SECOND FORM's CARD OF 'decanilaw03.ColdHears'. -/
def coldHearsUptoCard : Claim7 := { stood := { row := coldHearsUptoRow, standIns := [], harness := (true, "115d6dc855c574c75ae87aec991bb92d481039ea1d17524f69d9fdce438fa22e"), looks := false }, kinds := [], alts := [], laidByText := true, laidKinds := [.data, .data, .funcs], laidTests := true, laidLooks := .later }
def ColdHearsUptoCardSaid : Prop := Claim7.holds Tryd.pinned (.plain (OpenSpec.upto coldHearsSpec)) coldHearsUptoCard

/-- THE SECOND FORM's CARD OF 'decanilaw03.ColdMore'. -/
def coldMoreUptoCard : Claim7 := { stood := { row := coldMoreUptoRow, standIns := [], harness := (true, "115d6dc855c574c75ae87aec991bb92d481039ea1d17524f69d9fdce438fa22e"), looks := false }, kinds := [], alts := [], laidByText := true, laidKinds := [.data, .data, .funcs], laidTests := true, laidLooks := .later }
def ColdMoreUptoCardSaid : Prop := Claim7.holds Tryd.pinned (.plain (OpenSpec.upto coldMoreSpec)) coldMoreUptoCard

/-- THE SECOND FORM's CARD OF 'decanilaw03.ColdApart'. -/
def coldApartUptoCard : Claim7 := { stood := { row := coldApartUptoRow, standIns := [], harness := (true, "115d6dc855c574c75ae87aec991bb92d481039ea1d17524f69d9fdce438fa22e"), looks := false }, kinds := [], alts := [], laidByText := true, laidKinds := [.data, .data, .funcs], laidTests := true, laidLooks := .later }
def ColdApartUptoCardSaid : Prop := Claim7.holds Tryd.pinned (.plain (OpenSpec.upto coldApartSpec)) coldApartUptoCard

/-- THE SECOND FORM's CARD OF 'decanilaw03.ColdFewest'. -/
def coldFewestUptoCard : Claim7 := { stood := { row := coldFewestUptoRow, standIns := [], harness := (true, "115d6dc855c574c75ae87aec991bb92d481039ea1d17524f69d9fdce438fa22e"), looks := false }, kinds := [], alts := [], laidByText := true, laidKinds := [.data, .data, .funcs], laidTests := true, laidLooks := .later }
def ColdFewestUptoCardSaid : Prop := Claim7.holds Tryd.pinned (.plain (OpenSpec.upto coldFewestSpec)) coldFewestUptoCard

/-- THE SECOND FORM's CARD OF 'decanilaw03.ColdSooner'. -/
def coldSoonerUptoCard : Claim7 := { stood := { row := coldSoonerUptoRow, standIns := [], harness := (true, "115d6dc855c574c75ae87aec991bb92d481039ea1d17524f69d9fdce438fa22e"), looks := false }, kinds := [], alts := [], laidByText := true, laidKinds := [.data, .data, .funcs], laidTests := true, laidLooks := .later }
def ColdSoonerUptoCardSaid : Prop := Claim7.holds Tryd.pinned (.plain (OpenSpec.upto coldSoonerSpec)) coldSoonerUptoCard

/-- THE SECOND FORM's CARD OF 'decanilaw03.ColdMirror'. -/
def coldMirrorUptoCard : Claim7 := { stood := { row := coldMirrorUptoRow, standIns := [], harness := (true, "115d6dc855c574c75ae87aec991bb92d481039ea1d17524f69d9fdce438fa22e"), looks := false }, kinds := [], alts := [], laidByText := true, laidKinds := [.data, .data, .funcs], laidTests := true, laidLooks := .later }
def ColdMirrorUptoCardSaid : Prop := Claim7.holds Tryd.pinned (.plain (OpenSpec.upto coldMirrorSpec)) coldMirrorUptoCard

/-- THE SECOND FORM's CARD OF 'decanilaw03.ColdWrong'. -/
def coldWrongUptoCard : Claim7 := { stood := { row := coldWrongUptoRow, standIns := [], harness := (true, "115d6dc855c574c75ae87aec991bb92d481039ea1d17524f69d9fdce438fa22e"), looks := false }, kinds := [], alts := [], laidByText := true, laidKinds := [.data, .data, .funcs], laidTests := true, laidLooks := .later }
def ColdWrongUptoCardSaid : Prop := Claim7.holds Tryd.pinned (.plain (OpenSpec.upto coldWrongSpec)) coldWrongUptoCard

/-- THE SECOND FORM's CARD OF 'decanilaw03.ColdKnown'. -/
def coldKnownUptoCard : Claim7 := { stood := { row := coldKnownUptoRow, standIns := [], harness := (true, "115d6dc855c574c75ae87aec991bb92d481039ea1d17524f69d9fdce438fa22e"), looks := false }, kinds := [], alts := [], laidByText := true, laidKinds := [.data, .data, .funcs], laidTests := true, laidLooks := .later }
def ColdKnownUptoCardSaid : Prop := Claim7.holds Tryd.pinned (.plain (OpenSpec.upto coldKnownSpec)) coldKnownUptoCard
end Rows
end Go.Proofs.YtknklhodhkohlaaDoor
