/-
  DERIVED. GIVEN WITH THE SEED: THE CARDS: each row of YtckbmdbebmkbaaaDoorRows.lean that lists a variable, with what it lists TIED to the program's text (the seventh form; the later family's looks); each row that meets fmt, with fmt's text TOLD by the authors' own Lean function (tested against real Go, not proved from fmt's source: count such statements apart). THE CARD IS WHAT COUNTS. Prove the row's statement (the work); the ties are given (YtckbmdbebmkbaaaDoorTie.lean); close each card by the builder's one call (the guide's Derived/Test/ToyasCard.lean, 'card_holds'). Laid BY PROGRAM, IN A SANDBOX (cutbox-door.mjs). By AI agents, Wed Nov 11 2026. No macro, syntax, notation, axiom, sorry.
-/
import Derived.Test.YtckbmdbebmkbaaaDoorRows
import GoSem.ClaimSeven
namespace Go.Proofs.YtckbmdbebmkbaaaDoor
namespace Rows

/-- THE TIED CARD OF 'decanilaw01.OfficeEnds'. -/
def officeEndsCard : Claim7 := { stood := { row := officeEndsRow, standIns := [], harness := (true, "698919a63905b02badc1fc5a6f3fd68d26e82defffa4be798cd9aac1757be47a"), looks := false }, kinds := [], alts := [], laidByText := true, laidKinds := [.data, .data, .funcs], laidTests := true, laidLooks := .later }
def OfficeEndsCardSaid : Prop := Claim7.holds Tryd.pinned (.plain (OpenSpec.ofChange officeEndsSpec)) officeEndsCard

/-- THE TIED CARD OF 'decanilaw01.OfficeMore'. -/
def officeMoreCard : Claim7 := { stood := { row := officeMoreRow, standIns := [], harness := (true, "698919a63905b02badc1fc5a6f3fd68d26e82defffa4be798cd9aac1757be47a"), looks := false }, kinds := [], alts := [], laidByText := true, laidKinds := [.data, .data, .funcs], laidTests := true, laidLooks := .later }
def OfficeMoreCardSaid : Prop := Claim7.holds Tryd.pinned (.plain (OpenSpec.ofChange officeMoreSpec)) officeMoreCard

/-- THE TIED CARD OF 'decanilaw01.OfficeFalls'. -/
def officeFallsCard : Claim7 := { stood := { row := officeFallsRow, standIns := [], harness := (true, "698919a63905b02badc1fc5a6f3fd68d26e82defffa4be798cd9aac1757be47a"), looks := false }, kinds := [], alts := [], laidByText := true, laidKinds := [.data, .data, .funcs], laidTests := true, laidLooks := .later }
def OfficeFallsCardSaid : Prop := Claim7.holds Tryd.pinned (.plain (OpenSpec.ofChange officeFallsSpec)) officeFallsCard

/-- THE TIED CARD OF 'decanilaw01.OfficeGreat'. -/
def officeGreatCard : Claim7 := { stood := { row := officeGreatRow, standIns := [], harness := (true, "698919a63905b02badc1fc5a6f3fd68d26e82defffa4be798cd9aac1757be47a"), looks := false }, kinds := [], alts := [], laidByText := true, laidKinds := [.data, .data, .funcs], laidTests := true, laidLooks := .later }
def OfficeGreatCardSaid : Prop := Claim7.holds Tryd.pinned (.plain (OpenSpec.ofChange officeGreatSpec)) officeGreatCard

/-- THE TIED CARD OF 'decanilaw01.OfficeAlike'. -/
def officeAlikeCard : Claim7 := { stood := { row := officeAlikeRow, standIns := [], harness := (true, "698919a63905b02badc1fc5a6f3fd68d26e82defffa4be798cd9aac1757be47a"), looks := false }, kinds := [], alts := [], laidByText := true, laidKinds := [.data, .data, .funcs], laidTests := true, laidLooks := .later }
def OfficeAlikeCardSaid : Prop := Claim7.holds Tryd.pinned (.plain (OpenSpec.ofChange officeAlikeSpec)) officeAlikeCard

/-- THE TIED CARD OF 'decanilaw01.OfficePart'. -/
def officePartCard : Claim7 := { stood := { row := officePartRow, standIns := [], harness := (true, "698919a63905b02badc1fc5a6f3fd68d26e82defffa4be798cd9aac1757be47a"), looks := false }, kinds := [], alts := [], laidByText := true, laidKinds := [.data, .data, .funcs], laidTests := true, laidLooks := .later }
def OfficePartCardSaid : Prop := Claim7.holds Tryd.pinned (.plain (OpenSpec.ofChange officePartSpec)) officePartCard

/-- THE TIED CARD OF 'decanilaw01.OfficePsalm'. -/
def officePsalmCard : Claim7 := { stood := { row := officePsalmRow, standIns := [], harness := (true, "698919a63905b02badc1fc5a6f3fd68d26e82defffa4be798cd9aac1757be47a"), looks := false }, kinds := [], alts := [], laidByText := true, laidKinds := [.data, .data, .funcs], laidTests := true, laidLooks := .later }
def OfficePsalmCardSaid : Prop := Claim7.holds Tryd.pinned (.plain (OpenSpec.ofChange officePsalmSpec)) officePsalmCard

/-- THE TIED CARD OF 'decanilaw01.OfficeWrong'. -/
def officeWrongCard : Claim7 := { stood := { row := officeWrongRow, standIns := [], harness := (true, "698919a63905b02badc1fc5a6f3fd68d26e82defffa4be798cd9aac1757be47a"), looks := false }, kinds := [], alts := [], laidByText := true, laidKinds := [.data, .data, .funcs], laidTests := true, laidLooks := .later }
def OfficeWrongCardSaid : Prop := Claim7.holds Tryd.pinned (.plain (OpenSpec.ofChange officeWrongSpec)) officeWrongCard

/-- THE TIED CARD OF 'decanilaw01.OfficeKnown'. -/
def officeKnownCard : Claim7 := { stood := { row := officeKnownRow, standIns := [], harness := (true, "698919a63905b02badc1fc5a6f3fd68d26e82defffa4be798cd9aac1757be47a"), looks := false }, kinds := [], alts := [], laidByText := true, laidKinds := [.data, .data, .funcs], laidTests := true, laidLooks := .later }
def OfficeKnownCardSaid : Prop := Claim7.holds Tryd.pinned (.plain (OpenSpec.ofChange officeKnownSpec)) officeKnownCard

/-- THE SECOND FORM's CARD OF 'decanilaw01.OfficeEnds'. -/
def officeEndsUptoCard : Claim7 := { stood := { row := officeEndsUptoRow, standIns := [], harness := (true, "698919a63905b02badc1fc5a6f3fd68d26e82defffa4be798cd9aac1757be47a"), looks := false }, kinds := [], alts := [], laidByText := true, laidKinds := [.data, .data, .funcs], laidTests := true, laidLooks := .later }
def OfficeEndsUptoCardSaid : Prop := Claim7.holds Tryd.pinned (.plain (OpenSpec.upto officeEndsSpec)) officeEndsUptoCard

/-- THE SECOND FORM's CARD OF 'decanilaw01.OfficeMore'. -/
def officeMoreUptoCard : Claim7 := { stood := { row := officeMoreUptoRow, standIns := [], harness := (true, "698919a63905b02badc1fc5a6f3fd68d26e82defffa4be798cd9aac1757be47a"), looks := false }, kinds := [], alts := [], laidByText := true, laidKinds := [.data, .data, .funcs], laidTests := true, laidLooks := .later }
def OfficeMoreUptoCardSaid : Prop := Claim7.holds Tryd.pinned (.plain (OpenSpec.upto officeMoreSpec)) officeMoreUptoCard

/-- THE SECOND FORM's CARD OF 'decanilaw01.OfficeFalls'. -/
def officeFallsUptoCard : Claim7 := { stood := { row := officeFallsUptoRow, standIns := [], harness := (true, "698919a63905b02badc1fc5a6f3fd68d26e82defffa4be798cd9aac1757be47a"), looks := false }, kinds := [], alts := [], laidByText := true, laidKinds := [.data, .data, .funcs], laidTests := true, laidLooks := .later }
def OfficeFallsUptoCardSaid : Prop := Claim7.holds Tryd.pinned (.plain (OpenSpec.upto officeFallsSpec)) officeFallsUptoCard

/-- THE SECOND FORM's CARD OF 'decanilaw01.OfficeGreat'. -/
def officeGreatUptoCard : Claim7 := { stood := { row := officeGreatUptoRow, standIns := [], harness := (true, "698919a63905b02badc1fc5a6f3fd68d26e82defffa4be798cd9aac1757be47a"), looks := false }, kinds := [], alts := [], laidByText := true, laidKinds := [.data, .data, .funcs], laidTests := true, laidLooks := .later }
def OfficeGreatUptoCardSaid : Prop := Claim7.holds Tryd.pinned (.plain (OpenSpec.upto officeGreatSpec)) officeGreatUptoCard

/-- THE SECOND FORM's CARD OF 'decanilaw01.OfficeAlike'. -/
def officeAlikeUptoCard : Claim7 := { stood := { row := officeAlikeUptoRow, standIns := [], harness := (true, "698919a63905b02badc1fc5a6f3fd68d26e82defffa4be798cd9aac1757be47a"), looks := false }, kinds := [], alts := [], laidByText := true, laidKinds := [.data, .data, .funcs], laidTests := true, laidLooks := .later }
def OfficeAlikeUptoCardSaid : Prop := Claim7.holds Tryd.pinned (.plain (OpenSpec.upto officeAlikeSpec)) officeAlikeUptoCard

/-- THE SECOND FORM's CARD OF 'decanilaw01.OfficePart'. -/
def officePartUptoCard : Claim7 := { stood := { row := officePartUptoRow, standIns := [], harness := (true, "698919a63905b02badc1fc5a6f3fd68d26e82defffa4be798cd9aac1757be47a"), looks := false }, kinds := [], alts := [], laidByText := true, laidKinds := [.data, .data, .funcs], laidTests := true, laidLooks := .later }
def OfficePartUptoCardSaid : Prop := Claim7.holds Tryd.pinned (.plain (OpenSpec.upto officePartSpec)) officePartUptoCard

/-- THE SECOND FORM's CARD OF 'decanilaw01.OfficePsalm'. -/
def officePsalmUptoCard : Claim7 := { stood := { row := officePsalmUptoRow, standIns := [], harness := (true, "698919a63905b02badc1fc5a6f3fd68d26e82defffa4be798cd9aac1757be47a"), looks := false }, kinds := [], alts := [], laidByText := true, laidKinds := [.data, .data, .funcs], laidTests := true, laidLooks := .later }
def OfficePsalmUptoCardSaid : Prop := Claim7.holds Tryd.pinned (.plain (OpenSpec.upto officePsalmSpec)) officePsalmUptoCard

/-- THE SECOND FORM's CARD OF 'decanilaw01.OfficeWrong'. -/
def officeWrongUptoCard : Claim7 := { stood := { row := officeWrongUptoRow, standIns := [], harness := (true, "698919a63905b02badc1fc5a6f3fd68d26e82defffa4be798cd9aac1757be47a"), looks := false }, kinds := [], alts := [], laidByText := true, laidKinds := [.data, .data, .funcs], laidTests := true, laidLooks := .later }
def OfficeWrongUptoCardSaid : Prop := Claim7.holds Tryd.pinned (.plain (OpenSpec.upto officeWrongSpec)) officeWrongUptoCard

/-- THE SECOND FORM's CARD OF 'decanilaw01.OfficeKnown'. -/
def officeKnownUptoCard : Claim7 := { stood := { row := officeKnownUptoRow, standIns := [], harness := (true, "698919a63905b02badc1fc5a6f3fd68d26e82defffa4be798cd9aac1757be47a"), looks := false }, kinds := [], alts := [], laidByText := true, laidKinds := [.data, .data, .funcs], laidTests := true, laidLooks := .later }
def OfficeKnownUptoCardSaid : Prop := Claim7.holds Tryd.pinned (.plain (OpenSpec.upto officeKnownSpec)) officeKnownUptoCard
end Rows
end Go.Proofs.YtckbmdbebmkbaaaDoor
