/-
  DERIVED. GIVEN WITH THE SEED: THE CARDS: each row of YtcndfpjjcbjhpaaDoorRows.lean that lists a variable, with what it lists TIED to the program's text (the seventh form; the later family's looks); each row that meets fmt, with fmt's text TOLD by the authors' own Lean function (tested against real Go, not proved from fmt's source: count such statements apart). THE CARD IS WHAT COUNTS. Prove the row's statement (the work); the ties are given (YtcndfpjjcbjhpaaDoorTie.lean); close each card by the builder's one call (the guide's Derived/Test/ToyasCard.lean, 'card_holds'). Laid BY PROGRAM, IN A SANDBOX (cutbox-door.mjs). By AI agents, Wed Nov 11 2026. No macro, syntax, notation, axiom, sorry.
-/
import Derived.Test.YtcndfpjjcbjhpaaDoorRows
import GoSem.ClaimSeven
namespace Go.Proofs.YtcndfpjjcbjhpaaDoor
namespace Rows

/-- THE TIED CARD OF 'decanilaw02.VoiceNotes'. -/
def voiceNotesCard : Claim7 := { stood := { row := voiceNotesRow, standIns := [], harness := (true, "1e5482e6438b7438447fbe050c412561ef72fba1c8721653ddbd33e0eb5cfe62"), looks := false }, kinds := [], alts := [], laidByText := true, laidKinds := [.data, .data, .funcs], laidTests := true, laidLooks := .later }
def VoiceNotesCardSaid : Prop := Claim7.holds Tryd.pinned (.plain (OpenSpec.ofChange voiceNotesSpec)) voiceNotesCard

/-- THE TIED CARD OF 'decanilaw02.VoiceSings'. -/
def voiceSingsCard : Claim7 := { stood := { row := voiceSingsRow, standIns := [], harness := (true, "1e5482e6438b7438447fbe050c412561ef72fba1c8721653ddbd33e0eb5cfe62"), looks := false }, kinds := [], alts := [], laidByText := true, laidKinds := [.data, .data, .funcs], laidTests := true, laidLooks := .later }
def VoiceSingsCardSaid : Prop := Claim7.holds Tryd.pinned (.plain (OpenSpec.ofChange voiceSingsSpec)) voiceSingsCard

/-- THE TIED CARD OF 'decanilaw02.VoiceFits'. -/
def voiceFitsCard : Claim7 := { stood := { row := voiceFitsRow, standIns := [], harness := (true, "1e5482e6438b7438447fbe050c412561ef72fba1c8721653ddbd33e0eb5cfe62"), looks := false }, kinds := [], alts := [], laidByText := true, laidKinds := [.data, .data, .funcs], laidTests := true, laidLooks := .later }
def VoiceFitsCardSaid : Prop := Claim7.holds Tryd.pinned (.plain (OpenSpec.ofChange voiceFitsSpec)) voiceFitsCard

/-- THE TIED CARD OF 'decanilaw02.VoiceTrue'. -/
def voiceTrueCard : Claim7 := { stood := { row := voiceTrueRow, standIns := [], harness := (true, "1e5482e6438b7438447fbe050c412561ef72fba1c8721653ddbd33e0eb5cfe62"), looks := false }, kinds := [], alts := [], laidByText := true, laidKinds := [.data, .data, .funcs], laidTests := true, laidLooks := .later }
def VoiceTrueCardSaid : Prop := Claim7.holds Tryd.pinned (.plain (OpenSpec.ofChange voiceTrueSpec)) voiceTrueCard

/-- THE TIED CARD OF 'decanilaw02.VoiceTops'. -/
def voiceTopsCard : Claim7 := { stood := { row := voiceTopsRow, standIns := [], harness := (true, "1e5482e6438b7438447fbe050c412561ef72fba1c8721653ddbd33e0eb5cfe62"), looks := false }, kinds := [], alts := [], laidByText := true, laidKinds := [.data, .data, .funcs], laidTests := true, laidLooks := .later }
def VoiceTopsCardSaid : Prop := Claim7.holds Tryd.pinned (.plain (OpenSpec.ofChange voiceTopsSpec)) voiceTopsCard

/-- THE TIED CARD OF 'decanilaw02.VoiceMore'. -/
def voiceMoreCard : Claim7 := { stood := { row := voiceMoreRow, standIns := [], harness := (true, "1e5482e6438b7438447fbe050c412561ef72fba1c8721653ddbd33e0eb5cfe62"), looks := false }, kinds := [], alts := [], laidByText := true, laidKinds := [.data, .data, .funcs], laidTests := true, laidLooks := .later }
def VoiceMoreCardSaid : Prop := Claim7.holds Tryd.pinned (.plain (OpenSpec.ofChange voiceMoreSpec)) voiceMoreCard

/-- THE TIED CARD OF 'decanilaw02.VoiceApart'. -/
def voiceApartCard : Claim7 := { stood := { row := voiceApartRow, standIns := [], harness := (true, "1e5482e6438b7438447fbe050c412561ef72fba1c8721653ddbd33e0eb5cfe62"), looks := false }, kinds := [], alts := [], laidByText := true, laidKinds := [.data, .data, .funcs], laidTests := true, laidLooks := .later }
def VoiceApartCardSaid : Prop := Claim7.holds Tryd.pinned (.plain (OpenSpec.ofChange voiceApartSpec)) voiceApartCard

/-- THE TIED CARD OF 'decanilaw02.VoiceHeir'. -/
def voiceHeirCard : Claim7 := { stood := { row := voiceHeirRow, standIns := [], harness := (true, "1e5482e6438b7438447fbe050c412561ef72fba1c8721653ddbd33e0eb5cfe62"), looks := false }, kinds := [], alts := [], laidByText := true, laidKinds := [.data, .data, .funcs], laidTests := true, laidLooks := .later }
def VoiceHeirCardSaid : Prop := Claim7.holds Tryd.pinned (.plain (OpenSpec.ofChange voiceHeirSpec)) voiceHeirCard

/-- THE TIED CARD OF 'decanilaw02.VoiceMust'. -/
def voiceMustCard : Claim7 := { stood := { row := voiceMustRow, standIns := [], harness := (true, "1e5482e6438b7438447fbe050c412561ef72fba1c8721653ddbd33e0eb5cfe62"), looks := false }, kinds := [], alts := [], laidByText := true, laidKinds := [.data, .data, .funcs], laidTests := true, laidLooks := .later }
def VoiceMustCardSaid : Prop := Claim7.holds Tryd.pinned (.plain (OpenSpec.ofChange voiceMustSpec)) voiceMustCard

/-- THE TIED CARD OF 'decanilaw02.VoiceGains'. -/
def voiceGainsCard : Claim7 := { stood := { row := voiceGainsRow, standIns := [], harness := (true, "1e5482e6438b7438447fbe050c412561ef72fba1c8721653ddbd33e0eb5cfe62"), looks := false }, kinds := [], alts := [], laidByText := true, laidKinds := [.data, .data, .funcs], laidTests := true, laidLooks := .later }
def VoiceGainsCardSaid : Prop := Claim7.holds Tryd.pinned (.plain (OpenSpec.ofChange voiceGainsSpec)) voiceGainsCard

/-- THE TIED CARD OF 'decanilaw02.VoiceWrong'. -/
def voiceWrongCard : Claim7 := { stood := { row := voiceWrongRow, standIns := [], harness := (true, "1e5482e6438b7438447fbe050c412561ef72fba1c8721653ddbd33e0eb5cfe62"), looks := false }, kinds := [], alts := [], laidByText := true, laidKinds := [.data, .data, .funcs], laidTests := true, laidLooks := .later }
def VoiceWrongCardSaid : Prop := Claim7.holds Tryd.pinned (.plain (OpenSpec.ofChange voiceWrongSpec)) voiceWrongCard

/-- THE TIED CARD OF 'decanilaw02.VoiceKnown'. -/
def voiceKnownCard : Claim7 := { stood := { row := voiceKnownRow, standIns := [], harness := (true, "1e5482e6438b7438447fbe050c412561ef72fba1c8721653ddbd33e0eb5cfe62"), looks := false }, kinds := [], alts := [], laidByText := true, laidKinds := [.data, .data, .funcs], laidTests := true, laidLooks := .later }
def VoiceKnownCardSaid : Prop := Claim7.holds Tryd.pinned (.plain (OpenSpec.ofChange voiceKnownSpec)) voiceKnownCard

/-- THE SECOND FORM's CARD OF 'decanilaw02.VoiceNotes'. -/
def voiceNotesUptoCard : Claim7 := { stood := { row := voiceNotesUptoRow, standIns := [], harness := (true, "1e5482e6438b7438447fbe050c412561ef72fba1c8721653ddbd33e0eb5cfe62"), looks := false }, kinds := [], alts := [], laidByText := true, laidKinds := [.data, .data, .funcs], laidTests := true, laidLooks := .later }
def VoiceNotesUptoCardSaid : Prop := Claim7.holds Tryd.pinned (.plain (OpenSpec.upto voiceNotesSpec)) voiceNotesUptoCard

/-- THE SECOND FORM's CARD OF 'decanilaw02.VoiceSings'. -/
def voiceSingsUptoCard : Claim7 := { stood := { row := voiceSingsUptoRow, standIns := [], harness := (true, "1e5482e6438b7438447fbe050c412561ef72fba1c8721653ddbd33e0eb5cfe62"), looks := false }, kinds := [], alts := [], laidByText := true, laidKinds := [.data, .data, .funcs], laidTests := true, laidLooks := .later }
def VoiceSingsUptoCardSaid : Prop := Claim7.holds Tryd.pinned (.plain (OpenSpec.upto voiceSingsSpec)) voiceSingsUptoCard

/-- THE SECOND FORM's CARD OF 'decanilaw02.VoiceFits'. -/
def voiceFitsUptoCard : Claim7 := { stood := { row := voiceFitsUptoRow, standIns := [], harness := (true, "1e5482e6438b7438447fbe050c412561ef72fba1c8721653ddbd33e0eb5cfe62"), looks := false }, kinds := [], alts := [], laidByText := true, laidKinds := [.data, .data, .funcs], laidTests := true, laidLooks := .later }
def VoiceFitsUptoCardSaid : Prop := Claim7.holds Tryd.pinned (.plain (OpenSpec.upto voiceFitsSpec)) voiceFitsUptoCard

/-- THE SECOND FORM's CARD OF 'decanilaw02.VoiceTrue'. -/
def voiceTrueUptoCard : Claim7 := { stood := { row := voiceTrueUptoRow, standIns := [], harness := (true, "1e5482e6438b7438447fbe050c412561ef72fba1c8721653ddbd33e0eb5cfe62"), looks := false }, kinds := [], alts := [], laidByText := true, laidKinds := [.data, .data, .funcs], laidTests := true, laidLooks := .later }
def VoiceTrueUptoCardSaid : Prop := Claim7.holds Tryd.pinned (.plain (OpenSpec.upto voiceTrueSpec)) voiceTrueUptoCard

/-- THE SECOND FORM's CARD OF 'decanilaw02.VoiceTops'. -/
def voiceTopsUptoCard : Claim7 := { stood := { row := voiceTopsUptoRow, standIns := [], harness := (true, "1e5482e6438b7438447fbe050c412561ef72fba1c8721653ddbd33e0eb5cfe62"), looks := false }, kinds := [], alts := [], laidByText := true, laidKinds := [.data, .data, .funcs], laidTests := true, laidLooks := .later }
def VoiceTopsUptoCardSaid : Prop := Claim7.holds Tryd.pinned (.plain (OpenSpec.upto voiceTopsSpec)) voiceTopsUptoCard

/-- THE SECOND FORM's CARD OF 'decanilaw02.VoiceMore'. -/
def voiceMoreUptoCard : Claim7 := { stood := { row := voiceMoreUptoRow, standIns := [], harness := (true, "1e5482e6438b7438447fbe050c412561ef72fba1c8721653ddbd33e0eb5cfe62"), looks := false }, kinds := [], alts := [], laidByText := true, laidKinds := [.data, .data, .funcs], laidTests := true, laidLooks := .later }
def VoiceMoreUptoCardSaid : Prop := Claim7.holds Tryd.pinned (.plain (OpenSpec.upto voiceMoreSpec)) voiceMoreUptoCard

/-- THE SECOND FORM's CARD OF 'decanilaw02.VoiceApart'. -/
def voiceApartUptoCard : Claim7 := { stood := { row := voiceApartUptoRow, standIns := [], harness := (true, "1e5482e6438b7438447fbe050c412561ef72fba1c8721653ddbd33e0eb5cfe62"), looks := false }, kinds := [], alts := [], laidByText := true, laidKinds := [.data, .data, .funcs], laidTests := true, laidLooks := .later }
def VoiceApartUptoCardSaid : Prop := Claim7.holds Tryd.pinned (.plain (OpenSpec.upto voiceApartSpec)) voiceApartUptoCard

/-- THE SECOND FORM's CARD OF 'decanilaw02.VoiceHeir'. -/
def voiceHeirUptoCard : Claim7 := { stood := { row := voiceHeirUptoRow, standIns := [], harness := (true, "1e5482e6438b7438447fbe050c412561ef72fba1c8721653ddbd33e0eb5cfe62"), looks := false }, kinds := [], alts := [], laidByText := true, laidKinds := [.data, .data, .funcs], laidTests := true, laidLooks := .later }
def VoiceHeirUptoCardSaid : Prop := Claim7.holds Tryd.pinned (.plain (OpenSpec.upto voiceHeirSpec)) voiceHeirUptoCard

/-- THE SECOND FORM's CARD OF 'decanilaw02.VoiceMust'. -/
def voiceMustUptoCard : Claim7 := { stood := { row := voiceMustUptoRow, standIns := [], harness := (true, "1e5482e6438b7438447fbe050c412561ef72fba1c8721653ddbd33e0eb5cfe62"), looks := false }, kinds := [], alts := [], laidByText := true, laidKinds := [.data, .data, .funcs], laidTests := true, laidLooks := .later }
def VoiceMustUptoCardSaid : Prop := Claim7.holds Tryd.pinned (.plain (OpenSpec.upto voiceMustSpec)) voiceMustUptoCard

/-- THE SECOND FORM's CARD OF 'decanilaw02.VoiceGains'. -/
def voiceGainsUptoCard : Claim7 := { stood := { row := voiceGainsUptoRow, standIns := [], harness := (true, "1e5482e6438b7438447fbe050c412561ef72fba1c8721653ddbd33e0eb5cfe62"), looks := false }, kinds := [], alts := [], laidByText := true, laidKinds := [.data, .data, .funcs], laidTests := true, laidLooks := .later }
def VoiceGainsUptoCardSaid : Prop := Claim7.holds Tryd.pinned (.plain (OpenSpec.upto voiceGainsSpec)) voiceGainsUptoCard

/-- THE SECOND FORM's CARD OF 'decanilaw02.VoiceWrong'. -/
def voiceWrongUptoCard : Claim7 := { stood := { row := voiceWrongUptoRow, standIns := [], harness := (true, "1e5482e6438b7438447fbe050c412561ef72fba1c8721653ddbd33e0eb5cfe62"), looks := false }, kinds := [], alts := [], laidByText := true, laidKinds := [.data, .data, .funcs], laidTests := true, laidLooks := .later }
def VoiceWrongUptoCardSaid : Prop := Claim7.holds Tryd.pinned (.plain (OpenSpec.upto voiceWrongSpec)) voiceWrongUptoCard

/-- THE SECOND FORM's CARD OF 'decanilaw02.VoiceKnown'. -/
def voiceKnownUptoCard : Claim7 := { stood := { row := voiceKnownUptoRow, standIns := [], harness := (true, "1e5482e6438b7438447fbe050c412561ef72fba1c8721653ddbd33e0eb5cfe62"), looks := false }, kinds := [], alts := [], laidByText := true, laidKinds := [.data, .data, .funcs], laidTests := true, laidLooks := .later }
def VoiceKnownUptoCardSaid : Prop := Claim7.holds Tryd.pinned (.plain (OpenSpec.upto voiceKnownSpec)) voiceKnownUptoCard
end Rows
end Go.Proofs.YtcndfpjjcbjhpaaDoor
