/-
  NARROWER THAN 'FOR EVERY INPUT', by the rows' own cells (each row's printed sentence says how): VoiceNotes: laid · VoiceSings: laid · VoiceFits: laid · VoiceTrue: laid · VoiceTops: laid · VoiceMore: laid · VoiceApart: laid · VoiceHeir: laid · VoiceMust: laid · VoiceGains: laid · VoiceWrong: laid · VoiceKnown: laid.
  DERIVED. THE GIVEN ROWS OF THIS SEAT. 12 by the template 'for every input the law returns true; each argument reads behind the call as it read before'; 0 by the template 'total and deterministic' (their statements: YtcndfpjjcbjhpaaDoorTotals.lean).
  GIVEN WITH THE SEED: the statements are not yours to turn. If you find one false, say at which input.
  Laid BY PROGRAM, IN A SANDBOX (cutbox-rows.mjs): the forced cells as the released guide's own fill.sh prints them over the translation f3fd0856c57f9eb2… (all of the seat's roots in one cut). By AI agents, Wed Nov 11 2026. No macro, syntax, notation, axiom, sorry.
-/
import Derived.Test.YtcndfpjjcbjhpaaDoorChecked
import GoSem.Claim
import GoSem.ClaimJoined
import GoSem.ClaimMapViews
import Derived.JoinedTies
import Derived.KernelRfl
namespace Go.Proofs.YtcndfpjjcbjhpaaDoor
/- THE CELL 'sum', in the pinned program and in every row, IS THE sha256 OF THE DUMP (.gsa) THAT YtcndfpjjcbjhpaaDoorProg.lean LOADS. Nothing in Lean hashes anything: it is a label: what it is worth is what the hold of that sum in a sandbox is worth. -/
noncomputable def Tryd.pinned : Pinned := { name := "ytcndfpjjcbjhpaadoor", sum := "f3fd0856c57f9eb2ca07be8bfc3905c81030467fbd55ed7571bbceddc9615862", checked := Tryd.checked }
namespace Rows
def none {H : Type} : Left H := { results := [], args := [] }

/- WHAT THE LISTED PACKAGE-LEVEL VARIABLES READ AS WHEN THE CALL BEGINS. Each datum BY PROGRAM (the guide's laid-datum.mjs) off the statement by which the dump's own 'gosem.cut.vars' lays the variable. In a bare row this is a premise. The card (YtcndfpjjcbjhpaaDoorCards.lean) ties it to the program's text. -/
def laid_decani_voice_unknown {H : Type} : DataW H := .agg [.lit (.int .i64 (-1)), .lit (.int .i64 (-1)), .lit (.int .i64 (-1)), .lit (.int .i64 (-1)), .lit (.int .i64 (-1))]
def laid_decani_voice_nobody {H : Type} : DataW H := .agg [.lit (.int .i64 (-1)), .lit (.int .i64 (-1))]
def laid_decani_voice_kindsOf {H : Type} : DataW H := .iface "func table" (.agg [.iface "func" (.lit (.string [40, 100, 101, 99, 97, 110, 105, 47, 118, 111, 105, 99, 101, 46, 118, 111, 116, 101, 115, 41, 46, 115, 111, 109, 101])), .iface "func" (.lit (.string [40, 100, 101, 99, 97, 110, 105, 47, 118, 111, 105, 99, 101, 46, 118, 111, 116, 101, 115, 41, 46, 101, 97, 99, 104]))])

/-- 'decanilaw02.VoiceNotes': WHATEVER THE INPUT: true; the input reads as it did. -/
def voiceNotesSpec : ChangeSpec := { name := "voiceNotes", fn := fun _ => fun
  | [d1, d2] => { results := [.lit (.bool true)], args := [d1, d2] }
  | _ => none }
def voiceNotesRow : OpenClaim := { program := "ytcndfpjjcbjhpaadoor", sum := "f3fd0856c57f9eb2ca07be8bfc3905c81030467fbd55ed7571bbceddc9615862", func := "decani/decanilaw02.VoiceNotes", spec := "voiceNotes", unfollowed := true, recurses := true, named := ["decani/voice.nobody", "decani/voice.unknown", "decani/voice.kindsOf"], plainKeys := false, apart := false, laid := [("decani/voice.unknown", laid_decani_voice_unknown), ("decani/voice.nobody", laid_decani_voice_nobody), ("decani/voice.kindsOf", laid_decani_voice_kindsOf)] }
def VoiceNotesSaid : Prop := voiceNotesRow.holds Tryd.pinned (OpenSpec.ofChange voiceNotesSpec)

/-- ITS FALSE NEIGHBOUR: 'it returns false'. Refute it at one input. -/
def voiceNotesWrong : ChangeSpec := { name := "voiceNotes", fn := fun _ => fun
  | [d1, d2] => { results := [.lit (.bool false)], args := [d1, d2] }
  | _ => none }
def VoiceNotesWrongFalsely : Prop := voiceNotesRow.holds Tryd.pinned (OpenSpec.ofChange voiceNotesWrong)

/-- 'decanilaw02.VoiceSings': WHATEVER THE INPUT: true; the input reads as it did. -/
def voiceSingsSpec : ChangeSpec := { name := "voiceSings", fn := fun _ => fun
  | [d1, d2, d3] => { results := [.lit (.bool true)], args := [d1, d2, d3] }
  | _ => none }
def voiceSingsRow : OpenClaim := { program := "ytcndfpjjcbjhpaadoor", sum := "f3fd0856c57f9eb2ca07be8bfc3905c81030467fbd55ed7571bbceddc9615862", func := "decani/decanilaw02.VoiceSings", spec := "voiceSings", unfollowed := true, recurses := true, named := ["decani/voice.nobody", "decani/voice.unknown", "decani/voice.kindsOf"], plainKeys := false, apart := false, laid := [("decani/voice.unknown", laid_decani_voice_unknown), ("decani/voice.nobody", laid_decani_voice_nobody), ("decani/voice.kindsOf", laid_decani_voice_kindsOf)] }
def VoiceSingsSaid : Prop := voiceSingsRow.holds Tryd.pinned (OpenSpec.ofChange voiceSingsSpec)

/-- ITS FALSE NEIGHBOUR: 'it returns false'. Refute it at one input. -/
def voiceSingsWrong : ChangeSpec := { name := "voiceSings", fn := fun _ => fun
  | [d1, d2, d3] => { results := [.lit (.bool false)], args := [d1, d2, d3] }
  | _ => none }
def VoiceSingsWrongFalsely : Prop := voiceSingsRow.holds Tryd.pinned (OpenSpec.ofChange voiceSingsWrong)

/-- 'decanilaw02.VoiceFits': WHATEVER THE INPUT: true; the input reads as it did. -/
def voiceFitsSpec : ChangeSpec := { name := "voiceFits", fn := fun _ => fun
  | [d1, d2] => { results := [.lit (.bool true)], args := [d1, d2] }
  | _ => none }
def voiceFitsRow : OpenClaim := { program := "ytcndfpjjcbjhpaadoor", sum := "f3fd0856c57f9eb2ca07be8bfc3905c81030467fbd55ed7571bbceddc9615862", func := "decani/decanilaw02.VoiceFits", spec := "voiceFits", unfollowed := true, recurses := true, named := ["decani/voice.nobody", "decani/voice.unknown", "decani/voice.kindsOf"], plainKeys := false, apart := false, laid := [("decani/voice.unknown", laid_decani_voice_unknown), ("decani/voice.nobody", laid_decani_voice_nobody), ("decani/voice.kindsOf", laid_decani_voice_kindsOf)] }
def VoiceFitsSaid : Prop := voiceFitsRow.holds Tryd.pinned (OpenSpec.ofChange voiceFitsSpec)

/-- ITS FALSE NEIGHBOUR: 'it returns false'. Refute it at one input. -/
def voiceFitsWrong : ChangeSpec := { name := "voiceFits", fn := fun _ => fun
  | [d1, d2] => { results := [.lit (.bool false)], args := [d1, d2] }
  | _ => none }
def VoiceFitsWrongFalsely : Prop := voiceFitsRow.holds Tryd.pinned (OpenSpec.ofChange voiceFitsWrong)

/-- 'decanilaw02.VoiceTrue': WHATEVER THE INPUT: true; the input reads as it did. -/
def voiceTrueSpec : ChangeSpec := { name := "voiceTrue", fn := fun _ => fun
  | [d1, d2, d3] => { results := [.lit (.bool true)], args := [d1, d2, d3] }
  | _ => none }
def voiceTrueRow : OpenClaim := { program := "ytcndfpjjcbjhpaadoor", sum := "f3fd0856c57f9eb2ca07be8bfc3905c81030467fbd55ed7571bbceddc9615862", func := "decani/decanilaw02.VoiceTrue", spec := "voiceTrue", unfollowed := true, recurses := true, named := ["decani/voice.nobody", "decani/voice.unknown", "decani/voice.kindsOf"], plainKeys := false, apart := false, laid := [("decani/voice.unknown", laid_decani_voice_unknown), ("decani/voice.nobody", laid_decani_voice_nobody), ("decani/voice.kindsOf", laid_decani_voice_kindsOf)] }
def VoiceTrueSaid : Prop := voiceTrueRow.holds Tryd.pinned (OpenSpec.ofChange voiceTrueSpec)

/-- ITS FALSE NEIGHBOUR: 'it returns false'. Refute it at one input. -/
def voiceTrueWrong : ChangeSpec := { name := "voiceTrue", fn := fun _ => fun
  | [d1, d2, d3] => { results := [.lit (.bool false)], args := [d1, d2, d3] }
  | _ => none }
def VoiceTrueWrongFalsely : Prop := voiceTrueRow.holds Tryd.pinned (OpenSpec.ofChange voiceTrueWrong)

/-- 'decanilaw02.VoiceTops': WHATEVER THE INPUT: true; the input reads as it did. -/
def voiceTopsSpec : ChangeSpec := { name := "voiceTops", fn := fun _ => fun
  | [d1, d2] => { results := [.lit (.bool true)], args := [d1, d2] }
  | _ => none }
def voiceTopsRow : OpenClaim := { program := "ytcndfpjjcbjhpaadoor", sum := "f3fd0856c57f9eb2ca07be8bfc3905c81030467fbd55ed7571bbceddc9615862", func := "decani/decanilaw02.VoiceTops", spec := "voiceTops", unfollowed := true, recurses := true, named := ["decani/voice.nobody", "decani/voice.unknown", "decani/voice.kindsOf"], plainKeys := false, apart := false, laid := [("decani/voice.unknown", laid_decani_voice_unknown), ("decani/voice.nobody", laid_decani_voice_nobody), ("decani/voice.kindsOf", laid_decani_voice_kindsOf)] }
def VoiceTopsSaid : Prop := voiceTopsRow.holds Tryd.pinned (OpenSpec.ofChange voiceTopsSpec)

/-- ITS FALSE NEIGHBOUR: 'it returns false'. Refute it at one input. -/
def voiceTopsWrong : ChangeSpec := { name := "voiceTops", fn := fun _ => fun
  | [d1, d2] => { results := [.lit (.bool false)], args := [d1, d2] }
  | _ => none }
def VoiceTopsWrongFalsely : Prop := voiceTopsRow.holds Tryd.pinned (OpenSpec.ofChange voiceTopsWrong)

/-- 'decanilaw02.VoiceMore': WHATEVER THE INPUT: true; the input reads as it did. -/
def voiceMoreSpec : ChangeSpec := { name := "voiceMore", fn := fun _ => fun
  | [d1, d2, d3] => { results := [.lit (.bool true)], args := [d1, d2, d3] }
  | _ => none }
def voiceMoreRow : OpenClaim := { program := "ytcndfpjjcbjhpaadoor", sum := "f3fd0856c57f9eb2ca07be8bfc3905c81030467fbd55ed7571bbceddc9615862", func := "decani/decanilaw02.VoiceMore", spec := "voiceMore", unfollowed := true, recurses := true, named := ["decani/voice.nobody", "decani/voice.unknown", "decani/voice.kindsOf"], plainKeys := false, apart := false, laid := [("decani/voice.unknown", laid_decani_voice_unknown), ("decani/voice.nobody", laid_decani_voice_nobody), ("decani/voice.kindsOf", laid_decani_voice_kindsOf)] }
def VoiceMoreSaid : Prop := voiceMoreRow.holds Tryd.pinned (OpenSpec.ofChange voiceMoreSpec)

/-- ITS FALSE NEIGHBOUR: 'it returns false'. Refute it at one input. -/
def voiceMoreWrong : ChangeSpec := { name := "voiceMore", fn := fun _ => fun
  | [d1, d2, d3] => { results := [.lit (.bool false)], args := [d1, d2, d3] }
  | _ => none }
def VoiceMoreWrongFalsely : Prop := voiceMoreRow.holds Tryd.pinned (OpenSpec.ofChange voiceMoreWrong)

/-- 'decanilaw02.VoiceApart': WHATEVER THE INPUT: true; the input reads as it did. -/
def voiceApartSpec : ChangeSpec := { name := "voiceApart", fn := fun _ => fun
  | [d1, d2] => { results := [.lit (.bool true)], args := [d1, d2] }
  | _ => none }
def voiceApartRow : OpenClaim := { program := "ytcndfpjjcbjhpaadoor", sum := "f3fd0856c57f9eb2ca07be8bfc3905c81030467fbd55ed7571bbceddc9615862", func := "decani/decanilaw02.VoiceApart", spec := "voiceApart", unfollowed := true, recurses := true, named := ["decani/voice.nobody", "decani/voice.unknown", "decani/voice.kindsOf"], plainKeys := false, apart := false, laid := [("decani/voice.unknown", laid_decani_voice_unknown), ("decani/voice.nobody", laid_decani_voice_nobody), ("decani/voice.kindsOf", laid_decani_voice_kindsOf)] }
def VoiceApartSaid : Prop := voiceApartRow.holds Tryd.pinned (OpenSpec.ofChange voiceApartSpec)

/-- ITS FALSE NEIGHBOUR: 'it returns false'. Refute it at one input. -/
def voiceApartWrong : ChangeSpec := { name := "voiceApart", fn := fun _ => fun
  | [d1, d2] => { results := [.lit (.bool false)], args := [d1, d2] }
  | _ => none }
def VoiceApartWrongFalsely : Prop := voiceApartRow.holds Tryd.pinned (OpenSpec.ofChange voiceApartWrong)

/-- 'decanilaw02.VoiceHeir': WHATEVER THE INPUT: true; the input reads as it did. -/
def voiceHeirSpec : ChangeSpec := { name := "voiceHeir", fn := fun _ => fun
  | [d1, d2] => { results := [.lit (.bool true)], args := [d1, d2] }
  | _ => none }
def voiceHeirRow : OpenClaim := { program := "ytcndfpjjcbjhpaadoor", sum := "f3fd0856c57f9eb2ca07be8bfc3905c81030467fbd55ed7571bbceddc9615862", func := "decani/decanilaw02.VoiceHeir", spec := "voiceHeir", unfollowed := true, recurses := true, named := ["decani/voice.nobody", "decani/voice.unknown", "decani/voice.kindsOf"], plainKeys := false, apart := false, laid := [("decani/voice.unknown", laid_decani_voice_unknown), ("decani/voice.nobody", laid_decani_voice_nobody), ("decani/voice.kindsOf", laid_decani_voice_kindsOf)] }
def VoiceHeirSaid : Prop := voiceHeirRow.holds Tryd.pinned (OpenSpec.ofChange voiceHeirSpec)

/-- ITS FALSE NEIGHBOUR: 'it returns false'. Refute it at one input. -/
def voiceHeirWrong : ChangeSpec := { name := "voiceHeir", fn := fun _ => fun
  | [d1, d2] => { results := [.lit (.bool false)], args := [d1, d2] }
  | _ => none }
def VoiceHeirWrongFalsely : Prop := voiceHeirRow.holds Tryd.pinned (OpenSpec.ofChange voiceHeirWrong)

/-- 'decanilaw02.VoiceMust': WHATEVER THE INPUT: true; the input reads as it did. -/
def voiceMustSpec : ChangeSpec := { name := "voiceMust", fn := fun _ => fun
  | [d1, d2] => { results := [.lit (.bool true)], args := [d1, d2] }
  | _ => none }
def voiceMustRow : OpenClaim := { program := "ytcndfpjjcbjhpaadoor", sum := "f3fd0856c57f9eb2ca07be8bfc3905c81030467fbd55ed7571bbceddc9615862", func := "decani/decanilaw02.VoiceMust", spec := "voiceMust", unfollowed := true, recurses := true, named := ["decani/voice.nobody", "decani/voice.unknown", "decani/voice.kindsOf"], plainKeys := false, apart := false, laid := [("decani/voice.unknown", laid_decani_voice_unknown), ("decani/voice.nobody", laid_decani_voice_nobody), ("decani/voice.kindsOf", laid_decani_voice_kindsOf)] }
def VoiceMustSaid : Prop := voiceMustRow.holds Tryd.pinned (OpenSpec.ofChange voiceMustSpec)

/-- ITS FALSE NEIGHBOUR: 'it returns false'. Refute it at one input. -/
def voiceMustWrong : ChangeSpec := { name := "voiceMust", fn := fun _ => fun
  | [d1, d2] => { results := [.lit (.bool false)], args := [d1, d2] }
  | _ => none }
def VoiceMustWrongFalsely : Prop := voiceMustRow.holds Tryd.pinned (OpenSpec.ofChange voiceMustWrong)

/-- 'decanilaw02.VoiceGains': WHATEVER THE INPUT: true; the input reads as it did. -/
def voiceGainsSpec : ChangeSpec := { name := "voiceGains", fn := fun _ => fun
  | [d1, d2] => { results := [.lit (.bool true)], args := [d1, d2] }
  | _ => none }
def voiceGainsRow : OpenClaim := { program := "ytcndfpjjcbjhpaadoor", sum := "f3fd0856c57f9eb2ca07be8bfc3905c81030467fbd55ed7571bbceddc9615862", func := "decani/decanilaw02.VoiceGains", spec := "voiceGains", unfollowed := true, recurses := true, named := ["decani/voice.nobody", "decani/voice.unknown", "decani/voice.kindsOf"], plainKeys := false, apart := false, laid := [("decani/voice.unknown", laid_decani_voice_unknown), ("decani/voice.nobody", laid_decani_voice_nobody), ("decani/voice.kindsOf", laid_decani_voice_kindsOf)] }
def VoiceGainsSaid : Prop := voiceGainsRow.holds Tryd.pinned (OpenSpec.ofChange voiceGainsSpec)

/-- ITS FALSE NEIGHBOUR: 'it returns false'. Refute it at one input. -/
def voiceGainsWrong : ChangeSpec := { name := "voiceGains", fn := fun _ => fun
  | [d1, d2] => { results := [.lit (.bool false)], args := [d1, d2] }
  | _ => none }
def VoiceGainsWrongFalsely : Prop := voiceGainsRow.holds Tryd.pinned (OpenSpec.ofChange voiceGainsWrong)

/-- 'decanilaw02.VoiceWrong': WHATEVER THE INPUT: true; the input reads as it did. -/
def voiceWrongSpec : ChangeSpec := { name := "voiceWrong", fn := fun _ => fun
  | [d1, d2] => { results := [.lit (.bool true)], args := [d1, d2] }
  | _ => none }
def voiceWrongRow : OpenClaim := { program := "ytcndfpjjcbjhpaadoor", sum := "f3fd0856c57f9eb2ca07be8bfc3905c81030467fbd55ed7571bbceddc9615862", func := "decani/decanilaw02.VoiceWrong", spec := "voiceWrong", unfollowed := true, recurses := true, named := ["decani/voice.nobody", "decani/voice.unknown", "decani/voice.kindsOf"], plainKeys := false, apart := false, laid := [("decani/voice.unknown", laid_decani_voice_unknown), ("decani/voice.nobody", laid_decani_voice_nobody), ("decani/voice.kindsOf", laid_decani_voice_kindsOf)] }
def VoiceWrongSaid : Prop := voiceWrongRow.holds Tryd.pinned (OpenSpec.ofChange voiceWrongSpec)

/-- ITS FALSE NEIGHBOUR: 'it returns false'. Refute it at one input. -/
def voiceWrongWrong : ChangeSpec := { name := "voiceWrong", fn := fun _ => fun
  | [d1, d2] => { results := [.lit (.bool false)], args := [d1, d2] }
  | _ => none }
def VoiceWrongWrongFalsely : Prop := voiceWrongRow.holds Tryd.pinned (OpenSpec.ofChange voiceWrongWrong)

/-- 'decanilaw02.VoiceKnown': WHATEVER THE INPUT: true; the input reads as it did. -/
def voiceKnownSpec : ChangeSpec := { name := "voiceKnown", fn := fun _ => fun
  | [] => { results := [.lit (.bool true)], args := [] }
  | _ => none }
def voiceKnownRow : OpenClaim := { program := "ytcndfpjjcbjhpaadoor", sum := "f3fd0856c57f9eb2ca07be8bfc3905c81030467fbd55ed7571bbceddc9615862", func := "decani/decanilaw02.VoiceKnown", spec := "voiceKnown", unfollowed := true, recurses := true, named := ["decani/voice.nobody", "decani/voice.unknown", "decani/voice.kindsOf"], plainKeys := false, apart := false, laid := [("decani/voice.unknown", laid_decani_voice_unknown), ("decani/voice.nobody", laid_decani_voice_nobody), ("decani/voice.kindsOf", laid_decani_voice_kindsOf)] }
def VoiceKnownSaid : Prop := voiceKnownRow.holds Tryd.pinned (OpenSpec.ofChange voiceKnownSpec)

/-- ITS FALSE NEIGHBOUR: 'it returns false'. Refute it at one input. -/
def voiceKnownWrong : ChangeSpec := { name := "voiceKnown", fn := fun _ => fun
  | [] => { results := [.lit (.bool false)], args := [] }
  | _ => none }
def VoiceKnownWrongFalsely : Prop := voiceKnownRow.holds Tryd.pinned (OpenSpec.ofChange voiceKnownWrong)

/- THE SECOND FORM. 'bulk': how many values and letters a reading holds, each counted each time it is reached (what is shared counts as often as it is met; a slice's spare places count too). A statement '..UptoSaid' is the law's where the arguments, and the package variables that the reading takes, are together of bulk at most 1048576: NARROWER than '..Said'. Prove '..Said' where nothing that the law and all that it calls make is longer than what came in: it says more and counts as full. Else prove '..UptoSaid'. A law counts once. -/
mutual
def uptoBulk {H : Type} : DataW H → Nat
  | .lit (.string bytes) => bytes.length + 1
  | .lit _ => 1
  | .nil => 1
  | .ptr d => uptoBulk d + 1
  | .slice elems spare => uptoBulkAll elems + uptoBulkAll spare + 1
  | .agg parts => uptoBulkAll parts + 1
  | .iface _ d => uptoBulk d + 1
  | .map entries => uptoBulkEntries entries + 1
  | .held _ => 1
def uptoBulkAll {H : Type} : List (DataW H) → Nat
  | [] => 0
  | d :: r => uptoBulk d + uptoBulkAll r
def uptoBulkEntries {H : Type} : List (Lit × DataW H) → Nat
  | [] => 0
  | x :: r => uptoBulkEntry x + uptoBulkEntries r
def uptoBulkEntry {H : Type} : Lit × DataW H → Nat
  | (.string bytes, d) => bytes.length + uptoBulk d + 1
  | (_, d) => uptoBulk d + 1
 end
def uptoSmall : (H : Type) → List (DataW H) → Bool := fun _ ds => decide (uptoBulkAll ds ≤ 1048576)
def OpenSpec.upto (s : _root_.Go.ChangeSpec) : _root_.Go.OpenSpec := { _root_.Go.OpenSpec.ofChange s with cond := some uptoSmall }

/-- 'decanilaw02.VoiceNotes', WHERE WHAT IT READS IS OF BULK AT MOST 1048576: true; the input reads as it did. -/
def voiceNotesUptoRow : OpenClaim := { program := "ytcndfpjjcbjhpaadoor", sum := "f3fd0856c57f9eb2ca07be8bfc3905c81030467fbd55ed7571bbceddc9615862", func := "decani/decanilaw02.VoiceNotes", spec := "voiceNotes", unfollowed := true, recurses := true, named := ["decani/voice.nobody", "decani/voice.unknown", "decani/voice.kindsOf"], plainKeys := false, apart := false, laid := [("decani/voice.unknown", laid_decani_voice_unknown), ("decani/voice.nobody", laid_decani_voice_nobody), ("decani/voice.kindsOf", laid_decani_voice_kindsOf)], narrowed := true }
def VoiceNotesUptoSaid : Prop := voiceNotesUptoRow.holds Tryd.pinned (OpenSpec.upto voiceNotesSpec)

/-- 'decanilaw02.VoiceSings', WHERE WHAT IT READS IS OF BULK AT MOST 1048576: true; the input reads as it did. -/
def voiceSingsUptoRow : OpenClaim := { program := "ytcndfpjjcbjhpaadoor", sum := "f3fd0856c57f9eb2ca07be8bfc3905c81030467fbd55ed7571bbceddc9615862", func := "decani/decanilaw02.VoiceSings", spec := "voiceSings", unfollowed := true, recurses := true, named := ["decani/voice.nobody", "decani/voice.unknown", "decani/voice.kindsOf"], plainKeys := false, apart := false, laid := [("decani/voice.unknown", laid_decani_voice_unknown), ("decani/voice.nobody", laid_decani_voice_nobody), ("decani/voice.kindsOf", laid_decani_voice_kindsOf)], narrowed := true }
def VoiceSingsUptoSaid : Prop := voiceSingsUptoRow.holds Tryd.pinned (OpenSpec.upto voiceSingsSpec)

/-- 'decanilaw02.VoiceFits', WHERE WHAT IT READS IS OF BULK AT MOST 1048576: true; the input reads as it did. -/
def voiceFitsUptoRow : OpenClaim := { program := "ytcndfpjjcbjhpaadoor", sum := "f3fd0856c57f9eb2ca07be8bfc3905c81030467fbd55ed7571bbceddc9615862", func := "decani/decanilaw02.VoiceFits", spec := "voiceFits", unfollowed := true, recurses := true, named := ["decani/voice.nobody", "decani/voice.unknown", "decani/voice.kindsOf"], plainKeys := false, apart := false, laid := [("decani/voice.unknown", laid_decani_voice_unknown), ("decani/voice.nobody", laid_decani_voice_nobody), ("decani/voice.kindsOf", laid_decani_voice_kindsOf)], narrowed := true }
def VoiceFitsUptoSaid : Prop := voiceFitsUptoRow.holds Tryd.pinned (OpenSpec.upto voiceFitsSpec)

/-- 'decanilaw02.VoiceTrue', WHERE WHAT IT READS IS OF BULK AT MOST 1048576: true; the input reads as it did. -/
def voiceTrueUptoRow : OpenClaim := { program := "ytcndfpjjcbjhpaadoor", sum := "f3fd0856c57f9eb2ca07be8bfc3905c81030467fbd55ed7571bbceddc9615862", func := "decani/decanilaw02.VoiceTrue", spec := "voiceTrue", unfollowed := true, recurses := true, named := ["decani/voice.nobody", "decani/voice.unknown", "decani/voice.kindsOf"], plainKeys := false, apart := false, laid := [("decani/voice.unknown", laid_decani_voice_unknown), ("decani/voice.nobody", laid_decani_voice_nobody), ("decani/voice.kindsOf", laid_decani_voice_kindsOf)], narrowed := true }
def VoiceTrueUptoSaid : Prop := voiceTrueUptoRow.holds Tryd.pinned (OpenSpec.upto voiceTrueSpec)

/-- 'decanilaw02.VoiceTops', WHERE WHAT IT READS IS OF BULK AT MOST 1048576: true; the input reads as it did. -/
def voiceTopsUptoRow : OpenClaim := { program := "ytcndfpjjcbjhpaadoor", sum := "f3fd0856c57f9eb2ca07be8bfc3905c81030467fbd55ed7571bbceddc9615862", func := "decani/decanilaw02.VoiceTops", spec := "voiceTops", unfollowed := true, recurses := true, named := ["decani/voice.nobody", "decani/voice.unknown", "decani/voice.kindsOf"], plainKeys := false, apart := false, laid := [("decani/voice.unknown", laid_decani_voice_unknown), ("decani/voice.nobody", laid_decani_voice_nobody), ("decani/voice.kindsOf", laid_decani_voice_kindsOf)], narrowed := true }
def VoiceTopsUptoSaid : Prop := voiceTopsUptoRow.holds Tryd.pinned (OpenSpec.upto voiceTopsSpec)

/-- 'decanilaw02.VoiceMore', WHERE WHAT IT READS IS OF BULK AT MOST 1048576: true; the input reads as it did. -/
def voiceMoreUptoRow : OpenClaim := { program := "ytcndfpjjcbjhpaadoor", sum := "f3fd0856c57f9eb2ca07be8bfc3905c81030467fbd55ed7571bbceddc9615862", func := "decani/decanilaw02.VoiceMore", spec := "voiceMore", unfollowed := true, recurses := true, named := ["decani/voice.nobody", "decani/voice.unknown", "decani/voice.kindsOf"], plainKeys := false, apart := false, laid := [("decani/voice.unknown", laid_decani_voice_unknown), ("decani/voice.nobody", laid_decani_voice_nobody), ("decani/voice.kindsOf", laid_decani_voice_kindsOf)], narrowed := true }
def VoiceMoreUptoSaid : Prop := voiceMoreUptoRow.holds Tryd.pinned (OpenSpec.upto voiceMoreSpec)

/-- 'decanilaw02.VoiceApart', WHERE WHAT IT READS IS OF BULK AT MOST 1048576: true; the input reads as it did. -/
def voiceApartUptoRow : OpenClaim := { program := "ytcndfpjjcbjhpaadoor", sum := "f3fd0856c57f9eb2ca07be8bfc3905c81030467fbd55ed7571bbceddc9615862", func := "decani/decanilaw02.VoiceApart", spec := "voiceApart", unfollowed := true, recurses := true, named := ["decani/voice.nobody", "decani/voice.unknown", "decani/voice.kindsOf"], plainKeys := false, apart := false, laid := [("decani/voice.unknown", laid_decani_voice_unknown), ("decani/voice.nobody", laid_decani_voice_nobody), ("decani/voice.kindsOf", laid_decani_voice_kindsOf)], narrowed := true }
def VoiceApartUptoSaid : Prop := voiceApartUptoRow.holds Tryd.pinned (OpenSpec.upto voiceApartSpec)

/-- 'decanilaw02.VoiceHeir', WHERE WHAT IT READS IS OF BULK AT MOST 1048576: true; the input reads as it did. -/
def voiceHeirUptoRow : OpenClaim := { program := "ytcndfpjjcbjhpaadoor", sum := "f3fd0856c57f9eb2ca07be8bfc3905c81030467fbd55ed7571bbceddc9615862", func := "decani/decanilaw02.VoiceHeir", spec := "voiceHeir", unfollowed := true, recurses := true, named := ["decani/voice.nobody", "decani/voice.unknown", "decani/voice.kindsOf"], plainKeys := false, apart := false, laid := [("decani/voice.unknown", laid_decani_voice_unknown), ("decani/voice.nobody", laid_decani_voice_nobody), ("decani/voice.kindsOf", laid_decani_voice_kindsOf)], narrowed := true }
def VoiceHeirUptoSaid : Prop := voiceHeirUptoRow.holds Tryd.pinned (OpenSpec.upto voiceHeirSpec)

/-- 'decanilaw02.VoiceMust', WHERE WHAT IT READS IS OF BULK AT MOST 1048576: true; the input reads as it did. -/
def voiceMustUptoRow : OpenClaim := { program := "ytcndfpjjcbjhpaadoor", sum := "f3fd0856c57f9eb2ca07be8bfc3905c81030467fbd55ed7571bbceddc9615862", func := "decani/decanilaw02.VoiceMust", spec := "voiceMust", unfollowed := true, recurses := true, named := ["decani/voice.nobody", "decani/voice.unknown", "decani/voice.kindsOf"], plainKeys := false, apart := false, laid := [("decani/voice.unknown", laid_decani_voice_unknown), ("decani/voice.nobody", laid_decani_voice_nobody), ("decani/voice.kindsOf", laid_decani_voice_kindsOf)], narrowed := true }
def VoiceMustUptoSaid : Prop := voiceMustUptoRow.holds Tryd.pinned (OpenSpec.upto voiceMustSpec)

/-- 'decanilaw02.VoiceGains', WHERE WHAT IT READS IS OF BULK AT MOST 1048576: true; the input reads as it did. -/
def voiceGainsUptoRow : OpenClaim := { program := "ytcndfpjjcbjhpaadoor", sum := "f3fd0856c57f9eb2ca07be8bfc3905c81030467fbd55ed7571bbceddc9615862", func := "decani/decanilaw02.VoiceGains", spec := "voiceGains", unfollowed := true, recurses := true, named := ["decani/voice.nobody", "decani/voice.unknown", "decani/voice.kindsOf"], plainKeys := false, apart := false, laid := [("decani/voice.unknown", laid_decani_voice_unknown), ("decani/voice.nobody", laid_decani_voice_nobody), ("decani/voice.kindsOf", laid_decani_voice_kindsOf)], narrowed := true }
def VoiceGainsUptoSaid : Prop := voiceGainsUptoRow.holds Tryd.pinned (OpenSpec.upto voiceGainsSpec)

/-- 'decanilaw02.VoiceWrong', WHERE WHAT IT READS IS OF BULK AT MOST 1048576: true; the input reads as it did. -/
def voiceWrongUptoRow : OpenClaim := { program := "ytcndfpjjcbjhpaadoor", sum := "f3fd0856c57f9eb2ca07be8bfc3905c81030467fbd55ed7571bbceddc9615862", func := "decani/decanilaw02.VoiceWrong", spec := "voiceWrong", unfollowed := true, recurses := true, named := ["decani/voice.nobody", "decani/voice.unknown", "decani/voice.kindsOf"], plainKeys := false, apart := false, laid := [("decani/voice.unknown", laid_decani_voice_unknown), ("decani/voice.nobody", laid_decani_voice_nobody), ("decani/voice.kindsOf", laid_decani_voice_kindsOf)], narrowed := true }
def VoiceWrongUptoSaid : Prop := voiceWrongUptoRow.holds Tryd.pinned (OpenSpec.upto voiceWrongSpec)

/-- 'decanilaw02.VoiceKnown', WHERE WHAT IT READS IS OF BULK AT MOST 1048576: true; the input reads as it did. -/
def voiceKnownUptoRow : OpenClaim := { program := "ytcndfpjjcbjhpaadoor", sum := "f3fd0856c57f9eb2ca07be8bfc3905c81030467fbd55ed7571bbceddc9615862", func := "decani/decanilaw02.VoiceKnown", spec := "voiceKnown", unfollowed := true, recurses := true, named := ["decani/voice.nobody", "decani/voice.unknown", "decani/voice.kindsOf"], plainKeys := false, apart := false, laid := [("decani/voice.unknown", laid_decani_voice_unknown), ("decani/voice.nobody", laid_decani_voice_nobody), ("decani/voice.kindsOf", laid_decani_voice_kindsOf)], narrowed := true }
def VoiceKnownUptoSaid : Prop := voiceKnownUptoRow.holds Tryd.pinned (OpenSpec.upto voiceKnownSpec)

end Rows
end Go.Proofs.YtcndfpjjcbjhpaaDoor
