/-
  NARROWER THAN 'FOR EVERY INPUT', by the rows' own cells (each row's printed sentence says how): OrganPitches: laid · OrganMoves: laid · OrganFits: laid · OrganTrue: laid · OrganSings: laid · OrganEnds: laid · OrganMore: laid · OrganTurn: laid · OrganLess: laid · OrganShift: laid · OrganWrong: laid · OrganKnown: laid.
  DERIVED. THE GIVEN ROWS OF THIS SEAT. 12 by the template 'for every input the law returns true; each argument reads behind the call as it read before'; 0 by the template 'total and deterministic' (their statements: YtbjdaefdifofkaaDoorTotals.lean).
  GIVEN WITH THE SEED: the statements are not yours to turn. If you find one false, say at which input.
  Laid BY PROGRAM, IN A SANDBOX (cutbox-rows.mjs): the forced cells as the released guide's own fill.sh prints them over the translation 80cf42f7e541bf19… (all of the seat's roots in one cut). By AI agents, Wed Nov 11 2026. No macro, syntax, notation, axiom, sorry.
-/
import Derived.Test.YtbjdaefdifofkaaDoorChecked
import GoSem.Claim
import GoSem.ClaimJoined
import GoSem.ClaimMapViews
import Derived.JoinedTies
import Derived.KernelRfl
namespace Go.Proofs.YtbjdaefdifofkaaDoor
/- THE CELL 'sum', in the pinned program and in every row, IS THE sha256 OF THE DUMP (.gsa) THAT YtbjdaefdifofkaaDoorProg.lean LOADS. Nothing in Lean hashes anything: it is a label: what it is worth is what the hold of that sum in a sandbox is worth. -/
noncomputable def Tryd.pinned : Pinned := { name := "ytbjdaefdifofkaadoor", sum := "80cf42f7e541bf195a40e75c2c8e3d7ca3e556544bce2461bdb57f8888077355", checked := Tryd.checked }
namespace Rows
def none {H : Type} : Left H := { results := [], args := [] }

/- WHAT THE LISTED PACKAGE-LEVEL VARIABLES READ AS WHEN THE CALL BEGINS. Each datum BY PROGRAM (the guide's laid-datum.mjs) off the statement by which the dump's own 'gosem.cut.vars' lays the variable. In a bare row this is a premise. The card (YtbjdaefdifofkaaDoorCards.lean) ties it to the program's text. -/
def laid_decani_voice_unknown {H : Type} : DataW H := .agg [.lit (.int .i64 (-1)), .lit (.int .i64 (-1)), .lit (.int .i64 (-1)), .lit (.int .i64 (-1)), .lit (.int .i64 (-1))]
def laid_decani_voice_nobody {H : Type} : DataW H := .agg [.lit (.int .i64 (-1)), .lit (.int .i64 (-1))]
def laid_decani_voice_kindsOf {H : Type} : DataW H := .iface "func table" (.agg [.iface "func" (.lit (.string [40, 100, 101, 99, 97, 110, 105, 47, 118, 111, 105, 99, 101, 46, 118, 111, 116, 101, 115, 41, 46, 115, 111, 109, 101])), .iface "func" (.lit (.string [40, 100, 101, 99, 97, 110, 105, 47, 118, 111, 105, 99, 101, 46, 118, 111, 116, 101, 115, 41, 46, 101, 97, 99, 104]))])
def laid_decani_organ_unknown {H : Type} : DataW H := .agg [.lit (.int .i64 1048576), .lit (.int .i64 1048576), .lit (.int .i64 1048576), .lit (.int .i64 1048576), .lit (.int .i64 1048576), .lit (.int .i64 1048576)]
def laid_decani_organ_nowhere {H : Type} : DataW H := .agg [.lit (.int .i64 (-1)), .lit (.int .i64 (-1))]
def laid_decani_organ_ends {H : Type} : DataW H := .iface "func table" (.agg [.iface "func" (.lit (.string [40, 100, 101, 99, 97, 110, 105, 47, 111, 114, 103, 97, 110, 46, 98, 111, 111, 107, 41, 46, 108, 111, 119])), .iface "func" (.lit (.string [40, 100, 101, 99, 97, 110, 105, 47, 111, 114, 103, 97, 110, 46, 98, 111, 111, 107, 41, 46, 104, 105, 103, 104]))])

/-- 'decanilaw08.OrganPitches': WHATEVER THE INPUT: true; the input reads as it did. -/
def organPitchesSpec : ChangeSpec := { name := "organPitches", fn := fun _ => fun
  | [d1, d2] => { results := [.lit (.bool true)], args := [d1, d2] }
  | _ => none }
def organPitchesRow : OpenClaim := { program := "ytbjdaefdifofkaadoor", sum := "80cf42f7e541bf195a40e75c2c8e3d7ca3e556544bce2461bdb57f8888077355", func := "decani/decanilaw08.OrganPitches", spec := "organPitches", unfollowed := true, recurses := true, named := ["decani/voice.nobody", "decani/voice.unknown", "decani/organ.unknown", "decani/organ.nowhere", "decani/organ.ends", "decani/voice.kindsOf"], plainKeys := false, apart := false, laid := [("decani/voice.unknown", laid_decani_voice_unknown), ("decani/voice.nobody", laid_decani_voice_nobody), ("decani/voice.kindsOf", laid_decani_voice_kindsOf), ("decani/organ.unknown", laid_decani_organ_unknown), ("decani/organ.nowhere", laid_decani_organ_nowhere), ("decani/organ.ends", laid_decani_organ_ends)] }
def OrganPitchesSaid : Prop := organPitchesRow.holds Tryd.pinned (OpenSpec.ofChange organPitchesSpec)

/-- ITS FALSE NEIGHBOUR: 'it returns false'. Refute it at one input. -/
def organPitchesWrong : ChangeSpec := { name := "organPitches", fn := fun _ => fun
  | [d1, d2] => { results := [.lit (.bool false)], args := [d1, d2] }
  | _ => none }
def OrganPitchesWrongFalsely : Prop := organPitchesRow.holds Tryd.pinned (OpenSpec.ofChange organPitchesWrong)

/-- 'decanilaw08.OrganMoves': WHATEVER THE INPUT: true; the input reads as it did. -/
def organMovesSpec : ChangeSpec := { name := "organMoves", fn := fun _ => fun
  | [d1, d2, d3] => { results := [.lit (.bool true)], args := [d1, d2, d3] }
  | _ => none }
def organMovesRow : OpenClaim := { program := "ytbjdaefdifofkaadoor", sum := "80cf42f7e541bf195a40e75c2c8e3d7ca3e556544bce2461bdb57f8888077355", func := "decani/decanilaw08.OrganMoves", spec := "organMoves", unfollowed := true, recurses := true, named := ["decani/voice.nobody", "decani/voice.unknown", "decani/organ.unknown", "decani/organ.nowhere", "decani/voice.kindsOf", "decani/organ.ends"], plainKeys := false, apart := false, laid := [("decani/voice.unknown", laid_decani_voice_unknown), ("decani/voice.nobody", laid_decani_voice_nobody), ("decani/voice.kindsOf", laid_decani_voice_kindsOf), ("decani/organ.unknown", laid_decani_organ_unknown), ("decani/organ.nowhere", laid_decani_organ_nowhere), ("decani/organ.ends", laid_decani_organ_ends)] }
def OrganMovesSaid : Prop := organMovesRow.holds Tryd.pinned (OpenSpec.ofChange organMovesSpec)

/-- ITS FALSE NEIGHBOUR: 'it returns false'. Refute it at one input. -/
def organMovesWrong : ChangeSpec := { name := "organMoves", fn := fun _ => fun
  | [d1, d2, d3] => { results := [.lit (.bool false)], args := [d1, d2, d3] }
  | _ => none }
def OrganMovesWrongFalsely : Prop := organMovesRow.holds Tryd.pinned (OpenSpec.ofChange organMovesWrong)

/-- 'decanilaw08.OrganFits': WHATEVER THE INPUT: true; the input reads as it did. -/
def organFitsSpec : ChangeSpec := { name := "organFits", fn := fun _ => fun
  | [d1, d2] => { results := [.lit (.bool true)], args := [d1, d2] }
  | _ => none }
def organFitsRow : OpenClaim := { program := "ytbjdaefdifofkaadoor", sum := "80cf42f7e541bf195a40e75c2c8e3d7ca3e556544bce2461bdb57f8888077355", func := "decani/decanilaw08.OrganFits", spec := "organFits", unfollowed := true, recurses := true, named := ["decani/voice.nobody", "decani/voice.unknown", "decani/organ.unknown", "decani/organ.nowhere", "decani/organ.ends", "decani/voice.kindsOf"], plainKeys := false, apart := false, laid := [("decani/voice.unknown", laid_decani_voice_unknown), ("decani/voice.nobody", laid_decani_voice_nobody), ("decani/voice.kindsOf", laid_decani_voice_kindsOf), ("decani/organ.unknown", laid_decani_organ_unknown), ("decani/organ.nowhere", laid_decani_organ_nowhere), ("decani/organ.ends", laid_decani_organ_ends)] }
def OrganFitsSaid : Prop := organFitsRow.holds Tryd.pinned (OpenSpec.ofChange organFitsSpec)

/-- ITS FALSE NEIGHBOUR: 'it returns false'. Refute it at one input. -/
def organFitsWrong : ChangeSpec := { name := "organFits", fn := fun _ => fun
  | [d1, d2] => { results := [.lit (.bool false)], args := [d1, d2] }
  | _ => none }
def OrganFitsWrongFalsely : Prop := organFitsRow.holds Tryd.pinned (OpenSpec.ofChange organFitsWrong)

/-- 'decanilaw08.OrganTrue': WHATEVER THE INPUT: true; the input reads as it did. -/
def organTrueSpec : ChangeSpec := { name := "organTrue", fn := fun _ => fun
  | [d1, d2, d3] => { results := [.lit (.bool true)], args := [d1, d2, d3] }
  | _ => none }
def organTrueRow : OpenClaim := { program := "ytbjdaefdifofkaadoor", sum := "80cf42f7e541bf195a40e75c2c8e3d7ca3e556544bce2461bdb57f8888077355", func := "decani/decanilaw08.OrganTrue", spec := "organTrue", unfollowed := true, recurses := true, named := ["decani/voice.nobody", "decani/voice.unknown", "decani/organ.unknown", "decani/organ.nowhere", "decani/organ.ends", "decani/voice.kindsOf"], plainKeys := false, apart := false, laid := [("decani/voice.unknown", laid_decani_voice_unknown), ("decani/voice.nobody", laid_decani_voice_nobody), ("decani/voice.kindsOf", laid_decani_voice_kindsOf), ("decani/organ.unknown", laid_decani_organ_unknown), ("decani/organ.nowhere", laid_decani_organ_nowhere), ("decani/organ.ends", laid_decani_organ_ends)] }
def OrganTrueSaid : Prop := organTrueRow.holds Tryd.pinned (OpenSpec.ofChange organTrueSpec)

/-- ITS FALSE NEIGHBOUR: 'it returns false'. Refute it at one input. -/
def organTrueWrong : ChangeSpec := { name := "organTrue", fn := fun _ => fun
  | [d1, d2, d3] => { results := [.lit (.bool false)], args := [d1, d2, d3] }
  | _ => none }
def OrganTrueWrongFalsely : Prop := organTrueRow.holds Tryd.pinned (OpenSpec.ofChange organTrueWrong)

/-- 'decanilaw08.OrganSings': WHATEVER THE INPUT: true; the input reads as it did. -/
def organSingsSpec : ChangeSpec := { name := "organSings", fn := fun _ => fun
  | [d1, d2] => { results := [.lit (.bool true)], args := [d1, d2] }
  | _ => none }
def organSingsRow : OpenClaim := { program := "ytbjdaefdifofkaadoor", sum := "80cf42f7e541bf195a40e75c2c8e3d7ca3e556544bce2461bdb57f8888077355", func := "decani/decanilaw08.OrganSings", spec := "organSings", unfollowed := true, recurses := true, named := ["decani/voice.nobody", "decani/voice.unknown", "decani/organ.unknown", "decani/organ.nowhere", "decani/organ.ends", "decani/voice.kindsOf"], plainKeys := false, apart := false, laid := [("decani/voice.unknown", laid_decani_voice_unknown), ("decani/voice.nobody", laid_decani_voice_nobody), ("decani/voice.kindsOf", laid_decani_voice_kindsOf), ("decani/organ.unknown", laid_decani_organ_unknown), ("decani/organ.nowhere", laid_decani_organ_nowhere), ("decani/organ.ends", laid_decani_organ_ends)] }
def OrganSingsSaid : Prop := organSingsRow.holds Tryd.pinned (OpenSpec.ofChange organSingsSpec)

/-- ITS FALSE NEIGHBOUR: 'it returns false'. Refute it at one input. -/
def organSingsWrong : ChangeSpec := { name := "organSings", fn := fun _ => fun
  | [d1, d2] => { results := [.lit (.bool false)], args := [d1, d2] }
  | _ => none }
def OrganSingsWrongFalsely : Prop := organSingsRow.holds Tryd.pinned (OpenSpec.ofChange organSingsWrong)

/-- 'decanilaw08.OrganEnds': WHATEVER THE INPUT: true; the input reads as it did. -/
def organEndsSpec : ChangeSpec := { name := "organEnds", fn := fun _ => fun
  | [d1, d2] => { results := [.lit (.bool true)], args := [d1, d2] }
  | _ => none }
def organEndsRow : OpenClaim := { program := "ytbjdaefdifofkaadoor", sum := "80cf42f7e541bf195a40e75c2c8e3d7ca3e556544bce2461bdb57f8888077355", func := "decani/decanilaw08.OrganEnds", spec := "organEnds", unfollowed := true, recurses := true, named := ["decani/voice.nobody", "decani/voice.unknown", "decani/organ.unknown", "decani/organ.nowhere", "decani/organ.ends", "decani/voice.kindsOf"], plainKeys := false, apart := false, laid := [("decani/voice.unknown", laid_decani_voice_unknown), ("decani/voice.nobody", laid_decani_voice_nobody), ("decani/voice.kindsOf", laid_decani_voice_kindsOf), ("decani/organ.unknown", laid_decani_organ_unknown), ("decani/organ.nowhere", laid_decani_organ_nowhere), ("decani/organ.ends", laid_decani_organ_ends)] }
def OrganEndsSaid : Prop := organEndsRow.holds Tryd.pinned (OpenSpec.ofChange organEndsSpec)

/-- ITS FALSE NEIGHBOUR: 'it returns false'. Refute it at one input. -/
def organEndsWrong : ChangeSpec := { name := "organEnds", fn := fun _ => fun
  | [d1, d2] => { results := [.lit (.bool false)], args := [d1, d2] }
  | _ => none }
def OrganEndsWrongFalsely : Prop := organEndsRow.holds Tryd.pinned (OpenSpec.ofChange organEndsWrong)

/-- 'decanilaw08.OrganMore': WHATEVER THE INPUT: true; the input reads as it did. -/
def organMoreSpec : ChangeSpec := { name := "organMore", fn := fun _ => fun
  | [d1, d2, d3] => { results := [.lit (.bool true)], args := [d1, d2, d3] }
  | _ => none }
def organMoreRow : OpenClaim := { program := "ytbjdaefdifofkaadoor", sum := "80cf42f7e541bf195a40e75c2c8e3d7ca3e556544bce2461bdb57f8888077355", func := "decani/decanilaw08.OrganMore", spec := "organMore", unfollowed := true, recurses := true, named := ["decani/voice.nobody", "decani/voice.unknown", "decani/organ.unknown", "decani/organ.nowhere", "decani/organ.ends", "decani/voice.kindsOf"], plainKeys := false, apart := false, laid := [("decani/voice.unknown", laid_decani_voice_unknown), ("decani/voice.nobody", laid_decani_voice_nobody), ("decani/voice.kindsOf", laid_decani_voice_kindsOf), ("decani/organ.unknown", laid_decani_organ_unknown), ("decani/organ.nowhere", laid_decani_organ_nowhere), ("decani/organ.ends", laid_decani_organ_ends)] }
def OrganMoreSaid : Prop := organMoreRow.holds Tryd.pinned (OpenSpec.ofChange organMoreSpec)

/-- ITS FALSE NEIGHBOUR: 'it returns false'. Refute it at one input. -/
def organMoreWrong : ChangeSpec := { name := "organMore", fn := fun _ => fun
  | [d1, d2, d3] => { results := [.lit (.bool false)], args := [d1, d2, d3] }
  | _ => none }
def OrganMoreWrongFalsely : Prop := organMoreRow.holds Tryd.pinned (OpenSpec.ofChange organMoreWrong)

/-- 'decanilaw08.OrganTurn': WHATEVER THE INPUT: true; the input reads as it did. -/
def organTurnSpec : ChangeSpec := { name := "organTurn", fn := fun _ => fun
  | [d1, d2] => { results := [.lit (.bool true)], args := [d1, d2] }
  | _ => none }
def organTurnRow : OpenClaim := { program := "ytbjdaefdifofkaadoor", sum := "80cf42f7e541bf195a40e75c2c8e3d7ca3e556544bce2461bdb57f8888077355", func := "decani/decanilaw08.OrganTurn", spec := "organTurn", unfollowed := true, recurses := true, named := ["decani/voice.nobody", "decani/voice.unknown", "decani/organ.unknown", "decani/organ.nowhere", "decani/organ.ends", "decani/voice.kindsOf"], plainKeys := false, apart := false, laid := [("decani/voice.unknown", laid_decani_voice_unknown), ("decani/voice.nobody", laid_decani_voice_nobody), ("decani/voice.kindsOf", laid_decani_voice_kindsOf), ("decani/organ.unknown", laid_decani_organ_unknown), ("decani/organ.nowhere", laid_decani_organ_nowhere), ("decani/organ.ends", laid_decani_organ_ends)] }
def OrganTurnSaid : Prop := organTurnRow.holds Tryd.pinned (OpenSpec.ofChange organTurnSpec)

/-- ITS FALSE NEIGHBOUR: 'it returns false'. Refute it at one input. -/
def organTurnWrong : ChangeSpec := { name := "organTurn", fn := fun _ => fun
  | [d1, d2] => { results := [.lit (.bool false)], args := [d1, d2] }
  | _ => none }
def OrganTurnWrongFalsely : Prop := organTurnRow.holds Tryd.pinned (OpenSpec.ofChange organTurnWrong)

/-- 'decanilaw08.OrganLess': WHATEVER THE INPUT: true; the input reads as it did. -/
def organLessSpec : ChangeSpec := { name := "organLess", fn := fun _ => fun
  | [d1, d2, d3] => { results := [.lit (.bool true)], args := [d1, d2, d3] }
  | _ => none }
def organLessRow : OpenClaim := { program := "ytbjdaefdifofkaadoor", sum := "80cf42f7e541bf195a40e75c2c8e3d7ca3e556544bce2461bdb57f8888077355", func := "decani/decanilaw08.OrganLess", spec := "organLess", unfollowed := true, recurses := true, named := ["decani/voice.nobody", "decani/voice.unknown", "decani/organ.unknown", "decani/organ.nowhere", "decani/organ.ends", "decani/voice.kindsOf"], plainKeys := false, apart := false, laid := [("decani/voice.unknown", laid_decani_voice_unknown), ("decani/voice.nobody", laid_decani_voice_nobody), ("decani/voice.kindsOf", laid_decani_voice_kindsOf), ("decani/organ.unknown", laid_decani_organ_unknown), ("decani/organ.nowhere", laid_decani_organ_nowhere), ("decani/organ.ends", laid_decani_organ_ends)] }
def OrganLessSaid : Prop := organLessRow.holds Tryd.pinned (OpenSpec.ofChange organLessSpec)

/-- ITS FALSE NEIGHBOUR: 'it returns false'. Refute it at one input. -/
def organLessWrong : ChangeSpec := { name := "organLess", fn := fun _ => fun
  | [d1, d2, d3] => { results := [.lit (.bool false)], args := [d1, d2, d3] }
  | _ => none }
def OrganLessWrongFalsely : Prop := organLessRow.holds Tryd.pinned (OpenSpec.ofChange organLessWrong)

/-- 'decanilaw08.OrganShift': WHATEVER THE INPUT: true; the input reads as it did. -/
def organShiftSpec : ChangeSpec := { name := "organShift", fn := fun _ => fun
  | [d1, d2] => { results := [.lit (.bool true)], args := [d1, d2] }
  | _ => none }
def organShiftRow : OpenClaim := { program := "ytbjdaefdifofkaadoor", sum := "80cf42f7e541bf195a40e75c2c8e3d7ca3e556544bce2461bdb57f8888077355", func := "decani/decanilaw08.OrganShift", spec := "organShift", unfollowed := true, recurses := true, named := ["decani/voice.nobody", "decani/voice.unknown", "decani/organ.unknown", "decani/organ.nowhere", "decani/organ.ends", "decani/voice.kindsOf"], plainKeys := false, apart := false, laid := [("decani/voice.unknown", laid_decani_voice_unknown), ("decani/voice.nobody", laid_decani_voice_nobody), ("decani/voice.kindsOf", laid_decani_voice_kindsOf), ("decani/organ.unknown", laid_decani_organ_unknown), ("decani/organ.nowhere", laid_decani_organ_nowhere), ("decani/organ.ends", laid_decani_organ_ends)] }
def OrganShiftSaid : Prop := organShiftRow.holds Tryd.pinned (OpenSpec.ofChange organShiftSpec)

/-- ITS FALSE NEIGHBOUR: 'it returns false'. Refute it at one input. -/
def organShiftWrong : ChangeSpec := { name := "organShift", fn := fun _ => fun
  | [d1, d2] => { results := [.lit (.bool false)], args := [d1, d2] }
  | _ => none }
def OrganShiftWrongFalsely : Prop := organShiftRow.holds Tryd.pinned (OpenSpec.ofChange organShiftWrong)

/-- 'decanilaw08.OrganWrong': WHATEVER THE INPUT: true; the input reads as it did. -/
def organWrongSpec : ChangeSpec := { name := "organWrong", fn := fun _ => fun
  | [d1, d2] => { results := [.lit (.bool true)], args := [d1, d2] }
  | _ => none }
def organWrongRow : OpenClaim := { program := "ytbjdaefdifofkaadoor", sum := "80cf42f7e541bf195a40e75c2c8e3d7ca3e556544bce2461bdb57f8888077355", func := "decani/decanilaw08.OrganWrong", spec := "organWrong", unfollowed := true, recurses := true, named := ["decani/organ.unknown", "decani/organ.nowhere", "decani/voice.nobody", "decani/voice.unknown", "decani/organ.ends", "decani/voice.kindsOf"], plainKeys := false, apart := false, laid := [("decani/voice.unknown", laid_decani_voice_unknown), ("decani/voice.nobody", laid_decani_voice_nobody), ("decani/voice.kindsOf", laid_decani_voice_kindsOf), ("decani/organ.unknown", laid_decani_organ_unknown), ("decani/organ.nowhere", laid_decani_organ_nowhere), ("decani/organ.ends", laid_decani_organ_ends)] }
def OrganWrongSaid : Prop := organWrongRow.holds Tryd.pinned (OpenSpec.ofChange organWrongSpec)

/-- ITS FALSE NEIGHBOUR: 'it returns false'. Refute it at one input. -/
def organWrongWrong : ChangeSpec := { name := "organWrong", fn := fun _ => fun
  | [d1, d2] => { results := [.lit (.bool false)], args := [d1, d2] }
  | _ => none }
def OrganWrongWrongFalsely : Prop := organWrongRow.holds Tryd.pinned (OpenSpec.ofChange organWrongWrong)

/-- 'decanilaw08.OrganKnown': WHATEVER THE INPUT: true; the input reads as it did. -/
def organKnownSpec : ChangeSpec := { name := "organKnown", fn := fun _ => fun
  | [] => { results := [.lit (.bool true)], args := [] }
  | _ => none }
def organKnownRow : OpenClaim := { program := "ytbjdaefdifofkaadoor", sum := "80cf42f7e541bf195a40e75c2c8e3d7ca3e556544bce2461bdb57f8888077355", func := "decani/decanilaw08.OrganKnown", spec := "organKnown", unfollowed := true, recurses := true, named := ["decani/voice.nobody", "decani/voice.unknown", "decani/organ.unknown", "decani/organ.nowhere", "decani/organ.ends", "decani/voice.kindsOf"], plainKeys := false, apart := false, laid := [("decani/voice.unknown", laid_decani_voice_unknown), ("decani/voice.nobody", laid_decani_voice_nobody), ("decani/voice.kindsOf", laid_decani_voice_kindsOf), ("decani/organ.unknown", laid_decani_organ_unknown), ("decani/organ.nowhere", laid_decani_organ_nowhere), ("decani/organ.ends", laid_decani_organ_ends)] }
def OrganKnownSaid : Prop := organKnownRow.holds Tryd.pinned (OpenSpec.ofChange organKnownSpec)

/-- ITS FALSE NEIGHBOUR: 'it returns false'. Refute it at one input. -/
def organKnownWrong : ChangeSpec := { name := "organKnown", fn := fun _ => fun
  | [] => { results := [.lit (.bool false)], args := [] }
  | _ => none }
def OrganKnownWrongFalsely : Prop := organKnownRow.holds Tryd.pinned (OpenSpec.ofChange organKnownWrong)

/- THE SECOND FORM. 'bulk': how many values and letters a reading holds, each counted each time it is reached (what is shared counts as often as it is met; a slice's spare places count too). A statement '..UptoSaid' is the law's where the arguments, and the package variables that the reading takes, are together of bulk at most 1048576: NARROWER than '..Said'. Prove '..Said' where nothing that the law and all that it calls make is longer than what came in: it says more and counts as full. Else prove '..UptoSaid'. A law counts once. -/
mutual
def uptoBulk {H : Type} : DataW H → Nat
  | .lit (.string bytes) => bytes.length + 1
  | .lit _ => 1
  | .nil => 1
  | .ptr d => uptoBulk d + 1
  | .slice elems spare => uptoBulkAll elems + uptoBulkAll spare + 1
  | .agg parts => uptoBulkAll parts + 1
  | .iface _ d => uptoBulk d + 1
  | .map entries => uptoBulkEntries entries + 1
  | .held _ => 1
def uptoBulkAll {H : Type} : List (DataW H) → Nat
  | [] => 0
  | d :: r => uptoBulk d + uptoBulkAll r
def uptoBulkEntries {H : Type} : List (Lit × DataW H) → Nat
  | [] => 0
  | x :: r => uptoBulkEntry x + uptoBulkEntries r
def uptoBulkEntry {H : Type} : Lit × DataW H → Nat
  | (.string bytes, d) => bytes.length + uptoBulk d + 1
  | (_, d) => uptoBulk d + 1
 end
def uptoSmall : (H : Type) → List (DataW H) → Bool := fun _ ds => decide (uptoBulkAll ds ≤ 1048576)
def OpenSpec.upto (s : _root_.Go.ChangeSpec) : _root_.Go.OpenSpec := { _root_.Go.OpenSpec.ofChange s with cond := some uptoSmall }

/-- 'decanilaw08.OrganPitches', WHERE WHAT IT READS IS OF BULK AT MOST 1048576: true; the input reads as it did. -/
def organPitchesUptoRow : OpenClaim := { program := "ytbjdaefdifofkaadoor", sum := "80cf42f7e541bf195a40e75c2c8e3d7ca3e556544bce2461bdb57f8888077355", func := "decani/decanilaw08.OrganPitches", spec := "organPitches", unfollowed := true, recurses := true, named := ["decani/voice.nobody", "decani/voice.unknown", "decani/organ.unknown", "decani/organ.nowhere", "decani/organ.ends", "decani/voice.kindsOf"], plainKeys := false, apart := false, laid := [("decani/voice.unknown", laid_decani_voice_unknown), ("decani/voice.nobody", laid_decani_voice_nobody), ("decani/voice.kindsOf", laid_decani_voice_kindsOf), ("decani/organ.unknown", laid_decani_organ_unknown), ("decani/organ.nowhere", laid_decani_organ_nowhere), ("decani/organ.ends", laid_decani_organ_ends)], narrowed := true }
def OrganPitchesUptoSaid : Prop := organPitchesUptoRow.holds Tryd.pinned (OpenSpec.upto organPitchesSpec)

/-- 'decanilaw08.OrganMoves', WHERE WHAT IT READS IS OF BULK AT MOST 1048576: true; the input reads as it did. -/
def organMovesUptoRow : OpenClaim := { program := "ytbjdaefdifofkaadoor", sum := "80cf42f7e541bf195a40e75c2c8e3d7ca3e556544bce2461bdb57f8888077355", func := "decani/decanilaw08.OrganMoves", spec := "organMoves", unfollowed := true, recurses := true, named := ["decani/voice.nobody", "decani/voice.unknown", "decani/organ.unknown", "decani/organ.nowhere", "decani/voice.kindsOf", "decani/organ.ends"], plainKeys := false, apart := false, laid := [("decani/voice.unknown", laid_decani_voice_unknown), ("decani/voice.nobody", laid_decani_voice_nobody), ("decani/voice.kindsOf", laid_decani_voice_kindsOf), ("decani/organ.unknown", laid_decani_organ_unknown), ("decani/organ.nowhere", laid_decani_organ_nowhere), ("decani/organ.ends", laid_decani_organ_ends)], narrowed := true }
def OrganMovesUptoSaid : Prop := organMovesUptoRow.holds Tryd.pinned (OpenSpec.upto organMovesSpec)

/-- 'decanilaw08.OrganFits', WHERE WHAT IT READS IS OF BULK AT MOST 1048576: true; the input reads as it did. -/
def organFitsUptoRow : OpenClaim := { program := "ytbjdaefdifofkaadoor", sum := "80cf42f7e541bf195a40e75c2c8e3d7ca3e556544bce2461bdb57f8888077355", func := "decani/decanilaw08.OrganFits", spec := "organFits", unfollowed := true, recurses := true, named := ["decani/voice.nobody", "decani/voice.unknown", "decani/organ.unknown", "decani/organ.nowhere", "decani/organ.ends", "decani/voice.kindsOf"], plainKeys := false, apart := false, laid := [("decani/voice.unknown", laid_decani_voice_unknown), ("decani/voice.nobody", laid_decani_voice_nobody), ("decani/voice.kindsOf", laid_decani_voice_kindsOf), ("decani/organ.unknown", laid_decani_organ_unknown), ("decani/organ.nowhere", laid_decani_organ_nowhere), ("decani/organ.ends", laid_decani_organ_ends)], narrowed := true }
def OrganFitsUptoSaid : Prop := organFitsUptoRow.holds Tryd.pinned (OpenSpec.upto organFitsSpec)

/-- 'decanilaw08.OrganTrue', WHERE WHAT IT READS IS OF BULK AT MOST 1048576: true; the input reads as it did. -/
def organTrueUptoRow : OpenClaim := { program := "ytbjdaefdifofkaadoor", sum := "80cf42f7e541bf195a40e75c2c8e3d7ca3e556544bce2461bdb57f8888077355", func := "decani/decanilaw08.OrganTrue", spec := "organTrue", unfollowed := true, recurses := true, named := ["decani/voice.nobody", "decani/voice.unknown", "decani/organ.unknown", "decani/organ.nowhere", "decani/organ.ends", "decani/voice.kindsOf"], plainKeys := false, apart := false, laid := [("decani/voice.unknown", laid_decani_voice_unknown), ("decani/voice.nobody", laid_decani_voice_nobody), ("decani/voice.kindsOf", laid_decani_voice_kindsOf), ("decani/organ.unknown", laid_decani_organ_unknown), ("decani/organ.nowhere", laid_decani_organ_nowhere), ("decani/organ.ends", laid_decani_organ_ends)], narrowed := true }
def OrganTrueUptoSaid : Prop := organTrueUptoRow.holds Tryd.pinned (OpenSpec.upto organTrueSpec)

/-- 'decanilaw08.OrganSings', WHERE WHAT IT READS IS OF BULK AT MOST 1048576: true; the input reads as it did. -/
def organSingsUptoRow : OpenClaim := { program := "ytbjdaefdifofkaadoor", sum := "80cf42f7e541bf195a40e75c2c8e3d7ca3e556544bce2461bdb57f8888077355", func := "decani/decanilaw08.OrganSings", spec := "organSings", unfollowed := true, recurses := true, named := ["decani/voice.nobody", "decani/voice.unknown", "decani/organ.unknown", "decani/organ.nowhere", "decani/organ.ends", "decani/voice.kindsOf"], plainKeys := false, apart := false, laid := [("decani/voice.unknown", laid_decani_voice_unknown), ("decani/voice.nobody", laid_decani_voice_nobody), ("decani/voice.kindsOf", laid_decani_voice_kindsOf), ("decani/organ.unknown", laid_decani_organ_unknown), ("decani/organ.nowhere", laid_decani_organ_nowhere), ("decani/organ.ends", laid_decani_organ_ends)], narrowed := true }
def OrganSingsUptoSaid : Prop := organSingsUptoRow.holds Tryd.pinned (OpenSpec.upto organSingsSpec)

/-- 'decanilaw08.OrganEnds', WHERE WHAT IT READS IS OF BULK AT MOST 1048576: true; the input reads as it did. -/
def organEndsUptoRow : OpenClaim := { program := "ytbjdaefdifofkaadoor", sum := "80cf42f7e541bf195a40e75c2c8e3d7ca3e556544bce2461bdb57f8888077355", func := "decani/decanilaw08.OrganEnds", spec := "organEnds", unfollowed := true, recurses := true, named := ["decani/voice.nobody", "decani/voice.unknown", "decani/organ.unknown", "decani/organ.nowhere", "decani/organ.ends", "decani/voice.kindsOf"], plainKeys := false, apart := false, laid := [("decani/voice.unknown", laid_decani_voice_unknown), ("decani/voice.nobody", laid_decani_voice_nobody), ("decani/voice.kindsOf", laid_decani_voice_kindsOf), ("decani/organ.unknown", laid_decani_organ_unknown), ("decani/organ.nowhere", laid_decani_organ_nowhere), ("decani/organ.ends", laid_decani_organ_ends)], narrowed := true }
def OrganEndsUptoSaid : Prop := organEndsUptoRow.holds Tryd.pinned (OpenSpec.upto organEndsSpec)

/-- 'decanilaw08.OrganMore', WHERE WHAT IT READS IS OF BULK AT MOST 1048576: true; the input reads as it did. -/
def organMoreUptoRow : OpenClaim := { program := "ytbjdaefdifofkaadoor", sum := "80cf42f7e541bf195a40e75c2c8e3d7ca3e556544bce2461bdb57f8888077355", func := "decani/decanilaw08.OrganMore", spec := "organMore", unfollowed := true, recurses := true, named := ["decani/voice.nobody", "decani/voice.unknown", "decani/organ.unknown", "decani/organ.nowhere", "decani/organ.ends", "decani/voice.kindsOf"], plainKeys := false, apart := false, laid := [("decani/voice.unknown", laid_decani_voice_unknown), ("decani/voice.nobody", laid_decani_voice_nobody), ("decani/voice.kindsOf", laid_decani_voice_kindsOf), ("decani/organ.unknown", laid_decani_organ_unknown), ("decani/organ.nowhere", laid_decani_organ_nowhere), ("decani/organ.ends", laid_decani_organ_ends)], narrowed := true }
def OrganMoreUptoSaid : Prop := organMoreUptoRow.holds Tryd.pinned (OpenSpec.upto organMoreSpec)

/-- 'decanilaw08.OrganTurn', WHERE WHAT IT READS IS OF BULK AT MOST 1048576: true; the input reads as it did. -/
def organTurnUptoRow : OpenClaim := { program := "ytbjdaefdifofkaadoor", sum := "80cf42f7e541bf195a40e75c2c8e3d7ca3e556544bce2461bdb57f8888077355", func := "decani/decanilaw08.OrganTurn", spec := "organTurn", unfollowed := true, recurses := true, named := ["decani/voice.nobody", "decani/voice.unknown", "decani/organ.unknown", "decani/organ.nowhere", "decani/organ.ends", "decani/voice.kindsOf"], plainKeys := false, apart := false, laid := [("decani/voice.unknown", laid_decani_voice_unknown), ("decani/voice.nobody", laid_decani_voice_nobody), ("decani/voice.kindsOf", laid_decani_voice_kindsOf), ("decani/organ.unknown", laid_decani_organ_unknown), ("decani/organ.nowhere", laid_decani_organ_nowhere), ("decani/organ.ends", laid_decani_organ_ends)], narrowed := true }
def OrganTurnUptoSaid : Prop := organTurnUptoRow.holds Tryd.pinned (OpenSpec.upto organTurnSpec)

/-- 'decanilaw08.OrganLess', WHERE WHAT IT READS IS OF BULK AT MOST 1048576: true; the input reads as it did. -/
def organLessUptoRow : OpenClaim := { program := "ytbjdaefdifofkaadoor", sum := "80cf42f7e541bf195a40e75c2c8e3d7ca3e556544bce2461bdb57f8888077355", func := "decani/decanilaw08.OrganLess", spec := "organLess", unfollowed := true, recurses := true, named := ["decani/voice.nobody", "decani/voice.unknown", "decani/organ.unknown", "decani/organ.nowhere", "decani/organ.ends", "decani/voice.kindsOf"], plainKeys := false, apart := false, laid := [("decani/voice.unknown", laid_decani_voice_unknown), ("decani/voice.nobody", laid_decani_voice_nobody), ("decani/voice.kindsOf", laid_decani_voice_kindsOf), ("decani/organ.unknown", laid_decani_organ_unknown), ("decani/organ.nowhere", laid_decani_organ_nowhere), ("decani/organ.ends", laid_decani_organ_ends)], narrowed := true }
def OrganLessUptoSaid : Prop := organLessUptoRow.holds Tryd.pinned (OpenSpec.upto organLessSpec)

/-- 'decanilaw08.OrganShift', WHERE WHAT IT READS IS OF BULK AT MOST 1048576: true; the input reads as it did. -/
def organShiftUptoRow : OpenClaim := { program := "ytbjdaefdifofkaadoor", sum := "80cf42f7e541bf195a40e75c2c8e3d7ca3e556544bce2461bdb57f8888077355", func := "decani/decanilaw08.OrganShift", spec := "organShift", unfollowed := true, recurses := true, named := ["decani/voice.nobody", "decani/voice.unknown", "decani/organ.unknown", "decani/organ.nowhere", "decani/organ.ends", "decani/voice.kindsOf"], plainKeys := false, apart := false, laid := [("decani/voice.unknown", laid_decani_voice_unknown), ("decani/voice.nobody", laid_decani_voice_nobody), ("decani/voice.kindsOf", laid_decani_voice_kindsOf), ("decani/organ.unknown", laid_decani_organ_unknown), ("decani/organ.nowhere", laid_decani_organ_nowhere), ("decani/organ.ends", laid_decani_organ_ends)], narrowed := true }
def OrganShiftUptoSaid : Prop := organShiftUptoRow.holds Tryd.pinned (OpenSpec.upto organShiftSpec)

/-- 'decanilaw08.OrganWrong', WHERE WHAT IT READS IS OF BULK AT MOST 1048576: true; the input reads as it did. -/
def organWrongUptoRow : OpenClaim := { program := "ytbjdaefdifofkaadoor", sum := "80cf42f7e541bf195a40e75c2c8e3d7ca3e556544bce2461bdb57f8888077355", func := "decani/decanilaw08.OrganWrong", spec := "organWrong", unfollowed := true, recurses := true, named := ["decani/organ.unknown", "decani/organ.nowhere", "decani/voice.nobody", "decani/voice.unknown", "decani/organ.ends", "decani/voice.kindsOf"], plainKeys := false, apart := false, laid := [("decani/voice.unknown", laid_decani_voice_unknown), ("decani/voice.nobody", laid_decani_voice_nobody), ("decani/voice.kindsOf", laid_decani_voice_kindsOf), ("decani/organ.unknown", laid_decani_organ_unknown), ("decani/organ.nowhere", laid_decani_organ_nowhere), ("decani/organ.ends", laid_decani_organ_ends)], narrowed := true }
def OrganWrongUptoSaid : Prop := organWrongUptoRow.holds Tryd.pinned (OpenSpec.upto organWrongSpec)

/-- 'decanilaw08.OrganKnown', WHERE WHAT IT READS IS OF BULK AT MOST 1048576: true; the input reads as it did. -/
def organKnownUptoRow : OpenClaim := { program := "ytbjdaefdifofkaadoor", sum := "80cf42f7e541bf195a40e75c2c8e3d7ca3e556544bce2461bdb57f8888077355", func := "decani/decanilaw08.OrganKnown", spec := "organKnown", unfollowed := true, recurses := true, named := ["decani/voice.nobody", "decani/voice.unknown", "decani/organ.unknown", "decani/organ.nowhere", "decani/organ.ends", "decani/voice.kindsOf"], plainKeys := false, apart := false, laid := [("decani/voice.unknown", laid_decani_voice_unknown), ("decani/voice.nobody", laid_decani_voice_nobody), ("decani/voice.kindsOf", laid_decani_voice_kindsOf), ("decani/organ.unknown", laid_decani_organ_unknown), ("decani/organ.nowhere", laid_decani_organ_nowhere), ("decani/organ.ends", laid_decani_organ_ends)], narrowed := true }
def OrganKnownUptoSaid : Prop := organKnownUptoRow.holds Tryd.pinned (OpenSpec.upto organKnownSpec)

end Rows
end Go.Proofs.YtbjdaefdifofkaaDoor
