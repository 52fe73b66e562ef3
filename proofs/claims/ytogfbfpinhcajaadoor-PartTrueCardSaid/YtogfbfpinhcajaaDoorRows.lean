/-
  NARROWER THAN 'FOR EVERY INPUT', by the rows' own cells (each row's printed sentence says how): PartNotes: laid · PartAsks: laid · PartFits: laid · PartTrue: laid · PartCounts: laid · PartMore: laid · PartEasier: laid · PartRaised: laid · PartAsk: laid · PartWrong: laid · PartBar: laid · PartKnown: laid.
  DERIVED. THE GIVEN ROWS OF THIS SEAT. 12 by the template 'for every input the law returns true; each argument reads behind the call as it read before'; 0 by the template 'total and deterministic' (their statements: YtogfbfpinhcajaaDoorTotals.lean).
  GIVEN WITH THE SEED: the statements are not yours to turn. If you find one false, say at which input.
  Laid BY PROGRAM, IN A SANDBOX (cutbox-rows.mjs): the forced cells as the released guide's own fill.sh prints them over the translation eee2e792bf6e8b35… (all of the seat's roots in one cut). By AI agents, Wed Nov 11 2026. No macro, syntax, notation, axiom, sorry.
-/
import Derived.Test.YtogfbfpinhcajaaDoorChecked
import GoSem.Claim
import GoSem.ClaimJoined
import GoSem.ClaimMapViews
import Derived.JoinedTies
import Derived.KernelRfl
namespace Go.Proofs.YtogfbfpinhcajaaDoor
/- THE CELL 'sum', in the pinned program and in every row, IS THE sha256 OF THE DUMP (.gsa) THAT YtogfbfpinhcajaaDoorProg.lean LOADS. Nothing in Lean hashes anything: it is a label: what it is worth is what the hold of that sum in a sandbox is worth. -/
noncomputable def Tryd.pinned : Pinned := { name := "ytogfbfpinhcajaadoor", sum := "eee2e792bf6e8b35f09cca7dcc6f17fca5913195642725b4a88cbde1be4be6c6", checked := Tryd.checked }
namespace Rows
def none {H : Type} : Left H := { results := [], args := [] }

/- WHAT THE LISTED PACKAGE-LEVEL VARIABLES READ AS WHEN THE CALL BEGINS. Each datum BY PROGRAM (the guide's laid-datum.mjs) off the statement by which the dump's own 'gosem.cut.vars' lays the variable. In a bare row this is a premise. The card (YtogfbfpinhcajaaDoorCards.lean) ties it to the program's text. -/
def laid_decani_part_silence {H : Type} : DataW H := .agg [.lit (.int .i64 (-1)), .lit (.int .i64 (-1)), .lit (.int .i64 (-1))]
def laid_decani_part_nowhere {H : Type} : DataW H := .agg [.lit (.int .i64 (-1)), .lit (.int .i64 (-1))]
def laid_decani_part_measures {H : Type} : DataW H := .iface "func table" (.agg [.iface "func" (.lit (.string [40, 100, 101, 99, 97, 110, 105, 47, 112, 97, 114, 116, 46, 119, 97, 121, 41, 46, 115, 116, 101, 112])), .iface "func" (.lit (.string [40, 100, 101, 99, 97, 110, 105, 47, 112, 97, 114, 116, 46, 119, 97, 121, 41, 46, 97, 98, 111, 118, 101]))])

/-- 'decanilaw05.PartNotes': WHATEVER THE INPUT: true; the input reads as it did. -/
def partNotesSpec : ChangeSpec := { name := "partNotes", fn := fun _ => fun
  | [d1, d2] => { results := [.lit (.bool true)], args := [d1, d2] }
  | _ => none }
def partNotesRow : OpenClaim := { program := "ytogfbfpinhcajaadoor", sum := "eee2e792bf6e8b35f09cca7dcc6f17fca5913195642725b4a88cbde1be4be6c6", func := "decani/decanilaw05.PartNotes", spec := "partNotes", unfollowed := true, recurses := true, named := ["decani/part.nowhere", "decani/part.silence", "decani/part.measures"], plainKeys := false, apart := false, laid := [("decani/part.silence", laid_decani_part_silence), ("decani/part.nowhere", laid_decani_part_nowhere), ("decani/part.measures", laid_decani_part_measures)] }
def PartNotesSaid : Prop := partNotesRow.holds Tryd.pinned (OpenSpec.ofChange partNotesSpec)

/-- ITS FALSE NEIGHBOUR: 'it returns false'. Refute it at one input. -/
def partNotesWrong : ChangeSpec := { name := "partNotes", fn := fun _ => fun
  | [d1, d2] => { results := [.lit (.bool false)], args := [d1, d2] }
  | _ => none }
def PartNotesWrongFalsely : Prop := partNotesRow.holds Tryd.pinned (OpenSpec.ofChange partNotesWrong)

/-- 'decanilaw05.PartAsks': WHATEVER THE INPUT: true; the input reads as it did. -/
def partAsksSpec : ChangeSpec := { name := "partAsks", fn := fun _ => fun
  | [d] => { results := [.lit (.bool true)], args := [d] }
  | _ => none }
def partAsksRow : OpenClaim := { program := "ytogfbfpinhcajaadoor", sum := "eee2e792bf6e8b35f09cca7dcc6f17fca5913195642725b4a88cbde1be4be6c6", func := "decani/decanilaw05.PartAsks", spec := "partAsks", unfollowed := true, recurses := true, named := ["decani/part.nowhere", "decani/part.silence", "decani/part.measures"], plainKeys := false, apart := false, laid := [("decani/part.silence", laid_decani_part_silence), ("decani/part.nowhere", laid_decani_part_nowhere), ("decani/part.measures", laid_decani_part_measures)] }
def PartAsksSaid : Prop := partAsksRow.holds Tryd.pinned (OpenSpec.ofChange partAsksSpec)

/-- ITS FALSE NEIGHBOUR: 'it returns false'. Refute it at one input. -/
def partAsksWrong : ChangeSpec := { name := "partAsks", fn := fun _ => fun
  | [d] => { results := [.lit (.bool false)], args := [d] }
  | _ => none }
def PartAsksWrongFalsely : Prop := partAsksRow.holds Tryd.pinned (OpenSpec.ofChange partAsksWrong)

/-- 'decanilaw05.PartFits': WHATEVER THE INPUT: true; the input reads as it did. -/
def partFitsSpec : ChangeSpec := { name := "partFits", fn := fun _ => fun
  | [d1, d2, d3] => { results := [.lit (.bool true)], args := [d1, d2, d3] }
  | _ => none }
def partFitsRow : OpenClaim := { program := "ytogfbfpinhcajaadoor", sum := "eee2e792bf6e8b35f09cca7dcc6f17fca5913195642725b4a88cbde1be4be6c6", func := "decani/decanilaw05.PartFits", spec := "partFits", unfollowed := true, recurses := true, named := ["decani/part.nowhere", "decani/part.silence", "decani/part.measures"], plainKeys := false, apart := false, laid := [("decani/part.silence", laid_decani_part_silence), ("decani/part.nowhere", laid_decani_part_nowhere), ("decani/part.measures", laid_decani_part_measures)] }
def PartFitsSaid : Prop := partFitsRow.holds Tryd.pinned (OpenSpec.ofChange partFitsSpec)

/-- ITS FALSE NEIGHBOUR: 'it returns false'. Refute it at one input. -/
def partFitsWrong : ChangeSpec := { name := "partFits", fn := fun _ => fun
  | [d1, d2, d3] => { results := [.lit (.bool false)], args := [d1, d2, d3] }
  | _ => none }
def PartFitsWrongFalsely : Prop := partFitsRow.holds Tryd.pinned (OpenSpec.ofChange partFitsWrong)

/-- 'decanilaw05.PartTrue': WHATEVER THE INPUT: true; the input reads as it did. -/
def partTrueSpec : ChangeSpec := { name := "partTrue", fn := fun _ => fun
  | [d1, d2] => { results := [.lit (.bool true)], args := [d1, d2] }
  | _ => none }
def partTrueRow : OpenClaim := { program := "ytogfbfpinhcajaadoor", sum := "eee2e792bf6e8b35f09cca7dcc6f17fca5913195642725b4a88cbde1be4be6c6", func := "decani/decanilaw05.PartTrue", spec := "partTrue", unfollowed := true, recurses := true, named := ["decani/part.nowhere", "decani/part.silence", "decani/part.measures"], plainKeys := false, apart := false, laid := [("decani/part.silence", laid_decani_part_silence), ("decani/part.nowhere", laid_decani_part_nowhere), ("decani/part.measures", laid_decani_part_measures)] }
def PartTrueSaid : Prop := partTrueRow.holds Tryd.pinned (OpenSpec.ofChange partTrueSpec)

/-- ITS FALSE NEIGHBOUR: 'it returns false'. Refute it at one input. -/
def partTrueWrong : ChangeSpec := { name := "partTrue", fn := fun _ => fun
  | [d1, d2] => { results := [.lit (.bool false)], args := [d1, d2] }
  | _ => none }
def PartTrueWrongFalsely : Prop := partTrueRow.holds Tryd.pinned (OpenSpec.ofChange partTrueWrong)

/-- 'decanilaw05.PartCounts': WHATEVER THE INPUT: true; the input reads as it did. -/
def partCountsSpec : ChangeSpec := { name := "partCounts", fn := fun _ => fun
  | [d1, d2] => { results := [.lit (.bool true)], args := [d1, d2] }
  | _ => none }
def partCountsRow : OpenClaim := { program := "ytogfbfpinhcajaadoor", sum := "eee2e792bf6e8b35f09cca7dcc6f17fca5913195642725b4a88cbde1be4be6c6", func := "decani/decanilaw05.PartCounts", spec := "partCounts", unfollowed := true, recurses := true, named := ["decani/part.nowhere", "decani/part.silence", "decani/part.measures"], plainKeys := false, apart := false, laid := [("decani/part.silence", laid_decani_part_silence), ("decani/part.nowhere", laid_decani_part_nowhere), ("decani/part.measures", laid_decani_part_measures)] }
def PartCountsSaid : Prop := partCountsRow.holds Tryd.pinned (OpenSpec.ofChange partCountsSpec)

/-- ITS FALSE NEIGHBOUR: 'it returns false'. Refute it at one input. -/
def partCountsWrong : ChangeSpec := { name := "partCounts", fn := fun _ => fun
  | [d1, d2] => { results := [.lit (.bool false)], args := [d1, d2] }
  | _ => none }
def PartCountsWrongFalsely : Prop := partCountsRow.holds Tryd.pinned (OpenSpec.ofChange partCountsWrong)

/-- 'decanilaw05.PartMore': WHATEVER THE INPUT: true; the input reads as it did. -/
def partMoreSpec : ChangeSpec := { name := "partMore", fn := fun _ => fun
  | [d1, d2, d3] => { results := [.lit (.bool true)], args := [d1, d2, d3] }
  | _ => none }
def partMoreRow : OpenClaim := { program := "ytogfbfpinhcajaadoor", sum := "eee2e792bf6e8b35f09cca7dcc6f17fca5913195642725b4a88cbde1be4be6c6", func := "decani/decanilaw05.PartMore", spec := "partMore", unfollowed := true, recurses := true, named := ["decani/part.nowhere", "decani/part.silence", "decani/part.measures"], plainKeys := false, apart := false, laid := [("decani/part.silence", laid_decani_part_silence), ("decani/part.nowhere", laid_decani_part_nowhere), ("decani/part.measures", laid_decani_part_measures)] }
def PartMoreSaid : Prop := partMoreRow.holds Tryd.pinned (OpenSpec.ofChange partMoreSpec)

/-- ITS FALSE NEIGHBOUR: 'it returns false'. Refute it at one input. -/
def partMoreWrong : ChangeSpec := { name := "partMore", fn := fun _ => fun
  | [d1, d2, d3] => { results := [.lit (.bool false)], args := [d1, d2, d3] }
  | _ => none }
def PartMoreWrongFalsely : Prop := partMoreRow.holds Tryd.pinned (OpenSpec.ofChange partMoreWrong)

/-- 'decanilaw05.PartEasier': WHATEVER THE INPUT: true; the input reads as it did. -/
def partEasierSpec : ChangeSpec := { name := "partEasier", fn := fun _ => fun
  | [d1, d2] => { results := [.lit (.bool true)], args := [d1, d2] }
  | _ => none }
def partEasierRow : OpenClaim := { program := "ytogfbfpinhcajaadoor", sum := "eee2e792bf6e8b35f09cca7dcc6f17fca5913195642725b4a88cbde1be4be6c6", func := "decani/decanilaw05.PartEasier", spec := "partEasier", unfollowed := true, recurses := true, named := ["decani/part.nowhere", "decani/part.silence", "decani/part.measures"], plainKeys := false, apart := false, laid := [("decani/part.silence", laid_decani_part_silence), ("decani/part.nowhere", laid_decani_part_nowhere), ("decani/part.measures", laid_decani_part_measures)] }
def PartEasierSaid : Prop := partEasierRow.holds Tryd.pinned (OpenSpec.ofChange partEasierSpec)

/-- ITS FALSE NEIGHBOUR: 'it returns false'. Refute it at one input. -/
def partEasierWrong : ChangeSpec := { name := "partEasier", fn := fun _ => fun
  | [d1, d2] => { results := [.lit (.bool false)], args := [d1, d2] }
  | _ => none }
def PartEasierWrongFalsely : Prop := partEasierRow.holds Tryd.pinned (OpenSpec.ofChange partEasierWrong)

/-- 'decanilaw05.PartRaised': WHATEVER THE INPUT: true; the input reads as it did. -/
def partRaisedSpec : ChangeSpec := { name := "partRaised", fn := fun _ => fun
  | [d1, d2] => { results := [.lit (.bool true)], args := [d1, d2] }
  | _ => none }
def partRaisedRow : OpenClaim := { program := "ytogfbfpinhcajaadoor", sum := "eee2e792bf6e8b35f09cca7dcc6f17fca5913195642725b4a88cbde1be4be6c6", func := "decani/decanilaw05.PartRaised", spec := "partRaised", unfollowed := true, recurses := true, named := ["decani/part.nowhere", "decani/part.silence", "decani/part.measures"], plainKeys := false, apart := false, laid := [("decani/part.silence", laid_decani_part_silence), ("decani/part.nowhere", laid_decani_part_nowhere), ("decani/part.measures", laid_decani_part_measures)] }
def PartRaisedSaid : Prop := partRaisedRow.holds Tryd.pinned (OpenSpec.ofChange partRaisedSpec)

/-- ITS FALSE NEIGHBOUR: 'it returns false'. Refute it at one input. -/
def partRaisedWrong : ChangeSpec := { name := "partRaised", fn := fun _ => fun
  | [d1, d2] => { results := [.lit (.bool false)], args := [d1, d2] }
  | _ => none }
def PartRaisedWrongFalsely : Prop := partRaisedRow.holds Tryd.pinned (OpenSpec.ofChange partRaisedWrong)

/-- 'decanilaw05.PartAsk': WHATEVER THE INPUT: true; the input reads as it did. -/
def partAskSpec : ChangeSpec := { name := "partAsk", fn := fun _ => fun
  | [d1, d2] => { results := [.lit (.bool true)], args := [d1, d2] }
  | _ => none }
def partAskRow : OpenClaim := { program := "ytogfbfpinhcajaadoor", sum := "eee2e792bf6e8b35f09cca7dcc6f17fca5913195642725b4a88cbde1be4be6c6", func := "decani/decanilaw05.PartAsk", spec := "partAsk", unfollowed := true, recurses := true, named := ["decani/part.nowhere", "decani/part.silence", "decani/part.measures"], plainKeys := false, apart := false, laid := [("decani/part.silence", laid_decani_part_silence), ("decani/part.nowhere", laid_decani_part_nowhere), ("decani/part.measures", laid_decani_part_measures)] }
def PartAskSaid : Prop := partAskRow.holds Tryd.pinned (OpenSpec.ofChange partAskSpec)

/-- ITS FALSE NEIGHBOUR: 'it returns false'. Refute it at one input. -/
def partAskWrong : ChangeSpec := { name := "partAsk", fn := fun _ => fun
  | [d1, d2] => { results := [.lit (.bool false)], args := [d1, d2] }
  | _ => none }
def PartAskWrongFalsely : Prop := partAskRow.holds Tryd.pinned (OpenSpec.ofChange partAskWrong)

/-- 'decanilaw05.PartWrong': WHATEVER THE INPUT: true; the input reads as it did. -/
def partWrongSpec : ChangeSpec := { name := "partWrong", fn := fun _ => fun
  | [d1, d2] => { results := [.lit (.bool true)], args := [d1, d2] }
  | _ => none }
def partWrongRow : OpenClaim := { program := "ytogfbfpinhcajaadoor", sum := "eee2e792bf6e8b35f09cca7dcc6f17fca5913195642725b4a88cbde1be4be6c6", func := "decani/decanilaw05.PartWrong", spec := "partWrong", unfollowed := true, recurses := true, named := ["decani/part.nowhere", "decani/part.silence", "decani/part.measures"], plainKeys := false, apart := false, laid := [("decani/part.silence", laid_decani_part_silence), ("decani/part.nowhere", laid_decani_part_nowhere), ("decani/part.measures", laid_decani_part_measures)] }
def PartWrongSaid : Prop := partWrongRow.holds Tryd.pinned (OpenSpec.ofChange partWrongSpec)

/-- ITS FALSE NEIGHBOUR: 'it returns false'. Refute it at one input. -/
def partWrongWrong : ChangeSpec := { name := "partWrong", fn := fun _ => fun
  | [d1, d2] => { results := [.lit (.bool false)], args := [d1, d2] }
  | _ => none }
def PartWrongWrongFalsely : Prop := partWrongRow.holds Tryd.pinned (OpenSpec.ofChange partWrongWrong)

/-- 'decanilaw05.PartBar': WHATEVER THE INPUT: true; the input reads as it did. -/
def partBarSpec : ChangeSpec := { name := "partBar", fn := fun _ => fun
  | [d1, d2] => { results := [.lit (.bool true)], args := [d1, d2] }
  | _ => none }
def partBarRow : OpenClaim := { program := "ytogfbfpinhcajaadoor", sum := "eee2e792bf6e8b35f09cca7dcc6f17fca5913195642725b4a88cbde1be4be6c6", func := "decani/decanilaw05.PartBar", spec := "partBar", unfollowed := true, recurses := true, named := ["decani/part.nowhere", "decani/part.silence", "decani/part.measures"], plainKeys := false, apart := false, laid := [("decani/part.silence", laid_decani_part_silence), ("decani/part.nowhere", laid_decani_part_nowhere), ("decani/part.measures", laid_decani_part_measures)] }
def PartBarSaid : Prop := partBarRow.holds Tryd.pinned (OpenSpec.ofChange partBarSpec)

/-- ITS FALSE NEIGHBOUR: 'it returns false'. Refute it at one input. -/
def partBarWrong : ChangeSpec := { name := "partBar", fn := fun _ => fun
  | [d1, d2] => { results := [.lit (.bool false)], args := [d1, d2] }
  | _ => none }
def PartBarWrongFalsely : Prop := partBarRow.holds Tryd.pinned (OpenSpec.ofChange partBarWrong)

/-- 'decanilaw05.PartKnown': WHATEVER THE INPUT: true; the input reads as it did. -/
def partKnownSpec : ChangeSpec := { name := "partKnown", fn := fun _ => fun
  | [] => { results := [.lit (.bool true)], args := [] }
  | _ => none }
def partKnownRow : OpenClaim := { program := "ytogfbfpinhcajaadoor", sum := "eee2e792bf6e8b35f09cca7dcc6f17fca5913195642725b4a88cbde1be4be6c6", func := "decani/decanilaw05.PartKnown", spec := "partKnown", unfollowed := true, recurses := true, named := ["decani/part.nowhere", "decani/part.silence", "decani/part.measures"], plainKeys := false, apart := false, laid := [("decani/part.silence", laid_decani_part_silence), ("decani/part.nowhere", laid_decani_part_nowhere), ("decani/part.measures", laid_decani_part_measures)] }
def PartKnownSaid : Prop := partKnownRow.holds Tryd.pinned (OpenSpec.ofChange partKnownSpec)

/-- ITS FALSE NEIGHBOUR: 'it returns false'. Refute it at one input. -/
def partKnownWrong : ChangeSpec := { name := "partKnown", fn := fun _ => fun
  | [] => { results := [.lit (.bool false)], args := [] }
  | _ => none }
def PartKnownWrongFalsely : Prop := partKnownRow.holds Tryd.pinned (OpenSpec.ofChange partKnownWrong)

/- THE SECOND FORM. 'bulk': how many values and letters a reading holds, each counted each time it is reached (what is shared counts as often as it is met; a slice's spare places count too). A statement '..UptoSaid' is the law's where the arguments, and the package variables that the reading takes, are together of bulk at most 1048576: NARROWER than '..Said'. Prove '..Said' where nothing that the law and all that it calls make is longer than what came in: it says more and counts as full. Else prove '..UptoSaid'. A law counts once. -/
mutual
def uptoBulk {H : Type} : DataW H → Nat
  | .lit (.string bytes) => bytes.length + 1
  | .lit _ => 1
  | .nil => 1
  | .ptr d => uptoBulk d + 1
  | .slice elems spare => uptoBulkAll elems + uptoBulkAll spare + 1
  | .agg parts => uptoBulkAll parts + 1
  | .iface _ d => uptoBulk d + 1
  | .map entries => uptoBulkEntries entries + 1
  | .held _ => 1
def uptoBulkAll {H : Type} : List (DataW H) → Nat
  | [] => 0
  | d :: r => uptoBulk d + uptoBulkAll r
def uptoBulkEntries {H : Type} : List (Lit × DataW H) → Nat
  | [] => 0
  | x :: r => uptoBulkEntry x + uptoBulkEntries r
def uptoBulkEntry {H : Type} : Lit × DataW H → Nat
  | (.string bytes, d) => bytes.length + uptoBulk d + 1
  | (_, d) => uptoBulk d + 1
 end
def uptoSmall : (H : Type) → List (DataW H) → Bool := fun _ ds => decide (uptoBulkAll ds ≤ 1048576)
def OpenSpec.upto (s : _root_.Go.ChangeSpec) : _root_.Go.OpenSpec := { _root_.Go.OpenSpec.ofChange s with cond := some uptoSmall }

/-- 'decanilaw05.PartNotes', WHERE WHAT IT READS IS OF BULK AT MOST 1048576: true; the input reads as it did. -/
def partNotesUptoRow : OpenClaim := { program := "ytogfbfpinhcajaadoor", sum := "eee2e792bf6e8b35f09cca7dcc6f17fca5913195642725b4a88cbde1be4be6c6", func := "decani/decanilaw05.PartNotes", spec := "partNotes", unfollowed := true, recurses := true, named := ["decani/part.nowhere", "decani/part.silence", "decani/part.measures"], plainKeys := false, apart := false, laid := [("decani/part.silence", laid_decani_part_silence), ("decani/part.nowhere", laid_decani_part_nowhere), ("decani/part.measures", laid_decani_part_measures)], narrowed := true }
def PartNotesUptoSaid : Prop := partNotesUptoRow.holds Tryd.pinned (OpenSpec.upto partNotesSpec)

/-- 'decanilaw05.PartAsks', WHERE WHAT IT READS IS OF BULK AT MOST 1048576: true; the input reads as it did. -/
def partAsksUptoRow : OpenClaim := { program := "ytogfbfpinhcajaadoor", sum := "eee2e792bf6e8b35f09cca7dcc6f17fca5913195642725b4a88cbde1be4be6c6", func := "decani/decanilaw05.PartAsks", spec := "partAsks", unfollowed := true, recurses := true, named := ["decani/part.nowhere", "decani/part.silence", "decani/part.measures"], plainKeys := false, apart := false, laid := [("decani/part.silence", laid_decani_part_silence), ("decani/part.nowhere", laid_decani_part_nowhere), ("decani/part.measures", laid_decani_part_measures)], narrowed := true }
def PartAsksUptoSaid : Prop := partAsksUptoRow.holds Tryd.pinned (OpenSpec.upto partAsksSpec)

/-- 'decanilaw05.PartFits', WHERE WHAT IT READS IS OF BULK AT MOST 1048576: true; the input reads as it did. -/
def partFitsUptoRow : OpenClaim := { program := "ytogfbfpinhcajaadoor", sum := "eee2e792bf6e8b35f09cca7dcc6f17fca5913195642725b4a88cbde1be4be6c6", func := "decani/decanilaw05.PartFits", spec := "partFits", unfollowed := true, recurses := true, named := ["decani/part.nowhere", "decani/part.silence", "decani/part.measures"], plainKeys := false, apart := false, laid := [("decani/part.silence", laid_decani_part_silence), ("decani/part.nowhere", laid_decani_part_nowhere), ("decani/part.measures", laid_decani_part_measures)], narrowed := true }
def PartFitsUptoSaid : Prop := partFitsUptoRow.holds Tryd.pinned (OpenSpec.upto partFitsSpec)

/-- 'decanilaw05.PartTrue', WHERE WHAT IT READS IS OF BULK AT MOST 1048576: true; the input reads as it did. -/
def partTrueUptoRow : OpenClaim := { program := "ytogfbfpinhcajaadoor", sum := "eee2e792bf6e8b35f09cca7dcc6f17fca5913195642725b4a88cbde1be4be6c6", func := "decani/decanilaw05.PartTrue", spec := "partTrue", unfollowed := true, recurses := true, named := ["decani/part.nowhere", "decani/part.silence", "decani/part.measures"], plainKeys := false, apart := false, laid := [("decani/part.silence", laid_decani_part_silence), ("decani/part.nowhere", laid_decani_part_nowhere), ("decani/part.measures", laid_decani_part_measures)], narrowed := true }
def PartTrueUptoSaid : Prop := partTrueUptoRow.holds Tryd.pinned (OpenSpec.upto partTrueSpec)

/-- 'decanilaw05.PartCounts', WHERE WHAT IT READS IS OF BULK AT MOST 1048576: true; the input reads as it did. -/
def partCountsUptoRow : OpenClaim := { program := "ytogfbfpinhcajaadoor", sum := "eee2e792bf6e8b35f09cca7dcc6f17fca5913195642725b4a88cbde1be4be6c6", func := "decani/decanilaw05.PartCounts", spec := "partCounts", unfollowed := true, recurses := true, named := ["decani/part.nowhere", "decani/part.silence", "decani/part.measures"], plainKeys := false, apart := false, laid := [("decani/part.silence", laid_decani_part_silence), ("decani/part.nowhere", laid_decani_part_nowhere), ("decani/part.measures", laid_decani_part_measures)], narrowed := true }
def PartCountsUptoSaid : Prop := partCountsUptoRow.holds Tryd.pinned (OpenSpec.upto partCountsSpec)

/-- 'decanilaw05.PartMore', WHERE WHAT IT READS IS OF BULK AT MOST 1048576: true; the input reads as it did. -/
def partMoreUptoRow : OpenClaim := { program := "ytogfbfpinhcajaadoor", sum := "eee2e792bf6e8b35f09cca7dcc6f17fca5913195642725b4a88cbde1be4be6c6", func := "decani/decanilaw05.PartMore", spec := "partMore", unfollowed := true, recurses := true, named := ["decani/part.nowhere", "decani/part.silence", "decani/part.measures"], plainKeys := false, apart := false, laid := [("decani/part.silence", laid_decani_part_silence), ("decani/part.nowhere", laid_decani_part_nowhere), ("decani/part.measures", laid_decani_part_measures)], narrowed := true }
def PartMoreUptoSaid : Prop := partMoreUptoRow.holds Tryd.pinned (OpenSpec.upto partMoreSpec)

/-- 'decanilaw05.PartEasier', WHERE WHAT IT READS IS OF BULK AT MOST 1048576: true; the input reads as it did. -/
def partEasierUptoRow : OpenClaim := { program := "ytogfbfpinhcajaadoor", sum := "eee2e792bf6e8b35f09cca7dcc6f17fca5913195642725b4a88cbde1be4be6c6", func := "decani/decanilaw05.PartEasier", spec := "partEasier", unfollowed := true, recurses := true, named := ["decani/part.nowhere", "decani/part.silence", "decani/part.measures"], plainKeys := false, apart := false, laid := [("decani/part.silence", laid_decani_part_silence), ("decani/part.nowhere", laid_decani_part_nowhere), ("decani/part.measures", laid_decani_part_measures)], narrowed := true }
def PartEasierUptoSaid : Prop := partEasierUptoRow.holds Tryd.pinned (OpenSpec.upto partEasierSpec)

/-- 'decanilaw05.PartRaised', WHERE WHAT IT READS IS OF BULK AT MOST 1048576: true; the input reads as it did. -/
def partRaisedUptoRow : OpenClaim := { program := "ytogfbfpinhcajaadoor", sum := "eee2e792bf6e8b35f09cca7dcc6f17fca5913195642725b4a88cbde1be4be6c6", func := "decani/decanilaw05.PartRaised", spec := "partRaised", unfollowed := true, recurses := true, named := ["decani/part.nowhere", "decani/part.silence", "decani/part.measures"], plainKeys := false, apart := false, laid := [("decani/part.silence", laid_decani_part_silence), ("decani/part.nowhere", laid_decani_part_nowhere), ("decani/part.measures", laid_decani_part_measures)], narrowed := true }
def PartRaisedUptoSaid : Prop := partRaisedUptoRow.holds Tryd.pinned (OpenSpec.upto partRaisedSpec)

/-- 'decanilaw05.PartAsk', WHERE WHAT IT READS IS OF BULK AT MOST 1048576: true; the input reads as it did. -/
def partAskUptoRow : OpenClaim := { program := "ytogfbfpinhcajaadoor", sum := "eee2e792bf6e8b35f09cca7dcc6f17fca5913195642725b4a88cbde1be4be6c6", func := "decani/decanilaw05.PartAsk", spec := "partAsk", unfollowed := true, recurses := true, named := ["decani/part.nowhere", "decani/part.silence", "decani/part.measures"], plainKeys := false, apart := false, laid := [("decani/part.silence", laid_decani_part_silence), ("decani/part.nowhere", laid_decani_part_nowhere), ("decani/part.measures", laid_decani_part_measures)], narrowed := true }
def PartAskUptoSaid : Prop := partAskUptoRow.holds Tryd.pinned (OpenSpec.upto partAskSpec)

/-- 'decanilaw05.PartWrong', WHERE WHAT IT READS IS OF BULK AT MOST 1048576: true; the input reads as it did. -/
def partWrongUptoRow : OpenClaim := { program := "ytogfbfpinhcajaadoor", sum := "eee2e792bf6e8b35f09cca7dcc6f17fca5913195642725b4a88cbde1be4be6c6", func := "decani/decanilaw05.PartWrong", spec := "partWrong", unfollowed := true, recurses := true, named := ["decani/part.nowhere", "decani/part.silence", "decani/part.measures"], plainKeys := false, apart := false, laid := [("decani/part.silence", laid_decani_part_silence), ("decani/part.nowhere", laid_decani_part_nowhere), ("decani/part.measures", laid_decani_part_measures)], narrowed := true }
def PartWrongUptoSaid : Prop := partWrongUptoRow.holds Tryd.pinned (OpenSpec.upto partWrongSpec)

/-- 'decanilaw05.PartBar', WHERE WHAT IT READS IS OF BULK AT MOST 1048576: true; the input reads as it did. -/
def partBarUptoRow : OpenClaim := { program := "ytogfbfpinhcajaadoor", sum := "eee2e792bf6e8b35f09cca7dcc6f17fca5913195642725b4a88cbde1be4be6c6", func := "decani/decanilaw05.PartBar", spec := "partBar", unfollowed := true, recurses := true, named := ["decani/part.nowhere", "decani/part.silence", "decani/part.measures"], plainKeys := false, apart := false, laid := [("decani/part.silence", laid_decani_part_silence), ("decani/part.nowhere", laid_decani_part_nowhere), ("decani/part.measures", laid_decani_part_measures)], narrowed := true }
def PartBarUptoSaid : Prop := partBarUptoRow.holds Tryd.pinned (OpenSpec.upto partBarSpec)

/-- 'decanilaw05.PartKnown', WHERE WHAT IT READS IS OF BULK AT MOST 1048576: true; the input reads as it did. -/
def partKnownUptoRow : OpenClaim := { program := "ytogfbfpinhcajaadoor", sum := "eee2e792bf6e8b35f09cca7dcc6f17fca5913195642725b4a88cbde1be4be6c6", func := "decani/decanilaw05.PartKnown", spec := "partKnown", unfollowed := true, recurses := true, named := ["decani/part.nowhere", "decani/part.silence", "decani/part.measures"], plainKeys := false, apart := false, laid := [("decani/part.silence", laid_decani_part_silence), ("decani/part.nowhere", laid_decani_part_nowhere), ("decani/part.measures", laid_decani_part_measures)], narrowed := true }
def PartKnownUptoSaid : Prop := partKnownUptoRow.holds Tryd.pinned (OpenSpec.upto partKnownSpec)

end Rows
end Go.Proofs.YtogfbfpinhcajaaDoor
