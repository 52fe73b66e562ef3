/-
  NARROWER THAN 'FOR EVERY INPUT', by the rows' own cells (each row's printed sentence says how): ColdTrue: laid · ColdDays: laid · ColdHears: laid · ColdMore: laid · ColdApart: laid · ColdFewest: laid · ColdSooner: laid · ColdMirror: laid · ColdWrong: laid · ColdKnown: laid.
  DERIVED. THE GIVEN ROWS OF THIS SEAT. 10 by the template 'for every input the law returns true; each argument reads behind the call as it read before'; 0 by the template 'total and deterministic' (their statements: YtknklhodhkohlaaDoorTotals.lean).
  GIVEN WITH THE SEED: the statements are not yours to turn. If you find one false, say at which input.
  Laid BY PROGRAM, IN A SANDBOX (cutbox-rows.mjs): the forced cells as the released guide's own fill.sh prints them over the translation 45131cc2305a3acb… (all of the seat's roots in one cut). By AI agents, Wed Nov 11 2026. No macro, syntax, notation, axiom, sorry.
-/
import Derived.Test.YtknklhodhkohlaaDoorChecked
import GoSem.Claim
import GoSem.ClaimJoined
import GoSem.ClaimMapViews
import Derived.JoinedTies
import Derived.KernelRfl
namespace Go.Proofs.YtknklhodhkohlaaDoor
/- THE CELL 'sum', in the pinned program and in every row, IS THE sha256 OF THE DUMP (.gsa) THAT YtknklhodhkohlaaDoorProg.lean LOADS. Nothing in Lean hashes anything: it is a label: what it is worth is what the hold of that sum in a sandbox is worth. -/
noncomputable def Tryd.pinned : Pinned := { name := "ytknklhodhkohlaadoor", sum := "45131cc2305a3acbae6ae1dea2991ba916041d4d95f332d16c296ab1941770df", checked := Tryd.checked }
namespace Rows
def none {H : Type} : Left H := { results := [], args := [] }

/- WHAT THE LISTED PACKAGE-LEVEL VARIABLES READ AS WHEN THE CALL BEGINS. Each datum BY PROGRAM (the guide's laid-datum.mjs) off the statement by which the dump's own 'gosem.cut.vars' lays the variable. In a bare row this is a premise. The card (YtknklhodhkohlaaDoorCards.lean) ties it to the program's text. -/
def laid_decani_cold_nobody {H : Type} : DataW H := .agg [.lit (.int .i64 (-1)), .lit (.int .i64 (-1)), .lit (.int .i64 (-1)), .lit (.int .i64 (-1)), .lit (.int .i64 (-1))]
def laid_decani_cold_nowhere {H : Type} : DataW H := .agg [.lit (.int .i64 (-1)), .lit (.int .i64 (-1))]
def laid_decani_cold_kinds {H : Type} : DataW H := .iface "func table" (.agg [.iface "func" (.lit (.string [40, 100, 101, 99, 97, 110, 105, 47, 99, 111, 108, 100, 46, 118, 111, 116, 101, 115, 41, 46, 115, 111, 109, 101])), .iface "func" (.lit (.string [40, 100, 101, 99, 97, 110, 105, 47, 99, 111, 108, 100, 46, 118, 111, 116, 101, 115, 41, 46, 101, 97, 99, 104]))])

/-- 'decanilaw03.ColdTrue': WHATEVER THE INPUT: true; the input reads as it did. -/
def coldTrueSpec : ChangeSpec := { name := "coldTrue", fn := fun _ => fun
  | [d1, d2, d3] => { results := [.lit (.bool true)], args := [d1, d2, d3] }
  | _ => none }
def coldTrueRow : OpenClaim := { program := "ytknklhodhkohlaadoor", sum := "45131cc2305a3acbae6ae1dea2991ba916041d4d95f332d16c296ab1941770df", func := "decani/decanilaw03.ColdTrue", spec := "coldTrue", unfollowed := true, recurses := true, named := ["decani/cold.nowhere", "decani/cold.nobody", "decani/cold.kinds"], plainKeys := false, apart := false, laid := [("decani/cold.nobody", laid_decani_cold_nobody), ("decani/cold.nowhere", laid_decani_cold_nowhere), ("decani/cold.kinds", laid_decani_cold_kinds)] }
def ColdTrueSaid : Prop := coldTrueRow.holds Tryd.pinned (OpenSpec.ofChange coldTrueSpec)

/-- ITS FALSE NEIGHBOUR: 'it returns false'. Refute it at one input. -/
def coldTrueWrong : ChangeSpec := { name := "coldTrue", fn := fun _ => fun
  | [d1, d2, d3] => { results := [.lit (.bool false)], args := [d1, d2, d3] }
  | _ => none }
def ColdTrueWrongFalsely : Prop := coldTrueRow.holds Tryd.pinned (OpenSpec.ofChange coldTrueWrong)

/-- 'decanilaw03.ColdDays': WHATEVER THE INPUT: true; the input reads as it did. -/
def coldDaysSpec : ChangeSpec := { name := "coldDays", fn := fun _ => fun
  | [d1, d2] => { results := [.lit (.bool true)], args := [d1, d2] }
  | _ => none }
def coldDaysRow : OpenClaim := { program := "ytknklhodhkohlaadoor", sum := "45131cc2305a3acbae6ae1dea2991ba916041d4d95f332d16c296ab1941770df", func := "decani/decanilaw03.ColdDays", spec := "coldDays", unfollowed := true, recurses := true, named := ["decani/cold.nowhere", "decani/cold.nobody", "decani/cold.kinds"], plainKeys := false, apart := false, laid := [("decani/cold.nobody", laid_decani_cold_nobody), ("decani/cold.nowhere", laid_decani_cold_nowhere), ("decani/cold.kinds", laid_decani_cold_kinds)] }
def ColdDaysSaid : Prop := coldDaysRow.holds Tryd.pinned (OpenSpec.ofChange coldDaysSpec)

/-- ITS FALSE NEIGHBOUR: 'it returns false'. Refute it at one input. -/
def coldDaysWrong : ChangeSpec := { name := "coldDays", fn := fun _ => fun
  | [d1, d2] => { results := [.lit (.bool false)], args := [d1, d2] }
  | _ => none }
def ColdDaysWrongFalsely : Prop := coldDaysRow.holds Tryd.pinned (OpenSpec.ofChange coldDaysWrong)

/-- 'decanilaw03.ColdHears': WHATEVER THE INPUT: true; the input reads as it did. -/
def coldHearsSpec : ChangeSpec := { name := "coldHears", fn := fun _ => fun
  | [d1, d2] => { results := [.lit (.bool true)], args := [d1, d2] }
  | _ => none }
def coldHearsRow : OpenClaim := { program := "ytknklhodhkohlaadoor", sum := "45131cc2305a3acbae6ae1dea2991ba916041d4d95f332d16c296ab1941770df", func := "decani/decanilaw03.ColdHears", spec := "coldHears", unfollowed := true, recurses := true, named := ["decani/cold.nowhere", "decani/cold.nobody", "decani/cold.kinds"], plainKeys := false, apart := false, laid := [("decani/cold.nobody", laid_decani_cold_nobody), ("decani/cold.nowhere", laid_decani_cold_nowhere), ("decani/cold.kinds", laid_decani_cold_kinds)] }
def ColdHearsSaid : Prop := coldHearsRow.holds Tryd.pinned (OpenSpec.ofChange coldHearsSpec)

/-- ITS FALSE NEIGHBOUR: 'it returns false'. Refute it at one input. -/
def coldHearsWrong : ChangeSpec := { name := "coldHears", fn := fun _ => fun
  | [d1, d2] => { results := [.lit (.bool false)], args := [d1, d2] }
  | _ => none }
def ColdHearsWrongFalsely : Prop := coldHearsRow.holds Tryd.pinned (OpenSpec.ofChange coldHearsWrong)

/-- 'decanilaw03.ColdMore': WHATEVER THE INPUT: true; the input reads as it did. -/
def coldMoreSpec : ChangeSpec := { name := "coldMore", fn := fun _ => fun
  | [d1, d2, d3] => { results := [.lit (.bool true)], args := [d1, d2, d3] }
  | _ => none }
def coldMoreRow : OpenClaim := { program := "ytknklhodhkohlaadoor", sum := "45131cc2305a3acbae6ae1dea2991ba916041d4d95f332d16c296ab1941770df", func := "decani/decanilaw03.ColdMore", spec := "coldMore", unfollowed := true, recurses := true, named := ["decani/cold.nowhere", "decani/cold.nobody", "decani/cold.kinds"], plainKeys := false, apart := false, laid := [("decani/cold.nobody", laid_decani_cold_nobody), ("decani/cold.nowhere", laid_decani_cold_nowhere), ("decani/cold.kinds", laid_decani_cold_kinds)] }
def ColdMoreSaid : Prop := coldMoreRow.holds Tryd.pinned (OpenSpec.ofChange coldMoreSpec)

/-- ITS FALSE NEIGHBOUR: 'it returns false'. Refute it at one input. -/
def coldMoreWrong : ChangeSpec := { name := "coldMore", fn := fun _ => fun
  | [d1, d2, d3] => { results := [.lit (.bool false)], args := [d1, d2, d3] }
  | _ => none }
def ColdMoreWrongFalsely : Prop := coldMoreRow.holds Tryd.pinned (OpenSpec.ofChange coldMoreWrong)

/-- 'decanilaw03.ColdApart': WHATEVER THE INPUT: true; the input reads as it did. -/
def coldApartSpec : ChangeSpec := { name := "coldApart", fn := fun _ => fun
  | [d1, d2, d3] => { results := [.lit (.bool true)], args := [d1, d2, d3] }
  | _ => none }
def coldApartRow : OpenClaim := { program := "ytknklhodhkohlaadoor", sum := "45131cc2305a3acbae6ae1dea2991ba916041d4d95f332d16c296ab1941770df", func := "decani/decanilaw03.ColdApart", spec := "coldApart", unfollowed := true, recurses := true, named := ["decani/cold.nowhere", "decani/cold.nobody", "decani/cold.kinds"], plainKeys := false, apart := false, laid := [("decani/cold.nobody", laid_decani_cold_nobody), ("decani/cold.nowhere", laid_decani_cold_nowhere), ("decani/cold.kinds", laid_decani_cold_kinds)] }
def ColdApartSaid : Prop := coldApartRow.holds Tryd.pinned (OpenSpec.ofChange coldApartSpec)

/-- ITS FALSE NEIGHBOUR: 'it returns false'. Refute it at one input. -/
def coldApartWrong : ChangeSpec := { name := "coldApart", fn := fun _ => fun
  | [d1, d2, d3] => { results := [.lit (.bool false)], args := [d1, d2, d3] }
  | _ => none }
def ColdApartWrongFalsely : Prop := coldApartRow.holds Tryd.pinned (OpenSpec.ofChange coldApartWrong)

/-- 'decanilaw03.ColdFewest': WHATEVER THE INPUT: true; the input reads as it did. -/
def coldFewestSpec : ChangeSpec := { name := "coldFewest", fn := fun _ => fun
  | [d1, d2] => { results := [.lit (.bool true)], args := [d1, d2] }
  | _ => none }
def coldFewestRow : OpenClaim := { program := "ytknklhodhkohlaadoor", sum := "45131cc2305a3acbae6ae1dea2991ba916041d4d95f332d16c296ab1941770df", func := "decani/decanilaw03.ColdFewest", spec := "coldFewest", unfollowed := true, recurses := true, named := ["decani/cold.nowhere", "decani/cold.nobody", "decani/cold.kinds"], plainKeys := false, apart := false, laid := [("decani/cold.nobody", laid_decani_cold_nobody), ("decani/cold.nowhere", laid_decani_cold_nowhere), ("decani/cold.kinds", laid_decani_cold_kinds)] }
def ColdFewestSaid : Prop := coldFewestRow.holds Tryd.pinned (OpenSpec.ofChange coldFewestSpec)

/-- ITS FALSE NEIGHBOUR: 'it returns false'. Refute it at one input. -/
def coldFewestWrong : ChangeSpec := { name := "coldFewest", fn := fun _ => fun
  | [d1, d2] => { results := [.lit (.bool false)], args := [d1, d2] }
  | _ => none }
def ColdFewestWrongFalsely : Prop := coldFewestRow.holds Tryd.pinned (OpenSpec.ofChange coldFewestWrong)

/-- 'decanilaw03.ColdSooner': WHATEVER THE INPUT: true; the input reads as it did. -/
def coldSoonerSpec : ChangeSpec := { name := "coldSooner", fn := fun _ => fun
  | [d1, d2] => { results := [.lit (.bool true)], args := [d1, d2] }
  | _ => none }
def coldSoonerRow : OpenClaim := { program := "ytknklhodhkohlaadoor", sum := "45131cc2305a3acbae6ae1dea2991ba916041d4d95f332d16c296ab1941770df", func := "decani/decanilaw03.ColdSooner", spec := "coldSooner", unfollowed := true, recurses := true, named := ["decani/cold.nowhere", "decani/cold.nobody", "decani/cold.kinds"], plainKeys := false, apart := false, laid := [("decani/cold.nobody", laid_decani_cold_nobody), ("decani/cold.nowhere", laid_decani_cold_nowhere), ("decani/cold.kinds", laid_decani_cold_kinds)] }
def ColdSoonerSaid : Prop := coldSoonerRow.holds Tryd.pinned (OpenSpec.ofChange coldSoonerSpec)

/-- ITS FALSE NEIGHBOUR: 'it returns false'. Refute it at one input. -/
def coldSoonerWrong : ChangeSpec := { name := "coldSooner", fn := fun _ => fun
  | [d1, d2] => { results := [.lit (.bool false)], args := [d1, d2] }
  | _ => none }
def ColdSoonerWrongFalsely : Prop := coldSoonerRow.holds Tryd.pinned (OpenSpec.ofChange coldSoonerWrong)

/-- 'decanilaw03.ColdMirror': WHATEVER THE INPUT: true; the input reads as it did. -/
def coldMirrorSpec : ChangeSpec := { name := "coldMirror", fn := fun _ => fun
  | [d1, d2] => { results := [.lit (.bool true)], args := [d1, d2] }
  | _ => none }
def coldMirrorRow : OpenClaim := { program := "ytknklhodhkohlaadoor", sum := "45131cc2305a3acbae6ae1dea2991ba916041d4d95f332d16c296ab1941770df", func := "decani/decanilaw03.ColdMirror", spec := "coldMirror", unfollowed := true, recurses := true, named := ["decani/cold.nowhere", "decani/cold.nobody", "decani/cold.kinds"], plainKeys := false, apart := false, laid := [("decani/cold.nobody", laid_decani_cold_nobody), ("decani/cold.nowhere", laid_decani_cold_nowhere), ("decani/cold.kinds", laid_decani_cold_kinds)] }
def ColdMirrorSaid : Prop := coldMirrorRow.holds Tryd.pinned (OpenSpec.ofChange coldMirrorSpec)

/-- ITS FALSE NEIGHBOUR: 'it returns false'. Refute it at one input. -/
def coldMirrorWrong : ChangeSpec := { name := "coldMirror", fn := fun _ => fun
  | [d1, d2] => { results := [.lit (.bool false)], args := [d1, d2] }
  | _ => none }
def ColdMirrorWrongFalsely : Prop := coldMirrorRow.holds Tryd.pinned (OpenSpec.ofChange coldMirrorWrong)

/-- 'decanilaw03.ColdWrong': WHATEVER THE INPUT: true; the input reads as it did. -/
def coldWrongSpec : ChangeSpec := { name := "coldWrong", fn := fun _ => fun
  | [d1, d2] => { results := [.lit (.bool true)], args := [d1, d2] }
  | _ => none }
def coldWrongRow : OpenClaim := { program := "ytknklhodhkohlaadoor", sum := "45131cc2305a3acbae6ae1dea2991ba916041d4d95f332d16c296ab1941770df", func := "decani/decanilaw03.ColdWrong", spec := "coldWrong", unfollowed := true, recurses := true, named := ["decani/cold.nowhere", "decani/cold.nobody", "decani/cold.kinds"], plainKeys := false, apart := false, laid := [("decani/cold.nobody", laid_decani_cold_nobody), ("decani/cold.nowhere", laid_decani_cold_nowhere), ("decani/cold.kinds", laid_decani_cold_kinds)] }
def ColdWrongSaid : Prop := coldWrongRow.holds Tryd.pinned (OpenSpec.ofChange coldWrongSpec)

/-- ITS FALSE NEIGHBOUR: 'it returns false'. Refute it at one input. -/
def coldWrongWrong : ChangeSpec := { name := "coldWrong", fn := fun _ => fun
  | [d1, d2] => { results := [.lit (.bool false)], args := [d1, d2] }
  | _ => none }
def ColdWrongWrongFalsely : Prop := coldWrongRow.holds Tryd.pinned (OpenSpec.ofChange coldWrongWrong)

/-- 'decanilaw03.ColdKnown': WHATEVER THE INPUT: true; the input reads as it did. -/
def coldKnownSpec : ChangeSpec := { name := "coldKnown", fn := fun _ => fun
  | [] => { results := [.lit (.bool true)], args := [] }
  | _ => none }
def coldKnownRow : OpenClaim := { program := "ytknklhodhkohlaadoor", sum := "45131cc2305a3acbae6ae1dea2991ba916041d4d95f332d16c296ab1941770df", func := "decani/decanilaw03.ColdKnown", spec := "coldKnown", unfollowed := true, recurses := true, named := ["decani/cold.nowhere", "decani/cold.nobody", "decani/cold.kinds"], plainKeys := false, apart := false, laid := [("decani/cold.nobody", laid_decani_cold_nobody), ("decani/cold.nowhere", laid_decani_cold_nowhere), ("decani/cold.kinds", laid_decani_cold_kinds)] }
def ColdKnownSaid : Prop := coldKnownRow.holds Tryd.pinned (OpenSpec.ofChange coldKnownSpec)

/-- ITS FALSE NEIGHBOUR: 'it returns false'. Refute it at one input. -/
def coldKnownWrong : ChangeSpec := { name := "coldKnown", fn := fun _ => fun
  | [] => { results := [.lit (.bool false)], args := [] }
  | _ => none }
def ColdKnownWrongFalsely : Prop := coldKnownRow.holds Tryd.pinned (OpenSpec.ofChange coldKnownWrong)

/- THE SECOND FORM. 'bulk': how many values and letters a reading holds, each counted each time it is reached (what is shared counts as often as it is met; a slice's spare places count too). A statement '..UptoSaid' is the law's where the arguments, and the package variables that the reading takes, are together of bulk at most 1048576: NARROWER than '..Said'. Prove '..Said' where nothing that the law and all that it calls make is longer than what came in: it says more and counts as full. Else prove '..UptoSaid'. A law counts once. -/
mutual
def uptoBulk {H : Type} : DataW H → Nat
  | .lit (.string bytes) => bytes.length + 1
  | .lit _ => 1
  | .nil => 1
  | .ptr d => uptoBulk d + 1
  | .slice elems spare => uptoBulkAll elems + uptoBulkAll spare + 1
  | .agg parts => uptoBulkAll parts + 1
  | .iface _ d => uptoBulk d + 1
  | .map entries => uptoBulkEntries entries + 1
  | .held _ => 1
def uptoBulkAll {H : Type} : List (DataW H) → Nat
  | [] => 0
  | d :: r => uptoBulk d + uptoBulkAll r
def uptoBulkEntries {H : Type} : List (Lit × DataW H) → Nat
  | [] => 0
  | x :: r => uptoBulkEntry x + uptoBulkEntries r
def uptoBulkEntry {H : Type} : Lit × DataW H → Nat
  | (.string bytes, d) => bytes.length + uptoBulk d + 1
  | (_, d) => uptoBulk d + 1
 end
def uptoSmall : (H : Type) → List (DataW H) → Bool := fun _ ds => decide (uptoBulkAll ds ≤ 1048576)
def OpenSpec.upto (s : _root_.Go.ChangeSpec) : _root_.Go.OpenSpec := { _root_.Go.OpenSpec.ofChange s with cond := some uptoSmall }

/-- 'decanilaw03.ColdTrue', WHERE WHAT IT READS IS OF BULK AT MOST 1048576: true; the input reads as it did. -/
def coldTrueUptoRow : OpenClaim := { program := "ytknklhodhkohlaadoor", sum := "45131cc2305a3acbae6ae1dea2991ba916041d4d95f332d16c296ab1941770df", func := "decani/decanilaw03.ColdTrue", spec := "coldTrue", unfollowed := true, recurses := true, named := ["decani/cold.nowhere", "decani/cold.nobody", "decani/cold.kinds"], plainKeys := false, apart := false, laid := [("decani/cold.nobody", laid_decani_cold_nobody), ("decani/cold.nowhere", laid_decani_cold_nowhere), ("decani/cold.kinds", laid_decani_cold_kinds)], narrowed := true }
def ColdTrueUptoSaid : Prop := coldTrueUptoRow.holds Tryd.pinned (OpenSpec.upto coldTrueSpec)

/-- 'decanilaw03.ColdDays', WHERE WHAT IT READS IS OF BULK AT MOST 1048576: true; the input reads as it did. -/
def coldDaysUptoRow : OpenClaim := { program := "ytknklhodhkohlaadoor", sum := "45131cc2305a3acbae6ae1dea2991ba916041d4d95f332d16c296ab1941770df", func := "decani/decanilaw03.ColdDays", spec := "coldDays", unfollowed := true, recurses := true, named := ["decani/cold.nowhere", "decani/cold.nobody", "decani/cold.kinds"], plainKeys := false, apart := false, laid := [("decani/cold.nobody", laid_decani_cold_nobody), ("decani/cold.nowhere", laid_decani_cold_nowhere), ("decani/cold.kinds", laid_decani_cold_kinds)], narrowed := true }
def ColdDaysUptoSaid : Prop := coldDaysUptoRow.holds Tryd.pinned (OpenSpec.upto coldDaysSpec)

/-- 'decanilaw03.ColdHears', WHERE WHAT IT READS IS OF BULK AT MOST 1048576: true; the input reads as it did. -/
def coldHearsUptoRow : OpenClaim := { program := "ytknklhodhkohlaadoor", sum := "45131cc2305a3acbae6ae1dea2991ba916041d4d95f332d16c296ab1941770df", func := "decani/decanilaw03.ColdHears", spec := "coldHears", unfollowed := true, recurses := true, named := ["decani/cold.nowhere", "decani/cold.nobody", "decani/cold.kinds"], plainKeys := false, apart := false, laid := [("decani/cold.nobody", laid_decani_cold_nobody), ("decani/cold.nowhere", laid_decani_cold_nowhere), ("decani/cold.kinds", laid_decani_cold_kinds)], narrowed := true }
def ColdHearsUptoSaid : Prop := coldHearsUptoRow.holds Tryd.pinned (OpenSpec.upto coldHearsSpec)

/-- 'decanilaw03.ColdMore', WHERE WHAT IT READS IS OF BULK AT MOST 1048576: true; the input reads as it did. -/
def coldMoreUptoRow : OpenClaim := { program := "ytknklhodhkohlaadoor", sum := "45131cc2305a3acbae6ae1dea2991ba916041d4d95f332d16c296ab1941770df", func := "decani/decanilaw03.ColdMore", spec := "coldMore", unfollowed := true, recurses := true, named := ["decani/cold.nowhere", "decani/cold.nobody", "decani/cold.kinds"], plainKeys := false, apart := false, laid := [("decani/cold.nobody", laid_decani_cold_nobody), ("decani/cold.nowhere", laid_decani_cold_nowhere), ("decani/cold.kinds", laid_decani_cold_kinds)], narrowed := true }
def ColdMoreUptoSaid : Prop := coldMoreUptoRow.holds Tryd.pinned (OpenSpec.upto coldMoreSpec)

/-- 'decanilaw03.ColdApart', WHERE WHAT IT READS IS OF BULK AT MOST 1048576: true; the input reads as it did. -/
def coldApartUptoRow : OpenClaim := { program := "ytknklhodhkohlaadoor", sum := "45131cc2305a3acbae6ae1dea2991ba916041d4d95f332d16c296ab1941770df", func := "decani/decanilaw03.ColdApart", spec := "coldApart", unfollowed := true, recurses := true, named := ["decani/cold.nowhere", "decani/cold.nobody", "decani/cold.kinds"], plainKeys := false, apart := false, laid := [("decani/cold.nobody", laid_decani_cold_nobody), ("decani/cold.nowhere", laid_decani_cold_nowhere), ("decani/cold.kinds", laid_decani_cold_kinds)], narrowed := true }
def ColdApartUptoSaid : Prop := coldApartUptoRow.holds Tryd.pinned (OpenSpec.upto coldApartSpec)

/-- 'decanilaw03.ColdFewest', WHERE WHAT IT READS IS OF BULK AT MOST 1048576: true; the input reads as it did. -/
def coldFewestUptoRow : OpenClaim := { program := "ytknklhodhkohlaadoor", sum := "45131cc2305a3acbae6ae1dea2991ba916041d4d95f332d16c296ab1941770df", func := "decani/decanilaw03.ColdFewest", spec := "coldFewest", unfollowed := true, recurses := true, named := ["decani/cold.nowhere", "decani/cold.nobody", "decani/cold.kinds"], plainKeys := false, apart := false, laid := [("decani/cold.nobody", laid_decani_cold_nobody), ("decani/cold.nowhere", laid_decani_cold_nowhere), ("decani/cold.kinds", laid_decani_cold_kinds)], narrowed := true }
def ColdFewestUptoSaid : Prop := coldFewestUptoRow.holds Tryd.pinned (OpenSpec.upto coldFewestSpec)

/-- 'decanilaw03.ColdSooner', WHERE WHAT IT READS IS OF BULK AT MOST 1048576: true; the input reads as it did. -/
def coldSoonerUptoRow : OpenClaim := { program := "ytknklhodhkohlaadoor", sum := "45131cc2305a3acbae6ae1dea2991ba916041d4d95f332d16c296ab1941770df", func := "decani/decanilaw03.ColdSooner", spec := "coldSooner", unfollowed := true, recurses := true, named := ["decani/cold.nowhere", "decani/cold.nobody", "decani/cold.kinds"], plainKeys := false, apart := false, laid := [("decani/cold.nobody", laid_decani_cold_nobody), ("decani/cold.nowhere", laid_decani_cold_nowhere), ("decani/cold.kinds", laid_decani_cold_kinds)], narrowed := true }
def ColdSoonerUptoSaid : Prop := coldSoonerUptoRow.holds Tryd.pinned (OpenSpec.upto coldSoonerSpec)

/-- 'decanilaw03.ColdMirror', WHERE WHAT IT READS IS OF BULK AT MOST 1048576: true; the input reads as it did. -/
def coldMirrorUptoRow : OpenClaim := { program := "ytknklhodhkohlaadoor", sum := "45131cc2305a3acbae6ae1dea2991ba916041d4d95f332d16c296ab1941770df", func := "decani/decanilaw03.ColdMirror", spec := "coldMirror", unfollowed := true, recurses := true, named := ["decani/cold.nowhere", "decani/cold.nobody", "decani/cold.kinds"], plainKeys := false, apart := false, laid := [("decani/cold.nobody", laid_decani_cold_nobody), ("decani/cold.nowhere", laid_decani_cold_nowhere), ("decani/cold.kinds", laid_decani_cold_kinds)], narrowed := true }
def ColdMirrorUptoSaid : Prop := coldMirrorUptoRow.holds Tryd.pinned (OpenSpec.upto coldMirrorSpec)

/-- 'decanilaw03.ColdWrong', WHERE WHAT IT READS IS OF BULK AT MOST 1048576: true; the input reads as it did. -/
def coldWrongUptoRow : OpenClaim := { program := "ytknklhodhkohlaadoor", sum := "45131cc2305a3acbae6ae1dea2991ba916041d4d95f332d16c296ab1941770df", func := "decani/decanilaw03.ColdWrong", spec := "coldWrong", unfollowed := true, recurses := true, named := ["decani/cold.nowhere", "decani/cold.nobody", "decani/cold.kinds"], plainKeys := false, apart := false, laid := [("decani/cold.nobody", laid_decani_cold_nobody), ("decani/cold.nowhere", laid_decani_cold_nowhere), ("decani/cold.kinds", laid_decani_cold_kinds)], narrowed := true }
def ColdWrongUptoSaid : Prop := coldWrongUptoRow.holds Tryd.pinned (OpenSpec.upto coldWrongSpec)

/-- 'decanilaw03.ColdKnown', WHERE WHAT IT READS IS OF BULK AT MOST 1048576: true; the input reads as it did. -/
def coldKnownUptoRow : OpenClaim := { program := "ytknklhodhkohlaadoor", sum := "45131cc2305a3acbae6ae1dea2991ba916041d4d95f332d16c296ab1941770df", func := "decani/decanilaw03.ColdKnown", spec := "coldKnown", unfollowed := true, recurses := true, named := ["decani/cold.nowhere", "decani/cold.nobody", "decani/cold.kinds"], plainKeys := false, apart := false, laid := [("decani/cold.nobody", laid_decani_cold_nobody), ("decani/cold.nowhere", laid_decani_cold_nowhere), ("decani/cold.kinds", laid_decani_cold_kinds)], narrowed := true }
def ColdKnownUptoSaid : Prop := coldKnownUptoRow.holds Tryd.pinned (OpenSpec.upto coldKnownSpec)

end Rows
end Go.Proofs.YtknklhodhkohlaaDoor
