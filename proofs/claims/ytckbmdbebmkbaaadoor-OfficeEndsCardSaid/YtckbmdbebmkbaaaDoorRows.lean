/-
  NARROWER THAN 'FOR EVERY INPUT', by the rows' own cells (each row's printed sentence says how): OfficeEnds: laid · OfficeMore: laid · OfficeFalls: laid · OfficeGreat: laid · OfficeAlike: laid · OfficePart: laid · OfficePsalm: laid · OfficeWrong: laid · OfficeKnown: laid.
  DERIVED. THE GIVEN ROWS OF THIS SEAT. 9 by the template 'for every input the law returns true; each argument reads behind the call as it read before'; 0 by the template 'total and deterministic' (their statements: YtckbmdbebmkbaaaDoorTotals.lean).
  GIVEN WITH THE SEED: the statements are not yours to turn. If you find one false, say at which input.
  Laid BY PROGRAM, IN A SANDBOX (cutbox-rows.mjs): the forced cells as the released guide's own fill.sh prints them over the translation 1c9345878037b1b2… (all of the seat's roots in one cut). By AI agents, Wed Nov 11 2026. No macro, syntax, notation, axiom, sorry.
-/
import Derived.Test.YtckbmdbebmkbaaaDoorChecked
import GoSem.Claim
import GoSem.ClaimJoined
import GoSem.ClaimMapViews
import Derived.JoinedTies
import Derived.KernelRfl
namespace Go.Proofs.YtckbmdbebmkbaaaDoor
/- THE CELL 'sum', in the pinned program and in every row, IS THE sha256 OF THE DUMP (.gsa) THAT YtckbmdbebmkbaaaDoorProg.lean LOADS. Nothing in Lean hashes anything: it is a label: what it is worth is what the hold of that sum in a sandbox is worth. -/
noncomputable def Tryd.pinned : Pinned := { name := "ytckbmdbebmkbaaadoor", sum := "1c9345878037b1b26b8d931d705454b15ba278995384f010dbfe0e87f02cafb1", checked := Tryd.checked }
namespace Rows
def none {H : Type} : Left H := { results := [], args := [] }

/- WHAT THE LISTED PACKAGE-LEVEL VARIABLES READ AS WHEN THE CALL BEGINS. Each datum BY PROGRAM (the guide's laid-datum.mjs) off the statement by which the dump's own 'gosem.cut.vars' lays the variable. In a bare row this is a premise. The card (YtckbmdbebmkbaaaDoorCards.lean) ties it to the program's text. -/
def laid_decani_office_never {H : Type} : DataW H := .agg [.lit (.int .i64 (-1)), .lit (.int .i64 (-1)), .lit (.int .i64 (-1)), .lit (.int .i64 (-1))]
def laid_decani_office_nowhere {H : Type} : DataW H := .agg [.lit (.int .i64 (-1)), .lit (.int .i64 (-1))]
def laid_decani_office_fates {H : Type} : DataW H := .iface "func table" (.agg [.iface "func" (.lit (.string [40, 100, 101, 99, 97, 110, 105, 47, 111, 102, 102, 105, 99, 101, 46, 115, 117, 110, 103, 41, 46, 111, 117, 116])), .iface "func" (.lit (.string [40, 100, 101, 99, 97, 110, 105, 47, 111, 102, 102, 105, 99, 101, 46, 115, 117, 110, 103, 41, 46, 110, 101, 120, 116])), .iface "func" (.lit (.string [40, 100, 101, 99, 97, 110, 105, 47, 111, 102, 102, 105, 99, 101, 46, 115, 117, 110, 103, 41, 46, 116, 111, 111]))])

/-- 'decanilaw01.OfficeEnds': WHATEVER THE INPUT: true; the input reads as it did. -/
def officeEndsSpec : ChangeSpec := { name := "officeEnds", fn := fun _ => fun
  | [d1, d2] => { results := [.lit (.bool true)], args := [d1, d2] }
  | _ => none }
def officeEndsRow : OpenClaim := { program := "ytckbmdbebmkbaaadoor", sum := "1c9345878037b1b26b8d931d705454b15ba278995384f010dbfe0e87f02cafb1", func := "decani/decanilaw01.OfficeEnds", spec := "officeEnds", unfollowed := true, recurses := true, named := ["decani/office.never", "decani/office.nowhere", "decani/office.fates"], plainKeys := false, apart := false, laid := [("decani/office.never", laid_decani_office_never), ("decani/office.nowhere", laid_decani_office_nowhere), ("decani/office.fates", laid_decani_office_fates)] }
def OfficeEndsSaid : Prop := officeEndsRow.holds Tryd.pinned (OpenSpec.ofChange officeEndsSpec)

/-- ITS FALSE NEIGHBOUR: 'it returns false'. Refute it at one input. -/
def officeEndsWrong : ChangeSpec := { name := "officeEnds", fn := fun _ => fun
  | [d1, d2] => { results := [.lit (.bool false)], args := [d1, d2] }
  | _ => none }
def OfficeEndsWrongFalsely : Prop := officeEndsRow.holds Tryd.pinned (OpenSpec.ofChange officeEndsWrong)

/-- 'decanilaw01.OfficeMore': WHATEVER THE INPUT: true; the input reads as it did. -/
def officeMoreSpec : ChangeSpec := { name := "officeMore", fn := fun _ => fun
  | [d1, d2, d3] => { results := [.lit (.bool true)], args := [d1, d2, d3] }
  | _ => none }
def officeMoreRow : OpenClaim := { program := "ytckbmdbebmkbaaadoor", sum := "1c9345878037b1b26b8d931d705454b15ba278995384f010dbfe0e87f02cafb1", func := "decani/decanilaw01.OfficeMore", spec := "officeMore", unfollowed := true, recurses := true, named := ["decani/office.never", "decani/office.nowhere", "decani/office.fates"], plainKeys := false, apart := false, laid := [("decani/office.never", laid_decani_office_never), ("decani/office.nowhere", laid_decani_office_nowhere), ("decani/office.fates", laid_decani_office_fates)] }
def OfficeMoreSaid : Prop := officeMoreRow.holds Tryd.pinned (OpenSpec.ofChange officeMoreSpec)

/-- ITS FALSE NEIGHBOUR: 'it returns false'. Refute it at one input. -/
def officeMoreWrong : ChangeSpec := { name := "officeMore", fn := fun _ => fun
  | [d1, d2, d3] => { results := [.lit (.bool false)], args := [d1, d2, d3] }
  | _ => none }
def OfficeMoreWrongFalsely : Prop := officeMoreRow.holds Tryd.pinned (OpenSpec.ofChange officeMoreWrong)

/-- 'decanilaw01.OfficeFalls': WHATEVER THE INPUT: true; the input reads as it did. -/
def officeFallsSpec : ChangeSpec := { name := "officeFalls", fn := fun _ => fun
  | [d1, d2] => { results := [.lit (.bool true)], args := [d1, d2] }
  | _ => none }
def officeFallsRow : OpenClaim := { program := "ytckbmdbebmkbaaadoor", sum := "1c9345878037b1b26b8d931d705454b15ba278995384f010dbfe0e87f02cafb1", func := "decani/decanilaw01.OfficeFalls", spec := "officeFalls", unfollowed := true, recurses := true, named := ["decani/office.never", "decani/office.nowhere", "decani/office.fates"], plainKeys := false, apart := false, laid := [("decani/office.never", laid_decani_office_never), ("decani/office.nowhere", laid_decani_office_nowhere), ("decani/office.fates", laid_decani_office_fates)] }
def OfficeFallsSaid : Prop := officeFallsRow.holds Tryd.pinned (OpenSpec.ofChange officeFallsSpec)

/-- ITS FALSE NEIGHBOUR: 'it returns false'. Refute it at one input. -/
def officeFallsWrong : ChangeSpec := { name := "officeFalls", fn := fun _ => fun
  | [d1, d2] => { results := [.lit (.bool false)], args := [d1, d2] }
  | _ => none }
def OfficeFallsWrongFalsely : Prop := officeFallsRow.holds Tryd.pinned (OpenSpec.ofChange officeFallsWrong)

/-- 'decanilaw01.OfficeGreat': WHATEVER THE INPUT: true; the input reads as it did. -/
def officeGreatSpec : ChangeSpec := { name := "officeGreat", fn := fun _ => fun
  | [d1, d2] => { results := [.lit (.bool true)], args := [d1, d2] }
  | _ => none }
def officeGreatRow : OpenClaim := { program := "ytckbmdbebmkbaaadoor", sum := "1c9345878037b1b26b8d931d705454b15ba278995384f010dbfe0e87f02cafb1", func := "decani/decanilaw01.OfficeGreat", spec := "officeGreat", unfollowed := true, recurses := true, named := ["decani/office.never", "decani/office.nowhere", "decani/office.fates"], plainKeys := false, apart := false, laid := [("decani/office.never", laid_decani_office_never), ("decani/office.nowhere", laid_decani_office_nowhere), ("decani/office.fates", laid_decani_office_fates)] }
def OfficeGreatSaid : Prop := officeGreatRow.holds Tryd.pinned (OpenSpec.ofChange officeGreatSpec)

/-- ITS FALSE NEIGHBOUR: 'it returns false'. Refute it at one input. -/
def officeGreatWrong : ChangeSpec := { name := "officeGreat", fn := fun _ => fun
  | [d1, d2] => { results := [.lit (.bool false)], args := [d1, d2] }
  | _ => none }
def OfficeGreatWrongFalsely : Prop := officeGreatRow.holds Tryd.pinned (OpenSpec.ofChange officeGreatWrong)

/-- 'decanilaw01.OfficeAlike': WHATEVER THE INPUT: true; the input reads as it did. -/
def officeAlikeSpec : ChangeSpec := { name := "officeAlike", fn := fun _ => fun
  | [d1, d2] => { results := [.lit (.bool true)], args := [d1, d2] }
  | _ => none }
def officeAlikeRow : OpenClaim := { program := "ytckbmdbebmkbaaadoor", sum := "1c9345878037b1b26b8d931d705454b15ba278995384f010dbfe0e87f02cafb1", func := "decani/decanilaw01.OfficeAlike", spec := "officeAlike", unfollowed := true, recurses := true, named := ["decani/office.never", "decani/office.nowhere", "decani/office.fates"], plainKeys := false, apart := false, laid := [("decani/office.never", laid_decani_office_never), ("decani/office.nowhere", laid_decani_office_nowhere), ("decani/office.fates", laid_decani_office_fates)] }
def OfficeAlikeSaid : Prop := officeAlikeRow.holds Tryd.pinned (OpenSpec.ofChange officeAlikeSpec)

/-- ITS FALSE NEIGHBOUR: 'it returns false'. Refute it at one input. -/
def officeAlikeWrong : ChangeSpec := { name := "officeAlike", fn := fun _ => fun
  | [d1, d2] => { results := [.lit (.bool false)], args := [d1, d2] }
  | _ => none }
def OfficeAlikeWrongFalsely : Prop := officeAlikeRow.holds Tryd.pinned (OpenSpec.ofChange officeAlikeWrong)

/-- 'decanilaw01.OfficePart': WHATEVER THE INPUT: true; the input reads as it did. -/
def officePartSpec : ChangeSpec := { name := "officePart", fn := fun _ => fun
  | [d] => { results := [.lit (.bool true)], args := [d] }
  | _ => none }
def officePartRow : OpenClaim := { program := "ytckbmdbebmkbaaadoor", sum := "1c9345878037b1b26b8d931d705454b15ba278995384f010dbfe0e87f02cafb1", func := "decani/decanilaw01.OfficePart", spec := "officePart", unfollowed := true, recurses := true, named := ["decani/office.never", "decani/office.nowhere", "decani/office.fates"], plainKeys := false, apart := false, laid := [("decani/office.never", laid_decani_office_never), ("decani/office.nowhere", laid_decani_office_nowhere), ("decani/office.fates", laid_decani_office_fates)] }
def OfficePartSaid : Prop := officePartRow.holds Tryd.pinned (OpenSpec.ofChange officePartSpec)

/-- ITS FALSE NEIGHBOUR: 'it returns false'. Refute it at one input. -/
def officePartWrong : ChangeSpec := { name := "officePart", fn := fun _ => fun
  | [d] => { results := [.lit (.bool false)], args := [d] }
  | _ => none }
def OfficePartWrongFalsely : Prop := officePartRow.holds Tryd.pinned (OpenSpec.ofChange officePartWrong)

/-- 'decanilaw01.OfficePsalm': WHATEVER THE INPUT: true; the input reads as it did. -/
def officePsalmSpec : ChangeSpec := { name := "officePsalm", fn := fun _ => fun
  | [d1, d2] => { results := [.lit (.bool true)], args := [d1, d2] }
  | _ => none }
def officePsalmRow : OpenClaim := { program := "ytckbmdbebmkbaaadoor", sum := "1c9345878037b1b26b8d931d705454b15ba278995384f010dbfe0e87f02cafb1", func := "decani/decanilaw01.OfficePsalm", spec := "officePsalm", unfollowed := true, recurses := true, named := ["decani/office.never", "decani/office.nowhere", "decani/office.fates"], plainKeys := false, apart := false, laid := [("decani/office.never", laid_decani_office_never), ("decani/office.nowhere", laid_decani_office_nowhere), ("decani/office.fates", laid_decani_office_fates)] }
def OfficePsalmSaid : Prop := officePsalmRow.holds Tryd.pinned (OpenSpec.ofChange officePsalmSpec)

/-- ITS FALSE NEIGHBOUR: 'it returns false'. Refute it at one input. -/
def officePsalmWrong : ChangeSpec := { name := "officePsalm", fn := fun _ => fun
  | [d1, d2] => { results := [.lit (.bool false)], args := [d1, d2] }
  | _ => none }
def OfficePsalmWrongFalsely : Prop := officePsalmRow.holds Tryd.pinned (OpenSpec.ofChange officePsalmWrong)

/-- 'decanilaw01.OfficeWrong': WHATEVER THE INPUT: true; the input reads as it did. -/
def officeWrongSpec : ChangeSpec := { name := "officeWrong", fn := fun _ => fun
  | [d1, d2] => { results := [.lit (.bool true)], args := [d1, d2] }
  | _ => none }
def officeWrongRow : OpenClaim := { program := "ytckbmdbebmkbaaadoor", sum := "1c9345878037b1b26b8d931d705454b15ba278995384f010dbfe0e87f02cafb1", func := "decani/decanilaw01.OfficeWrong", spec := "officeWrong", unfollowed := true, recurses := true, named := ["decani/office.never", "decani/office.nowhere", "decani/office.fates"], plainKeys := false, apart := false, laid := [("decani/office.never", laid_decani_office_never), ("decani/office.nowhere", laid_decani_office_nowhere), ("decani/office.fates", laid_decani_office_fates)] }
def OfficeWrongSaid : Prop := officeWrongRow.holds Tryd.pinned (OpenSpec.ofChange officeWrongSpec)

/-- ITS FALSE NEIGHBOUR: 'it returns false'. Refute it at one input. -/
def officeWrongWrong : ChangeSpec := { name := "officeWrong", fn := fun _ => fun
  | [d1, d2] => { results := [.lit (.bool false)], args := [d1, d2] }
  | _ => none }
def OfficeWrongWrongFalsely : Prop := officeWrongRow.holds Tryd.pinned (OpenSpec.ofChange officeWrongWrong)

/-- 'decanilaw01.OfficeKnown': WHATEVER THE INPUT: true; the input reads as it did. -/
def officeKnownSpec : ChangeSpec := { name := "officeKnown", fn := fun _ => fun
  | [] => { results := [.lit (.bool true)], args := [] }
  | _ => none }
def officeKnownRow : OpenClaim := { program := "ytckbmdbebmkbaaadoor", sum := "1c9345878037b1b26b8d931d705454b15ba278995384f010dbfe0e87f02cafb1", func := "decani/decanilaw01.OfficeKnown", spec := "officeKnown", unfollowed := true, recurses := true, named := ["decani/office.never", "decani/office.nowhere", "decani/office.fates"], plainKeys := false, apart := false, laid := [("decani/office.never", laid_decani_office_never), ("decani/office.nowhere", laid_decani_office_nowhere), ("decani/office.fates", laid_decani_office_fates)] }
def OfficeKnownSaid : Prop := officeKnownRow.holds Tryd.pinned (OpenSpec.ofChange officeKnownSpec)

/-- ITS FALSE NEIGHBOUR: 'it returns false'. Refute it at one input. -/
def officeKnownWrong : ChangeSpec := { name := "officeKnown", fn := fun _ => fun
  | [] => { results := [.lit (.bool false)], args := [] }
  | _ => none }
def OfficeKnownWrongFalsely : Prop := officeKnownRow.holds Tryd.pinned (OpenSpec.ofChange officeKnownWrong)

/- THE SECOND FORM. 'bulk': how many values and letters a reading holds, each counted each time it is reached (what is shared counts as often as it is met; a slice's spare places count too). A statement '..UptoSaid' is the law's where the arguments, and the package variables that the reading takes, are together of bulk at most 1048576: NARROWER than '..Said'. Prove '..Said' where nothing that the law and all that it calls make is longer than what came in: it says more and counts as full. Else prove '..UptoSaid'. A law counts once. -/
mutual
def uptoBulk {H : Type} : DataW H → Nat
  | .lit (.string bytes) => bytes.length + 1
  | .lit _ => 1
  | .nil => 1
  | .ptr d => uptoBulk d + 1
  | .slice elems spare => uptoBulkAll elems + uptoBulkAll spare + 1
  | .agg parts => uptoBulkAll parts + 1
  | .iface _ d => uptoBulk d + 1
  | .map entries => uptoBulkEntries entries + 1
  | .held _ => 1
def uptoBulkAll {H : Type} : List (DataW H) → Nat
  | [] => 0
  | d :: r => uptoBulk d + uptoBulkAll r
def uptoBulkEntries {H : Type} : List (Lit × DataW H) → Nat
  | [] => 0
  | x :: r => uptoBulkEntry x + uptoBulkEntries r
def uptoBulkEntry {H : Type} : Lit × DataW H → Nat
  | (.string bytes, d) => bytes.length + uptoBulk d + 1
  | (_, d) => uptoBulk d + 1
 end
def uptoSmall : (H : Type) → List (DataW H) → Bool := fun _ ds => decide (uptoBulkAll ds ≤ 1048576)
def OpenSpec.upto (s : _root_.Go.ChangeSpec) : _root_.Go.OpenSpec := { _root_.Go.OpenSpec.ofChange s with cond := some uptoSmall }

/-- 'decanilaw01.OfficeEnds', WHERE WHAT IT READS IS OF BULK AT MOST 1048576: true; the input reads as it did. -/
def officeEndsUptoRow : OpenClaim := { program := "ytckbmdbebmkbaaadoor", sum := "1c9345878037b1b26b8d931d705454b15ba278995384f010dbfe0e87f02cafb1", func := "decani/decanilaw01.OfficeEnds", spec := "officeEnds", unfollowed := true, recurses := true, named := ["decani/office.never", "decani/office.nowhere", "decani/office.fates"], plainKeys := false, apart := false, laid := [("decani/office.never", laid_decani_office_never), ("decani/office.nowhere", laid_decani_office_nowhere), ("decani/office.fates", laid_decani_office_fates)], narrowed := true }
def OfficeEndsUptoSaid : Prop := officeEndsUptoRow.holds Tryd.pinned (OpenSpec.upto officeEndsSpec)

/-- 'decanilaw01.OfficeMore', WHERE WHAT IT READS IS OF BULK AT MOST 1048576: true; the input reads as it did. -/
def officeMoreUptoRow : OpenClaim := { program := "ytckbmdbebmkbaaadoor", sum := "1c9345878037b1b26b8d931d705454b15ba278995384f010dbfe0e87f02cafb1", func := "decani/decanilaw01.OfficeMore", spec := "officeMore", unfollowed := true, recurses := true, named := ["decani/office.never", "decani/office.nowhere", "decani/office.fates"], plainKeys := false, apart := false, laid := [("decani/office.never", laid_decani_office_never), ("decani/office.nowhere", laid_decani_office_nowhere), ("decani/office.fates", laid_decani_office_fates)], narrowed := true }
def OfficeMoreUptoSaid : Prop := officeMoreUptoRow.holds Tryd.pinned (OpenSpec.upto officeMoreSpec)

/-- 'decanilaw01.OfficeFalls', WHERE WHAT IT READS IS OF BULK AT MOST 1048576: true; the input reads as it did. -/
def officeFallsUptoRow : OpenClaim := { program := "ytckbmdbebmkbaaadoor", sum := "1c9345878037b1b26b8d931d705454b15ba278995384f010dbfe0e87f02cafb1", func := "decani/decanilaw01.OfficeFalls", spec := "officeFalls", unfollowed := true, recurses := true, named := ["decani/office.never", "decani/office.nowhere", "decani/office.fates"], plainKeys := false, apart := false, laid := [("decani/office.never", laid_decani_office_never), ("decani/office.nowhere", laid_decani_office_nowhere), ("decani/office.fates", laid_decani_office_fates)], narrowed := true }
def OfficeFallsUptoSaid : Prop := officeFallsUptoRow.holds Tryd.pinned (OpenSpec.upto officeFallsSpec)

/-- 'decanilaw01.OfficeGreat', WHERE WHAT IT READS IS OF BULK AT MOST 1048576: true; the input reads as it did. -/
def officeGreatUptoRow : OpenClaim := { program := "ytckbmdbebmkbaaadoor", sum := "1c9345878037b1b26b8d931d705454b15ba278995384f010dbfe0e87f02cafb1", func := "decani/decanilaw01.OfficeGreat", spec := "officeGreat", unfollowed := true, recurses := true, named := ["decani/office.never", "decani/office.nowhere", "decani/office.fates"], plainKeys := false, apart := false, laid := [("decani/office.never", laid_decani_office_never), ("decani/office.nowhere", laid_decani_office_nowhere), ("decani/office.fates", laid_decani_office_fates)], narrowed := true }
def OfficeGreatUptoSaid : Prop := officeGreatUptoRow.holds Tryd.pinned (OpenSpec.upto officeGreatSpec)

/-- 'decanilaw01.OfficeAlike', WHERE WHAT IT READS IS OF BULK AT MOST 1048576: true; the input reads as it did. -/
def officeAlikeUptoRow : OpenClaim := { program := "ytckbmdbebmkbaaadoor", sum := "1c9345878037b1b26b8d931d705454b15ba278995384f010dbfe0e87f02cafb1", func := "decani/decanilaw01.OfficeAlike", spec := "officeAlike", unfollowed := true, recurses := true, named := ["decani/office.never", "decani/office.nowhere", "decani/office.fates"], plainKeys := false, apart := false, laid := [("decani/office.never", laid_decani_office_never), ("decani/office.nowhere", laid_decani_office_nowhere), ("decani/office.fates", laid_decani_office_fates)], narrowed := true }
def OfficeAlikeUptoSaid : Prop := officeAlikeUptoRow.holds Tryd.pinned (OpenSpec.upto officeAlikeSpec)

/-- 'decanilaw01.OfficePart', WHERE WHAT IT READS IS OF BULK AT MOST 1048576: true; the input reads as it did. -/
def officePartUptoRow : OpenClaim := { program := "ytckbmdbebmkbaaadoor", sum := "1c9345878037b1b26b8d931d705454b15ba278995384f010dbfe0e87f02cafb1", func := "decani/decanilaw01.OfficePart", spec := "officePart", unfollowed := true, recurses := true, named := ["decani/office.never", "decani/office.nowhere", "decani/office.fates"], plainKeys := false, apart := false, laid := [("decani/office.never", laid_decani_office_never), ("decani/office.nowhere", laid_decani_office_nowhere), ("decani/office.fates", laid_decani_office_fates)], narrowed := true }
def OfficePartUptoSaid : Prop := officePartUptoRow.holds Tryd.pinned (OpenSpec.upto officePartSpec)

/-- 'decanilaw01.OfficePsalm', WHERE WHAT IT READS IS OF BULK AT MOST 1048576: true; the input reads as it did. -/
def officePsalmUptoRow : OpenClaim := { program := "ytckbmdbebmkbaaadoor", sum := "1c9345878037b1b26b8d931d705454b15ba278995384f010dbfe0e87f02cafb1", func := "decani/decanilaw01.OfficePsalm", spec := "officePsalm", unfollowed := true, recurses := true, named := ["decani/office.never", "decani/office.nowhere", "decani/office.fates"], plainKeys := false, apart := false, laid := [("decani/office.never", laid_decani_office_never), ("decani/office.nowhere", laid_decani_office_nowhere), ("decani/office.fates", laid_decani_office_fates)], narrowed := true }
def OfficePsalmUptoSaid : Prop := officePsalmUptoRow.holds Tryd.pinned (OpenSpec.upto officePsalmSpec)

/-- 'decanilaw01.OfficeWrong', WHERE WHAT IT READS IS OF BULK AT MOST 1048576: true; the input reads as it did. -/
def officeWrongUptoRow : OpenClaim := { program := "ytckbmdbebmkbaaadoor", sum := "1c9345878037b1b26b8d931d705454b15ba278995384f010dbfe0e87f02cafb1", func := "decani/decanilaw01.OfficeWrong", spec := "officeWrong", unfollowed := true, recurses := true, named := ["decani/office.never", "decani/office.nowhere", "decani/office.fates"], plainKeys := false, apart := false, laid := [("decani/office.never", laid_decani_office_never), ("decani/office.nowhere", laid_decani_office_nowhere), ("decani/office.fates", laid_decani_office_fates)], narrowed := true }
def OfficeWrongUptoSaid : Prop := officeWrongUptoRow.holds Tryd.pinned (OpenSpec.upto officeWrongSpec)

/-- 'decanilaw01.OfficeKnown', WHERE WHAT IT READS IS OF BULK AT MOST 1048576: true; the input reads as it did. -/
def officeKnownUptoRow : OpenClaim := { program := "ytckbmdbebmkbaaadoor", sum := "1c9345878037b1b26b8d931d705454b15ba278995384f010dbfe0e87f02cafb1", func := "decani/decanilaw01.OfficeKnown", spec := "officeKnown", unfollowed := true, recurses := true, named := ["decani/office.never", "decani/office.nowhere", "decani/office.fates"], plainKeys := false, apart := false, laid := [("decani/office.never", laid_decani_office_never), ("decani/office.nowhere", laid_decani_office_nowhere), ("decani/office.fates", laid_decani_office_fates)], narrowed := true }
def OfficeKnownUptoSaid : Prop := officeKnownUptoRow.holds Tryd.pinned (OpenSpec.upto officeKnownSpec)

end Rows
end Go.Proofs.YtckbmdbebmkbaaaDoor
