/-
  NARROWER THAN 'FOR EVERY INPUT', by the rows' own cells (each row's printed sentence says how): PlainReckons: laid · PlainInput: laid · PlainCaptures: laid · PlainRuns: laid · PlainObjects: laid · PlainSteps: laid · PlainViews: laid · PlainPieces: laid.
  DERIVED. THE GIVEN ROWS OF THIS SEAT. 8 by the template 'for every input the law returns true; each argument reads behind the call as it read before'; 0 by the template 'total and deterministic' (their statements: YtkaladiliikheaaGreatDoorTotals.lean).
  GIVEN WITH THE SEED: the statements are not yours to turn. If you find one false, say at which input.
  Laid BY PROGRAM, IN A SANDBOX (cutbox-rows.mjs): the forced cells as the released guide's own fill.sh prints them over the translation 4bd9eef532261ae5… (all of the seat's roots in one cut). By AI agents, Wed Nov 11 2026. No macro, syntax, notation, axiom, sorry.
-/
import Derived.Test.YtkaladiliikheaaGreatDoorChecked
import GoSem.Claim
import GoSem.ClaimJoined
import GoSem.ClaimMapViews
import Derived.JoinedTies
import Derived.KernelRfl
namespace Go.Proofs.YtkaladiliikheaaGreatDoor
/- THE CELL 'sum', in the pinned program and in every row, IS THE sha256 OF THE DUMP (.gsa) THAT YtkaladiliikheaaGreatDoorProg.lean LOADS. Nothing in Lean hashes anything: it is a label: what it is worth is what the hold of that sum in a sandbox is worth. -/
noncomputable def Tryz.pinned : Pinned := { name := "ytkaladiliikheaagreatdoor", sum := "4bd9eef532261ae59d60630e12cee50f988e8428a0222c288e6e738ab2270e7c", checked := Tryz.checked }
namespace Rows
def none {H : Type} : Left H := { results := [], args := [] }

/- WHAT THE LISTED PACKAGE-LEVEL VARIABLES READ AS WHEN THE CALL BEGINS. Each datum BY PROGRAM (the guide's laid-datum.mjs) off the statement by which the dump's own 'gosem.cut.vars' lays the variable. In a bare row this is a premise. The card (YtkaladiliikheaaGreatDoorCards.lean) ties it to the program's text. -/
def laid_errors_errorType {H : Type} : DataW H := .iface "internal/reflectlite.rtype" (.agg [.ptr (.lit (.string [101, 114, 114, 111, 114]))])
def laid_math_bits_deBruijn32tab {H : Type} : DataW H := .agg [.lit (.int .u8 0), .lit (.int .u8 1), .lit (.int .u8 28), .lit (.int .u8 2), .lit (.int .u8 29), .lit (.int .u8 14), .lit (.int .u8 24), .lit (.int .u8 3), .lit (.int .u8 30), .lit (.int .u8 22), .lit (.int .u8 20), .lit (.int .u8 15), .lit (.int .u8 25), .lit (.int .u8 17), .lit (.int .u8 4), .lit (.int .u8 8), .lit (.int .u8 31), .lit (.int .u8 27), .lit (.int .u8 13), .lit (.int .u8 23), .lit (.int .u8 21), .lit (.int .u8 19), .lit (.int .u8 16), .lit (.int .u8 7), .lit (.int .u8 26), .lit (.int .u8 12), .lit (.int .u8 18), .lit (.int .u8 6), .lit (.int .u8 11), .lit (.int .u8 5), .lit (.int .u8 10), .lit (.int .u8 9)]
def laid_math_bits_deBruijn64tab {H : Type} : DataW H := .agg [.lit (.int .u8 0), .lit (.int .u8 1), .lit (.int .u8 56), .lit (.int .u8 2), .lit (.int .u8 57), .lit (.int .u8 49), .lit (.int .u8 28), .lit (.int .u8 3), .lit (.int .u8 61), .lit (.int .u8 58), .lit (.int .u8 42), .lit (.int .u8 50), .lit (.int .u8 38), .lit (.int .u8 29), .lit (.int .u8 17), .lit (.int .u8 4), .lit (.int .u8 62), .lit (.int .u8 47), .lit (.int .u8 59), .lit (.int .u8 36), .lit (.int .u8 45), .lit (.int .u8 43), .lit (.int .u8 51), .lit (.int .u8 22), .lit (.int .u8 53), .lit (.int .u8 39), .lit (.int .u8 33), .lit (.int .u8 30), .lit (.int .u8 24), .lit (.int .u8 18), .lit (.int .u8 12), .lit (.int .u8 5), .lit (.int .u8 63), .lit (.int .u8 55), .lit (.int .u8 48), .lit (.int .u8 27), .lit (.int .u8 60), .lit (.int .u8 41), .lit (.int .u8 37), .lit (.int .u8 16), .lit (.int .u8 46), .lit (.int .u8 35), .lit (.int .u8 44), .lit (.int .u8 21), .lit (.int .u8 52), .lit (.int .u8 32), .lit (.int .u8 23), .lit (.int .u8 11), .lit (.int .u8 54), .lit (.int .u8 26), .lit (.int .u8 40), .lit (.int .u8 15), .lit (.int .u8 34), .lit (.int .u8 20), .lit (.int .u8 31), .lit (.int .u8 10), .lit (.int .u8 25), .lit (.int .u8 14), .lit (.int .u8 19), .lit (.int .u8 9), .lit (.int .u8 13), .lit (.int .u8 8), .lit (.int .u8 7), .lit (.int .u8 6)]
def laid_internal_strconv_uint64pow10 {H : Type} : DataW H := .agg [.lit (.int .u64 1), .lit (.int .u64 10), .lit (.int .u64 100), .lit (.int .u64 1000), .lit (.int .u64 10000), .lit (.int .u64 100000), .lit (.int .u64 1000000), .lit (.int .u64 10000000), .lit (.int .u64 100000000), .lit (.int .u64 1000000000), .lit (.int .u64 10000000000), .lit (.int .u64 100000000000), .lit (.int .u64 1000000000000), .lit (.int .u64 10000000000000), .lit (.int .u64 100000000000000), .lit (.int .u64 1000000000000000), .lit (.int .u64 10000000000000000), .lit (.int .u64 100000000000000000), .lit (.int .u64 1000000000000000000), .lit (.int .u64 10000000000000000000)]

/-- 'tidewaylaw17.PlainReckons': WHATEVER THE INPUT: true; the input reads as it did. -/
def plainReckonsSpec : ChangeSpec := { name := "plainReckons", fn := fun _ => fun
  | [d1, d2, d3] => { results := [.lit (.bool true)], args := [d1, d2, d3] }
  | _ => none }
def plainReckonsRow : OpenClaim := { program := "ytkaladiliikheaagreatdoor", sum := "4bd9eef532261ae59d60630e12cee50f988e8428a0222c288e6e738ab2270e7c", func := "tideway/tidewaylaw17.PlainReckons", spec := "plainReckons", inPlace := ["internal/reflectlite.ValueOf", "(internal/reflectlite.Value).Type", "(internal/reflectlite.Value).IsNil", "internal/reflectlite.TypeOf", "(internal/reflectlite.Value).Elem", "(internal/reflectlite.Value).Set"], unfollowed := true, recurses := true, named := ["errors.errorType"], plainKeys := false, apart := false, laid := [("errors.errorType", laid_errors_errorType)] }
def PlainReckonsSaid : Prop := plainReckonsRow.holds Tryz.pinned (OpenSpec.ofChange plainReckonsSpec)

/-- ITS FALSE NEIGHBOUR: 'it returns false'. Refute it at one input. -/
def plainReckonsWrong : ChangeSpec := { name := "plainReckons", fn := fun _ => fun
  | [d1, d2, d3] => { results := [.lit (.bool false)], args := [d1, d2, d3] }
  | _ => none }
def PlainReckonsWrongFalsely : Prop := plainReckonsRow.holds Tryz.pinned (OpenSpec.ofChange plainReckonsWrong)

/-- 'tidewaylaw17.PlainInput': WHATEVER THE INPUT: true; the input reads as it did. -/
def plainInputSpec : ChangeSpec := { name := "plainInput", fn := fun _ => fun
  | [d1, d2, d3] => { results := [.lit (.bool true)], args := [d1, d2, d3] }
  | _ => none }
def plainInputRow : OpenClaim := { program := "ytkaladiliikheaagreatdoor", sum := "4bd9eef532261ae59d60630e12cee50f988e8428a0222c288e6e738ab2270e7c", func := "tideway/tidewaylaw17.PlainInput", spec := "plainInput", inPlace := ["internal/reflectlite.ValueOf", "(internal/reflectlite.Value).Type", "(internal/reflectlite.Value).IsNil", "internal/reflectlite.TypeOf", "(internal/reflectlite.Value).Elem", "(internal/reflectlite.Value).Set"], unfollowed := true, recurses := true, named := ["errors.errorType"], plainKeys := false, apart := false, laid := [("errors.errorType", laid_errors_errorType)] }
def PlainInputSaid : Prop := plainInputRow.holds Tryz.pinned (OpenSpec.ofChange plainInputSpec)

/-- ITS FALSE NEIGHBOUR: 'it returns false'. Refute it at one input. -/
def plainInputWrong : ChangeSpec := { name := "plainInput", fn := fun _ => fun
  | [d1, d2, d3] => { results := [.lit (.bool false)], args := [d1, d2, d3] }
  | _ => none }
def PlainInputWrongFalsely : Prop := plainInputRow.holds Tryz.pinned (OpenSpec.ofChange plainInputWrong)

/-- 'tidewaylaw17.PlainCaptures': WHATEVER THE INPUT: true; the input reads as it did. -/
def plainCapturesSpec : ChangeSpec := { name := "plainCaptures", fn := fun _ => fun
  | [d1, d2, d3] => { results := [.lit (.bool true)], args := [d1, d2, d3] }
  | _ => none }
def plainCapturesRow : OpenClaim := { program := "ytkaladiliikheaagreatdoor", sum := "4bd9eef532261ae59d60630e12cee50f988e8428a0222c288e6e738ab2270e7c", func := "tideway/tidewaylaw17.PlainCaptures", spec := "plainCaptures", inPlace := ["internal/reflectlite.ValueOf", "(internal/reflectlite.Value).Type", "(internal/reflectlite.Value).IsNil", "internal/reflectlite.TypeOf", "(internal/reflectlite.Value).Elem", "(internal/reflectlite.Value).Set"], unfollowed := true, recurses := true, named := ["errors.errorType"], plainKeys := false, apart := false, laid := [("errors.errorType", laid_errors_errorType)] }
def PlainCapturesSaid : Prop := plainCapturesRow.holds Tryz.pinned (OpenSpec.ofChange plainCapturesSpec)

/-- ITS FALSE NEIGHBOUR: 'it returns false'. Refute it at one input. -/
def plainCapturesWrong : ChangeSpec := { name := "plainCaptures", fn := fun _ => fun
  | [d1, d2, d3] => { results := [.lit (.bool false)], args := [d1, d2, d3] }
  | _ => none }
def PlainCapturesWrongFalsely : Prop := plainCapturesRow.holds Tryz.pinned (OpenSpec.ofChange plainCapturesWrong)

/-- 'tidewaylaw17.PlainRuns': WHATEVER THE INPUT: true; the input reads as it did. -/
def plainRunsSpec : ChangeSpec := { name := "plainRuns", fn := fun _ => fun
  | [d1, d2, d3] => { results := [.lit (.bool true)], args := [d1, d2, d3] }
  | _ => none }
def plainRunsRow : OpenClaim := { program := "ytkaladiliikheaagreatdoor", sum := "4bd9eef532261ae59d60630e12cee50f988e8428a0222c288e6e738ab2270e7c", func := "tideway/tidewaylaw17.PlainRuns", spec := "plainRuns", inPlace := ["internal/reflectlite.ValueOf", "(internal/reflectlite.Value).Type", "(internal/reflectlite.Value).IsNil", "internal/reflectlite.TypeOf", "(internal/reflectlite.Value).Elem", "(internal/reflectlite.Value).Set"], unfollowed := true, recurses := true, named := ["errors.errorType"], plainKeys := false, apart := false, laid := [("errors.errorType", laid_errors_errorType)] }
def PlainRunsSaid : Prop := plainRunsRow.holds Tryz.pinned (OpenSpec.ofChange plainRunsSpec)

/-- ITS FALSE NEIGHBOUR: 'it returns false'. Refute it at one input. -/
def plainRunsWrong : ChangeSpec := { name := "plainRuns", fn := fun _ => fun
  | [d1, d2, d3] => { results := [.lit (.bool false)], args := [d1, d2, d3] }
  | _ => none }
def PlainRunsWrongFalsely : Prop := plainRunsRow.holds Tryz.pinned (OpenSpec.ofChange plainRunsWrong)

/-- 'tidewaylaw17.PlainObjects': WHATEVER THE INPUT: true; the input reads as it did. -/
def plainObjectsSpec : ChangeSpec := { name := "plainObjects", fn := fun _ => fun
  | [d1, d2, d3] => { results := [.lit (.bool true)], args := [d1, d2, d3] }
  | _ => none }
def plainObjectsRow : OpenClaim := { program := "ytkaladiliikheaagreatdoor", sum := "4bd9eef532261ae59d60630e12cee50f988e8428a0222c288e6e738ab2270e7c", func := "tideway/tidewaylaw17.PlainObjects", spec := "plainObjects", inPlace := ["internal/reflectlite.ValueOf", "(internal/reflectlite.Value).Type", "(internal/reflectlite.Value).IsNil", "internal/reflectlite.TypeOf", "(internal/reflectlite.Value).Elem", "(internal/reflectlite.Value).Set"], unfollowed := true, recurses := true, named := ["errors.errorType"], plainKeys := false, apart := false, laid := [("errors.errorType", laid_errors_errorType)] }
def PlainObjectsSaid : Prop := plainObjectsRow.holds Tryz.pinned (OpenSpec.ofChange plainObjectsSpec)

/-- ITS FALSE NEIGHBOUR: 'it returns false'. Refute it at one input. -/
def plainObjectsWrong : ChangeSpec := { name := "plainObjects", fn := fun _ => fun
  | [d1, d2, d3] => { results := [.lit (.bool false)], args := [d1, d2, d3] }
  | _ => none }
def PlainObjectsWrongFalsely : Prop := plainObjectsRow.holds Tryz.pinned (OpenSpec.ofChange plainObjectsWrong)

/-- 'tidewaylaw17.PlainSteps': WHATEVER THE INPUT: true; the input reads as it did. -/
def plainStepsSpec : ChangeSpec := { name := "plainSteps", fn := fun _ => fun
  | [d1, d2] => { results := [.lit (.bool true)], args := [d1, d2] }
  | _ => none }
def plainStepsRow : OpenClaim := { program := "ytkaladiliikheaagreatdoor", sum := "4bd9eef532261ae59d60630e12cee50f988e8428a0222c288e6e738ab2270e7c", func := "tideway/tidewaylaw17.PlainSteps", spec := "plainSteps", inPlace := ["internal/reflectlite.ValueOf", "(internal/reflectlite.Value).Type", "(internal/reflectlite.Value).IsNil", "internal/reflectlite.TypeOf", "(internal/reflectlite.Value).Elem", "(internal/reflectlite.Value).Set"], unfollowed := true, recurses := true, named := ["errors.errorType"], plainKeys := false, apart := false, laid := [("errors.errorType", laid_errors_errorType)] }
def PlainStepsSaid : Prop := plainStepsRow.holds Tryz.pinned (OpenSpec.ofChange plainStepsSpec)

/-- ITS FALSE NEIGHBOUR: 'it returns false'. Refute it at one input. -/
def plainStepsWrong : ChangeSpec := { name := "plainSteps", fn := fun _ => fun
  | [d1, d2] => { results := [.lit (.bool false)], args := [d1, d2] }
  | _ => none }
def PlainStepsWrongFalsely : Prop := plainStepsRow.holds Tryz.pinned (OpenSpec.ofChange plainStepsWrong)

/-- 'tidewaylaw17.PlainViews': WHATEVER THE INPUT: true; the input reads as it did. -/
def plainViewsSpec : ChangeSpec := { name := "plainViews", fn := fun _ => fun
  | [d1, d2] => { results := [.lit (.bool true)], args := [d1, d2] }
  | _ => none }
def plainViewsRow : OpenClaim := { program := "ytkaladiliikheaagreatdoor", sum := "4bd9eef532261ae59d60630e12cee50f988e8428a0222c288e6e738ab2270e7c", func := "tideway/tidewaylaw17.PlainViews", spec := "plainViews", inPlace := ["internal/reflectlite.ValueOf", "(internal/reflectlite.Value).Type", "(internal/reflectlite.Value).IsNil", "internal/reflectlite.TypeOf", "(internal/reflectlite.Value).Elem", "(internal/reflectlite.Value).Set"], unfollowed := true, recurses := true, named := ["errors.errorType", "internal/strconv.uint64pow10", "math/bits.deBruijn32tab", "math/bits.deBruijn64tab"], plainKeys := false, apart := false, laid := [("math/bits.deBruijn32tab", laid_math_bits_deBruijn32tab), ("math/bits.deBruijn64tab", laid_math_bits_deBruijn64tab), ("internal/strconv.uint64pow10", laid_internal_strconv_uint64pow10), ("errors.errorType", laid_errors_errorType)] }
def PlainViewsSaid : Prop := plainViewsRow.holds Tryz.pinned (OpenSpec.ofChange plainViewsSpec)

/-- ITS FALSE NEIGHBOUR: 'it returns false'. Refute it at one input. -/
def plainViewsWrong : ChangeSpec := { name := "plainViews", fn := fun _ => fun
  | [d1, d2] => { results := [.lit (.bool false)], args := [d1, d2] }
  | _ => none }
def PlainViewsWrongFalsely : Prop := plainViewsRow.holds Tryz.pinned (OpenSpec.ofChange plainViewsWrong)

/-- 'tidewaylaw17.PlainPieces': WHATEVER THE INPUT: true; the input reads as it did. -/
def plainPiecesSpec : ChangeSpec := { name := "plainPieces", fn := fun _ => fun
  | [d1, d2, d3] => { results := [.lit (.bool true)], args := [d1, d2, d3] }
  | _ => none }
def plainPiecesRow : OpenClaim := { program := "ytkaladiliikheaagreatdoor", sum := "4bd9eef532261ae59d60630e12cee50f988e8428a0222c288e6e738ab2270e7c", func := "tideway/tidewaylaw17.PlainPieces", spec := "plainPieces", inPlace := ["internal/reflectlite.ValueOf", "(internal/reflectlite.Value).Type", "(internal/reflectlite.Value).IsNil", "internal/reflectlite.TypeOf", "(internal/reflectlite.Value).Elem", "(internal/reflectlite.Value).Set"], unfollowed := true, recurses := true, named := ["errors.errorType", "internal/strconv.uint64pow10", "math/bits.deBruijn32tab", "math/bits.deBruijn64tab"], plainKeys := false, apart := false, laid := [("math/bits.deBruijn32tab", laid_math_bits_deBruijn32tab), ("math/bits.deBruijn64tab", laid_math_bits_deBruijn64tab), ("internal/strconv.uint64pow10", laid_internal_strconv_uint64pow10), ("errors.errorType", laid_errors_errorType)] }
def PlainPiecesSaid : Prop := plainPiecesRow.holds Tryz.pinned (OpenSpec.ofChange plainPiecesSpec)

/-- ITS FALSE NEIGHBOUR: 'it returns false'. Refute it at one input. -/
def plainPiecesWrong : ChangeSpec := { name := "plainPieces", fn := fun _ => fun
  | [d1, d2, d3] => { results := [.lit (.bool false)], args := [d1, d2, d3] }
  | _ => none }
def PlainPiecesWrongFalsely : Prop := plainPiecesRow.holds Tryz.pinned (OpenSpec.ofChange plainPiecesWrong)

/- THE SECOND FORM. 'bulk': how many values and letters a reading holds, each counted each time it is reached (what is shared counts as often as it is met; a slice's spare places count too). A statement '..UptoSaid' is the law's where the arguments, and the package variables that the reading takes, are together of bulk at most 1048576: NARROWER than '..Said'. Prove '..Said' where nothing that the law and all that it calls make is longer than what came in: it says more and counts as full. Else prove '..UptoSaid'. A law counts once. -/
mutual
def uptoBulk {H : Type} : DataW H → Nat
  | .lit (.string bytes) => bytes.length + 1
  | .lit _ => 1
  | .nil => 1
  | .ptr d => uptoBulk d + 1
  | .slice elems spare => uptoBulkAll elems + uptoBulkAll spare + 1
  | .agg parts => uptoBulkAll parts + 1
  | .iface _ d => uptoBulk d + 1
  | .map entries => uptoBulkEntries entries + 1
  | .held _ => 1
def uptoBulkAll {H : Type} : List (DataW H) → Nat
  | [] => 0
  | d :: r => uptoBulk d + uptoBulkAll r
def uptoBulkEntries {H : Type} : List (Lit × DataW H) → Nat
  | [] => 0
  | x :: r => uptoBulkEntry x + uptoBulkEntries r
def uptoBulkEntry {H : Type} : Lit × DataW H → Nat
  | (.string bytes, d) => bytes.length + uptoBulk d + 1
  | (_, d) => uptoBulk d + 1
 end
def uptoSmall : (H : Type) → List (DataW H) → Bool := fun _ ds => decide (uptoBulkAll ds ≤ 1048576)
def OpenSpec.upto (s : _root_.Go.ChangeSpec) : _root_.Go.OpenSpec := { _root_.Go.OpenSpec.ofChange s with cond := some uptoSmall }

/-- 'tidewaylaw17.PlainReckons', WHERE WHAT IT READS IS OF BULK AT MOST 1048576: true; the input reads as it did. -/
def plainReckonsUptoRow : OpenClaim := { program := "ytkaladiliikheaagreatdoor", sum := "4bd9eef532261ae59d60630e12cee50f988e8428a0222c288e6e738ab2270e7c", func := "tideway/tidewaylaw17.PlainReckons", spec := "plainReckons", inPlace := ["internal/reflectlite.ValueOf", "(internal/reflectlite.Value).Type", "(internal/reflectlite.Value).IsNil", "internal/reflectlite.TypeOf", "(internal/reflectlite.Value).Elem", "(internal/reflectlite.Value).Set"], unfollowed := true, recurses := true, named := ["errors.errorType"], plainKeys := false, apart := false, laid := [("errors.errorType", laid_errors_errorType)], narrowed := true }
def PlainReckonsUptoSaid : Prop := plainReckonsUptoRow.holds Tryz.pinned (OpenSpec.upto plainReckonsSpec)

/-- 'tidewaylaw17.PlainInput', WHERE WHAT IT READS IS OF BULK AT MOST 1048576: true; the input reads as it did. -/
def plainInputUptoRow : OpenClaim := { program := "ytkaladiliikheaagreatdoor", sum := "4bd9eef532261ae59d60630e12cee50f988e8428a0222c288e6e738ab2270e7c", func := "tideway/tidewaylaw17.PlainInput", spec := "plainInput", inPlace := ["internal/reflectlite.ValueOf", "(internal/reflectlite.Value).Type", "(internal/reflectlite.Value).IsNil", "internal/reflectlite.TypeOf", "(internal/reflectlite.Value).Elem", "(internal/reflectlite.Value).Set"], unfollowed := true, recurses := true, named := ["errors.errorType"], plainKeys := false, apart := false, laid := [("errors.errorType", laid_errors_errorType)], narrowed := true }
def PlainInputUptoSaid : Prop := plainInputUptoRow.holds Tryz.pinned (OpenSpec.upto plainInputSpec)

/-- 'tidewaylaw17.PlainCaptures', WHERE WHAT IT READS IS OF BULK AT MOST 1048576: true; the input reads as it did. -/
def plainCapturesUptoRow : OpenClaim := { program := "ytkaladiliikheaagreatdoor", sum := "4bd9eef532261ae59d60630e12cee50f988e8428a0222c288e6e738ab2270e7c", func := "tideway/tidewaylaw17.PlainCaptures", spec := "plainCaptures", inPlace := ["internal/reflectlite.ValueOf", "(internal/reflectlite.Value).Type", "(internal/reflectlite.Value).IsNil", "internal/reflectlite.TypeOf", "(internal/reflectlite.Value).Elem", "(internal/reflectlite.Value).Set"], unfollowed := true, recurses := true, named := ["errors.errorType"], plainKeys := false, apart := false, laid := [("errors.errorType", laid_errors_errorType)], narrowed := true }
def PlainCapturesUptoSaid : Prop := plainCapturesUptoRow.holds Tryz.pinned (OpenSpec.upto plainCapturesSpec)

/-- 'tidewaylaw17.PlainRuns', WHERE WHAT IT READS IS OF BULK AT MOST 1048576: true; the input reads as it did. -/
def plainRunsUptoRow : OpenClaim := { program := "ytkaladiliikheaagreatdoor", sum := "4bd9eef532261ae59d60630e12cee50f988e8428a0222c288e6e738ab2270e7c", func := "tideway/tidewaylaw17.PlainRuns", spec := "plainRuns", inPlace := ["internal/reflectlite.ValueOf", "(internal/reflectlite.Value).Type", "(internal/reflectlite.Value).IsNil", "internal/reflectlite.TypeOf", "(internal/reflectlite.Value).Elem", "(internal/reflectlite.Value).Set"], unfollowed := true, recurses := true, named := ["errors.errorType"], plainKeys := false, apart := false, laid := [("errors.errorType", laid_errors_errorType)], narrowed := true }
def PlainRunsUptoSaid : Prop := plainRunsUptoRow.holds Tryz.pinned (OpenSpec.upto plainRunsSpec)

/-- 'tidewaylaw17.PlainObjects', WHERE WHAT IT READS IS OF BULK AT MOST 1048576: true; the input reads as it did. -/
def plainObjectsUptoRow : OpenClaim := { program := "ytkaladiliikheaagreatdoor", sum := "4bd9eef532261ae59d60630e12cee50f988e8428a0222c288e6e738ab2270e7c", func := "tideway/tidewaylaw17.PlainObjects", spec := "plainObjects", inPlace := ["internal/reflectlite.ValueOf", "(internal/reflectlite.Value).Type", "(internal/reflectlite.Value).IsNil", "internal/reflectlite.TypeOf", "(internal/reflectlite.Value).Elem", "(internal/reflectlite.Value).Set"], unfollowed := true, recurses := true, named := ["errors.errorType"], plainKeys := false, apart := false, laid := [("errors.errorType", laid_errors_errorType)], narrowed := true }
def PlainObjectsUptoSaid : Prop := plainObjectsUptoRow.holds Tryz.pinned (OpenSpec.upto plainObjectsSpec)

/-- 'tidewaylaw17.PlainSteps', WHERE WHAT IT READS IS OF BULK AT MOST 1048576: true; the input reads as it did. -/
def plainStepsUptoRow : OpenClaim := { program := "ytkaladiliikheaagreatdoor", sum := "4bd9eef532261ae59d60630e12cee50f988e8428a0222c288e6e738ab2270e7c", func := "tideway/tidewaylaw17.PlainSteps", spec := "plainSteps", inPlace := ["internal/reflectlite.ValueOf", "(internal/reflectlite.Value).Type", "(internal/reflectlite.Value).IsNil", "internal/reflectlite.TypeOf", "(internal/reflectlite.Value).Elem", "(internal/reflectlite.Value).Set"], unfollowed := true, recurses := true, named := ["errors.errorType"], plainKeys := false, apart := false, laid := [("errors.errorType", laid_errors_errorType)], narrowed := true }
def PlainStepsUptoSaid : Prop := plainStepsUptoRow.holds Tryz.pinned (OpenSpec.upto plainStepsSpec)

/-- 'tidewaylaw17.PlainViews', WHERE WHAT IT READS IS OF BULK AT MOST 1048576: true; the input reads as it did. -/
def plainViewsUptoRow : OpenClaim := { program := "ytkaladiliikheaagreatdoor", sum := "4bd9eef532261ae59d60630e12cee50f988e8428a0222c288e6e738ab2270e7c", func := "tideway/tidewaylaw17.PlainViews", spec := "plainViews", inPlace := ["internal/reflectlite.ValueOf", "(internal/reflectlite.Value).Type", "(internal/reflectlite.Value).IsNil", "internal/reflectlite.TypeOf", "(internal/reflectlite.Value).Elem", "(internal/reflectlite.Value).Set"], unfollowed := true, recurses := true, named := ["errors.errorType", "internal/strconv.uint64pow10", "math/bits.deBruijn32tab", "math/bits.deBruijn64tab"], plainKeys := false, apart := false, laid := [("math/bits.deBruijn32tab", laid_math_bits_deBruijn32tab), ("math/bits.deBruijn64tab", laid_math_bits_deBruijn64tab), ("internal/strconv.uint64pow10", laid_internal_strconv_uint64pow10), ("errors.errorType", laid_errors_errorType)], narrowed := true }
def PlainViewsUptoSaid : Prop := plainViewsUptoRow.holds Tryz.pinned (OpenSpec.upto plainViewsSpec)

/-- 'tidewaylaw17.PlainPieces', WHERE WHAT IT READS IS OF BULK AT MOST 1048576: true; the input reads as it did. -/
def plainPiecesUptoRow : OpenClaim := { program := "ytkaladiliikheaagreatdoor", sum := "4bd9eef532261ae59d60630e12cee50f988e8428a0222c288e6e738ab2270e7c", func := "tideway/tidewaylaw17.PlainPieces", spec := "plainPieces", inPlace := ["internal/reflectlite.ValueOf", "(internal/reflectlite.Value).Type", "(internal/reflectlite.Value).IsNil", "internal/reflectlite.TypeOf", "(internal/reflectlite.Value).Elem", "(internal/reflectlite.Value).Set"], unfollowed := true, recurses := true, named := ["errors.errorType", "internal/strconv.uint64pow10", "math/bits.deBruijn32tab", "math/bits.deBruijn64tab"], plainKeys := false, apart := false, laid := [("math/bits.deBruijn32tab", laid_math_bits_deBruijn32tab), ("math/bits.deBruijn64tab", laid_math_bits_deBruijn64tab), ("internal/strconv.uint64pow10", laid_internal_strconv_uint64pow10), ("errors.errorType", laid_errors_errorType)], narrowed := true }
def PlainPiecesUptoSaid : Prop := plainPiecesUptoRow.holds Tryz.pinned (OpenSpec.upto plainPiecesSpec)

end Rows
end Go.Proofs.YtkaladiliikheaaGreatDoor
