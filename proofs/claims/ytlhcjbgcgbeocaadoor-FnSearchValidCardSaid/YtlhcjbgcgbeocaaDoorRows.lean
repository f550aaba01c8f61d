/-
  NARROWER THAN 'FOR EVERY INPUT', by the rows' own cells (each row's printed sentence says how): FnSearchValid: laid · FnWalkTime: laid · FnExitNear: laid · FnLastOut: laid · FnRescueTime: laid · FnRescueAir: laid · FnRouteTime: laid · FnExitsBest: laid · FnDepotBest: laid · FnRescueStates: laid.
  DERIVED. THE GIVEN ROWS OF THIS SEAT. 10 by the template 'for every input the law returns true; each argument reads behind the call as it read before'; 0 by the template 'total and deterministic' (their statements: YtlhcjbgcgbeocaaDoorTotals.lean).
  GIVEN WITH THE SEED: the statements are not yours to turn. If you find one false, say at which input.
  Laid BY PROGRAM, IN A SANDBOX (cutbox-rows.mjs): the forced cells as the released guide's own fill.sh prints them over the translation d430fcb3ed652205… (all of the seat's roots in one cut). By AI agents, Wed Nov 11 2026. No macro, syntax, notation, axiom, sorry.
-/
import Derived.Test.YtlhcjbgcgbeocaaDoorChecked
import GoSem.Claim
import GoSem.ClaimJoined
import GoSem.ClaimMapViews
import Derived.JoinedTies
import Derived.KernelRfl
namespace Go.Proofs.YtlhcjbgcgbeocaaDoor
/- THE CELL 'sum', in the pinned program and in every row, IS THE sha256 OF THE DUMP (.gsa) THAT YtlhcjbgcgbeocaaDoorProg.lean LOADS. Nothing in Lean hashes anything: it is a label: what it is worth is what the hold of that sum in a sandbox is worth. -/
noncomputable def Tryd.pinned : Pinned := { name := "ytlhcjbgcgbeocaadoor", sum := "d430fcb3ed6522056d053b5525574b0b6b2f2fe4a7636cbb654770dd9adcf22a", checked := Tryd.checked }
namespace Rows
def none {H : Type} : Left H := { results := [], args := [] }

/- WHAT THE LISTED PACKAGE-LEVEL VARIABLES READ AS WHEN THE CALL BEGINS. Each datum BY PROGRAM (the guide's laid-datum.mjs) off the statement by which the dump's own 'gosem.cut.vars' lays the variable. In a bare row this is a premise. The card (YtlhcjbgcgbeocaaDoorCards.lean) ties it to the program's text. -/
def laid_math_bits_deBruijn32tab {H : Type} : DataW H := .agg [.lit (.int .u8 0), .lit (.int .u8 1), .lit (.int .u8 28), .lit (.int .u8 2), .lit (.int .u8 29), .lit (.int .u8 14), .lit (.int .u8 24), .lit (.int .u8 3), .lit (.int .u8 30), .lit (.int .u8 22), .lit (.int .u8 20), .lit (.int .u8 15), .lit (.int .u8 25), .lit (.int .u8 17), .lit (.int .u8 4), .lit (.int .u8 8), .lit (.int .u8 31), .lit (.int .u8 27), .lit (.int .u8 13), .lit (.int .u8 23), .lit (.int .u8 21), .lit (.int .u8 19), .lit (.int .u8 16), .lit (.int .u8 7), .lit (.int .u8 26), .lit (.int .u8 12), .lit (.int .u8 18), .lit (.int .u8 6), .lit (.int .u8 11), .lit (.int .u8 5), .lit (.int .u8 10), .lit (.int .u8 9)]
def laid_math_bits_deBruijn64tab {H : Type} : DataW H := .agg [.lit (.int .u8 0), .lit (.int .u8 1), .lit (.int .u8 56), .lit (.int .u8 2), .lit (.int .u8 57), .lit (.int .u8 49), .lit (.int .u8 28), .lit (.int .u8 3), .lit (.int .u8 61), .lit (.int .u8 58), .lit (.int .u8 42), .lit (.int .u8 50), .lit (.int .u8 38), .lit (.int .u8 29), .lit (.int .u8 17), .lit (.int .u8 4), .lit (.int .u8 62), .lit (.int .u8 47), .lit (.int .u8 59), .lit (.int .u8 36), .lit (.int .u8 45), .lit (.int .u8 43), .lit (.int .u8 51), .lit (.int .u8 22), .lit (.int .u8 53), .lit (.int .u8 39), .lit (.int .u8 33), .lit (.int .u8 30), .lit (.int .u8 24), .lit (.int .u8 18), .lit (.int .u8 12), .lit (.int .u8 5), .lit (.int .u8 63), .lit (.int .u8 55), .lit (.int .u8 48), .lit (.int .u8 27), .lit (.int .u8 60), .lit (.int .u8 41), .lit (.int .u8 37), .lit (.int .u8 16), .lit (.int .u8 46), .lit (.int .u8 35), .lit (.int .u8 44), .lit (.int .u8 21), .lit (.int .u8 52), .lit (.int .u8 32), .lit (.int .u8 23), .lit (.int .u8 11), .lit (.int .u8 54), .lit (.int .u8 26), .lit (.int .u8 40), .lit (.int .u8 15), .lit (.int .u8 34), .lit (.int .u8 20), .lit (.int .u8 31), .lit (.int .u8 10), .lit (.int .u8 25), .lit (.int .u8 14), .lit (.int .u8 19), .lit (.int .u8 9), .lit (.int .u8 13), .lit (.int .u8 8), .lit (.int .u8 7), .lit (.int .u8 6)]
def laid_internal_strconv_uint64pow10 {H : Type} : DataW H := .agg [.lit (.int .u64 1), .lit (.int .u64 10), .lit (.int .u64 100), .lit (.int .u64 1000), .lit (.int .u64 10000), .lit (.int .u64 100000), .lit (.int .u64 1000000), .lit (.int .u64 10000000), .lit (.int .u64 100000000), .lit (.int .u64 1000000000), .lit (.int .u64 10000000000), .lit (.int .u64 100000000000), .lit (.int .u64 1000000000000), .lit (.int .u64 10000000000000), .lit (.int .u64 100000000000000), .lit (.int .u64 1000000000000000), .lit (.int .u64 10000000000000000), .lit (.int .u64 100000000000000000), .lit (.int .u64 1000000000000000000), .lit (.int .u64 10000000000000000000)]

/-- 'laws.FnSearchValid': WHATEVER THE INPUT: true; the input reads as it did. -/
def fnSearchValidSpec : ChangeSpec := { name := "fnSearchValid", fn := fun _ => fun
  | [d] => { results := [.lit (.bool true)], args := [d] }
  | _ => none }
def fnSearchValidRow : OpenClaim := { program := "ytlhcjbgcgbeocaadoor", sum := "d430fcb3ed6522056d053b5525574b0b6b2f2fe4a7636cbb654770dd9adcf22a", func := "loop.example/cavesurvey/laws.FnSearchValid", spec := "fnSearchValid", named := ["internal/strconv.uint64pow10", "math/bits.deBruijn32tab", "math/bits.deBruijn64tab"], apart := false, laid := [("math/bits.deBruijn32tab", laid_math_bits_deBruijn32tab), ("math/bits.deBruijn64tab", laid_math_bits_deBruijn64tab), ("internal/strconv.uint64pow10", laid_internal_strconv_uint64pow10)] }
def FnSearchValidSaid : Prop := fnSearchValidRow.holds Tryd.pinned (OpenSpec.ofChange fnSearchValidSpec)

/-- ITS FALSE NEIGHBOUR: 'it returns false'. Refute it at one input. -/
def fnSearchValidWrong : ChangeSpec := { name := "fnSearchValid", fn := fun _ => fun
  | [d] => { results := [.lit (.bool false)], args := [d] }
  | _ => none }
def FnSearchValidWrongFalsely : Prop := fnSearchValidRow.holds Tryd.pinned (OpenSpec.ofChange fnSearchValidWrong)

/-- 'laws.FnWalkTime': WHATEVER THE INPUT: true; the input reads as it did. -/
def fnWalkTimeSpec : ChangeSpec := { name := "fnWalkTime", fn := fun _ => fun
  | [d] => { results := [.lit (.bool true)], args := [d] }
  | _ => none }
def fnWalkTimeRow : OpenClaim := { program := "ytlhcjbgcgbeocaadoor", sum := "d430fcb3ed6522056d053b5525574b0b6b2f2fe4a7636cbb654770dd9adcf22a", func := "loop.example/cavesurvey/laws.FnWalkTime", spec := "fnWalkTime", named := ["internal/strconv.uint64pow10", "math/bits.deBruijn32tab", "math/bits.deBruijn64tab"], apart := false, laid := [("math/bits.deBruijn32tab", laid_math_bits_deBruijn32tab), ("math/bits.deBruijn64tab", laid_math_bits_deBruijn64tab), ("internal/strconv.uint64pow10", laid_internal_strconv_uint64pow10)] }
def FnWalkTimeSaid : Prop := fnWalkTimeRow.holds Tryd.pinned (OpenSpec.ofChange fnWalkTimeSpec)

/-- ITS FALSE NEIGHBOUR: 'it returns false'. Refute it at one input. -/
def fnWalkTimeWrong : ChangeSpec := { name := "fnWalkTime", fn := fun _ => fun
  | [d] => { results := [.lit (.bool false)], args := [d] }
  | _ => none }
def FnWalkTimeWrongFalsely : Prop := fnWalkTimeRow.holds Tryd.pinned (OpenSpec.ofChange fnWalkTimeWrong)

/-- 'laws.FnExitNear': WHATEVER THE INPUT: true; the input reads as it did. -/
def fnExitNearSpec : ChangeSpec := { name := "fnExitNear", fn := fun _ => fun
  | [d] => { results := [.lit (.bool true)], args := [d] }
  | _ => none }
def fnExitNearRow : OpenClaim := { program := "ytlhcjbgcgbeocaadoor", sum := "d430fcb3ed6522056d053b5525574b0b6b2f2fe4a7636cbb654770dd9adcf22a", func := "loop.example/cavesurvey/laws.FnExitNear", spec := "fnExitNear", named := ["internal/strconv.uint64pow10", "math/bits.deBruijn32tab", "math/bits.deBruijn64tab"], apart := false, laid := [("math/bits.deBruijn32tab", laid_math_bits_deBruijn32tab), ("math/bits.deBruijn64tab", laid_math_bits_deBruijn64tab), ("internal/strconv.uint64pow10", laid_internal_strconv_uint64pow10)] }
def FnExitNearSaid : Prop := fnExitNearRow.holds Tryd.pinned (OpenSpec.ofChange fnExitNearSpec)

/-- ITS FALSE NEIGHBOUR: 'it returns false'. Refute it at one input. -/
def fnExitNearWrong : ChangeSpec := { name := "fnExitNear", fn := fun _ => fun
  | [d] => { results := [.lit (.bool false)], args := [d] }
  | _ => none }
def FnExitNearWrongFalsely : Prop := fnExitNearRow.holds Tryd.pinned (OpenSpec.ofChange fnExitNearWrong)

/-- 'laws.FnLastOut': WHATEVER THE INPUT: true; the input reads as it did. -/
def fnLastOutSpec : ChangeSpec := { name := "fnLastOut", fn := fun _ => fun
  | [d] => { results := [.lit (.bool true)], args := [d] }
  | _ => none }
def fnLastOutRow : OpenClaim := { program := "ytlhcjbgcgbeocaadoor", sum := "d430fcb3ed6522056d053b5525574b0b6b2f2fe4a7636cbb654770dd9adcf22a", func := "loop.example/cavesurvey/laws.FnLastOut", spec := "fnLastOut", named := ["internal/strconv.uint64pow10", "math/bits.deBruijn32tab", "math/bits.deBruijn64tab"], apart := false, laid := [("math/bits.deBruijn32tab", laid_math_bits_deBruijn32tab), ("math/bits.deBruijn64tab", laid_math_bits_deBruijn64tab), ("internal/strconv.uint64pow10", laid_internal_strconv_uint64pow10)] }
def FnLastOutSaid : Prop := fnLastOutRow.holds Tryd.pinned (OpenSpec.ofChange fnLastOutSpec)

/-- ITS FALSE NEIGHBOUR: 'it returns false'. Refute it at one input. -/
def fnLastOutWrong : ChangeSpec := { name := "fnLastOut", fn := fun _ => fun
  | [d] => { results := [.lit (.bool false)], args := [d] }
  | _ => none }
def FnLastOutWrongFalsely : Prop := fnLastOutRow.holds Tryd.pinned (OpenSpec.ofChange fnLastOutWrong)

/-- 'laws.FnRescueTime': WHATEVER THE INPUT: true; the input reads as it did. -/
def fnRescueTimeSpec : ChangeSpec := { name := "fnRescueTime", fn := fun _ => fun
  | [d] => { results := [.lit (.bool true)], args := [d] }
  | _ => none }
def fnRescueTimeRow : OpenClaim := { program := "ytlhcjbgcgbeocaadoor", sum := "d430fcb3ed6522056d053b5525574b0b6b2f2fe4a7636cbb654770dd9adcf22a", func := "loop.example/cavesurvey/laws.FnRescueTime", spec := "fnRescueTime", named := ["internal/strconv.uint64pow10", "math/bits.deBruijn32tab", "math/bits.deBruijn64tab"], apart := false, laid := [("math/bits.deBruijn32tab", laid_math_bits_deBruijn32tab), ("math/bits.deBruijn64tab", laid_math_bits_deBruijn64tab), ("internal/strconv.uint64pow10", laid_internal_strconv_uint64pow10)] }
def FnRescueTimeSaid : Prop := fnRescueTimeRow.holds Tryd.pinned (OpenSpec.ofChange fnRescueTimeSpec)

/-- ITS FALSE NEIGHBOUR: 'it returns false'. Refute it at one input. -/
def fnRescueTimeWrong : ChangeSpec := { name := "fnRescueTime", fn := fun _ => fun
  | [d] => { results := [.lit (.bool false)], args := [d] }
  | _ => none }
def FnRescueTimeWrongFalsely : Prop := fnRescueTimeRow.holds Tryd.pinned (OpenSpec.ofChange fnRescueTimeWrong)

/-- 'laws.FnRescueAir': WHATEVER THE INPUT: true; the input reads as it did. -/
def fnRescueAirSpec : ChangeSpec := { name := "fnRescueAir", fn := fun _ => fun
  | [d] => { results := [.lit (.bool true)], args := [d] }
  | _ => none }
def fnRescueAirRow : OpenClaim := { program := "ytlhcjbgcgbeocaadoor", sum := "d430fcb3ed6522056d053b5525574b0b6b2f2fe4a7636cbb654770dd9adcf22a", func := "loop.example/cavesurvey/laws.FnRescueAir", spec := "fnRescueAir", named := ["internal/strconv.uint64pow10", "math/bits.deBruijn32tab", "math/bits.deBruijn64tab"], apart := false, laid := [("math/bits.deBruijn32tab", laid_math_bits_deBruijn32tab), ("math/bits.deBruijn64tab", laid_math_bits_deBruijn64tab), ("internal/strconv.uint64pow10", laid_internal_strconv_uint64pow10)] }
def FnRescueAirSaid : Prop := fnRescueAirRow.holds Tryd.pinned (OpenSpec.ofChange fnRescueAirSpec)

/-- ITS FALSE NEIGHBOUR: 'it returns false'. Refute it at one input. -/
def fnRescueAirWrong : ChangeSpec := { name := "fnRescueAir", fn := fun _ => fun
  | [d] => { results := [.lit (.bool false)], args := [d] }
  | _ => none }
def FnRescueAirWrongFalsely : Prop := fnRescueAirRow.holds Tryd.pinned (OpenSpec.ofChange fnRescueAirWrong)

/-- 'laws.FnRouteTime': WHATEVER THE INPUT: true; the input reads as it did. -/
def fnRouteTimeSpec : ChangeSpec := { name := "fnRouteTime", fn := fun _ => fun
  | [d] => { results := [.lit (.bool true)], args := [d] }
  | _ => none }
def fnRouteTimeRow : OpenClaim := { program := "ytlhcjbgcgbeocaadoor", sum := "d430fcb3ed6522056d053b5525574b0b6b2f2fe4a7636cbb654770dd9adcf22a", func := "loop.example/cavesurvey/laws.FnRouteTime", spec := "fnRouteTime", named := ["internal/strconv.uint64pow10", "math/bits.deBruijn32tab", "math/bits.deBruijn64tab"], apart := false, laid := [("math/bits.deBruijn32tab", laid_math_bits_deBruijn32tab), ("math/bits.deBruijn64tab", laid_math_bits_deBruijn64tab), ("internal/strconv.uint64pow10", laid_internal_strconv_uint64pow10)] }
def FnRouteTimeSaid : Prop := fnRouteTimeRow.holds Tryd.pinned (OpenSpec.ofChange fnRouteTimeSpec)

/-- ITS FALSE NEIGHBOUR: 'it returns false'. Refute it at one input. -/
def fnRouteTimeWrong : ChangeSpec := { name := "fnRouteTime", fn := fun _ => fun
  | [d] => { results := [.lit (.bool false)], args := [d] }
  | _ => none }
def FnRouteTimeWrongFalsely : Prop := fnRouteTimeRow.holds Tryd.pinned (OpenSpec.ofChange fnRouteTimeWrong)

/-- 'laws.FnExitsBest': WHATEVER THE INPUT: true; the input reads as it did. -/
def fnExitsBestSpec : ChangeSpec := { name := "fnExitsBest", fn := fun _ => fun
  | [d1, d2] => { results := [.lit (.bool true)], args := [d1, d2] }
  | _ => none }
def fnExitsBestRow : OpenClaim := { program := "ytlhcjbgcgbeocaadoor", sum := "d430fcb3ed6522056d053b5525574b0b6b2f2fe4a7636cbb654770dd9adcf22a", func := "loop.example/cavesurvey/laws.FnExitsBest", spec := "fnExitsBest", named := ["internal/strconv.uint64pow10", "math/bits.deBruijn32tab", "math/bits.deBruijn64tab"], apart := false, laid := [("math/bits.deBruijn32tab", laid_math_bits_deBruijn32tab), ("math/bits.deBruijn64tab", laid_math_bits_deBruijn64tab), ("internal/strconv.uint64pow10", laid_internal_strconv_uint64pow10)] }
def FnExitsBestSaid : Prop := fnExitsBestRow.holds Tryd.pinned (OpenSpec.ofChange fnExitsBestSpec)

/-- ITS FALSE NEIGHBOUR: 'it returns false'. Refute it at one input. -/
def fnExitsBestWrong : ChangeSpec := { name := "fnExitsBest", fn := fun _ => fun
  | [d1, d2] => { results := [.lit (.bool false)], args := [d1, d2] }
  | _ => none }
def FnExitsBestWrongFalsely : Prop := fnExitsBestRow.holds Tryd.pinned (OpenSpec.ofChange fnExitsBestWrong)

/-- 'laws.FnDepotBest': WHATEVER THE INPUT: true; the input reads as it did. -/
def fnDepotBestSpec : ChangeSpec := { name := "fnDepotBest", fn := fun _ => fun
  | [d] => { results := [.lit (.bool true)], args := [d] }
  | _ => none }
def fnDepotBestRow : OpenClaim := { program := "ytlhcjbgcgbeocaadoor", sum := "d430fcb3ed6522056d053b5525574b0b6b2f2fe4a7636cbb654770dd9adcf22a", func := "loop.example/cavesurvey/laws.FnDepotBest", spec := "fnDepotBest", named := ["internal/strconv.uint64pow10", "math/bits.deBruijn32tab", "math/bits.deBruijn64tab"], apart := false, laid := [("math/bits.deBruijn32tab", laid_math_bits_deBruijn32tab), ("math/bits.deBruijn64tab", laid_math_bits_deBruijn64tab), ("internal/strconv.uint64pow10", laid_internal_strconv_uint64pow10)] }
def FnDepotBestSaid : Prop := fnDepotBestRow.holds Tryd.pinned (OpenSpec.ofChange fnDepotBestSpec)

/-- ITS FALSE NEIGHBOUR: 'it returns false'. Refute it at one input. -/
def fnDepotBestWrong : ChangeSpec := { name := "fnDepotBest", fn := fun _ => fun
  | [d] => { results := [.lit (.bool false)], args := [d] }
  | _ => none }
def FnDepotBestWrongFalsely : Prop := fnDepotBestRow.holds Tryd.pinned (OpenSpec.ofChange fnDepotBestWrong)

/-- 'laws.FnRescueStates': WHATEVER THE INPUT: true; the input reads as it did. -/
def fnRescueStatesSpec : ChangeSpec := { name := "fnRescueStates", fn := fun _ => fun
  | [d] => { results := [.lit (.bool true)], args := [d] }
  | _ => none }
def fnRescueStatesRow : OpenClaim := { program := "ytlhcjbgcgbeocaadoor", sum := "d430fcb3ed6522056d053b5525574b0b6b2f2fe4a7636cbb654770dd9adcf22a", func := "loop.example/cavesurvey/laws.FnRescueStates", spec := "fnRescueStates", named := ["internal/strconv.uint64pow10", "math/bits.deBruijn32tab", "math/bits.deBruijn64tab"], apart := false, laid := [("math/bits.deBruijn32tab", laid_math_bits_deBruijn32tab), ("math/bits.deBruijn64tab", laid_math_bits_deBruijn64tab), ("internal/strconv.uint64pow10", laid_internal_strconv_uint64pow10)] }
def FnRescueStatesSaid : Prop := fnRescueStatesRow.holds Tryd.pinned (OpenSpec.ofChange fnRescueStatesSpec)

/-- ITS FALSE NEIGHBOUR: 'it returns false'. Refute it at one input. -/
def fnRescueStatesWrong : ChangeSpec := { name := "fnRescueStates", fn := fun _ => fun
  | [d] => { results := [.lit (.bool false)], args := [d] }
  | _ => none }
def FnRescueStatesWrongFalsely : Prop := fnRescueStatesRow.holds Tryd.pinned (OpenSpec.ofChange fnRescueStatesWrong)

/- THE SECOND FORM. 'bulk': how many values and letters a reading holds, each counted each time it is reached (what is shared counts as often as it is met; a slice's spare places count too). A statement '..UptoSaid' is the law's where the arguments, and the package variables that the reading takes, are together of bulk at most 1048576: NARROWER than '..Said'. Prove '..Said' where nothing that the law and all that it calls make is longer than what came in: it says more and counts as full. Else prove '..UptoSaid'. A law counts once. -/
mutual
def uptoBulk {H : Type} : DataW H → Nat
  | .lit (.string bytes) => bytes.length + 1
  | .lit _ => 1
  | .nil => 1
  | .ptr d => uptoBulk d + 1
  | .slice elems spare => uptoBulkAll elems + uptoBulkAll spare + 1
  | .agg parts => uptoBulkAll parts + 1
  | .iface _ d => uptoBulk d + 1
  | .map entries => uptoBulkEntries entries + 1
  | .held _ => 1
def uptoBulkAll {H : Type} : List (DataW H) → Nat
  | [] => 0
  | d :: r => uptoBulk d + uptoBulkAll r
def uptoBulkEntries {H : Type} : List (Lit × DataW H) → Nat
  | [] => 0
  | x :: r => uptoBulkEntry x + uptoBulkEntries r
def uptoBulkEntry {H : Type} : Lit × DataW H → Nat
  | (.string bytes, d) => bytes.length + uptoBulk d + 1
  | (_, d) => uptoBulk d + 1
 end
def uptoSmall : (H : Type) → List (DataW H) → Bool := fun _ ds => decide (uptoBulkAll ds ≤ 1048576)
def OpenSpec.upto (s : _root_.Go.ChangeSpec) : _root_.Go.OpenSpec := { _root_.Go.OpenSpec.ofChange s with cond := some uptoSmall }

/-- 'laws.FnSearchValid', WHERE WHAT IT READS IS OF BULK AT MOST 1048576: true; the input reads as it did. -/
def fnSearchValidUptoRow : OpenClaim := { program := "ytlhcjbgcgbeocaadoor", sum := "d430fcb3ed6522056d053b5525574b0b6b2f2fe4a7636cbb654770dd9adcf22a", func := "loop.example/cavesurvey/laws.FnSearchValid", spec := "fnSearchValid", named := ["internal/strconv.uint64pow10", "math/bits.deBruijn32tab", "math/bits.deBruijn64tab"], apart := false, laid := [("math/bits.deBruijn32tab", laid_math_bits_deBruijn32tab), ("math/bits.deBruijn64tab", laid_math_bits_deBruijn64tab), ("internal/strconv.uint64pow10", laid_internal_strconv_uint64pow10)], narrowed := true }
def FnSearchValidUptoSaid : Prop := fnSearchValidUptoRow.holds Tryd.pinned (OpenSpec.upto fnSearchValidSpec)

/-- 'laws.FnWalkTime', WHERE WHAT IT READS IS OF BULK AT MOST 1048576: true; the input reads as it did. -/
def fnWalkTimeUptoRow : OpenClaim := { program := "ytlhcjbgcgbeocaadoor", sum := "d430fcb3ed6522056d053b5525574b0b6b2f2fe4a7636cbb654770dd9adcf22a", func := "loop.example/cavesurvey/laws.FnWalkTime", spec := "fnWalkTime", named := ["internal/strconv.uint64pow10", "math/bits.deBruijn32tab", "math/bits.deBruijn64tab"], apart := false, laid := [("math/bits.deBruijn32tab", laid_math_bits_deBruijn32tab), ("math/bits.deBruijn64tab", laid_math_bits_deBruijn64tab), ("internal/strconv.uint64pow10", laid_internal_strconv_uint64pow10)], narrowed := true }
def FnWalkTimeUptoSaid : Prop := fnWalkTimeUptoRow.holds Tryd.pinned (OpenSpec.upto fnWalkTimeSpec)

/-- 'laws.FnExitNear', WHERE WHAT IT READS IS OF BULK AT MOST 1048576: true; the input reads as it did. -/
def fnExitNearUptoRow : OpenClaim := { program := "ytlhcjbgcgbeocaadoor", sum := "d430fcb3ed6522056d053b5525574b0b6b2f2fe4a7636cbb654770dd9adcf22a", func := "loop.example/cavesurvey/laws.FnExitNear", spec := "fnExitNear", named := ["internal/strconv.uint64pow10", "math/bits.deBruijn32tab", "math/bits.deBruijn64tab"], apart := false, laid := [("math/bits.deBruijn32tab", laid_math_bits_deBruijn32tab), ("math/bits.deBruijn64tab", laid_math_bits_deBruijn64tab), ("internal/strconv.uint64pow10", laid_internal_strconv_uint64pow10)], narrowed := true }
def FnExitNearUptoSaid : Prop := fnExitNearUptoRow.holds Tryd.pinned (OpenSpec.upto fnExitNearSpec)

/-- 'laws.FnLastOut', WHERE WHAT IT READS IS OF BULK AT MOST 1048576: true; the input reads as it did. -/
def fnLastOutUptoRow : OpenClaim := { program := "ytlhcjbgcgbeocaadoor", sum := "d430fcb3ed6522056d053b5525574b0b6b2f2fe4a7636cbb654770dd9adcf22a", func := "loop.example/cavesurvey/laws.FnLastOut", spec := "fnLastOut", named := ["internal/strconv.uint64pow10", "math/bits.deBruijn32tab", "math/bits.deBruijn64tab"], apart := false, laid := [("math/bits.deBruijn32tab", laid_math_bits_deBruijn32tab), ("math/bits.deBruijn64tab", laid_math_bits_deBruijn64tab), ("internal/strconv.uint64pow10", laid_internal_strconv_uint64pow10)], narrowed := true }
def FnLastOutUptoSaid : Prop := fnLastOutUptoRow.holds Tryd.pinned (OpenSpec.upto fnLastOutSpec)

/-- 'laws.FnRescueTime', WHERE WHAT IT READS IS OF BULK AT MOST 1048576: true; the input reads as it did. -/
def fnRescueTimeUptoRow : OpenClaim := { program := "ytlhcjbgcgbeocaadoor", sum := "d430fcb3ed6522056d053b5525574b0b6b2f2fe4a7636cbb654770dd9adcf22a", func := "loop.example/cavesurvey/laws.FnRescueTime", spec := "fnRescueTime", named := ["internal/strconv.uint64pow10", "math/bits.deBruijn32tab", "math/bits.deBruijn64tab"], apart := false, laid := [("math/bits.deBruijn32tab", laid_math_bits_deBruijn32tab), ("math/bits.deBruijn64tab", laid_math_bits_deBruijn64tab), ("internal/strconv.uint64pow10", laid_internal_strconv_uint64pow10)], narrowed := true }
def FnRescueTimeUptoSaid : Prop := fnRescueTimeUptoRow.holds Tryd.pinned (OpenSpec.upto fnRescueTimeSpec)

/-- 'laws.FnRescueAir', WHERE WHAT IT READS IS OF BULK AT MOST 1048576: true; the input reads as it did. -/
def fnRescueAirUptoRow : OpenClaim := { program := "ytlhcjbgcgbeocaadoor", sum := "d430fcb3ed6522056d053b5525574b0b6b2f2fe4a7636cbb654770dd9adcf22a", func := "loop.example/cavesurvey/laws.FnRescueAir", spec := "fnRescueAir", named := ["internal/strconv.uint64pow10", "math/bits.deBruijn32tab", "math/bits.deBruijn64tab"], apart := false, laid := [("math/bits.deBruijn32tab", laid_math_bits_deBruijn32tab), ("math/bits.deBruijn64tab", laid_math_bits_deBruijn64tab), ("internal/strconv.uint64pow10", laid_internal_strconv_uint64pow10)], narrowed := true }
def FnRescueAirUptoSaid : Prop := fnRescueAirUptoRow.holds Tryd.pinned (OpenSpec.upto fnRescueAirSpec)

/-- 'laws.FnRouteTime', WHERE WHAT IT READS IS OF BULK AT MOST 1048576: true; the input reads as it did. -/
def fnRouteTimeUptoRow : OpenClaim := { program := "ytlhcjbgcgbeocaadoor", sum := "d430fcb3ed6522056d053b5525574b0b6b2f2fe4a7636cbb654770dd9adcf22a", func := "loop.example/cavesurvey/laws.FnRouteTime", spec := "fnRouteTime", named := ["internal/strconv.uint64pow10", "math/bits.deBruijn32tab", "math/bits.deBruijn64tab"], apart := false, laid := [("math/bits.deBruijn32tab", laid_math_bits_deBruijn32tab), ("math/bits.deBruijn64tab", laid_math_bits_deBruijn64tab), ("internal/strconv.uint64pow10", laid_internal_strconv_uint64pow10)], narrowed := true }
def FnRouteTimeUptoSaid : Prop := fnRouteTimeUptoRow.holds Tryd.pinned (OpenSpec.upto fnRouteTimeSpec)

/-- 'laws.FnExitsBest', WHERE WHAT IT READS IS OF BULK AT MOST 1048576: true; the input reads as it did. -/
def fnExitsBestUptoRow : OpenClaim := { program := "ytlhcjbgcgbeocaadoor", sum := "d430fcb3ed6522056d053b5525574b0b6b2f2fe4a7636cbb654770dd9adcf22a", func := "loop.example/cavesurvey/laws.FnExitsBest", spec := "fnExitsBest", named := ["internal/strconv.uint64pow10", "math/bits.deBruijn32tab", "math/bits.deBruijn64tab"], apart := false, laid := [("math/bits.deBruijn32tab", laid_math_bits_deBruijn32tab), ("math/bits.deBruijn64tab", laid_math_bits_deBruijn64tab), ("internal/strconv.uint64pow10", laid_internal_strconv_uint64pow10)], narrowed := true }
def FnExitsBestUptoSaid : Prop := fnExitsBestUptoRow.holds Tryd.pinned (OpenSpec.upto fnExitsBestSpec)

/-- 'laws.FnDepotBest', WHERE WHAT IT READS IS OF BULK AT MOST 1048576: true; the input reads as it did. -/
def fnDepotBestUptoRow : OpenClaim := { program := "ytlhcjbgcgbeocaadoor", sum := "d430fcb3ed6522056d053b5525574b0b6b2f2fe4a7636cbb654770dd9adcf22a", func := "loop.example/cavesurvey/laws.FnDepotBest", spec := "fnDepotBest", named := ["internal/strconv.uint64pow10", "math/bits.deBruijn32tab", "math/bits.deBruijn64tab"], apart := false, laid := [("math/bits.deBruijn32tab", laid_math_bits_deBruijn32tab), ("math/bits.deBruijn64tab", laid_math_bits_deBruijn64tab), ("internal/strconv.uint64pow10", laid_internal_strconv_uint64pow10)], narrowed := true }
def FnDepotBestUptoSaid : Prop := fnDepotBestUptoRow.holds Tryd.pinned (OpenSpec.upto fnDepotBestSpec)

/-- 'laws.FnRescueStates', WHERE WHAT IT READS IS OF BULK AT MOST 1048576: true; the input reads as it did. -/
def fnRescueStatesUptoRow : OpenClaim := { program := "ytlhcjbgcgbeocaadoor", sum := "d430fcb3ed6522056d053b5525574b0b6b2f2fe4a7636cbb654770dd9adcf22a", func := "loop.example/cavesurvey/laws.FnRescueStates", spec := "fnRescueStates", named := ["internal/strconv.uint64pow10", "math/bits.deBruijn32tab", "math/bits.deBruijn64tab"], apart := false, laid := [("math/bits.deBruijn32tab", laid_math_bits_deBruijn32tab), ("math/bits.deBruijn64tab", laid_math_bits_deBruijn64tab), ("internal/strconv.uint64pow10", laid_internal_strconv_uint64pow10)], narrowed := true }
def FnRescueStatesUptoSaid : Prop := fnRescueStatesUptoRow.holds Tryd.pinned (OpenSpec.upto fnRescueStatesSpec)

end Rows
end Go.Proofs.YtlhcjbgcgbeocaaDoor
