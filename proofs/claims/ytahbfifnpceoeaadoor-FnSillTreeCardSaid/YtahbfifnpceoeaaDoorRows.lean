/-
  NARROWER THAN 'FOR EVERY INPUT', by the rows' own cells (each row's printed sentence says how): FnSillTree: laid · FnSillsJoin: laid · FnTreeLevel: laid · FnCaveValid: laid · FnWaterAt: laid · FnSillsHigh: laid · FnPoolsAt: laid · FnLevelLeft: laid · FnWaterLeft: laid · FnPumpBest: laid · FnJoinLevel: laid.
  DERIVED. THE GIVEN ROWS OF THIS SEAT. 11 by the template 'for every input the law returns true; each argument reads behind the call as it read before'; 0 by the template 'total and deterministic' (their statements: YtahbfifnpceoeaaDoorTotals.lean).
  GIVEN WITH THE SEED: the statements are not yours to turn. If you find one false, say at which input.
  Laid BY PROGRAM, IN A SANDBOX (cutbox-rows.mjs): the forced cells as the released guide's own fill.sh prints them over the translation 2e5ad06071835131… (all of the seat's roots in one cut). By AI agents, Wed Nov 11 2026. No macro, syntax, notation, axiom, sorry.
-/
import Derived.Test.YtahbfifnpceoeaaDoorChecked
import GoSem.Claim
import GoSem.ClaimJoined
import GoSem.ClaimMapViews
import Derived.JoinedTies
import Derived.KernelRfl
namespace Go.Proofs.YtahbfifnpceoeaaDoor
/- THE CELL 'sum', in the pinned program and in every row, IS THE sha256 OF THE DUMP (.gsa) THAT YtahbfifnpceoeaaDoorProg.lean LOADS. Nothing in Lean hashes anything: it is a label: what it is worth is what the hold of that sum in a sandbox is worth. -/
noncomputable def Tryd.pinned : Pinned := { name := "ytahbfifnpceoeaadoor", sum := "2e5ad060718351312f8c181d6638edb4ad3493941a487219dc280a91eeedf9ef", checked := Tryd.checked }
namespace Rows
def none {H : Type} : Left H := { results := [], args := [] }

/- WHAT THE LISTED PACKAGE-LEVEL VARIABLES READ AS WHEN THE CALL BEGINS. Each datum BY PROGRAM (the guide's laid-datum.mjs) off the statement by which the dump's own 'gosem.cut.vars' lays the variable. In a bare row this is a premise. The card (YtahbfifnpceoeaaDoorCards.lean) ties it to the program's text. -/
def laid_math_bits_deBruijn32tab {H : Type} : DataW H := .agg [.lit (.int .u8 0), .lit (.int .u8 1), .lit (.int .u8 28), .lit (.int .u8 2), .lit (.int .u8 29), .lit (.int .u8 14), .lit (.int .u8 24), .lit (.int .u8 3), .lit (.int .u8 30), .lit (.int .u8 22), .lit (.int .u8 20), .lit (.int .u8 15), .lit (.int .u8 25), .lit (.int .u8 17), .lit (.int .u8 4), .lit (.int .u8 8), .lit (.int .u8 31), .lit (.int .u8 27), .lit (.int .u8 13), .lit (.int .u8 23), .lit (.int .u8 21), .lit (.int .u8 19), .lit (.int .u8 16), .lit (.int .u8 7), .lit (.int .u8 26), .lit (.int .u8 12), .lit (.int .u8 18), .lit (.int .u8 6), .lit (.int .u8 11), .lit (.int .u8 5), .lit (.int .u8 10), .lit (.int .u8 9)]
def laid_math_bits_deBruijn64tab {H : Type} : DataW H := .agg [.lit (.int .u8 0), .lit (.int .u8 1), .lit (.int .u8 56), .lit (.int .u8 2), .lit (.int .u8 57), .lit (.int .u8 49), .lit (.int .u8 28), .lit (.int .u8 3), .lit (.int .u8 61), .lit (.int .u8 58), .lit (.int .u8 42), .lit (.int .u8 50), .lit (.int .u8 38), .lit (.int .u8 29), .lit (.int .u8 17), .lit (.int .u8 4), .lit (.int .u8 62), .lit (.int .u8 47), .lit (.int .u8 59), .lit (.int .u8 36), .lit (.int .u8 45), .lit (.int .u8 43), .lit (.int .u8 51), .lit (.int .u8 22), .lit (.int .u8 53), .lit (.int .u8 39), .lit (.int .u8 33), .lit (.int .u8 30), .lit (.int .u8 24), .lit (.int .u8 18), .lit (.int .u8 12), .lit (.int .u8 5), .lit (.int .u8 63), .lit (.int .u8 55), .lit (.int .u8 48), .lit (.int .u8 27), .lit (.int .u8 60), .lit (.int .u8 41), .lit (.int .u8 37), .lit (.int .u8 16), .lit (.int .u8 46), .lit (.int .u8 35), .lit (.int .u8 44), .lit (.int .u8 21), .lit (.int .u8 52), .lit (.int .u8 32), .lit (.int .u8 23), .lit (.int .u8 11), .lit (.int .u8 54), .lit (.int .u8 26), .lit (.int .u8 40), .lit (.int .u8 15), .lit (.int .u8 34), .lit (.int .u8 20), .lit (.int .u8 31), .lit (.int .u8 10), .lit (.int .u8 25), .lit (.int .u8 14), .lit (.int .u8 19), .lit (.int .u8 9), .lit (.int .u8 13), .lit (.int .u8 8), .lit (.int .u8 7), .lit (.int .u8 6)]
def laid_internal_strconv_uint64pow10 {H : Type} : DataW H := .agg [.lit (.int .u64 1), .lit (.int .u64 10), .lit (.int .u64 100), .lit (.int .u64 1000), .lit (.int .u64 10000), .lit (.int .u64 100000), .lit (.int .u64 1000000), .lit (.int .u64 10000000), .lit (.int .u64 100000000), .lit (.int .u64 1000000000), .lit (.int .u64 10000000000), .lit (.int .u64 100000000000), .lit (.int .u64 1000000000000), .lit (.int .u64 10000000000000), .lit (.int .u64 100000000000000), .lit (.int .u64 1000000000000000), .lit (.int .u64 10000000000000000), .lit (.int .u64 100000000000000000), .lit (.int .u64 1000000000000000000), .lit (.int .u64 10000000000000000000)]

/-- 'laws.FnSillTree': WHATEVER THE INPUT: true; the input reads as it did. -/
def fnSillTreeSpec : ChangeSpec := { name := "fnSillTree", fn := fun _ => fun
  | [d] => { results := [.lit (.bool true)], args := [d] }
  | _ => none }
def fnSillTreeRow : OpenClaim := { program := "ytahbfifnpceoeaadoor", sum := "2e5ad060718351312f8c181d6638edb4ad3493941a487219dc280a91eeedf9ef", func := "loop.example/cavesurvey/laws.FnSillTree", spec := "fnSillTree", unfollowed := true, recurses := true, named := ["internal/strconv.uint64pow10", "math/bits.deBruijn32tab", "math/bits.deBruijn64tab"], apart := false, laid := [("math/bits.deBruijn32tab", laid_math_bits_deBruijn32tab), ("math/bits.deBruijn64tab", laid_math_bits_deBruijn64tab), ("internal/strconv.uint64pow10", laid_internal_strconv_uint64pow10)] }
def FnSillTreeSaid : Prop := fnSillTreeRow.holds Tryd.pinned (OpenSpec.ofChange fnSillTreeSpec)

/-- ITS FALSE NEIGHBOUR: 'it returns false'. Refute it at one input. -/
def fnSillTreeWrong : ChangeSpec := { name := "fnSillTree", fn := fun _ => fun
  | [d] => { results := [.lit (.bool false)], args := [d] }
  | _ => none }
def FnSillTreeWrongFalsely : Prop := fnSillTreeRow.holds Tryd.pinned (OpenSpec.ofChange fnSillTreeWrong)

/-- 'laws.FnSillsJoin': WHATEVER THE INPUT: true; the input reads as it did. -/
def fnSillsJoinSpec : ChangeSpec := { name := "fnSillsJoin", fn := fun _ => fun
  | [d] => { results := [.lit (.bool true)], args := [d] }
  | _ => none }
def fnSillsJoinRow : OpenClaim := { program := "ytahbfifnpceoeaadoor", sum := "2e5ad060718351312f8c181d6638edb4ad3493941a487219dc280a91eeedf9ef", func := "loop.example/cavesurvey/laws.FnSillsJoin", spec := "fnSillsJoin", unfollowed := true, recurses := true, named := ["internal/strconv.uint64pow10", "math/bits.deBruijn32tab", "math/bits.deBruijn64tab"], apart := false, laid := [("math/bits.deBruijn32tab", laid_math_bits_deBruijn32tab), ("math/bits.deBruijn64tab", laid_math_bits_deBruijn64tab), ("internal/strconv.uint64pow10", laid_internal_strconv_uint64pow10)] }
def FnSillsJoinSaid : Prop := fnSillsJoinRow.holds Tryd.pinned (OpenSpec.ofChange fnSillsJoinSpec)

/-- ITS FALSE NEIGHBOUR: 'it returns false'. Refute it at one input. -/
def fnSillsJoinWrong : ChangeSpec := { name := "fnSillsJoin", fn := fun _ => fun
  | [d] => { results := [.lit (.bool false)], args := [d] }
  | _ => none }
def FnSillsJoinWrongFalsely : Prop := fnSillsJoinRow.holds Tryd.pinned (OpenSpec.ofChange fnSillsJoinWrong)

/-- 'laws.FnTreeLevel': WHATEVER THE INPUT: true; the input reads as it did. -/
def fnTreeLevelSpec : ChangeSpec := { name := "fnTreeLevel", fn := fun _ => fun
  | [d] => { results := [.lit (.bool true)], args := [d] }
  | _ => none }
def fnTreeLevelRow : OpenClaim := { program := "ytahbfifnpceoeaadoor", sum := "2e5ad060718351312f8c181d6638edb4ad3493941a487219dc280a91eeedf9ef", func := "loop.example/cavesurvey/laws.FnTreeLevel", spec := "fnTreeLevel", unfollowed := true, recurses := true, named := ["internal/strconv.uint64pow10", "math/bits.deBruijn32tab", "math/bits.deBruijn64tab"], apart := false, laid := [("math/bits.deBruijn32tab", laid_math_bits_deBruijn32tab), ("math/bits.deBruijn64tab", laid_math_bits_deBruijn64tab), ("internal/strconv.uint64pow10", laid_internal_strconv_uint64pow10)] }
def FnTreeLevelSaid : Prop := fnTreeLevelRow.holds Tryd.pinned (OpenSpec.ofChange fnTreeLevelSpec)

/-- ITS FALSE NEIGHBOUR: 'it returns false'. Refute it at one input. -/
def fnTreeLevelWrong : ChangeSpec := { name := "fnTreeLevel", fn := fun _ => fun
  | [d] => { results := [.lit (.bool false)], args := [d] }
  | _ => none }
def FnTreeLevelWrongFalsely : Prop := fnTreeLevelRow.holds Tryd.pinned (OpenSpec.ofChange fnTreeLevelWrong)

/-- 'laws.FnCaveValid': WHATEVER THE INPUT: true; the input reads as it did. -/
def fnCaveValidSpec : ChangeSpec := { name := "fnCaveValid", fn := fun _ => fun
  | [d] => { results := [.lit (.bool true)], args := [d] }
  | _ => none }
def fnCaveValidRow : OpenClaim := { program := "ytahbfifnpceoeaadoor", sum := "2e5ad060718351312f8c181d6638edb4ad3493941a487219dc280a91eeedf9ef", func := "loop.example/cavesurvey/laws.FnCaveValid", spec := "fnCaveValid", named := ["internal/strconv.uint64pow10", "math/bits.deBruijn32tab", "math/bits.deBruijn64tab"], apart := false, laid := [("math/bits.deBruijn32tab", laid_math_bits_deBruijn32tab), ("math/bits.deBruijn64tab", laid_math_bits_deBruijn64tab), ("internal/strconv.uint64pow10", laid_internal_strconv_uint64pow10)] }
def FnCaveValidSaid : Prop := fnCaveValidRow.holds Tryd.pinned (OpenSpec.ofChange fnCaveValidSpec)

/-- ITS FALSE NEIGHBOUR: 'it returns false'. Refute it at one input. -/
def fnCaveValidWrong : ChangeSpec := { name := "fnCaveValid", fn := fun _ => fun
  | [d] => { results := [.lit (.bool false)], args := [d] }
  | _ => none }
def FnCaveValidWrongFalsely : Prop := fnCaveValidRow.holds Tryd.pinned (OpenSpec.ofChange fnCaveValidWrong)

/-- 'laws.FnWaterAt': WHATEVER THE INPUT: true; the input reads as it did. -/
def fnWaterAtSpec : ChangeSpec := { name := "fnWaterAt", fn := fun _ => fun
  | [d] => { results := [.lit (.bool true)], args := [d] }
  | _ => none }
def fnWaterAtRow : OpenClaim := { program := "ytahbfifnpceoeaadoor", sum := "2e5ad060718351312f8c181d6638edb4ad3493941a487219dc280a91eeedf9ef", func := "loop.example/cavesurvey/laws.FnWaterAt", spec := "fnWaterAt", named := ["internal/strconv.uint64pow10", "math/bits.deBruijn32tab", "math/bits.deBruijn64tab"], apart := false, laid := [("math/bits.deBruijn32tab", laid_math_bits_deBruijn32tab), ("math/bits.deBruijn64tab", laid_math_bits_deBruijn64tab), ("internal/strconv.uint64pow10", laid_internal_strconv_uint64pow10)] }
def FnWaterAtSaid : Prop := fnWaterAtRow.holds Tryd.pinned (OpenSpec.ofChange fnWaterAtSpec)

/-- ITS FALSE NEIGHBOUR: 'it returns false'. Refute it at one input. -/
def fnWaterAtWrong : ChangeSpec := { name := "fnWaterAt", fn := fun _ => fun
  | [d] => { results := [.lit (.bool false)], args := [d] }
  | _ => none }
def FnWaterAtWrongFalsely : Prop := fnWaterAtRow.holds Tryd.pinned (OpenSpec.ofChange fnWaterAtWrong)

/-- 'laws.FnSillsHigh': WHATEVER THE INPUT: true; the input reads as it did. -/
def fnSillsHighSpec : ChangeSpec := { name := "fnSillsHigh", fn := fun _ => fun
  | [d] => { results := [.lit (.bool true)], args := [d] }
  | _ => none }
def fnSillsHighRow : OpenClaim := { program := "ytahbfifnpceoeaadoor", sum := "2e5ad060718351312f8c181d6638edb4ad3493941a487219dc280a91eeedf9ef", func := "loop.example/cavesurvey/laws.FnSillsHigh", spec := "fnSillsHigh", named := ["internal/strconv.uint64pow10", "math/bits.deBruijn32tab", "math/bits.deBruijn64tab"], apart := false, laid := [("math/bits.deBruijn32tab", laid_math_bits_deBruijn32tab), ("math/bits.deBruijn64tab", laid_math_bits_deBruijn64tab), ("internal/strconv.uint64pow10", laid_internal_strconv_uint64pow10)] }
def FnSillsHighSaid : Prop := fnSillsHighRow.holds Tryd.pinned (OpenSpec.ofChange fnSillsHighSpec)

/-- ITS FALSE NEIGHBOUR: 'it returns false'. Refute it at one input. -/
def fnSillsHighWrong : ChangeSpec := { name := "fnSillsHigh", fn := fun _ => fun
  | [d] => { results := [.lit (.bool false)], args := [d] }
  | _ => none }
def FnSillsHighWrongFalsely : Prop := fnSillsHighRow.holds Tryd.pinned (OpenSpec.ofChange fnSillsHighWrong)

/-- 'laws.FnPoolsAt': WHATEVER THE INPUT: true; the input reads as it did. -/
def fnPoolsAtSpec : ChangeSpec := { name := "fnPoolsAt", fn := fun _ => fun
  | [d] => { results := [.lit (.bool true)], args := [d] }
  | _ => none }
def fnPoolsAtRow : OpenClaim := { program := "ytahbfifnpceoeaadoor", sum := "2e5ad060718351312f8c181d6638edb4ad3493941a487219dc280a91eeedf9ef", func := "loop.example/cavesurvey/laws.FnPoolsAt", spec := "fnPoolsAt", named := ["internal/strconv.uint64pow10", "math/bits.deBruijn32tab", "math/bits.deBruijn64tab"], apart := false, laid := [("math/bits.deBruijn32tab", laid_math_bits_deBruijn32tab), ("math/bits.deBruijn64tab", laid_math_bits_deBruijn64tab), ("internal/strconv.uint64pow10", laid_internal_strconv_uint64pow10)] }
def FnPoolsAtSaid : Prop := fnPoolsAtRow.holds Tryd.pinned (OpenSpec.ofChange fnPoolsAtSpec)

/-- ITS FALSE NEIGHBOUR: 'it returns false'. Refute it at one input. -/
def fnPoolsAtWrong : ChangeSpec := { name := "fnPoolsAt", fn := fun _ => fun
  | [d] => { results := [.lit (.bool false)], args := [d] }
  | _ => none }
def FnPoolsAtWrongFalsely : Prop := fnPoolsAtRow.holds Tryd.pinned (OpenSpec.ofChange fnPoolsAtWrong)

/-- 'laws.FnLevelLeft': WHATEVER THE INPUT: true; the input reads as it did. -/
def fnLevelLeftSpec : ChangeSpec := { name := "fnLevelLeft", fn := fun _ => fun
  | [d] => { results := [.lit (.bool true)], args := [d] }
  | _ => none }
def fnLevelLeftRow : OpenClaim := { program := "ytahbfifnpceoeaadoor", sum := "2e5ad060718351312f8c181d6638edb4ad3493941a487219dc280a91eeedf9ef", func := "loop.example/cavesurvey/laws.FnLevelLeft", spec := "fnLevelLeft", named := ["internal/strconv.uint64pow10", "math/bits.deBruijn32tab", "math/bits.deBruijn64tab"], apart := false, laid := [("math/bits.deBruijn32tab", laid_math_bits_deBruijn32tab), ("math/bits.deBruijn64tab", laid_math_bits_deBruijn64tab), ("internal/strconv.uint64pow10", laid_internal_strconv_uint64pow10)] }
def FnLevelLeftSaid : Prop := fnLevelLeftRow.holds Tryd.pinned (OpenSpec.ofChange fnLevelLeftSpec)

/-- ITS FALSE NEIGHBOUR: 'it returns false'. Refute it at one input. -/
def fnLevelLeftWrong : ChangeSpec := { name := "fnLevelLeft", fn := fun _ => fun
  | [d] => { results := [.lit (.bool false)], args := [d] }
  | _ => none }
def FnLevelLeftWrongFalsely : Prop := fnLevelLeftRow.holds Tryd.pinned (OpenSpec.ofChange fnLevelLeftWrong)

/-- 'laws.FnWaterLeft': WHATEVER THE INPUT: true; the input reads as it did. -/
def fnWaterLeftSpec : ChangeSpec := { name := "fnWaterLeft", fn := fun _ => fun
  | [d] => { results := [.lit (.bool true)], args := [d] }
  | _ => none }
def fnWaterLeftRow : OpenClaim := { program := "ytahbfifnpceoeaadoor", sum := "2e5ad060718351312f8c181d6638edb4ad3493941a487219dc280a91eeedf9ef", func := "loop.example/cavesurvey/laws.FnWaterLeft", spec := "fnWaterLeft", named := ["internal/strconv.uint64pow10", "math/bits.deBruijn32tab", "math/bits.deBruijn64tab"], apart := false, laid := [("math/bits.deBruijn32tab", laid_math_bits_deBruijn32tab), ("math/bits.deBruijn64tab", laid_math_bits_deBruijn64tab), ("internal/strconv.uint64pow10", laid_internal_strconv_uint64pow10)] }
def FnWaterLeftSaid : Prop := fnWaterLeftRow.holds Tryd.pinned (OpenSpec.ofChange fnWaterLeftSpec)

/-- ITS FALSE NEIGHBOUR: 'it returns false'. Refute it at one input. -/
def fnWaterLeftWrong : ChangeSpec := { name := "fnWaterLeft", fn := fun _ => fun
  | [d] => { results := [.lit (.bool false)], args := [d] }
  | _ => none }
def FnWaterLeftWrongFalsely : Prop := fnWaterLeftRow.holds Tryd.pinned (OpenSpec.ofChange fnWaterLeftWrong)

/-- 'laws.FnPumpBest': WHATEVER THE INPUT: true; the input reads as it did. -/
def fnPumpBestSpec : ChangeSpec := { name := "fnPumpBest", fn := fun _ => fun
  | [d] => { results := [.lit (.bool true)], args := [d] }
  | _ => none }
def fnPumpBestRow : OpenClaim := { program := "ytahbfifnpceoeaadoor", sum := "2e5ad060718351312f8c181d6638edb4ad3493941a487219dc280a91eeedf9ef", func := "loop.example/cavesurvey/laws.FnPumpBest", spec := "fnPumpBest", named := ["internal/strconv.uint64pow10", "math/bits.deBruijn32tab", "math/bits.deBruijn64tab"], apart := false, laid := [("math/bits.deBruijn32tab", laid_math_bits_deBruijn32tab), ("math/bits.deBruijn64tab", laid_math_bits_deBruijn64tab), ("internal/strconv.uint64pow10", laid_internal_strconv_uint64pow10)] }
def FnPumpBestSaid : Prop := fnPumpBestRow.holds Tryd.pinned (OpenSpec.ofChange fnPumpBestSpec)

/-- ITS FALSE NEIGHBOUR: 'it returns false'. Refute it at one input. -/
def fnPumpBestWrong : ChangeSpec := { name := "fnPumpBest", fn := fun _ => fun
  | [d] => { results := [.lit (.bool false)], args := [d] }
  | _ => none }
def FnPumpBestWrongFalsely : Prop := fnPumpBestRow.holds Tryd.pinned (OpenSpec.ofChange fnPumpBestWrong)

/-- 'laws.FnJoinLevel': WHATEVER THE INPUT: true; the input reads as it did. -/
def fnJoinLevelSpec : ChangeSpec := { name := "fnJoinLevel", fn := fun _ => fun
  | [d] => { results := [.lit (.bool true)], args := [d] }
  | _ => none }
def fnJoinLevelRow : OpenClaim := { program := "ytahbfifnpceoeaadoor", sum := "2e5ad060718351312f8c181d6638edb4ad3493941a487219dc280a91eeedf9ef", func := "loop.example/cavesurvey/laws.FnJoinLevel", spec := "fnJoinLevel", unfollowed := true, recurses := true, named := ["internal/strconv.uint64pow10", "math/bits.deBruijn32tab", "math/bits.deBruijn64tab"], apart := false, laid := [("math/bits.deBruijn32tab", laid_math_bits_deBruijn32tab), ("math/bits.deBruijn64tab", laid_math_bits_deBruijn64tab), ("internal/strconv.uint64pow10", laid_internal_strconv_uint64pow10)] }
def FnJoinLevelSaid : Prop := fnJoinLevelRow.holds Tryd.pinned (OpenSpec.ofChange fnJoinLevelSpec)

/-- ITS FALSE NEIGHBOUR: 'it returns false'. Refute it at one input. -/
def fnJoinLevelWrong : ChangeSpec := { name := "fnJoinLevel", fn := fun _ => fun
  | [d] => { results := [.lit (.bool false)], args := [d] }
  | _ => none }
def FnJoinLevelWrongFalsely : Prop := fnJoinLevelRow.holds Tryd.pinned (OpenSpec.ofChange fnJoinLevelWrong)

/- THE SECOND FORM. 'bulk': how many values and letters a reading holds, each counted each time it is reached (what is shared counts as often as it is met; a slice's spare places count too). A statement '..UptoSaid' is the law's where the arguments, and the package variables that the reading takes, are together of bulk at most 1048576: NARROWER than '..Said'. Prove '..Said' where nothing that the law and all that it calls make is longer than what came in: it says more and counts as full. Else prove '..UptoSaid'. A law counts once. -/
mutual
def uptoBulk {H : Type} : DataW H → Nat
  | .lit (.string bytes) => bytes.length + 1
  | .lit _ => 1
  | .nil => 1
  | .ptr d => uptoBulk d + 1
  | .slice elems spare => uptoBulkAll elems + uptoBulkAll spare + 1
  | .agg parts => uptoBulkAll parts + 1
  | .iface _ d => uptoBulk d + 1
  | .map entries => uptoBulkEntries entries + 1
  | .held _ => 1
def uptoBulkAll {H : Type} : List (DataW H) → Nat
  | [] => 0
  | d :: r => uptoBulk d + uptoBulkAll r
def uptoBulkEntries {H : Type} : List (Lit × DataW H) → Nat
  | [] => 0
  | x :: r => uptoBulkEntry x + uptoBulkEntries r
def uptoBulkEntry {H : Type} : Lit × DataW H → Nat
  | (.string bytes, d) => bytes.length + uptoBulk d + 1
  | (_, d) => uptoBulk d + 1
 end
def uptoSmall : (H : Type) → List (DataW H) → Bool := fun _ ds => decide (uptoBulkAll ds ≤ 1048576)
def OpenSpec.upto (s : _root_.Go.ChangeSpec) : _root_.Go.OpenSpec := { _root_.Go.OpenSpec.ofChange s with cond := some uptoSmall }

/-- 'laws.FnSillTree', WHERE WHAT IT READS IS OF BULK AT MOST 1048576: true; the input reads as it did. -/
def fnSillTreeUptoRow : OpenClaim := { program := "ytahbfifnpceoeaadoor", sum := "2e5ad060718351312f8c181d6638edb4ad3493941a487219dc280a91eeedf9ef", func := "loop.example/cavesurvey/laws.FnSillTree", spec := "fnSillTree", unfollowed := true, recurses := true, named := ["internal/strconv.uint64pow10", "math/bits.deBruijn32tab", "math/bits.deBruijn64tab"], apart := false, laid := [("math/bits.deBruijn32tab", laid_math_bits_deBruijn32tab), ("math/bits.deBruijn64tab", laid_math_bits_deBruijn64tab), ("internal/strconv.uint64pow10", laid_internal_strconv_uint64pow10)], narrowed := true }
def FnSillTreeUptoSaid : Prop := fnSillTreeUptoRow.holds Tryd.pinned (OpenSpec.upto fnSillTreeSpec)

/-- 'laws.FnSillsJoin', WHERE WHAT IT READS IS OF BULK AT MOST 1048576: true; the input reads as it did. -/
def fnSillsJoinUptoRow : OpenClaim := { program := "ytahbfifnpceoeaadoor", sum := "2e5ad060718351312f8c181d6638edb4ad3493941a487219dc280a91eeedf9ef", func := "loop.example/cavesurvey/laws.FnSillsJoin", spec := "fnSillsJoin", unfollowed := true, recurses := true, named := ["internal/strconv.uint64pow10", "math/bits.deBruijn32tab", "math/bits.deBruijn64tab"], apart := false, laid := [("math/bits.deBruijn32tab", laid_math_bits_deBruijn32tab), ("math/bits.deBruijn64tab", laid_math_bits_deBruijn64tab), ("internal/strconv.uint64pow10", laid_internal_strconv_uint64pow10)], narrowed := true }
def FnSillsJoinUptoSaid : Prop := fnSillsJoinUptoRow.holds Tryd.pinned (OpenSpec.upto fnSillsJoinSpec)

/-- 'laws.FnTreeLevel', WHERE WHAT IT READS IS OF BULK AT MOST 1048576: true; the input reads as it did. -/
def fnTreeLevelUptoRow : OpenClaim := { program := "ytahbfifnpceoeaadoor", sum := "2e5ad060718351312f8c181d6638edb4ad3493941a487219dc280a91eeedf9ef", func := "loop.example/cavesurvey/laws.FnTreeLevel", spec := "fnTreeLevel", unfollowed := true, recurses := true, named := ["internal/strconv.uint64pow10", "math/bits.deBruijn32tab", "math/bits.deBruijn64tab"], apart := false, laid := [("math/bits.deBruijn32tab", laid_math_bits_deBruijn32tab), ("math/bits.deBruijn64tab", laid_math_bits_deBruijn64tab), ("internal/strconv.uint64pow10", laid_internal_strconv_uint64pow10)], narrowed := true }
def FnTreeLevelUptoSaid : Prop := fnTreeLevelUptoRow.holds Tryd.pinned (OpenSpec.upto fnTreeLevelSpec)

/-- 'laws.FnCaveValid', WHERE WHAT IT READS IS OF BULK AT MOST 1048576: true; the input reads as it did. -/
def fnCaveValidUptoRow : OpenClaim := { program := "ytahbfifnpceoeaadoor", sum := "2e5ad060718351312f8c181d6638edb4ad3493941a487219dc280a91eeedf9ef", func := "loop.example/cavesurvey/laws.FnCaveValid", spec := "fnCaveValid", named := ["internal/strconv.uint64pow10", "math/bits.deBruijn32tab", "math/bits.deBruijn64tab"], apart := false, laid := [("math/bits.deBruijn32tab", laid_math_bits_deBruijn32tab), ("math/bits.deBruijn64tab", laid_math_bits_deBruijn64tab), ("internal/strconv.uint64pow10", laid_internal_strconv_uint64pow10)], narrowed := true }
def FnCaveValidUptoSaid : Prop := fnCaveValidUptoRow.holds Tryd.pinned (OpenSpec.upto fnCaveValidSpec)

/-- 'laws.FnWaterAt', WHERE WHAT IT READS IS OF BULK AT MOST 1048576: true; the input reads as it did. -/
def fnWaterAtUptoRow : OpenClaim := { program := "ytahbfifnpceoeaadoor", sum := "2e5ad060718351312f8c181d6638edb4ad3493941a487219dc280a91eeedf9ef", func := "loop.example/cavesurvey/laws.FnWaterAt", spec := "fnWaterAt", named := ["internal/strconv.uint64pow10", "math/bits.deBruijn32tab", "math/bits.deBruijn64tab"], apart := false, laid := [("math/bits.deBruijn32tab", laid_math_bits_deBruijn32tab), ("math/bits.deBruijn64tab", laid_math_bits_deBruijn64tab), ("internal/strconv.uint64pow10", laid_internal_strconv_uint64pow10)], narrowed := true }
def FnWaterAtUptoSaid : Prop := fnWaterAtUptoRow.holds Tryd.pinned (OpenSpec.upto fnWaterAtSpec)

/-- 'laws.FnSillsHigh', WHERE WHAT IT READS IS OF BULK AT MOST 1048576: true; the input reads as it did. -/
def fnSillsHighUptoRow : OpenClaim := { program := "ytahbfifnpceoeaadoor", sum := "2e5ad060718351312f8c181d6638edb4ad3493941a487219dc280a91eeedf9ef", func := "loop.example/cavesurvey/laws.FnSillsHigh", spec := "fnSillsHigh", named := ["internal/strconv.uint64pow10", "math/bits.deBruijn32tab", "math/bits.deBruijn64tab"], apart := false, laid := [("math/bits.deBruijn32tab", laid_math_bits_deBruijn32tab), ("math/bits.deBruijn64tab", laid_math_bits_deBruijn64tab), ("internal/strconv.uint64pow10", laid_internal_strconv_uint64pow10)], narrowed := true }
def FnSillsHighUptoSaid : Prop := fnSillsHighUptoRow.holds Tryd.pinned (OpenSpec.upto fnSillsHighSpec)

/-- 'laws.FnPoolsAt', WHERE WHAT IT READS IS OF BULK AT MOST 1048576: true; the input reads as it did. -/
def fnPoolsAtUptoRow : OpenClaim := { program := "ytahbfifnpceoeaadoor", sum := "2e5ad060718351312f8c181d6638edb4ad3493941a487219dc280a91eeedf9ef", func := "loop.example/cavesurvey/laws.FnPoolsAt", spec := "fnPoolsAt", named := ["internal/strconv.uint64pow10", "math/bits.deBruijn32tab", "math/bits.deBruijn64tab"], apart := false, laid := [("math/bits.deBruijn32tab", laid_math_bits_deBruijn32tab), ("math/bits.deBruijn64tab", laid_math_bits_deBruijn64tab), ("internal/strconv.uint64pow10", laid_internal_strconv_uint64pow10)], narrowed := true }
def FnPoolsAtUptoSaid : Prop := fnPoolsAtUptoRow.holds Tryd.pinned (OpenSpec.upto fnPoolsAtSpec)

/-- 'laws.FnLevelLeft', WHERE WHAT IT READS IS OF BULK AT MOST 1048576: true; the input reads as it did. -/
def fnLevelLeftUptoRow : OpenClaim := { program := "ytahbfifnpceoeaadoor", sum := "2e5ad060718351312f8c181d6638edb4ad3493941a487219dc280a91eeedf9ef", func := "loop.example/cavesurvey/laws.FnLevelLeft", spec := "fnLevelLeft", named := ["internal/strconv.uint64pow10", "math/bits.deBruijn32tab", "math/bits.deBruijn64tab"], apart := false, laid := [("math/bits.deBruijn32tab", laid_math_bits_deBruijn32tab), ("math/bits.deBruijn64tab", laid_math_bits_deBruijn64tab), ("internal/strconv.uint64pow10", laid_internal_strconv_uint64pow10)], narrowed := true }
def FnLevelLeftUptoSaid : Prop := fnLevelLeftUptoRow.holds Tryd.pinned (OpenSpec.upto fnLevelLeftSpec)

/-- 'laws.FnWaterLeft', WHERE WHAT IT READS IS OF BULK AT MOST 1048576: true; the input reads as it did. -/
def fnWaterLeftUptoRow : OpenClaim := { program := "ytahbfifnpceoeaadoor", sum := "2e5ad060718351312f8c181d6638edb4ad3493941a487219dc280a91eeedf9ef", func := "loop.example/cavesurvey/laws.FnWaterLeft", spec := "fnWaterLeft", named := ["internal/strconv.uint64pow10", "math/bits.deBruijn32tab", "math/bits.deBruijn64tab"], apart := false, laid := [("math/bits.deBruijn32tab", laid_math_bits_deBruijn32tab), ("math/bits.deBruijn64tab", laid_math_bits_deBruijn64tab), ("internal/strconv.uint64pow10", laid_internal_strconv_uint64pow10)], narrowed := true }
def FnWaterLeftUptoSaid : Prop := fnWaterLeftUptoRow.holds Tryd.pinned (OpenSpec.upto fnWaterLeftSpec)

/-- 'laws.FnPumpBest', WHERE WHAT IT READS IS OF BULK AT MOST 1048576: true; the input reads as it did. -/
def fnPumpBestUptoRow : OpenClaim := { program := "ytahbfifnpceoeaadoor", sum := "2e5ad060718351312f8c181d6638edb4ad3493941a487219dc280a91eeedf9ef", func := "loop.example/cavesurvey/laws.FnPumpBest", spec := "fnPumpBest", named := ["internal/strconv.uint64pow10", "math/bits.deBruijn32tab", "math/bits.deBruijn64tab"], apart := false, laid := [("math/bits.deBruijn32tab", laid_math_bits_deBruijn32tab), ("math/bits.deBruijn64tab", laid_math_bits_deBruijn64tab), ("internal/strconv.uint64pow10", laid_internal_strconv_uint64pow10)], narrowed := true }
def FnPumpBestUptoSaid : Prop := fnPumpBestUptoRow.holds Tryd.pinned (OpenSpec.upto fnPumpBestSpec)

/-- 'laws.FnJoinLevel', WHERE WHAT IT READS IS OF BULK AT MOST 1048576: true; the input reads as it did. -/
def fnJoinLevelUptoRow : OpenClaim := { program := "ytahbfifnpceoeaadoor", sum := "2e5ad060718351312f8c181d6638edb4ad3493941a487219dc280a91eeedf9ef", func := "loop.example/cavesurvey/laws.FnJoinLevel", spec := "fnJoinLevel", unfollowed := true, recurses := true, named := ["internal/strconv.uint64pow10", "math/bits.deBruijn32tab", "math/bits.deBruijn64tab"], apart := false, laid := [("math/bits.deBruijn32tab", laid_math_bits_deBruijn32tab), ("math/bits.deBruijn64tab", laid_math_bits_deBruijn64tab), ("internal/strconv.uint64pow10", laid_internal_strconv_uint64pow10)], narrowed := true }
def FnJoinLevelUptoSaid : Prop := fnJoinLevelUptoRow.holds Tryd.pinned (OpenSpec.upto fnJoinLevelSpec)

end Rows
end Go.Proofs.YtahbfifnpceoeaaDoor
