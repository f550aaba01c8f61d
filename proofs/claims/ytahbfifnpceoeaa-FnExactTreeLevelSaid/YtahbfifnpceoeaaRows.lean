/-
  No cell of these rows narrows 'for every input' (looked for: loops, veiled, ifaces, maps, wideKeys, modest, calm, conditions, laid).
  DERIVED. THE GIVEN ROWS OF THIS SEAT. 6 by the template 'for every input the law returns true; each argument reads behind the call as it read before'; 0 by the template 'total and deterministic' (their statements: YtahbfifnpceoeaaTotals.lean).
  GIVEN WITH THE SEED: the statements are not yours to turn. If you find one false, say at which input.
  Laid BY PROGRAM, IN A SANDBOX (cutbox-rows.mjs): the forced cells as the released guide's own fill.sh prints them over the translation 7732ac0377711a64… (all of the seat's roots in one cut). By AI agents, Wed Nov 11 2026. No macro, syntax, notation, axiom, sorry.
-/
import Derived.Test.YtahbfifnpceoeaaChecked
import GoSem.Claim
import GoSem.ClaimJoined
import GoSem.ClaimMapViews
import Derived.JoinedTies
import Derived.KernelRfl
namespace Go.Proofs.Ytahbfifnpceoeaa
/- THE CELL 'sum', in the pinned program and in every row, IS THE sha256 OF THE DUMP (.gsa) THAT YtahbfifnpceoeaaProg.lean LOADS. Nothing in Lean hashes anything: it is a label: what it is worth is what the hold of that sum in a sandbox is worth. -/
noncomputable def Try.pinned : Pinned := { name := "ytahbfifnpceoeaa", sum := "7732ac0377711a649ee83126819458b6d2bbbf56bc086cddb9fabc9f40dc81ab", checked := Try.checked }
namespace Rows
def none {H : Type} : Left H := { results := [], args := [] }

/-- 'laws.FnExactSillsJoin': WHATEVER THE INPUT: true; the input reads as it did. -/
def fnExactSillsJoinSpec : ChangeSpec := { name := "fnExactSillsJoin", fn := fun _ => fun
  | [d1, d2] => { results := [.lit (.bool true)], args := [d1, d2] }
  | _ => none }
def fnExactSillsJoinRow : OpenClaim := { program := "ytahbfifnpceoeaa", sum := "7732ac0377711a649ee83126819458b6d2bbbf56bc086cddb9fabc9f40dc81ab", func := "loop.example/cavesurvey/laws.FnExactSillsJoin", spec := "fnExactSillsJoin", apart := false }
def FnExactSillsJoinSaid : Prop := fnExactSillsJoinRow.holds Try.pinned (OpenSpec.ofChange fnExactSillsJoinSpec)

/-- ITS FALSE NEIGHBOUR: 'it returns false'. Refute it at one input. -/
def fnExactSillsJoinWrong : ChangeSpec := { name := "fnExactSillsJoin", fn := fun _ => fun
  | [d1, d2] => { results := [.lit (.bool false)], args := [d1, d2] }
  | _ => none }
def FnExactSillsJoinWrongFalsely : Prop := fnExactSillsJoinRow.holds Try.pinned (OpenSpec.ofChange fnExactSillsJoinWrong)

/-- 'laws.FnExactLevelLeft': WHATEVER THE INPUT: true; the input reads as it did. -/
def fnExactLevelLeftSpec : ChangeSpec := { name := "fnExactLevelLeft", fn := fun _ => fun
  | [d1, d2, d3, d4] => { results := [.lit (.bool true)], args := [d1, d2, d3, d4] }
  | _ => none }
def fnExactLevelLeftRow : OpenClaim := { program := "ytahbfifnpceoeaa", sum := "7732ac0377711a649ee83126819458b6d2bbbf56bc086cddb9fabc9f40dc81ab", func := "loop.example/cavesurvey/laws.FnExactLevelLeft", spec := "fnExactLevelLeft", apart := false }
def FnExactLevelLeftSaid : Prop := fnExactLevelLeftRow.holds Try.pinned (OpenSpec.ofChange fnExactLevelLeftSpec)

/-- ITS FALSE NEIGHBOUR: 'it returns false'. Refute it at one input. -/
def fnExactLevelLeftWrong : ChangeSpec := { name := "fnExactLevelLeft", fn := fun _ => fun
  | [d1, d2, d3, d4] => { results := [.lit (.bool false)], args := [d1, d2, d3, d4] }
  | _ => none }
def FnExactLevelLeftWrongFalsely : Prop := fnExactLevelLeftRow.holds Try.pinned (OpenSpec.ofChange fnExactLevelLeftWrong)

/-- 'laws.FnExactWaterLeft': WHATEVER THE INPUT: true; the input reads as it did. -/
def fnExactWaterLeftSpec : ChangeSpec := { name := "fnExactWaterLeft", fn := fun _ => fun
  | [d1, d2, d3] => { results := [.lit (.bool true)], args := [d1, d2, d3] }
  | _ => none }
def fnExactWaterLeftRow : OpenClaim := { program := "ytahbfifnpceoeaa", sum := "7732ac0377711a649ee83126819458b6d2bbbf56bc086cddb9fabc9f40dc81ab", func := "loop.example/cavesurvey/laws.FnExactWaterLeft", spec := "fnExactWaterLeft", apart := false }
def FnExactWaterLeftSaid : Prop := fnExactWaterLeftRow.holds Try.pinned (OpenSpec.ofChange fnExactWaterLeftSpec)

/-- ITS FALSE NEIGHBOUR: 'it returns false'. Refute it at one input. -/
def fnExactWaterLeftWrong : ChangeSpec := { name := "fnExactWaterLeft", fn := fun _ => fun
  | [d1, d2, d3] => { results := [.lit (.bool false)], args := [d1, d2, d3] }
  | _ => none }
def FnExactWaterLeftWrongFalsely : Prop := fnExactWaterLeftRow.holds Try.pinned (OpenSpec.ofChange fnExactWaterLeftWrong)

/-- 'laws.FnExactPumpBest': WHATEVER THE INPUT: true; the input reads as it did. -/
def fnExactPumpBestSpec : ChangeSpec := { name := "fnExactPumpBest", fn := fun _ => fun
  | [d1, d2] => { results := [.lit (.bool true)], args := [d1, d2] }
  | _ => none }
def fnExactPumpBestRow : OpenClaim := { program := "ytahbfifnpceoeaa", sum := "7732ac0377711a649ee83126819458b6d2bbbf56bc086cddb9fabc9f40dc81ab", func := "loop.example/cavesurvey/laws.FnExactPumpBest", spec := "fnExactPumpBest", apart := false }
def FnExactPumpBestSaid : Prop := fnExactPumpBestRow.holds Try.pinned (OpenSpec.ofChange fnExactPumpBestSpec)

/-- ITS FALSE NEIGHBOUR: 'it returns false'. Refute it at one input. -/
def fnExactPumpBestWrong : ChangeSpec := { name := "fnExactPumpBest", fn := fun _ => fun
  | [d1, d2] => { results := [.lit (.bool false)], args := [d1, d2] }
  | _ => none }
def FnExactPumpBestWrongFalsely : Prop := fnExactPumpBestRow.holds Try.pinned (OpenSpec.ofChange fnExactPumpBestWrong)

/-- 'laws.FnExactSillTree': WHATEVER THE INPUT: true; the input reads as it did. -/
def fnExactSillTreeSpec : ChangeSpec := { name := "fnExactSillTree", fn := fun _ => fun
  | [d] => { results := [.lit (.bool true)], args := [d] }
  | _ => none }
def fnExactSillTreeRow : OpenClaim := { program := "ytahbfifnpceoeaa", sum := "7732ac0377711a649ee83126819458b6d2bbbf56bc086cddb9fabc9f40dc81ab", func := "loop.example/cavesurvey/laws.FnExactSillTree", spec := "fnExactSillTree", unfollowed := true, recurses := true, apart := false }
def FnExactSillTreeSaid : Prop := fnExactSillTreeRow.holds Try.pinned (OpenSpec.ofChange fnExactSillTreeSpec)

/-- ITS FALSE NEIGHBOUR: 'it returns false'. Refute it at one input. -/
def fnExactSillTreeWrong : ChangeSpec := { name := "fnExactSillTree", fn := fun _ => fun
  | [d] => { results := [.lit (.bool false)], args := [d] }
  | _ => none }
def FnExactSillTreeWrongFalsely : Prop := fnExactSillTreeRow.holds Try.pinned (OpenSpec.ofChange fnExactSillTreeWrong)

/-- 'laws.FnExactTreeLevel': WHATEVER THE INPUT: true; the input reads as it did. -/
def fnExactTreeLevelSpec : ChangeSpec := { name := "fnExactTreeLevel", fn := fun _ => fun
  | [d1, d2, d3] => { results := [.lit (.bool true)], args := [d1, d2, d3] }
  | _ => none }
def fnExactTreeLevelRow : OpenClaim := { program := "ytahbfifnpceoeaa", sum := "7732ac0377711a649ee83126819458b6d2bbbf56bc086cddb9fabc9f40dc81ab", func := "loop.example/cavesurvey/laws.FnExactTreeLevel", spec := "fnExactTreeLevel", unfollowed := true, recurses := true, apart := false }
def FnExactTreeLevelSaid : Prop := fnExactTreeLevelRow.holds Try.pinned (OpenSpec.ofChange fnExactTreeLevelSpec)

/-- ITS FALSE NEIGHBOUR: 'it returns false'. Refute it at one input. -/
def fnExactTreeLevelWrong : ChangeSpec := { name := "fnExactTreeLevel", fn := fun _ => fun
  | [d1, d2, d3] => { results := [.lit (.bool false)], args := [d1, d2, d3] }
  | _ => none }
def FnExactTreeLevelWrongFalsely : Prop := fnExactTreeLevelRow.holds Try.pinned (OpenSpec.ofChange fnExactTreeLevelWrong)

/- THE SECOND FORM. 'bulk': how many values and letters a reading holds, each counted each time it is reached (what is shared counts as often as it is met; a slice's spare places count too). A statement '..UptoSaid' is the law's where the arguments, and the package variables that the reading takes, are together of bulk at most 1048576: NARROWER than '..Said'. Prove '..Said' where nothing that the law and all that it calls make is longer than what came in: it says more and counts as full. Else prove '..UptoSaid'. A law counts once. -/
mutual
def uptoBulk {H : Type} : DataW H → Nat
  | .lit (.string bytes) => bytes.length + 1
  | .lit _ => 1
  | .nil => 1
  | .ptr d => uptoBulk d + 1
  | .slice elems spare => uptoBulkAll elems + uptoBulkAll spare + 1
  | .agg parts => uptoBulkAll parts + 1
  | .iface _ d => uptoBulk d + 1
  | .map entries => uptoBulkEntries entries + 1
  | .held _ => 1
def uptoBulkAll {H : Type} : List (DataW H) → Nat
  | [] => 0
  | d :: r => uptoBulk d + uptoBulkAll r
def uptoBulkEntries {H : Type} : List (Lit × DataW H) → Nat
  | [] => 0
  | x :: r => uptoBulkEntry x + uptoBulkEntries r
def uptoBulkEntry {H : Type} : Lit × DataW H → Nat
  | (.string bytes, d) => bytes.length + uptoBulk d + 1
  | (_, d) => uptoBulk d + 1
 end
def uptoSmall : (H : Type) → List (DataW H) → Bool := fun _ ds => decide (uptoBulkAll ds ≤ 1048576)
def OpenSpec.upto (s : _root_.Go.ChangeSpec) : _root_.Go.OpenSpec := { _root_.Go.OpenSpec.ofChange s with cond := some uptoSmall }

/-- 'laws.FnExactSillsJoin', WHERE WHAT IT READS IS OF BULK AT MOST 1048576: true; the input reads as it did. -/
def fnExactSillsJoinUptoRow : OpenClaim := { program := "ytahbfifnpceoeaa", sum := "7732ac0377711a649ee83126819458b6d2bbbf56bc086cddb9fabc9f40dc81ab", func := "loop.example/cavesurvey/laws.FnExactSillsJoin", spec := "fnExactSillsJoin", apart := false, narrowed := true }
def FnExactSillsJoinUptoSaid : Prop := fnExactSillsJoinUptoRow.holds Try.pinned (OpenSpec.upto fnExactSillsJoinSpec)

/-- 'laws.FnExactLevelLeft', WHERE WHAT IT READS IS OF BULK AT MOST 1048576: true; the input reads as it did. -/
def fnExactLevelLeftUptoRow : OpenClaim := { program := "ytahbfifnpceoeaa", sum := "7732ac0377711a649ee83126819458b6d2bbbf56bc086cddb9fabc9f40dc81ab", func := "loop.example/cavesurvey/laws.FnExactLevelLeft", spec := "fnExactLevelLeft", apart := false, narrowed := true }
def FnExactLevelLeftUptoSaid : Prop := fnExactLevelLeftUptoRow.holds Try.pinned (OpenSpec.upto fnExactLevelLeftSpec)

/-- 'laws.FnExactWaterLeft', WHERE WHAT IT READS IS OF BULK AT MOST 1048576: true; the input reads as it did. -/
def fnExactWaterLeftUptoRow : OpenClaim := { program := "ytahbfifnpceoeaa", sum := "7732ac0377711a649ee83126819458b6d2bbbf56bc086cddb9fabc9f40dc81ab", func := "loop.example/cavesurvey/laws.FnExactWaterLeft", spec := "fnExactWaterLeft", apart := false, narrowed := true }
def FnExactWaterLeftUptoSaid : Prop := fnExactWaterLeftUptoRow.holds Try.pinned (OpenSpec.upto fnExactWaterLeftSpec)

/-- 'laws.FnExactPumpBest', WHERE WHAT IT READS IS OF BULK AT MOST 1048576: true; the input reads as it did. -/
def fnExactPumpBestUptoRow : OpenClaim := { program := "ytahbfifnpceoeaa", sum := "7732ac0377711a649ee83126819458b6d2bbbf56bc086cddb9fabc9f40dc81ab", func := "loop.example/cavesurvey/laws.FnExactPumpBest", spec := "fnExactPumpBest", apart := false, narrowed := true }
def FnExactPumpBestUptoSaid : Prop := fnExactPumpBestUptoRow.holds Try.pinned (OpenSpec.upto fnExactPumpBestSpec)

/-- 'laws.FnExactSillTree', WHERE WHAT IT READS IS OF BULK AT MOST 1048576: true; the input reads as it did. -/
def fnExactSillTreeUptoRow : OpenClaim := { program := "ytahbfifnpceoeaa", sum := "7732ac0377711a649ee83126819458b6d2bbbf56bc086cddb9fabc9f40dc81ab", func := "loop.example/cavesurvey/laws.FnExactSillTree", spec := "fnExactSillTree", unfollowed := true, recurses := true, apart := false, narrowed := true }
def FnExactSillTreeUptoSaid : Prop := fnExactSillTreeUptoRow.holds Try.pinned (OpenSpec.upto fnExactSillTreeSpec)

/-- 'laws.FnExactTreeLevel', WHERE WHAT IT READS IS OF BULK AT MOST 1048576: true; the input reads as it did. -/
def fnExactTreeLevelUptoRow : OpenClaim := { program := "ytahbfifnpceoeaa", sum := "7732ac0377711a649ee83126819458b6d2bbbf56bc086cddb9fabc9f40dc81ab", func := "loop.example/cavesurvey/laws.FnExactTreeLevel", spec := "fnExactTreeLevel", unfollowed := true, recurses := true, apart := false, narrowed := true }
def FnExactTreeLevelUptoSaid : Prop := fnExactTreeLevelUptoRow.holds Try.pinned (OpenSpec.upto fnExactTreeLevelSpec)

end Rows
end Go.Proofs.Ytahbfifnpceoeaa
