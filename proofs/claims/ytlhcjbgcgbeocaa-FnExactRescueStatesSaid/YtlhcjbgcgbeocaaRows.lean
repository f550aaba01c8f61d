/-
  No cell of these rows narrows 'for every input' (looked for: loops, veiled, ifaces, maps, wideKeys, modest, calm, conditions, laid).
  DERIVED. THE GIVEN ROWS OF THIS SEAT. 10 by the template 'for every input the law returns true; each argument reads behind the call as it read before'; 0 by the template 'total and deterministic' (their statements: YtlhcjbgcgbeocaaTotals.lean).
  GIVEN WITH THE SEED: the statements are not yours to turn. If you find one false, say at which input.
  Laid BY PROGRAM, IN A SANDBOX (cutbox-rows.mjs): the forced cells as the released guide's own fill.sh prints them over the translation f8208a5b9ff24f27… (all of the seat's roots in one cut). By AI agents, Wed Nov 11 2026. No macro, syntax, notation, axiom, sorry.
-/
import Derived.Test.YtlhcjbgcgbeocaaChecked
import GoSem.Claim
import GoSem.ClaimJoined
import GoSem.ClaimMapViews
import Derived.JoinedTies
import Derived.KernelRfl
namespace Go.Proofs.Ytlhcjbgcgbeocaa
/- THE CELL 'sum', in the pinned program and in every row, IS THE sha256 OF THE DUMP (.gsa) THAT YtlhcjbgcgbeocaaProg.lean LOADS. Nothing in Lean hashes anything: it is a label: what it is worth is what the hold of that sum in a sandbox is worth. -/
noncomputable def Try.pinned : Pinned := { name := "ytlhcjbgcgbeocaa", sum := "f8208a5b9ff24f278f279d0a09340bdec3bb0d5aa6e0c38202088fca62308012", checked := Try.checked }
namespace Rows
def none {H : Type} : Left H := { results := [], args := [] }

/-- 'laws.FnExactSearchValid': WHATEVER THE INPUT: true; the input reads as it did. -/
def fnExactSearchValidSpec : ChangeSpec := { name := "fnExactSearchValid", fn := fun _ => fun
  | [d] => { results := [.lit (.bool true)], args := [d] }
  | _ => none }
def fnExactSearchValidRow : OpenClaim := { program := "ytlhcjbgcgbeocaa", sum := "f8208a5b9ff24f278f279d0a09340bdec3bb0d5aa6e0c38202088fca62308012", func := "loop.example/cavesurvey/laws.FnExactSearchValid", spec := "fnExactSearchValid", apart := false }
def FnExactSearchValidSaid : Prop := fnExactSearchValidRow.holds Try.pinned (OpenSpec.ofChange fnExactSearchValidSpec)

/-- ITS FALSE NEIGHBOUR: 'it returns false'. Refute it at one input. -/
def fnExactSearchValidWrong : ChangeSpec := { name := "fnExactSearchValid", fn := fun _ => fun
  | [d] => { results := [.lit (.bool false)], args := [d] }
  | _ => none }
def FnExactSearchValidWrongFalsely : Prop := fnExactSearchValidRow.holds Try.pinned (OpenSpec.ofChange fnExactSearchValidWrong)

/-- 'laws.FnExactWalkTime': WHATEVER THE INPUT: true; the input reads as it did. -/
def fnExactWalkTimeSpec : ChangeSpec := { name := "fnExactWalkTime", fn := fun _ => fun
  | [d1, d2, d3] => { results := [.lit (.bool true)], args := [d1, d2, d3] }
  | _ => none }
def fnExactWalkTimeRow : OpenClaim := { program := "ytlhcjbgcgbeocaa", sum := "f8208a5b9ff24f278f279d0a09340bdec3bb0d5aa6e0c38202088fca62308012", func := "loop.example/cavesurvey/laws.FnExactWalkTime", spec := "fnExactWalkTime", apart := false }
def FnExactWalkTimeSaid : Prop := fnExactWalkTimeRow.holds Try.pinned (OpenSpec.ofChange fnExactWalkTimeSpec)

/-- ITS FALSE NEIGHBOUR: 'it returns false'. Refute it at one input. -/
def fnExactWalkTimeWrong : ChangeSpec := { name := "fnExactWalkTime", fn := fun _ => fun
  | [d1, d2, d3] => { results := [.lit (.bool false)], args := [d1, d2, d3] }
  | _ => none }
def FnExactWalkTimeWrongFalsely : Prop := fnExactWalkTimeRow.holds Try.pinned (OpenSpec.ofChange fnExactWalkTimeWrong)

/-- 'laws.FnExactRouteTime': WHATEVER THE INPUT: true; the input reads as it did. -/
def fnExactRouteTimeSpec : ChangeSpec := { name := "fnExactRouteTime", fn := fun _ => fun
  | [d1, d2, d3] => { results := [.lit (.bool true)], args := [d1, d2, d3] }
  | _ => none }
def fnExactRouteTimeRow : OpenClaim := { program := "ytlhcjbgcgbeocaa", sum := "f8208a5b9ff24f278f279d0a09340bdec3bb0d5aa6e0c38202088fca62308012", func := "loop.example/cavesurvey/laws.FnExactRouteTime", spec := "fnExactRouteTime", apart := false }
def FnExactRouteTimeSaid : Prop := fnExactRouteTimeRow.holds Try.pinned (OpenSpec.ofChange fnExactRouteTimeSpec)

/-- ITS FALSE NEIGHBOUR: 'it returns false'. Refute it at one input. -/
def fnExactRouteTimeWrong : ChangeSpec := { name := "fnExactRouteTime", fn := fun _ => fun
  | [d1, d2, d3] => { results := [.lit (.bool false)], args := [d1, d2, d3] }
  | _ => none }
def FnExactRouteTimeWrongFalsely : Prop := fnExactRouteTimeRow.holds Try.pinned (OpenSpec.ofChange fnExactRouteTimeWrong)

/-- 'laws.FnExactRescueTime': WHATEVER THE INPUT: true; the input reads as it did. -/
def fnExactRescueTimeSpec : ChangeSpec := { name := "fnExactRescueTime", fn := fun _ => fun
  | [d1, d2, d3, d4] => { results := [.lit (.bool true)], args := [d1, d2, d3, d4] }
  | _ => none }
def fnExactRescueTimeRow : OpenClaim := { program := "ytlhcjbgcgbeocaa", sum := "f8208a5b9ff24f278f279d0a09340bdec3bb0d5aa6e0c38202088fca62308012", func := "loop.example/cavesurvey/laws.FnExactRescueTime", spec := "fnExactRescueTime", apart := false }
def FnExactRescueTimeSaid : Prop := fnExactRescueTimeRow.holds Try.pinned (OpenSpec.ofChange fnExactRescueTimeSpec)

/-- ITS FALSE NEIGHBOUR: 'it returns false'. Refute it at one input. -/
def fnExactRescueTimeWrong : ChangeSpec := { name := "fnExactRescueTime", fn := fun _ => fun
  | [d1, d2, d3, d4] => { results := [.lit (.bool false)], args := [d1, d2, d3, d4] }
  | _ => none }
def FnExactRescueTimeWrongFalsely : Prop := fnExactRescueTimeRow.holds Try.pinned (OpenSpec.ofChange fnExactRescueTimeWrong)

/-- 'laws.FnExactExitNear': WHATEVER THE INPUT: true; the input reads as it did. -/
def fnExactExitNearSpec : ChangeSpec := { name := "fnExactExitNear", fn := fun _ => fun
  | [d1, d2, d3] => { results := [.lit (.bool true)], args := [d1, d2, d3] }
  | _ => none }
def fnExactExitNearRow : OpenClaim := { program := "ytlhcjbgcgbeocaa", sum := "f8208a5b9ff24f278f279d0a09340bdec3bb0d5aa6e0c38202088fca62308012", func := "loop.example/cavesurvey/laws.FnExactExitNear", spec := "fnExactExitNear", apart := false }
def FnExactExitNearSaid : Prop := fnExactExitNearRow.holds Try.pinned (OpenSpec.ofChange fnExactExitNearSpec)

/-- ITS FALSE NEIGHBOUR: 'it returns false'. Refute it at one input. -/
def fnExactExitNearWrong : ChangeSpec := { name := "fnExactExitNear", fn := fun _ => fun
  | [d1, d2, d3] => { results := [.lit (.bool false)], args := [d1, d2, d3] }
  | _ => none }
def FnExactExitNearWrongFalsely : Prop := fnExactExitNearRow.holds Try.pinned (OpenSpec.ofChange fnExactExitNearWrong)

/-- 'laws.FnExactRescueAir': WHATEVER THE INPUT: true; the input reads as it did. -/
def fnExactRescueAirSpec : ChangeSpec := { name := "fnExactRescueAir", fn := fun _ => fun
  | [d1, d2, d3] => { results := [.lit (.bool true)], args := [d1, d2, d3] }
  | _ => none }
def fnExactRescueAirRow : OpenClaim := { program := "ytlhcjbgcgbeocaa", sum := "f8208a5b9ff24f278f279d0a09340bdec3bb0d5aa6e0c38202088fca62308012", func := "loop.example/cavesurvey/laws.FnExactRescueAir", spec := "fnExactRescueAir", apart := false }
def FnExactRescueAirSaid : Prop := fnExactRescueAirRow.holds Try.pinned (OpenSpec.ofChange fnExactRescueAirSpec)

/-- ITS FALSE NEIGHBOUR: 'it returns false'. Refute it at one input. -/
def fnExactRescueAirWrong : ChangeSpec := { name := "fnExactRescueAir", fn := fun _ => fun
  | [d1, d2, d3] => { results := [.lit (.bool false)], args := [d1, d2, d3] }
  | _ => none }
def FnExactRescueAirWrongFalsely : Prop := fnExactRescueAirRow.holds Try.pinned (OpenSpec.ofChange fnExactRescueAirWrong)

/-- 'laws.FnExactLastOut': WHATEVER THE INPUT: true; the input reads as it did. -/
def fnExactLastOutSpec : ChangeSpec := { name := "fnExactLastOut", fn := fun _ => fun
  | [d1, d2] => { results := [.lit (.bool true)], args := [d1, d2] }
  | _ => none }
def fnExactLastOutRow : OpenClaim := { program := "ytlhcjbgcgbeocaa", sum := "f8208a5b9ff24f278f279d0a09340bdec3bb0d5aa6e0c38202088fca62308012", func := "loop.example/cavesurvey/laws.FnExactLastOut", spec := "fnExactLastOut", apart := false }
def FnExactLastOutSaid : Prop := fnExactLastOutRow.holds Try.pinned (OpenSpec.ofChange fnExactLastOutSpec)

/-- ITS FALSE NEIGHBOUR: 'it returns false'. Refute it at one input. -/
def fnExactLastOutWrong : ChangeSpec := { name := "fnExactLastOut", fn := fun _ => fun
  | [d1, d2] => { results := [.lit (.bool false)], args := [d1, d2] }
  | _ => none }
def FnExactLastOutWrongFalsely : Prop := fnExactLastOutRow.holds Try.pinned (OpenSpec.ofChange fnExactLastOutWrong)

/-- 'laws.FnExactRescueStates': WHATEVER THE INPUT: true; the input reads as it did. -/
def fnExactRescueStatesSpec : ChangeSpec := { name := "fnExactRescueStates", fn := fun _ => fun
  | [d1, d2, d3, d4] => { results := [.lit (.bool true)], args := [d1, d2, d3, d4] }
  | _ => none }
def fnExactRescueStatesRow : OpenClaim := { program := "ytlhcjbgcgbeocaa", sum := "f8208a5b9ff24f278f279d0a09340bdec3bb0d5aa6e0c38202088fca62308012", func := "loop.example/cavesurvey/laws.FnExactRescueStates", spec := "fnExactRescueStates", apart := false }
def FnExactRescueStatesSaid : Prop := fnExactRescueStatesRow.holds Try.pinned (OpenSpec.ofChange fnExactRescueStatesSpec)

/-- ITS FALSE NEIGHBOUR: 'it returns false'. Refute it at one input. -/
def fnExactRescueStatesWrong : ChangeSpec := { name := "fnExactRescueStates", fn := fun _ => fun
  | [d1, d2, d3, d4] => { results := [.lit (.bool false)], args := [d1, d2, d3, d4] }
  | _ => none }
def FnExactRescueStatesWrongFalsely : Prop := fnExactRescueStatesRow.holds Try.pinned (OpenSpec.ofChange fnExactRescueStatesWrong)

/-- 'laws.FnExactExitsBest': WHATEVER THE INPUT: true; the input reads as it did. -/
def fnExactExitsBestSpec : ChangeSpec := { name := "fnExactExitsBest", fn := fun _ => fun
  | [d] => { results := [.lit (.bool true)], args := [d] }
  | _ => none }
def fnExactExitsBestRow : OpenClaim := { program := "ytlhcjbgcgbeocaa", sum := "f8208a5b9ff24f278f279d0a09340bdec3bb0d5aa6e0c38202088fca62308012", func := "loop.example/cavesurvey/laws.FnExactExitsBest", spec := "fnExactExitsBest", apart := false }
def FnExactExitsBestSaid : Prop := fnExactExitsBestRow.holds Try.pinned (OpenSpec.ofChange fnExactExitsBestSpec)

/-- ITS FALSE NEIGHBOUR: 'it returns false'. Refute it at one input. -/
def fnExactExitsBestWrong : ChangeSpec := { name := "fnExactExitsBest", fn := fun _ => fun
  | [d] => { results := [.lit (.bool false)], args := [d] }
  | _ => none }
def FnExactExitsBestWrongFalsely : Prop := fnExactExitsBestRow.holds Try.pinned (OpenSpec.ofChange fnExactExitsBestWrong)

/-- 'laws.FnExactDepotBest': WHATEVER THE INPUT: true; the input reads as it did. -/
def fnExactDepotBestSpec : ChangeSpec := { name := "fnExactDepotBest", fn := fun _ => fun
  | [d1, d2, d3, d4] => { results := [.lit (.bool true)], args := [d1, d2, d3, d4] }
  | _ => none }
def fnExactDepotBestRow : OpenClaim := { program := "ytlhcjbgcgbeocaa", sum := "f8208a5b9ff24f278f279d0a09340bdec3bb0d5aa6e0c38202088fca62308012", func := "loop.example/cavesurvey/laws.FnExactDepotBest", spec := "fnExactDepotBest", apart := false }
def FnExactDepotBestSaid : Prop := fnExactDepotBestRow.holds Try.pinned (OpenSpec.ofChange fnExactDepotBestSpec)

/-- ITS FALSE NEIGHBOUR: 'it returns false'. Refute it at one input. -/
def fnExactDepotBestWrong : ChangeSpec := { name := "fnExactDepotBest", fn := fun _ => fun
  | [d1, d2, d3, d4] => { results := [.lit (.bool false)], args := [d1, d2, d3, d4] }
  | _ => none }
def FnExactDepotBestWrongFalsely : Prop := fnExactDepotBestRow.holds Try.pinned (OpenSpec.ofChange fnExactDepotBestWrong)

/- THE SECOND FORM. 'bulk': how many values and letters a reading holds, each counted each time it is reached (what is shared counts as often as it is met; a slice's spare places count too). A statement '..UptoSaid' is the law's where the arguments, and the package variables that the reading takes, are together of bulk at most 1048576: NARROWER than '..Said'. Prove '..Said' where nothing that the law and all that it calls make is longer than what came in: it says more and counts as full. Else prove '..UptoSaid'. A law counts once. -/
mutual
def uptoBulk {H : Type} : DataW H → Nat
  | .lit (.string bytes) => bytes.length + 1
  | .lit _ => 1
  | .nil => 1
  | .ptr d => uptoBulk d + 1
  | .slice elems spare => uptoBulkAll elems + uptoBulkAll spare + 1
  | .agg parts => uptoBulkAll parts + 1
  | .iface _ d => uptoBulk d + 1
  | .map entries => uptoBulkEntries entries + 1
  | .held _ => 1
def uptoBulkAll {H : Type} : List (DataW H) → Nat
  | [] => 0
  | d :: r => uptoBulk d + uptoBulkAll r
def uptoBulkEntries {H : Type} : List (Lit × DataW H) → Nat
  | [] => 0
  | x :: r => uptoBulkEntry x + uptoBulkEntries r
def uptoBulkEntry {H : Type} : Lit × DataW H → Nat
  | (.string bytes, d) => bytes.length + uptoBulk d + 1
  | (_, d) => uptoBulk d + 1
 end
def uptoSmall : (H : Type) → List (DataW H) → Bool := fun _ ds => decide (uptoBulkAll ds ≤ 1048576)
def OpenSpec.upto (s : _root_.Go.ChangeSpec) : _root_.Go.OpenSpec := { _root_.Go.OpenSpec.ofChange s with cond := some uptoSmall }

/-- 'laws.FnExactSearchValid', WHERE WHAT IT READS IS OF BULK AT MOST 1048576: true; the input reads as it did. -/
def fnExactSearchValidUptoRow : OpenClaim := { program := "ytlhcjbgcgbeocaa", sum := "f8208a5b9ff24f278f279d0a09340bdec3bb0d5aa6e0c38202088fca62308012", func := "loop.example/cavesurvey/laws.FnExactSearchValid", spec := "fnExactSearchValid", apart := false, narrowed := true }
def FnExactSearchValidUptoSaid : Prop := fnExactSearchValidUptoRow.holds Try.pinned (OpenSpec.upto fnExactSearchValidSpec)

/-- 'laws.FnExactWalkTime', WHERE WHAT IT READS IS OF BULK AT MOST 1048576: true; the input reads as it did. -/
def fnExactWalkTimeUptoRow : OpenClaim := { program := "ytlhcjbgcgbeocaa", sum := "f8208a5b9ff24f278f279d0a09340bdec3bb0d5aa6e0c38202088fca62308012", func := "loop.example/cavesurvey/laws.FnExactWalkTime", spec := "fnExactWalkTime", apart := false, narrowed := true }
def FnExactWalkTimeUptoSaid : Prop := fnExactWalkTimeUptoRow.holds Try.pinned (OpenSpec.upto fnExactWalkTimeSpec)

/-- 'laws.FnExactRouteTime', WHERE WHAT IT READS IS OF BULK AT MOST 1048576: true; the input reads as it did. -/
def fnExactRouteTimeUptoRow : OpenClaim := { program := "ytlhcjbgcgbeocaa", sum := "f8208a5b9ff24f278f279d0a09340bdec3bb0d5aa6e0c38202088fca62308012", func := "loop.example/cavesurvey/laws.FnExactRouteTime", spec := "fnExactRouteTime", apart := false, narrowed := true }
def FnExactRouteTimeUptoSaid : Prop := fnExactRouteTimeUptoRow.holds Try.pinned (OpenSpec.upto fnExactRouteTimeSpec)

/-- 'laws.FnExactRescueTime', WHERE WHAT IT READS IS OF BULK AT MOST 1048576: true; the input reads as it did. -/
def fnExactRescueTimeUptoRow : OpenClaim := { program := "ytlhcjbgcgbeocaa", sum := "f8208a5b9ff24f278f279d0a09340bdec3bb0d5aa6e0c38202088fca62308012", func := "loop.example/cavesurvey/laws.FnExactRescueTime", spec := "fnExactRescueTime", apart := false, narrowed := true }
def FnExactRescueTimeUptoSaid : Prop := fnExactRescueTimeUptoRow.holds Try.pinned (OpenSpec.upto fnExactRescueTimeSpec)

/-- 'laws.FnExactExitNear', WHERE WHAT IT READS IS OF BULK AT MOST 1048576: true; the input reads as it did. -/
def fnExactExitNearUptoRow : OpenClaim := { program := "ytlhcjbgcgbeocaa", sum := "f8208a5b9ff24f278f279d0a09340bdec3bb0d5aa6e0c38202088fca62308012", func := "loop.example/cavesurvey/laws.FnExactExitNear", spec := "fnExactExitNear", apart := false, narrowed := true }
def FnExactExitNearUptoSaid : Prop := fnExactExitNearUptoRow.holds Try.pinned (OpenSpec.upto fnExactExitNearSpec)

/-- 'laws.FnExactRescueAir', WHERE WHAT IT READS IS OF BULK AT MOST 1048576: true; the input reads as it did. -/
def fnExactRescueAirUptoRow : OpenClaim := { program := "ytlhcjbgcgbeocaa", sum := "f8208a5b9ff24f278f279d0a09340bdec3bb0d5aa6e0c38202088fca62308012", func := "loop.example/cavesurvey/laws.FnExactRescueAir", spec := "fnExactRescueAir", apart := false, narrowed := true }
def FnExactRescueAirUptoSaid : Prop := fnExactRescueAirUptoRow.holds Try.pinned (OpenSpec.upto fnExactRescueAirSpec)

/-- 'laws.FnExactLastOut', WHERE WHAT IT READS IS OF BULK AT MOST 1048576: true; the input reads as it did. -/
def fnExactLastOutUptoRow : OpenClaim := { program := "ytlhcjbgcgbeocaa", sum := "f8208a5b9ff24f278f279d0a09340bdec3bb0d5aa6e0c38202088fca62308012", func := "loop.example/cavesurvey/laws.FnExactLastOut", spec := "fnExactLastOut", apart := false, narrowed := true }
def FnExactLastOutUptoSaid : Prop := fnExactLastOutUptoRow.holds Try.pinned (OpenSpec.upto fnExactLastOutSpec)

/-- 'laws.FnExactRescueStates', WHERE WHAT IT READS IS OF BULK AT MOST 1048576: true; the input reads as it did. -/
def fnExactRescueStatesUptoRow : OpenClaim := { program := "ytlhcjbgcgbeocaa", sum := "f8208a5b9ff24f278f279d0a09340bdec3bb0d5aa6e0c38202088fca62308012", func := "loop.example/cavesurvey/laws.FnExactRescueStates", spec := "fnExactRescueStates", apart := false, narrowed := true }
def FnExactRescueStatesUptoSaid : Prop := fnExactRescueStatesUptoRow.holds Try.pinned (OpenSpec.upto fnExactRescueStatesSpec)

/-- 'laws.FnExactExitsBest', WHERE WHAT IT READS IS OF BULK AT MOST 1048576: true; the input reads as it did. -/
def fnExactExitsBestUptoRow : OpenClaim := { program := "ytlhcjbgcgbeocaa", sum := "f8208a5b9ff24f278f279d0a09340bdec3bb0d5aa6e0c38202088fca62308012", func := "loop.example/cavesurvey/laws.FnExactExitsBest", spec := "fnExactExitsBest", apart := false, narrowed := true }
def FnExactExitsBestUptoSaid : Prop := fnExactExitsBestUptoRow.holds Try.pinned (OpenSpec.upto fnExactExitsBestSpec)

/-- 'laws.FnExactDepotBest', WHERE WHAT IT READS IS OF BULK AT MOST 1048576: true; the input reads as it did. -/
def fnExactDepotBestUptoRow : OpenClaim := { program := "ytlhcjbgcgbeocaa", sum := "f8208a5b9ff24f278f279d0a09340bdec3bb0d5aa6e0c38202088fca62308012", func := "loop.example/cavesurvey/laws.FnExactDepotBest", spec := "fnExactDepotBest", apart := false, narrowed := true }
def FnExactDepotBestUptoSaid : Prop := fnExactDepotBestUptoRow.holds Try.pinned (OpenSpec.upto fnExactDepotBestSpec)

end Rows
end Go.Proofs.Ytlhcjbgcgbeocaa
