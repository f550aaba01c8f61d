/-
  No cell of these rows narrows 'for every input' (looked for: loops, veiled, ifaces, maps, wideKeys, modest, calm, conditions, laid).
  DERIVED. THE GIVEN ROWS OF THIS SEAT. 11 by the template 'for every input the law returns true; each argument reads behind the call as it read before'; 0 by the template 'total and deterministic' (their statements: YtekngpinldiodaaTotals.lean).
  GIVEN WITH THE SEED: the statements are not yours to turn. If you find one false, say at which input.
  Laid BY PROGRAM, IN A SANDBOX (cutbox-rows.mjs): the forced cells as the released guide's own fill.sh prints them over the translation a3588516fbee6b41… (all of the seat's roots in one cut). By AI agents, Wed Nov 11 2026. No macro, syntax, notation, axiom, sorry.
-/
import Derived.Test.YtekngpinldiodaaChecked
import GoSem.Claim
import GoSem.ClaimJoined
import GoSem.ClaimMapViews
import Derived.JoinedTies
import Derived.KernelRfl
namespace Go.Proofs.Ytekngpinldiodaa
/- THE CELL 'sum', in the pinned program and in every row, IS THE sha256 OF THE DUMP (.gsa) THAT YtekngpinldiodaaProg.lean LOADS. Nothing in Lean hashes anything: it is a label: what it is worth is what the hold of that sum in a sandbox is worth. -/
noncomputable def Try.pinned : Pinned := { name := "ytekngpinldiodaa", sum := "a3588516fbee6b4168ad0a84e1a119319500124c7f7423fa4043f29ad9ec9ac0", checked := Try.checked }
namespace Rows
def none {H : Type} : Left H := { results := [], args := [] }

/-- 'laws.FnExactPitValid': WHATEVER THE INPUT: true; the input reads as it did. -/
def fnExactPitValidSpec : ChangeSpec := { name := "fnExactPitValid", fn := fun _ => fun
  | [d] => { results := [.lit (.bool true)], args := [d] }
  | _ => none }
def fnExactPitValidRow : OpenClaim := { program := "ytekngpinldiodaa", sum := "a3588516fbee6b4168ad0a84e1a119319500124c7f7423fa4043f29ad9ec9ac0", func := "loop.example/cavesurvey/laws.FnExactPitValid", spec := "fnExactPitValid", apart := false }
def FnExactPitValidSaid : Prop := fnExactPitValidRow.holds Try.pinned (OpenSpec.ofChange fnExactPitValidSpec)

/-- ITS FALSE NEIGHBOUR: 'it returns false'. Refute it at one input. -/
def fnExactPitValidWrong : ChangeSpec := { name := "fnExactPitValid", fn := fun _ => fun
  | [d] => { results := [.lit (.bool false)], args := [d] }
  | _ => none }
def FnExactPitValidWrongFalsely : Prop := fnExactPitValidRow.holds Try.pinned (OpenSpec.ofChange fnExactPitValidWrong)

/-- 'laws.FnExactPitWorth': WHATEVER THE INPUT: true; the input reads as it did. -/
def fnExactPitWorthSpec : ChangeSpec := { name := "fnExactPitWorth", fn := fun _ => fun
  | [d1, d2] => { results := [.lit (.bool true)], args := [d1, d2] }
  | _ => none }
def fnExactPitWorthRow : OpenClaim := { program := "ytekngpinldiodaa", sum := "a3588516fbee6b4168ad0a84e1a119319500124c7f7423fa4043f29ad9ec9ac0", func := "loop.example/cavesurvey/laws.FnExactPitWorth", spec := "fnExactPitWorth", apart := false }
def FnExactPitWorthSaid : Prop := fnExactPitWorthRow.holds Try.pinned (OpenSpec.ofChange fnExactPitWorthSpec)

/-- ITS FALSE NEIGHBOUR: 'it returns false'. Refute it at one input. -/
def fnExactPitWorthWrong : ChangeSpec := { name := "fnExactPitWorth", fn := fun _ => fun
  | [d1, d2] => { results := [.lit (.bool false)], args := [d1, d2] }
  | _ => none }
def FnExactPitWorthWrongFalsely : Prop := fnExactPitWorthRow.holds Try.pinned (OpenSpec.ofChange fnExactPitWorthWrong)

/-- 'laws.FnExactPitClose': WHATEVER THE INPUT: true; the input reads as it did. -/
def fnExactPitCloseSpec : ChangeSpec := { name := "fnExactPitClose", fn := fun _ => fun
  | [d1, d2] => { results := [.lit (.bool true)], args := [d1, d2] }
  | _ => none }
def fnExactPitCloseRow : OpenClaim := { program := "ytekngpinldiodaa", sum := "a3588516fbee6b4168ad0a84e1a119319500124c7f7423fa4043f29ad9ec9ac0", func := "loop.example/cavesurvey/laws.FnExactPitClose", spec := "fnExactPitClose", apart := false }
def FnExactPitCloseSaid : Prop := fnExactPitCloseRow.holds Try.pinned (OpenSpec.ofChange fnExactPitCloseSpec)

/-- ITS FALSE NEIGHBOUR: 'it returns false'. Refute it at one input. -/
def fnExactPitCloseWrong : ChangeSpec := { name := "fnExactPitClose", fn := fun _ => fun
  | [d1, d2] => { results := [.lit (.bool false)], args := [d1, d2] }
  | _ => none }
def FnExactPitCloseWrongFalsely : Prop := fnExactPitCloseRow.holds Try.pinned (OpenSpec.ofChange fnExactPitCloseWrong)

/-- 'laws.FnExactPitMay': WHATEVER THE INPUT: true; the input reads as it did. -/
def fnExactPitMaySpec : ChangeSpec := { name := "fnExactPitMay", fn := fun _ => fun
  | [d1, d2] => { results := [.lit (.bool true)], args := [d1, d2] }
  | _ => none }
def fnExactPitMayRow : OpenClaim := { program := "ytekngpinldiodaa", sum := "a3588516fbee6b4168ad0a84e1a119319500124c7f7423fa4043f29ad9ec9ac0", func := "loop.example/cavesurvey/laws.FnExactPitMay", spec := "fnExactPitMay", apart := false }
def FnExactPitMaySaid : Prop := fnExactPitMayRow.holds Try.pinned (OpenSpec.ofChange fnExactPitMaySpec)

/-- ITS FALSE NEIGHBOUR: 'it returns false'. Refute it at one input. -/
def fnExactPitMayWrong : ChangeSpec := { name := "fnExactPitMay", fn := fun _ => fun
  | [d1, d2] => { results := [.lit (.bool false)], args := [d1, d2] }
  | _ => none }
def FnExactPitMayWrongFalsely : Prop := fnExactPitMayRow.holds Try.pinned (OpenSpec.ofChange fnExactPitMayWrong)

/-- 'laws.FnExactPitDirect': WHATEVER THE INPUT: true; the input reads as it did. -/
def fnExactPitDirectSpec : ChangeSpec := { name := "fnExactPitDirect", fn := fun _ => fun
  | [d] => { results := [.lit (.bool true)], args := [d] }
  | _ => none }
def fnExactPitDirectRow : OpenClaim := { program := "ytekngpinldiodaa", sum := "a3588516fbee6b4168ad0a84e1a119319500124c7f7423fa4043f29ad9ec9ac0", func := "loop.example/cavesurvey/laws.FnExactPitDirect", spec := "fnExactPitDirect", apart := false }
def FnExactPitDirectSaid : Prop := fnExactPitDirectRow.holds Try.pinned (OpenSpec.ofChange fnExactPitDirectSpec)

/-- ITS FALSE NEIGHBOUR: 'it returns false'. Refute it at one input. -/
def fnExactPitDirectWrong : ChangeSpec := { name := "fnExactPitDirect", fn := fun _ => fun
  | [d] => { results := [.lit (.bool false)], args := [d] }
  | _ => none }
def FnExactPitDirectWrongFalsely : Prop := fnExactPitDirectRow.holds Try.pinned (OpenSpec.ofChange fnExactPitDirectWrong)

/-- 'laws.FnExactPitCut': WHATEVER THE INPUT: true; the input reads as it did. -/
def fnExactPitCutSpec : ChangeSpec := { name := "fnExactPitCut", fn := fun _ => fun
  | [d1, d2] => { results := [.lit (.bool true)], args := [d1, d2] }
  | _ => none }
def fnExactPitCutRow : OpenClaim := { program := "ytekngpinldiodaa", sum := "a3588516fbee6b4168ad0a84e1a119319500124c7f7423fa4043f29ad9ec9ac0", func := "loop.example/cavesurvey/laws.FnExactPitCut", spec := "fnExactPitCut", apart := false }
def FnExactPitCutSaid : Prop := fnExactPitCutRow.holds Try.pinned (OpenSpec.ofChange fnExactPitCutSpec)

/-- ITS FALSE NEIGHBOUR: 'it returns false'. Refute it at one input. -/
def fnExactPitCutWrong : ChangeSpec := { name := "fnExactPitCut", fn := fun _ => fun
  | [d1, d2] => { results := [.lit (.bool false)], args := [d1, d2] }
  | _ => none }
def FnExactPitCutWrongFalsely : Prop := fnExactPitCutRow.holds Try.pinned (OpenSpec.ofChange fnExactPitCutWrong)

/-- 'laws.FnExactPitRaise': WHATEVER THE INPUT: true; the input reads as it did. -/
def fnExactPitRaiseSpec : ChangeSpec := { name := "fnExactPitRaise", fn := fun _ => fun
  | [d1, d2] => { results := [.lit (.bool true)], args := [d1, d2] }
  | _ => none }
def fnExactPitRaiseRow : OpenClaim := { program := "ytekngpinldiodaa", sum := "a3588516fbee6b4168ad0a84e1a119319500124c7f7423fa4043f29ad9ec9ac0", func := "loop.example/cavesurvey/laws.FnExactPitRaise", spec := "fnExactPitRaise", apart := false }
def FnExactPitRaiseSaid : Prop := fnExactPitRaiseRow.holds Try.pinned (OpenSpec.ofChange fnExactPitRaiseSpec)

/-- ITS FALSE NEIGHBOUR: 'it returns false'. Refute it at one input. -/
def fnExactPitRaiseWrong : ChangeSpec := { name := "fnExactPitRaise", fn := fun _ => fun
  | [d1, d2] => { results := [.lit (.bool false)], args := [d1, d2] }
  | _ => none }
def FnExactPitRaiseWrongFalsely : Prop := fnExactPitRaiseRow.holds Try.pinned (OpenSpec.ofChange fnExactPitRaiseWrong)

/-- 'laws.FnExactPitOrder': WHATEVER THE INPUT: true; the input reads as it did. -/
def fnExactPitOrderSpec : ChangeSpec := { name := "fnExactPitOrder", fn := fun _ => fun
  | [d1, d2] => { results := [.lit (.bool true)], args := [d1, d2] }
  | _ => none }
def fnExactPitOrderRow : OpenClaim := { program := "ytekngpinldiodaa", sum := "a3588516fbee6b4168ad0a84e1a119319500124c7f7423fa4043f29ad9ec9ac0", func := "loop.example/cavesurvey/laws.FnExactPitOrder", spec := "fnExactPitOrder", apart := false }
def FnExactPitOrderSaid : Prop := fnExactPitOrderRow.holds Try.pinned (OpenSpec.ofChange fnExactPitOrderSpec)

/-- ITS FALSE NEIGHBOUR: 'it returns false'. Refute it at one input. -/
def fnExactPitOrderWrong : ChangeSpec := { name := "fnExactPitOrder", fn := fun _ => fun
  | [d1, d2] => { results := [.lit (.bool false)], args := [d1, d2] }
  | _ => none }
def FnExactPitOrderWrongFalsely : Prop := fnExactPitOrderRow.holds Try.pinned (OpenSpec.ofChange fnExactPitOrderWrong)

/-- 'laws.FnExactPitFull': WHATEVER THE INPUT: true; the input reads as it did. -/
def fnExactPitFullSpec : ChangeSpec := { name := "fnExactPitFull", fn := fun _ => fun
  | [d] => { results := [.lit (.bool true)], args := [d] }
  | _ => none }
def fnExactPitFullRow : OpenClaim := { program := "ytekngpinldiodaa", sum := "a3588516fbee6b4168ad0a84e1a119319500124c7f7423fa4043f29ad9ec9ac0", func := "loop.example/cavesurvey/laws.FnExactPitFull", spec := "fnExactPitFull", apart := false }
def FnExactPitFullSaid : Prop := fnExactPitFullRow.holds Try.pinned (OpenSpec.ofChange fnExactPitFullSpec)

/-- ITS FALSE NEIGHBOUR: 'it returns false'. Refute it at one input. -/
def fnExactPitFullWrong : ChangeSpec := { name := "fnExactPitFull", fn := fun _ => fun
  | [d] => { results := [.lit (.bool false)], args := [d] }
  | _ => none }
def FnExactPitFullWrongFalsely : Prop := fnExactPitFullRow.holds Try.pinned (OpenSpec.ofChange fnExactPitFullWrong)

/-- 'laws.FnExactPitBest': WHATEVER THE INPUT: true; the input reads as it did. -/
def fnExactPitBestSpec : ChangeSpec := { name := "fnExactPitBest", fn := fun _ => fun
  | [d] => { results := [.lit (.bool true)], args := [d] }
  | _ => none }
def fnExactPitBestRow : OpenClaim := { program := "ytekngpinldiodaa", sum := "a3588516fbee6b4168ad0a84e1a119319500124c7f7423fa4043f29ad9ec9ac0", func := "loop.example/cavesurvey/laws.FnExactPitBest", spec := "fnExactPitBest", apart := false }
def FnExactPitBestSaid : Prop := fnExactPitBestRow.holds Try.pinned (OpenSpec.ofChange fnExactPitBestSpec)

/-- ITS FALSE NEIGHBOUR: 'it returns false'. Refute it at one input. -/
def fnExactPitBestWrong : ChangeSpec := { name := "fnExactPitBest", fn := fun _ => fun
  | [d] => { results := [.lit (.bool false)], args := [d] }
  | _ => none }
def FnExactPitBestWrongFalsely : Prop := fnExactPitBestRow.holds Try.pinned (OpenSpec.ofChange fnExactPitBestWrong)

/-- 'laws.FnExactPayOk': WHATEVER THE INPUT: true; the input reads as it did. -/
def fnExactPayOkSpec : ChangeSpec := { name := "fnExactPayOk", fn := fun _ => fun
  | [d1, d2] => { results := [.lit (.bool true)], args := [d1, d2] }
  | _ => none }
def fnExactPayOkRow : OpenClaim := { program := "ytekngpinldiodaa", sum := "a3588516fbee6b4168ad0a84e1a119319500124c7f7423fa4043f29ad9ec9ac0", func := "loop.example/cavesurvey/laws.FnExactPayOk", spec := "fnExactPayOk", apart := false }
def FnExactPayOkSaid : Prop := fnExactPayOkRow.holds Try.pinned (OpenSpec.ofChange fnExactPayOkSpec)

/-- ITS FALSE NEIGHBOUR: 'it returns false'. Refute it at one input. -/
def fnExactPayOkWrong : ChangeSpec := { name := "fnExactPayOk", fn := fun _ => fun
  | [d1, d2] => { results := [.lit (.bool false)], args := [d1, d2] }
  | _ => none }
def FnExactPayOkWrongFalsely : Prop := fnExactPayOkRow.holds Try.pinned (OpenSpec.ofChange fnExactPayOkWrong)

/- THE SECOND FORM. 'bulk': how many values and letters a reading holds, each counted each time it is reached (what is shared counts as often as it is met; a slice's spare places count too). A statement '..UptoSaid' is the law's where the arguments, and the package variables that the reading takes, are together of bulk at most 1048576: NARROWER than '..Said'. Prove '..Said' where nothing that the law and all that it calls make is longer than what came in: it says more and counts as full. Else prove '..UptoSaid'. A law counts once. -/
mutual
def uptoBulk {H : Type} : DataW H → Nat
  | .lit (.string bytes) => bytes.length + 1
  | .lit _ => 1
  | .nil => 1
  | .ptr d => uptoBulk d + 1
  | .slice elems spare => uptoBulkAll elems + uptoBulkAll spare + 1
  | .agg parts => uptoBulkAll parts + 1
  | .iface _ d => uptoBulk d + 1
  | .map entries => uptoBulkEntries entries + 1
  | .held _ => 1
def uptoBulkAll {H : Type} : List (DataW H) → Nat
  | [] => 0
  | d :: r => uptoBulk d + uptoBulkAll r
def uptoBulkEntries {H : Type} : List (Lit × DataW H) → Nat
  | [] => 0
  | x :: r => uptoBulkEntry x + uptoBulkEntries r
def uptoBulkEntry {H : Type} : Lit × DataW H → Nat
  | (.string bytes, d) => bytes.length + uptoBulk d + 1
  | (_, d) => uptoBulk d + 1
 end
def uptoSmall : (H : Type) → List (DataW H) → Bool := fun _ ds => decide (uptoBulkAll ds ≤ 1048576)
def OpenSpec.upto (s : _root_.Go.ChangeSpec) : _root_.Go.OpenSpec := { _root_.Go.OpenSpec.ofChange s with cond := some uptoSmall }

/-- 'laws.FnExactPitValid', WHERE WHAT IT READS IS OF BULK AT MOST 1048576: true; the input reads as it did. -/
def fnExactPitValidUptoRow : OpenClaim := { program := "ytekngpinldiodaa", sum := "a3588516fbee6b4168ad0a84e1a119319500124c7f7423fa4043f29ad9ec9ac0", func := "loop.example/cavesurvey/laws.FnExactPitValid", spec := "fnExactPitValid", apart := false, narrowed := true }
def FnExactPitValidUptoSaid : Prop := fnExactPitValidUptoRow.holds Try.pinned (OpenSpec.upto fnExactPitValidSpec)

/-- 'laws.FnExactPitWorth', WHERE WHAT IT READS IS OF BULK AT MOST 1048576: true; the input reads as it did. -/
def fnExactPitWorthUptoRow : OpenClaim := { program := "ytekngpinldiodaa", sum := "a3588516fbee6b4168ad0a84e1a119319500124c7f7423fa4043f29ad9ec9ac0", func := "loop.example/cavesurvey/laws.FnExactPitWorth", spec := "fnExactPitWorth", apart := false, narrowed := true }
def FnExactPitWorthUptoSaid : Prop := fnExactPitWorthUptoRow.holds Try.pinned (OpenSpec.upto fnExactPitWorthSpec)

/-- 'laws.FnExactPitClose', WHERE WHAT IT READS IS OF BULK AT MOST 1048576: true; the input reads as it did. -/
def fnExactPitCloseUptoRow : OpenClaim := { program := "ytekngpinldiodaa", sum := "a3588516fbee6b4168ad0a84e1a119319500124c7f7423fa4043f29ad9ec9ac0", func := "loop.example/cavesurvey/laws.FnExactPitClose", spec := "fnExactPitClose", apart := false, narrowed := true }
def FnExactPitCloseUptoSaid : Prop := fnExactPitCloseUptoRow.holds Try.pinned (OpenSpec.upto fnExactPitCloseSpec)

/-- 'laws.FnExactPitMay', WHERE WHAT IT READS IS OF BULK AT MOST 1048576: true; the input reads as it did. -/
def fnExactPitMayUptoRow : OpenClaim := { program := "ytekngpinldiodaa", sum := "a3588516fbee6b4168ad0a84e1a119319500124c7f7423fa4043f29ad9ec9ac0", func := "loop.example/cavesurvey/laws.FnExactPitMay", spec := "fnExactPitMay", apart := false, narrowed := true }
def FnExactPitMayUptoSaid : Prop := fnExactPitMayUptoRow.holds Try.pinned (OpenSpec.upto fnExactPitMaySpec)

/-- 'laws.FnExactPitDirect', WHERE WHAT IT READS IS OF BULK AT MOST 1048576: true; the input reads as it did. -/
def fnExactPitDirectUptoRow : OpenClaim := { program := "ytekngpinldiodaa", sum := "a3588516fbee6b4168ad0a84e1a119319500124c7f7423fa4043f29ad9ec9ac0", func := "loop.example/cavesurvey/laws.FnExactPitDirect", spec := "fnExactPitDirect", apart := false, narrowed := true }
def FnExactPitDirectUptoSaid : Prop := fnExactPitDirectUptoRow.holds Try.pinned (OpenSpec.upto fnExactPitDirectSpec)

/-- 'laws.FnExactPitCut', WHERE WHAT IT READS IS OF BULK AT MOST 1048576: true; the input reads as it did. -/
def fnExactPitCutUptoRow : OpenClaim := { program := "ytekngpinldiodaa", sum := "a3588516fbee6b4168ad0a84e1a119319500124c7f7423fa4043f29ad9ec9ac0", func := "loop.example/cavesurvey/laws.FnExactPitCut", spec := "fnExactPitCut", apart := false, narrowed := true }
def FnExactPitCutUptoSaid : Prop := fnExactPitCutUptoRow.holds Try.pinned (OpenSpec.upto fnExactPitCutSpec)

/-- 'laws.FnExactPitRaise', WHERE WHAT IT READS IS OF BULK AT MOST 1048576: true; the input reads as it did. -/
def fnExactPitRaiseUptoRow : OpenClaim := { program := "ytekngpinldiodaa", sum := "a3588516fbee6b4168ad0a84e1a119319500124c7f7423fa4043f29ad9ec9ac0", func := "loop.example/cavesurvey/laws.FnExactPitRaise", spec := "fnExactPitRaise", apart := false, narrowed := true }
def FnExactPitRaiseUptoSaid : Prop := fnExactPitRaiseUptoRow.holds Try.pinned (OpenSpec.upto fnExactPitRaiseSpec)

/-- 'laws.FnExactPitOrder', WHERE WHAT IT READS IS OF BULK AT MOST 1048576: true; the input reads as it did. -/
def fnExactPitOrderUptoRow : OpenClaim := { program := "ytekngpinldiodaa", sum := "a3588516fbee6b4168ad0a84e1a119319500124c7f7423fa4043f29ad9ec9ac0", func := "loop.example/cavesurvey/laws.FnExactPitOrder", spec := "fnExactPitOrder", apart := false, narrowed := true }
def FnExactPitOrderUptoSaid : Prop := fnExactPitOrderUptoRow.holds Try.pinned (OpenSpec.upto fnExactPitOrderSpec)

/-- 'laws.FnExactPitFull', WHERE WHAT IT READS IS OF BULK AT MOST 1048576: true; the input reads as it did. -/
def fnExactPitFullUptoRow : OpenClaim := { program := "ytekngpinldiodaa", sum := "a3588516fbee6b4168ad0a84e1a119319500124c7f7423fa4043f29ad9ec9ac0", func := "loop.example/cavesurvey/laws.FnExactPitFull", spec := "fnExactPitFull", apart := false, narrowed := true }
def FnExactPitFullUptoSaid : Prop := fnExactPitFullUptoRow.holds Try.pinned (OpenSpec.upto fnExactPitFullSpec)

/-- 'laws.FnExactPitBest', WHERE WHAT IT READS IS OF BULK AT MOST 1048576: true; the input reads as it did. -/
def fnExactPitBestUptoRow : OpenClaim := { program := "ytekngpinldiodaa", sum := "a3588516fbee6b4168ad0a84e1a119319500124c7f7423fa4043f29ad9ec9ac0", func := "loop.example/cavesurvey/laws.FnExactPitBest", spec := "fnExactPitBest", apart := false, narrowed := true }
def FnExactPitBestUptoSaid : Prop := fnExactPitBestUptoRow.holds Try.pinned (OpenSpec.upto fnExactPitBestSpec)

/-- 'laws.FnExactPayOk', WHERE WHAT IT READS IS OF BULK AT MOST 1048576: true; the input reads as it did. -/
def fnExactPayOkUptoRow : OpenClaim := { program := "ytekngpinldiodaa", sum := "a3588516fbee6b4168ad0a84e1a119319500124c7f7423fa4043f29ad9ec9ac0", func := "loop.example/cavesurvey/laws.FnExactPayOk", spec := "fnExactPayOk", apart := false, narrowed := true }
def FnExactPayOkUptoSaid : Prop := fnExactPayOkUptoRow.holds Try.pinned (OpenSpec.upto fnExactPayOkSpec)

end Rows
end Go.Proofs.Ytekngpinldiodaa
