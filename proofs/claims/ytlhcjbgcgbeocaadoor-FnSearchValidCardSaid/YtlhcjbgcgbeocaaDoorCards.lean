/-
  DERIVED. GIVEN WITH THE SEED: THE CARDS: each row of YtlhcjbgcgbeocaaDoorRows.lean that lists a variable, with what it lists TIED to the program's text (the seventh form; the later family's looks); each row that meets fmt, with fmt's text TOLD by the authors' own Lean function (tested against real Go, not proved from fmt's source: count such statements apart). THE CARD IS WHAT COUNTS. Prove the row's statement (the work); the ties are given (YtlhcjbgcgbeocaaDoorTie.lean); close each card by the builder's one call (the guide's Derived/Test/ToyasCard.lean, 'card_holds'). Laid BY PROGRAM, IN A SANDBOX (cutbox-door.mjs). By AI agents, Wed Nov 11 2026. No macro, syntax, notation, axiom, sorry.
-/
import Derived.Test.YtlhcjbgcgbeocaaDoorRows
import GoSem.ClaimSeven
namespace Go.Proofs.YtlhcjbgcgbeocaaDoor
namespace Rows

/-- THE TIED CARD OF 'laws.FnSearchValid'. -/
def fnSearchValidCard : Claim7 := { stood := { row := fnSearchValidRow, standIns := [], harness := (true, "9a40d749f94adb9d5418125119b5fe0381ba681992067a3458f9e82ceadcb754"), looks := false }, kinds := [], alts := [], laidByText := true, laidKinds := [.data, .data, .data], laidTests := true, laidLooks := .later }
def FnSearchValidCardSaid : Prop := Claim7.holds Tryd.pinned (.plain (OpenSpec.ofChange fnSearchValidSpec)) fnSearchValidCard

/-- THE TIED CARD OF 'laws.FnWalkTime'. -/
def fnWalkTimeCard : Claim7 := { stood := { row := fnWalkTimeRow, standIns := [], harness := (true, "9a40d749f94adb9d5418125119b5fe0381ba681992067a3458f9e82ceadcb754"), looks := false }, kinds := [], alts := [], laidByText := true, laidKinds := [.data, .data, .data], laidTests := true, laidLooks := .later }
def FnWalkTimeCardSaid : Prop := Claim7.holds Tryd.pinned (.plain (OpenSpec.ofChange fnWalkTimeSpec)) fnWalkTimeCard

/-- THE TIED CARD OF 'laws.FnExitNear'. -/
def fnExitNearCard : Claim7 := { stood := { row := fnExitNearRow, standIns := [], harness := (true, "9a40d749f94adb9d5418125119b5fe0381ba681992067a3458f9e82ceadcb754"), looks := false }, kinds := [], alts := [], laidByText := true, laidKinds := [.data, .data, .data], laidTests := true, laidLooks := .later }
def FnExitNearCardSaid : Prop := Claim7.holds Tryd.pinned (.plain (OpenSpec.ofChange fnExitNearSpec)) fnExitNearCard

/-- THE TIED CARD OF 'laws.FnLastOut'. -/
def fnLastOutCard : Claim7 := { stood := { row := fnLastOutRow, standIns := [], harness := (true, "9a40d749f94adb9d5418125119b5fe0381ba681992067a3458f9e82ceadcb754"), looks := false }, kinds := [], alts := [], laidByText := true, laidKinds := [.data, .data, .data], laidTests := true, laidLooks := .later }
def FnLastOutCardSaid : Prop := Claim7.holds Tryd.pinned (.plain (OpenSpec.ofChange fnLastOutSpec)) fnLastOutCard

/-- THE TIED CARD OF 'laws.FnRescueTime'. -/
def fnRescueTimeCard : Claim7 := { stood := { row := fnRescueTimeRow, standIns := [], harness := (true, "9a40d749f94adb9d5418125119b5fe0381ba681992067a3458f9e82ceadcb754"), looks := false }, kinds := [], alts := [], laidByText := true, laidKinds := [.data, .data, .data], laidTests := true, laidLooks := .later }
def FnRescueTimeCardSaid : Prop := Claim7.holds Tryd.pinned (.plain (OpenSpec.ofChange fnRescueTimeSpec)) fnRescueTimeCard

/-- THE TIED CARD OF 'laws.FnRescueAir'. -/
def fnRescueAirCard : Claim7 := { stood := { row := fnRescueAirRow, standIns := [], harness := (true, "9a40d749f94adb9d5418125119b5fe0381ba681992067a3458f9e82ceadcb754"), looks := false }, kinds := [], alts := [], laidByText := true, laidKinds := [.data, .data, .data], laidTests := true, laidLooks := .later }
def FnRescueAirCardSaid : Prop := Claim7.holds Tryd.pinned (.plain (OpenSpec.ofChange fnRescueAirSpec)) fnRescueAirCard

/-- THE TIED CARD OF 'laws.FnRouteTime'. -/
def fnRouteTimeCard : Claim7 := { stood := { row := fnRouteTimeRow, standIns := [], harness := (true, "9a40d749f94adb9d5418125119b5fe0381ba681992067a3458f9e82ceadcb754"), looks := false }, kinds := [], alts := [], laidByText := true, laidKinds := [.data, .data, .data], laidTests := true, laidLooks := .later }
def FnRouteTimeCardSaid : Prop := Claim7.holds Tryd.pinned (.plain (OpenSpec.ofChange fnRouteTimeSpec)) fnRouteTimeCard

/-- THE TIED CARD OF 'laws.FnExitsBest'. -/
def fnExitsBestCard : Claim7 := { stood := { row := fnExitsBestRow, standIns := [], harness := (true, "9a40d749f94adb9d5418125119b5fe0381ba681992067a3458f9e82ceadcb754"), looks := false }, kinds := [], alts := [], laidByText := true, laidKinds := [.data, .data, .data], laidTests := true, laidLooks := .later }
def FnExitsBestCardSaid : Prop := Claim7.holds Tryd.pinned (.plain (OpenSpec.ofChange fnExitsBestSpec)) fnExitsBestCard

/-- THE TIED CARD OF 'laws.FnDepotBest'. -/
def fnDepotBestCard : Claim7 := { stood := { row := fnDepotBestRow, standIns := [], harness := (true, "9a40d749f94adb9d5418125119b5fe0381ba681992067a3458f9e82ceadcb754"), looks := false }, kinds := [], alts := [], laidByText := true, laidKinds := [.data, .data, .data], laidTests := true, laidLooks := .later }
def FnDepotBestCardSaid : Prop := Claim7.holds Tryd.pinned (.plain (OpenSpec.ofChange fnDepotBestSpec)) fnDepotBestCard

/-- THE TIED CARD OF 'laws.FnRescueStates'. -/
def fnRescueStatesCard : Claim7 := { stood := { row := fnRescueStatesRow, standIns := [], harness := (true, "9a40d749f94adb9d5418125119b5fe0381ba681992067a3458f9e82ceadcb754"), looks := false }, kinds := [], alts := [], laidByText := true, laidKinds := [.data, .data, .data], laidTests := true, laidLooks := .later }
def FnRescueStatesCardSaid : Prop := Claim7.holds Tryd.pinned (.plain (OpenSpec.ofChange fnRescueStatesSpec)) fnRescueStatesCard

/-- THE SECOND FORM's CARD OF 'laws.FnSearchValid'. -/
def fnSearchValidUptoCard : Claim7 := { stood := { row := fnSearchValidUptoRow, standIns := [], harness := (true, "9a40d749f94adb9d5418125119b5fe0381ba681992067a3458f9e82ceadcb754"), looks := false }, kinds := [], alts := [], laidByText := true, laidKinds := [.data, .data, .data], laidTests := true, laidLooks := .later }
def FnSearchValidUptoCardSaid : Prop := Claim7.holds Tryd.pinned (.plain (OpenSpec.upto fnSearchValidSpec)) fnSearchValidUptoCard

/-- THE SECOND FORM's CARD OF 'laws.FnWalkTime'. -/
def fnWalkTimeUptoCard : Claim7 := { stood := { row := fnWalkTimeUptoRow, standIns := [], harness := (true, "9a40d749f94adb9d5418125119b5fe0381ba681992067a3458f9e82ceadcb754"), looks := false }, kinds := [], alts := [], laidByText := true, laidKinds := [.data, .data, .data], laidTests := true, laidLooks := .later }
def FnWalkTimeUptoCardSaid : Prop := Claim7.holds Tryd.pinned (.plain (OpenSpec.upto fnWalkTimeSpec)) fnWalkTimeUptoCard

/-- THE SECOND FORM's CARD OF 'laws.FnExitNear'. -/
def fnExitNearUptoCard : Claim7 := { stood := { row := fnExitNearUptoRow, standIns := [], harness := (true, "9a40d749f94adb9d5418125119b5fe0381ba681992067a3458f9e82ceadcb754"), looks := false }, kinds := [], alts := [], laidByText := true, laidKinds := [.data, .data, .data], laidTests := true, laidLooks := .later }
def FnExitNearUptoCardSaid : Prop := Claim7.holds Tryd.pinned (.plain (OpenSpec.upto fnExitNearSpec)) fnExitNearUptoCard

/-- THE SECOND FORM's CARD OF 'laws.FnLastOut'. -/
def fnLastOutUptoCard : Claim7 := { stood := { row := fnLastOutUptoRow, standIns := [], harness := (true, "9a40d749f94adb9d5418125119b5fe0381ba681992067a3458f9e82ceadcb754"), looks := false }, kinds := [], alts := [], laidByText := true, laidKinds := [.data, .data, .data], laidTests := true, laidLooks := .later }
def FnLastOutUptoCardSaid : Prop := Claim7.holds Tryd.pinned (.plain (OpenSpec.upto fnLastOutSpec)) fnLastOutUptoCard

/-- THE SECOND FORM's CARD OF 'laws.FnRescueTime'. -/
def fnRescueTimeUptoCard : Claim7 := { stood := { row := fnRescueTimeUptoRow, standIns := [], harness := (true, "9a40d749f94adb9d5418125119b5fe0381ba681992067a3458f9e82ceadcb754"), looks := false }, kinds := [], alts := [], laidByText := true, laidKinds := [.data, .data, .data], laidTests := true, laidLooks := .later }
def FnRescueTimeUptoCardSaid : Prop := Claim7.holds Tryd.pinned (.plain (OpenSpec.upto fnRescueTimeSpec)) fnRescueTimeUptoCard

/-- THE SECOND FORM's CARD OF 'laws.FnRescueAir'. -/
def fnRescueAirUptoCard : Claim7 := { stood := { row := fnRescueAirUptoRow, standIns := [], harness := (true, "9a40d749f94adb9d5418125119b5fe0381ba681992067a3458f9e82ceadcb754"), looks := false }, kinds := [], alts := [], laidByText := true, laidKinds := [.data, .data, .data], laidTests := true, laidLooks := .later }
def FnRescueAirUptoCardSaid : Prop := Claim7.holds Tryd.pinned (.plain (OpenSpec.upto fnRescueAirSpec)) fnRescueAirUptoCard

/-- THE SECOND FORM's CARD OF 'laws.FnRouteTime'. -/
def fnRouteTimeUptoCard : Claim7 := { stood := { row := fnRouteTimeUptoRow, standIns := [], harness := (true, "9a40d749f94adb9d5418125119b5fe0381ba681992067a3458f9e82ceadcb754"), looks := false }, kinds := [], alts := [], laidByText := true, laidKinds := [.data, .data, .data], laidTests := true, laidLooks := .later }
def FnRouteTimeUptoCardSaid : Prop := Claim7.holds Tryd.pinned (.plain (OpenSpec.upto fnRouteTimeSpec)) fnRouteTimeUptoCard

/-- THE SECOND FORM's CARD OF 'laws.FnExitsBest'. -/
def fnExitsBestUptoCard : Claim7 := { stood := { row := fnExitsBestUptoRow, standIns := [], harness := (true, "9a40d749f94adb9d5418125119b5fe0381ba681992067a3458f9e82ceadcb754"), looks := false }, kinds := [], alts := [], laidByText := true, laidKinds := [.data, .data, .data], laidTests := true, laidLooks := .later }
def FnExitsBestUptoCardSaid : Prop := Claim7.holds Tryd.pinned (.plain (OpenSpec.upto fnExitsBestSpec)) fnExitsBestUptoCard

/-- THE SECOND FORM's CARD OF 'laws.FnDepotBest'. -/
def fnDepotBestUptoCard : Claim7 := { stood := { row := fnDepotBestUptoRow, standIns := [], harness := (true, "9a40d749f94adb9d5418125119b5fe0381ba681992067a3458f9e82ceadcb754"), looks := false }, kinds := [], alts := [], laidByText := true, laidKinds := [.data, .data, .data], laidTests := true, laidLooks := .later }
def FnDepotBestUptoCardSaid : Prop := Claim7.holds Tryd.pinned (.plain (OpenSpec.upto fnDepotBestSpec)) fnDepotBestUptoCard

/-- THE SECOND FORM's CARD OF 'laws.FnRescueStates'. -/
def fnRescueStatesUptoCard : Claim7 := { stood := { row := fnRescueStatesUptoRow, standIns := [], harness := (true, "9a40d749f94adb9d5418125119b5fe0381ba681992067a3458f9e82ceadcb754"), looks := false }, kinds := [], alts := [], laidByText := true, laidKinds := [.data, .data, .data], laidTests := true, laidLooks := .later }
def FnRescueStatesUptoCardSaid : Prop := Claim7.holds Tryd.pinned (.plain (OpenSpec.upto fnRescueStatesSpec)) fnRescueStatesUptoCard
end Rows
end Go.Proofs.YtlhcjbgcgbeocaaDoor
