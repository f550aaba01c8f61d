/-
  DERIVED. GIVEN WITH THE SEED: THE CARDS: each row of YtahbfifnpceoeaaDoorRows.lean that lists a variable, with what it lists TIED to the program's text (the seventh form; the later family's looks); each row that meets fmt, with fmt's text TOLD by the authors' own Lean function (tested against real Go, not proved from fmt's source: count such statements apart). THE CARD IS WHAT COUNTS. Prove the row's statement (the work); the ties are given (YtahbfifnpceoeaaDoorTie.lean); close each card by the builder's one call (the guide's Derived/Test/ToyasCard.lean, 'card_holds'). Laid BY PROGRAM, IN A SANDBOX (cutbox-door.mjs). By AI agents, Wed Nov 11 2026. No macro, syntax, notation, axiom, sorry.
-/
import Derived.Test.YtahbfifnpceoeaaDoorRows
import GoSem.ClaimSeven
namespace Go.Proofs.YtahbfifnpceoeaaDoor
namespace Rows

/-- THE TIED CARD OF 'laws.FnSillTree'. -/
def fnSillTreeCard : Claim7 := { stood := { row := fnSillTreeRow, standIns := [], harness := (true, "a5a7d22d484212bf2246ed34c495e7e4937a4be0a82855a3527b2b559f36e5e1"), looks := false }, kinds := [], alts := [], laidByText := true, laidKinds := [.data, .data, .data], laidTests := true, laidLooks := .later }
def FnSillTreeCardSaid : Prop := Claim7.holds Tryd.pinned (.plain (OpenSpec.ofChange fnSillTreeSpec)) fnSillTreeCard

/-- THE TIED CARD OF 'laws.FnSillsJoin'. -/
def fnSillsJoinCard : Claim7 := { stood := { row := fnSillsJoinRow, standIns := [], harness := (true, "a5a7d22d484212bf2246ed34c495e7e4937a4be0a82855a3527b2b559f36e5e1"), looks := false }, kinds := [], alts := [], laidByText := true, laidKinds := [.data, .data, .data], laidTests := true, laidLooks := .later }
def FnSillsJoinCardSaid : Prop := Claim7.holds Tryd.pinned (.plain (OpenSpec.ofChange fnSillsJoinSpec)) fnSillsJoinCard

/-- THE TIED CARD OF 'laws.FnTreeLevel'. -/
def fnTreeLevelCard : Claim7 := { stood := { row := fnTreeLevelRow, standIns := [], harness := (true, "a5a7d22d484212bf2246ed34c495e7e4937a4be0a82855a3527b2b559f36e5e1"), looks := false }, kinds := [], alts := [], laidByText := true, laidKinds := [.data, .data, .data], laidTests := true, laidLooks := .later }
def FnTreeLevelCardSaid : Prop := Claim7.holds Tryd.pinned (.plain (OpenSpec.ofChange fnTreeLevelSpec)) fnTreeLevelCard

/-- THE TIED CARD OF 'laws.FnCaveValid'. -/
def fnCaveValidCard : Claim7 := { stood := { row := fnCaveValidRow, standIns := [], harness := (true, "a5a7d22d484212bf2246ed34c495e7e4937a4be0a82855a3527b2b559f36e5e1"), looks := false }, kinds := [], alts := [], laidByText := true, laidKinds := [.data, .data, .data], laidTests := true, laidLooks := .later }
def FnCaveValidCardSaid : Prop := Claim7.holds Tryd.pinned (.plain (OpenSpec.ofChange fnCaveValidSpec)) fnCaveValidCard

/-- THE TIED CARD OF 'laws.FnWaterAt'. -/
def fnWaterAtCard : Claim7 := { stood := { row := fnWaterAtRow, standIns := [], harness := (true, "a5a7d22d484212bf2246ed34c495e7e4937a4be0a82855a3527b2b559f36e5e1"), looks := false }, kinds := [], alts := [], laidByText := true, laidKinds := [.data, .data, .data], laidTests := true, laidLooks := .later }
def FnWaterAtCardSaid : Prop := Claim7.holds Tryd.pinned (.plain (OpenSpec.ofChange fnWaterAtSpec)) fnWaterAtCard

/-- THE TIED CARD OF 'laws.FnSillsHigh'. -/
def fnSillsHighCard : Claim7 := { stood := { row := fnSillsHighRow, standIns := [], harness := (true, "a5a7d22d484212bf2246ed34c495e7e4937a4be0a82855a3527b2b559f36e5e1"), looks := false }, kinds := [], alts := [], laidByText := true, laidKinds := [.data, .data, .data], laidTests := true, laidLooks := .later }
def FnSillsHighCardSaid : Prop := Claim7.holds Tryd.pinned (.plain (OpenSpec.ofChange fnSillsHighSpec)) fnSillsHighCard

/-- THE TIED CARD OF 'laws.FnPoolsAt'. -/
def fnPoolsAtCard : Claim7 := { stood := { row := fnPoolsAtRow, standIns := [], harness := (true, "a5a7d22d484212bf2246ed34c495e7e4937a4be0a82855a3527b2b559f36e5e1"), looks := false }, kinds := [], alts := [], laidByText := true, laidKinds := [.data, .data, .data], laidTests := true, laidLooks := .later }
def FnPoolsAtCardSaid : Prop := Claim7.holds Tryd.pinned (.plain (OpenSpec.ofChange fnPoolsAtSpec)) fnPoolsAtCard

/-- THE TIED CARD OF 'laws.FnLevelLeft'. -/
def fnLevelLeftCard : Claim7 := { stood := { row := fnLevelLeftRow, standIns := [], harness := (true, "a5a7d22d484212bf2246ed34c495e7e4937a4be0a82855a3527b2b559f36e5e1"), looks := false }, kinds := [], alts := [], laidByText := true, laidKinds := [.data, .data, .data], laidTests := true, laidLooks := .later }
def FnLevelLeftCardSaid : Prop := Claim7.holds Tryd.pinned (.plain (OpenSpec.ofChange fnLevelLeftSpec)) fnLevelLeftCard

/-- THE TIED CARD OF 'laws.FnWaterLeft'. -/
def fnWaterLeftCard : Claim7 := { stood := { row := fnWaterLeftRow, standIns := [], harness := (true, "a5a7d22d484212bf2246ed34c495e7e4937a4be0a82855a3527b2b559f36e5e1"), looks := false }, kinds := [], alts := [], laidByText := true, laidKinds := [.data, .data, .data], laidTests := true, laidLooks := .later }
def FnWaterLeftCardSaid : Prop := Claim7.holds Tryd.pinned (.plain (OpenSpec.ofChange fnWaterLeftSpec)) fnWaterLeftCard

/-- THE TIED CARD OF 'laws.FnPumpBest'. -/
def fnPumpBestCard : Claim7 := { stood := { row := fnPumpBestRow, standIns := [], harness := (true, "a5a7d22d484212bf2246ed34c495e7e4937a4be0a82855a3527b2b559f36e5e1"), looks := false }, kinds := [], alts := [], laidByText := true, laidKinds := [.data, .data, .data], laidTests := true, laidLooks := .later }
def FnPumpBestCardSaid : Prop := Claim7.holds Tryd.pinned (.plain (OpenSpec.ofChange fnPumpBestSpec)) fnPumpBestCard

/-- THE TIED CARD OF 'laws.FnJoinLevel'. -/
def fnJoinLevelCard : Claim7 := { stood := { row := fnJoinLevelRow, standIns := [], harness := (true, "a5a7d22d484212bf2246ed34c495e7e4937a4be0a82855a3527b2b559f36e5e1"), looks := false }, kinds := [], alts := [], laidByText := true, laidKinds := [.data, .data, .data], laidTests := true, laidLooks := .later }
def FnJoinLevelCardSaid : Prop := Claim7.holds Tryd.pinned (.plain (OpenSpec.ofChange fnJoinLevelSpec)) fnJoinLevelCard

/-- THE SECOND FORM's CARD OF 'laws.FnSillTree'. -/
def fnSillTreeUptoCard : Claim7 := { stood := { row := fnSillTreeUptoRow, standIns := [], harness := (true, "a5a7d22d484212bf2246ed34c495e7e4937a4be0a82855a3527b2b559f36e5e1"), looks := false }, kinds := [], alts := [], laidByText := true, laidKinds := [.data, .data, .data], laidTests := true, laidLooks := .later }
def FnSillTreeUptoCardSaid : Prop := Claim7.holds Tryd.pinned (.plain (OpenSpec.upto fnSillTreeSpec)) fnSillTreeUptoCard

/-- THE SECOND FORM's CARD OF 'laws.FnSillsJoin'. -/
def fnSillsJoinUptoCard : Claim7 := { stood := { row := fnSillsJoinUptoRow, standIns := [], harness := (true, "a5a7d22d484212bf2246ed34c495e7e4937a4be0a82855a3527b2b559f36e5e1"), looks := false }, kinds := [], alts := [], laidByText := true, laidKinds := [.data, .data, .data], laidTests := true, laidLooks := .later }
def FnSillsJoinUptoCardSaid : Prop := Claim7.holds Tryd.pinned (.plain (OpenSpec.upto fnSillsJoinSpec)) fnSillsJoinUptoCard

/-- THE SECOND FORM's CARD OF 'laws.FnTreeLevel'. -/
def fnTreeLevelUptoCard : Claim7 := { stood := { row := fnTreeLevelUptoRow, standIns := [], harness := (true, "a5a7d22d484212bf2246ed34c495e7e4937a4be0a82855a3527b2b559f36e5e1"), looks := false }, kinds := [], alts := [], laidByText := true, laidKinds := [.data, .data, .data], laidTests := true, laidLooks := .later }
def FnTreeLevelUptoCardSaid : Prop := Claim7.holds Tryd.pinned (.plain (OpenSpec.upto fnTreeLevelSpec)) fnTreeLevelUptoCard

/-- THE SECOND FORM's CARD OF 'laws.FnCaveValid'. -/
def fnCaveValidUptoCard : Claim7 := { stood := { row := fnCaveValidUptoRow, standIns := [], harness := (true, "a5a7d22d484212bf2246ed34c495e7e4937a4be0a82855a3527b2b559f36e5e1"), looks := false }, kinds := [], alts := [], laidByText := true, laidKinds := [.data, .data, .data], laidTests := true, laidLooks := .later }
def FnCaveValidUptoCardSaid : Prop := Claim7.holds Tryd.pinned (.plain (OpenSpec.upto fnCaveValidSpec)) fnCaveValidUptoCard

/-- THE SECOND FORM's CARD OF 'laws.FnWaterAt'. -/
def fnWaterAtUptoCard : Claim7 := { stood := { row := fnWaterAtUptoRow, standIns := [], harness := (true, "a5a7d22d484212bf2246ed34c495e7e4937a4be0a82855a3527b2b559f36e5e1"), looks := false }, kinds := [], alts := [], laidByText := true, laidKinds := [.data, .data, .data], laidTests := true, laidLooks := .later }
def FnWaterAtUptoCardSaid : Prop := Claim7.holds Tryd.pinned (.plain (OpenSpec.upto fnWaterAtSpec)) fnWaterAtUptoCard

/-- THE SECOND FORM's CARD OF 'laws.FnSillsHigh'. -/
def fnSillsHighUptoCard : Claim7 := { stood := { row := fnSillsHighUptoRow, standIns := [], harness := (true, "a5a7d22d484212bf2246ed34c495e7e4937a4be0a82855a3527b2b559f36e5e1"), looks := false }, kinds := [], alts := [], laidByText := true, laidKinds := [.data, .data, .data], laidTests := true, laidLooks := .later }
def FnSillsHighUptoCardSaid : Prop := Claim7.holds Tryd.pinned (.plain (OpenSpec.upto fnSillsHighSpec)) fnSillsHighUptoCard

/-- THE SECOND FORM's CARD OF 'laws.FnPoolsAt'. -/
def fnPoolsAtUptoCard : Claim7 := { stood := { row := fnPoolsAtUptoRow, standIns := [], harness := (true, "a5a7d22d484212bf2246ed34c495e7e4937a4be0a82855a3527b2b559f36e5e1"), looks := false }, kinds := [], alts := [], laidByText := true, laidKinds := [.data, .data, .data], laidTests := true, laidLooks := .later }
def FnPoolsAtUptoCardSaid : Prop := Claim7.holds Tryd.pinned (.plain (OpenSpec.upto fnPoolsAtSpec)) fnPoolsAtUptoCard

/-- THE SECOND FORM's CARD OF 'laws.FnLevelLeft'. -/
def fnLevelLeftUptoCard : Claim7 := { stood := { row := fnLevelLeftUptoRow, standIns := [], harness := (true, "a5a7d22d484212bf2246ed34c495e7e4937a4be0a82855a3527b2b559f36e5e1"), looks := false }, kinds := [], alts := [], laidByText := true, laidKinds := [.data, .data, .data], laidTests := true, laidLooks := .later }
def FnLevelLeftUptoCardSaid : Prop := Claim7.holds Tryd.pinned (.plain (OpenSpec.upto fnLevelLeftSpec)) fnLevelLeftUptoCard

/-- THE SECOND FORM's CARD OF 'laws.FnWaterLeft'. -/
def fnWaterLeftUptoCard : Claim7 := { stood := { row := fnWaterLeftUptoRow, standIns := [], harness := (true, "a5a7d22d484212bf2246ed34c495e7e4937a4be0a82855a3527b2b559f36e5e1"), looks := false }, kinds := [], alts := [], laidByText := true, laidKinds := [.data, .data, .data], laidTests := true, laidLooks := .later }
def FnWaterLeftUptoCardSaid : Prop := Claim7.holds Tryd.pinned (.plain (OpenSpec.upto fnWaterLeftSpec)) fnWaterLeftUptoCard

/-- THE SECOND FORM's CARD OF 'laws.FnPumpBest'. -/
def fnPumpBestUptoCard : Claim7 := { stood := { row := fnPumpBestUptoRow, standIns := [], harness := (true, "a5a7d22d484212bf2246ed34c495e7e4937a4be0a82855a3527b2b559f36e5e1"), looks := false }, kinds := [], alts := [], laidByText := true, laidKinds := [.data, .data, .data], laidTests := true, laidLooks := .later }
def FnPumpBestUptoCardSaid : Prop := Claim7.holds Tryd.pinned (.plain (OpenSpec.upto fnPumpBestSpec)) fnPumpBestUptoCard

/-- THE SECOND FORM's CARD OF 'laws.FnJoinLevel'. -/
def fnJoinLevelUptoCard : Claim7 := { stood := { row := fnJoinLevelUptoRow, standIns := [], harness := (true, "a5a7d22d484212bf2246ed34c495e7e4937a4be0a82855a3527b2b559f36e5e1"), looks := false }, kinds := [], alts := [], laidByText := true, laidKinds := [.data, .data, .data], laidTests := true, laidLooks := .later }
def FnJoinLevelUptoCardSaid : Prop := Claim7.holds Tryd.pinned (.plain (OpenSpec.upto fnJoinLevelSpec)) fnJoinLevelUptoCard
end Rows
end Go.Proofs.YtahbfifnpceoeaaDoor
