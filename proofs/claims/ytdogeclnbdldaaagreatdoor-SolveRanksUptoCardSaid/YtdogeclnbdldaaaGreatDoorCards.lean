/-
  DERIVED. GIVEN WITH THE SEED: THE CARDS: each row of YtdogeclnbdldaaaGreatDoorRows.lean that lists a variable, with what it lists TIED to the program's text (the seventh form; the later family's looks); each row that meets fmt, with fmt's text TOLD by the authors' own Lean function (tested against real Go, not proved from fmt's source: count such statements apart). THE CARD IS WHAT COUNTS. Prove the row's statement (the work); the ties are given (YtdogeclnbdldaaaGreatDoorTie.lean); close each card by the builder's one call (the guide's Derived/Test/ToyasCard.lean, 'card_holds'). Laid BY PROGRAM, IN A SANDBOX (cutbox-door.mjs). By AI agents, Wed Nov 11 2026. No macro, syntax, notation, axiom, sorry.
-/
import Derived.Test.YtdogeclnbdldaaaGreatDoorRows
import GoSem.ClaimSeven
namespace Go.Proofs.YtdogeclnbdldaaaGreatDoor
namespace Rows

/-- THE TIED CARD OF 'gridhalllaw1.LossChecks'. -/
def lossChecksCard : Claim7 := { stood := { row := lossChecksRow, standIns := [], harness := (true, "9456c84235557118b68e718e3e679689418590870bc4fa8cc6a049ddd15a1cf4"), looks := false }, kinds := [], alts := [], laidByText := true, laidKinds := [.data, .pinned], laidTests := true, laidLooks := .later }
def LossChecksCardSaid : Prop := Claim7.holds Tryz.pinned (.plain (OpenSpec.ofChange lossChecksSpec)) lossChecksCard

/-- THE TIED CARD OF 'gridhalllaw1.MatrixProducts'. -/
def matrixProductsCard : Claim7 := { stood := { row := matrixProductsRow, standIns := [], harness := (true, "9456c84235557118b68e718e3e679689418590870bc4fa8cc6a049ddd15a1cf4"), looks := false }, kinds := [], alts := [], laidByText := true, laidKinds := [.data, .pinned], laidTests := true, laidLooks := .later }
def MatrixProductsCardSaid : Prop := Claim7.holds Tryz.pinned (.plain (OpenSpec.ofChange matrixProductsSpec)) matrixProductsCard

/-- THE TIED CARD OF 'gridhalllaw1.MatrixDots'. -/
def matrixDotsCard : Claim7 := { stood := { row := matrixDotsRow, standIns := [], harness := (true, "9456c84235557118b68e718e3e679689418590870bc4fa8cc6a049ddd15a1cf4"), looks := false }, kinds := [], alts := [], laidByText := true, laidKinds := [.data, .pinned], laidTests := true, laidLooks := .later }
def MatrixDotsCardSaid : Prop := Claim7.holds Tryz.pinned (.plain (OpenSpec.ofChange matrixDotsSpec)) matrixDotsCard

/-- THE TIED CARD OF 'gridhalllaw1.MatrixSums'. -/
def matrixSumsCard : Claim7 := { stood := { row := matrixSumsRow, standIns := [], harness := (true, "9456c84235557118b68e718e3e679689418590870bc4fa8cc6a049ddd15a1cf4"), looks := false }, kinds := [], alts := [], laidByText := true, laidKinds := [.data, .pinned], laidTests := true, laidLooks := .later }
def MatrixSumsCardSaid : Prop := Claim7.holds Tryz.pinned (.plain (OpenSpec.ofChange matrixSumsSpec)) matrixSumsCard

/-- THE TIED CARD OF 'gridhalllaw1.SolveRanks'. -/
def solveRanksCard : Claim7 := { stood := { row := solveRanksRow, standIns := [], harness := (true, "9456c84235557118b68e718e3e679689418590870bc4fa8cc6a049ddd15a1cf4"), looks := false }, kinds := [], alts := [], laidByText := true, laidKinds := [.data, .pinned], laidTests := true, laidLooks := .later }
def SolveRanksCardSaid : Prop := Claim7.holds Tryz.pinned (.plain (OpenSpec.ofChange solveRanksSpec)) solveRanksCard

/-- THE TIED CARD OF 'gridhalllaw1.SolveDets'. -/
def solveDetsCard : Claim7 := { stood := { row := solveDetsRow, standIns := [], harness := (true, "9456c84235557118b68e718e3e679689418590870bc4fa8cc6a049ddd15a1cf4"), looks := false }, kinds := [], alts := [], laidByText := true, laidKinds := [.data, .pinned], laidTests := true, laidLooks := .later }
def SolveDetsCardSaid : Prop := Claim7.holds Tryz.pinned (.plain (OpenSpec.ofChange solveDetsSpec)) solveDetsCard

/-- THE TIED CARD OF 'gridhalllaw1.SolveSystems'. -/
def solveSystemsCard : Claim7 := { stood := { row := solveSystemsRow, standIns := [], harness := (true, "9456c84235557118b68e718e3e679689418590870bc4fa8cc6a049ddd15a1cf4"), looks := false }, kinds := [], alts := [], laidByText := true, laidKinds := [.data, .pinned], laidTests := true, laidLooks := .later }
def SolveSystemsCardSaid : Prop := Claim7.holds Tryz.pinned (.plain (OpenSpec.ofChange solveSystemsSpec)) solveSystemsCard

/-- THE TIED CARD OF 'gridhalllaw1.SimplexValues'. -/
def simplexValuesCard : Claim7 := { stood := { row := simplexValuesRow, standIns := [], harness := (true, "9456c84235557118b68e718e3e679689418590870bc4fa8cc6a049ddd15a1cf4"), looks := false }, kinds := [], alts := [], laidByText := true, laidKinds := [.data, .pinned], laidTests := true, laidLooks := .later }
def SimplexValuesCardSaid : Prop := Claim7.holds Tryz.pinned (.plain (OpenSpec.ofChange simplexValuesSpec)) simplexValuesCard

/-- THE SECOND FORM's CARD OF 'gridhalllaw1.LossChecks'. -/
def lossChecksUptoCard : Claim7 := { stood := { row := lossChecksUptoRow, standIns := [], harness := (true, "9456c84235557118b68e718e3e679689418590870bc4fa8cc6a049ddd15a1cf4"), looks := false }, kinds := [], alts := [], laidByText := true, laidKinds := [.data, .pinned], laidTests := true, laidLooks := .later }
def LossChecksUptoCardSaid : Prop := Claim7.holds Tryz.pinned (.plain (OpenSpec.upto lossChecksSpec)) lossChecksUptoCard

/-- THE SECOND FORM's CARD OF 'gridhalllaw1.MatrixProducts'. -/
def matrixProductsUptoCard : Claim7 := { stood := { row := matrixProductsUptoRow, standIns := [], harness := (true, "9456c84235557118b68e718e3e679689418590870bc4fa8cc6a049ddd15a1cf4"), looks := false }, kinds := [], alts := [], laidByText := true, laidKinds := [.data, .pinned], laidTests := true, laidLooks := .later }
def MatrixProductsUptoCardSaid : Prop := Claim7.holds Tryz.pinned (.plain (OpenSpec.upto matrixProductsSpec)) matrixProductsUptoCard

/-- THE SECOND FORM's CARD OF 'gridhalllaw1.MatrixDots'. -/
def matrixDotsUptoCard : Claim7 := { stood := { row := matrixDotsUptoRow, standIns := [], harness := (true, "9456c84235557118b68e718e3e679689418590870bc4fa8cc6a049ddd15a1cf4"), looks := false }, kinds := [], alts := [], laidByText := true, laidKinds := [.data, .pinned], laidTests := true, laidLooks := .later }
def MatrixDotsUptoCardSaid : Prop := Claim7.holds Tryz.pinned (.plain (OpenSpec.upto matrixDotsSpec)) matrixDotsUptoCard

/-- THE SECOND FORM's CARD OF 'gridhalllaw1.MatrixSums'. -/
def matrixSumsUptoCard : Claim7 := { stood := { row := matrixSumsUptoRow, standIns := [], harness := (true, "9456c84235557118b68e718e3e679689418590870bc4fa8cc6a049ddd15a1cf4"), looks := false }, kinds := [], alts := [], laidByText := true, laidKinds := [.data, .pinned], laidTests := true, laidLooks := .later }
def MatrixSumsUptoCardSaid : Prop := Claim7.holds Tryz.pinned (.plain (OpenSpec.upto matrixSumsSpec)) matrixSumsUptoCard

/-- THE SECOND FORM's CARD OF 'gridhalllaw1.SolveRanks'. -/
def solveRanksUptoCard : Claim7 := { stood := { row := solveRanksUptoRow, standIns := [], harness := (true, "9456c84235557118b68e718e3e679689418590870bc4fa8cc6a049ddd15a1cf4"), looks := false }, kinds := [], alts := [], laidByText := true, laidKinds := [.data, .pinned], laidTests := true, laidLooks := .later }
def SolveRanksUptoCardSaid : Prop := Claim7.holds Tryz.pinned (.plain (OpenSpec.upto solveRanksSpec)) solveRanksUptoCard

/-- THE SECOND FORM's CARD OF 'gridhalllaw1.SolveDets'. -/
def solveDetsUptoCard : Claim7 := { stood := { row := solveDetsUptoRow, standIns := [], harness := (true, "9456c84235557118b68e718e3e679689418590870bc4fa8cc6a049ddd15a1cf4"), looks := false }, kinds := [], alts := [], laidByText := true, laidKinds := [.data, .pinned], laidTests := true, laidLooks := .later }
def SolveDetsUptoCardSaid : Prop := Claim7.holds Tryz.pinned (.plain (OpenSpec.upto solveDetsSpec)) solveDetsUptoCard

/-- THE SECOND FORM's CARD OF 'gridhalllaw1.SolveSystems'. -/
def solveSystemsUptoCard : Claim7 := { stood := { row := solveSystemsUptoRow, standIns := [], harness := (true, "9456c84235557118b68e718e3e679689418590870bc4fa8cc6a049ddd15a1cf4"), looks := false }, kinds := [], alts := [], laidByText := true, laidKinds := [.data, .pinned], laidTests := true, laidLooks := .later }
def SolveSystemsUptoCardSaid : Prop := Claim7.holds Tryz.pinned (.plain (OpenSpec.upto solveSystemsSpec)) solveSystemsUptoCard

/-- THE SECOND FORM's CARD OF 'gridhalllaw1.SimplexValues'. -/
def simplexValuesUptoCard : Claim7 := { stood := { row := simplexValuesUptoRow, standIns := [], harness := (true, "9456c84235557118b68e718e3e679689418590870bc4fa8cc6a049ddd15a1cf4"), looks := false }, kinds := [], alts := [], laidByText := true, laidKinds := [.data, .pinned], laidTests := true, laidLooks := .later }
def SimplexValuesUptoCardSaid : Prop := Claim7.holds Tryz.pinned (.plain (OpenSpec.upto simplexValuesSpec)) simplexValuesUptoCard
end Rows
end Go.Proofs.YtdogeclnbdldaaaGreatDoor
