/-
  DERIVED. GIVEN WITH THE SEED: THE CARDS: each row of YtdogeclnbdldaaaDoorRows.lean that lists a variable, with what it lists TIED to the program's text (the seventh form; the later family's looks); each row that meets fmt, with fmt's text TOLD by the authors' own Lean function (tested against real Go, not proved from fmt's source: count such statements apart). THE CARD IS WHAT COUNTS. Prove the row's statement (the work); the ties are given (YtdogeclnbdldaaaDoorTie.lean); close each card by the builder's one call (the guide's Derived/Test/ToyasCard.lean, 'card_holds'). Laid BY PROGRAM, IN A SANDBOX (cutbox-door.mjs). By AI agents, Wed Nov 11 2026. No macro, syntax, notation, axiom, sorry.
-/
import Derived.Test.YtdogeclnbdldaaaDoorRows
import GoSem.ClaimSeven
namespace Go.Proofs.YtdogeclnbdldaaaDoor
namespace Rows

/-- THE TIED CARD OF 'gridhalllaw1.LossTotals'. -/
def lossTotalsCard : Claim7 := { stood := { row := lossTotalsRow, standIns := [], harness := (true, "ce7420dc79985b040ebe5f8f1c527920ed6a568222f0bb0e328cce9a1e84371b"), looks := false }, kinds := [], alts := [], laidByText := true, laidKinds := [.data, .pinned], laidTests := true, laidLooks := .later }
def LossTotalsCardSaid : Prop := Claim7.holds Tryd.pinned (.plain (OpenSpec.ofChange lossTotalsSpec)) lossTotalsCard

/-- THE TIED CARD OF 'gridhalllaw1.MatrixChecks'. -/
def matrixChecksCard : Claim7 := { stood := { row := matrixChecksRow, standIns := [], harness := (true, "ce7420dc79985b040ebe5f8f1c527920ed6a568222f0bb0e328cce9a1e84371b"), looks := false }, kinds := [], alts := [], laidByText := true, laidKinds := [.data, .pinned], laidTests := true, laidLooks := .later }
def MatrixChecksCardSaid : Prop := Claim7.holds Tryd.pinned (.plain (OpenSpec.ofChange matrixChecksSpec)) matrixChecksCard

/-- THE TIED CARD OF 'gridhalllaw1.SimplexChecks'. -/
def simplexChecksCard : Claim7 := { stood := { row := simplexChecksRow, standIns := [], harness := (true, "ce7420dc79985b040ebe5f8f1c527920ed6a568222f0bb0e328cce9a1e84371b"), looks := false }, kinds := [], alts := [], laidByText := true, laidKinds := [.data, .pinned], laidTests := true, laidLooks := .later }
def SimplexChecksCardSaid : Prop := Claim7.holds Tryd.pinned (.plain (OpenSpec.ofChange simplexChecksSpec)) simplexChecksCard

/-- THE SECOND FORM's CARD OF 'gridhalllaw1.LossTotals'. -/
def lossTotalsUptoCard : Claim7 := { stood := { row := lossTotalsUptoRow, standIns := [], harness := (true, "ce7420dc79985b040ebe5f8f1c527920ed6a568222f0bb0e328cce9a1e84371b"), looks := false }, kinds := [], alts := [], laidByText := true, laidKinds := [.data, .pinned], laidTests := true, laidLooks := .later }
def LossTotalsUptoCardSaid : Prop := Claim7.holds Tryd.pinned (.plain (OpenSpec.upto lossTotalsSpec)) lossTotalsUptoCard

/-- THE SECOND FORM's CARD OF 'gridhalllaw1.MatrixChecks'. -/
def matrixChecksUptoCard : Claim7 := { stood := { row := matrixChecksUptoRow, standIns := [], harness := (true, "ce7420dc79985b040ebe5f8f1c527920ed6a568222f0bb0e328cce9a1e84371b"), looks := false }, kinds := [], alts := [], laidByText := true, laidKinds := [.data, .pinned], laidTests := true, laidLooks := .later }
def MatrixChecksUptoCardSaid : Prop := Claim7.holds Tryd.pinned (.plain (OpenSpec.upto matrixChecksSpec)) matrixChecksUptoCard

/-- THE SECOND FORM's CARD OF 'gridhalllaw1.SimplexChecks'. -/
def simplexChecksUptoCard : Claim7 := { stood := { row := simplexChecksUptoRow, standIns := [], harness := (true, "ce7420dc79985b040ebe5f8f1c527920ed6a568222f0bb0e328cce9a1e84371b"), looks := false }, kinds := [], alts := [], laidByText := true, laidKinds := [.data, .pinned], laidTests := true, laidLooks := .later }
def SimplexChecksUptoCardSaid : Prop := Claim7.holds Tryd.pinned (.plain (OpenSpec.upto simplexChecksSpec)) simplexChecksUptoCard
end Rows
end Go.Proofs.YtdogeclnbdldaaaDoor
