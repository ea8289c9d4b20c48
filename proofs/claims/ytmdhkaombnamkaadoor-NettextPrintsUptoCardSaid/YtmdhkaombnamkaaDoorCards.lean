/-
  DERIVED. GIVEN WITH THE SEED: THE CARDS: each row of YtmdhkaombnamkaaDoorRows.lean that lists a variable, with what it lists TIED to the program's text (the seventh form; the later family's looks); each row that meets fmt, with fmt's text TOLD by the authors' own Lean function (tested against real Go, not proved from fmt's source: count such statements apart). THE CARD IS WHAT COUNTS. Prove the row's statement (the work); the ties are given (YtmdhkaombnamkaaDoorTie.lean); close each card by the builder's one call (the guide's Derived/Test/ToyasCard.lean, 'card_holds'). Laid BY PROGRAM, IN A SANDBOX (cutbox-door.mjs). By AI agents, Wed Nov 11 2026. No macro, syntax, notation, axiom, sorry.
-/
import Derived.Test.YtmdhkaombnamkaaDoorRows
import GoSem.ClaimSeven
namespace Go.Proofs.YtmdhkaombnamkaaDoor
namespace Rows

/-- THE TIED CARD OF 'gridhalllaw1.NettextPrints'. -/
def nettextPrintsCard : Claim7 := { stood := { row := nettextPrintsRow, standIns := [], harness := (true, "f833d4e1b123e042fd62f1111190d6e5e796b3729ccb482204f9db2808afc0a6"), looks := true }, kinds := [], alts := [], laidByText := true, laidKinds := [.data, .data, .data, .data, .sentinel, .sentinel, .pinned], laidTests := true, laidLooks := .later }
def NettextPrintsCardSaid : Prop := Claim7.holds Tryd.pinned (.plain (OpenSpec.ofChange nettextPrintsSpec)) nettextPrintsCard

/-- THE SECOND FORM's CARD OF 'gridhalllaw1.NettextPrints'. -/
def nettextPrintsUptoCard : Claim7 := { stood := { row := nettextPrintsUptoRow, standIns := [], harness := (true, "f833d4e1b123e042fd62f1111190d6e5e796b3729ccb482204f9db2808afc0a6"), looks := true }, kinds := [], alts := [], laidByText := true, laidKinds := [.data, .data, .data, .data, .sentinel, .sentinel, .pinned], laidTests := true, laidLooks := .later }
def NettextPrintsUptoCardSaid : Prop := Claim7.holds Tryd.pinned (.plain (OpenSpec.upto nettextPrintsSpec)) nettextPrintsUptoCard
end Rows
end Go.Proofs.YtmdhkaombnamkaaDoor
