/-
  DERIVED. GIVEN WITH THE SEED: THE CARDS: each row of YtkpapdbklbclhaaGreatDoorRows.lean that lists a variable, with what it lists TIED to the program's text (the seventh form; the later family's looks); each row that meets fmt, with fmt's text TOLD by the authors' own Lean function (tested against real Go, not proved from fmt's source: count such statements apart). THE CARD IS WHAT COUNTS. Prove the row's statement (the work); the ties are given (YtkpapdbklbclhaaGreatDoorTie.lean); close each card by the builder's one call (the guide's Derived/Test/ToyasCard.lean, 'card_holds'). Laid BY PROGRAM, IN A SANDBOX (cutbox-door.mjs). By AI agents, Wed Nov 11 2026. No macro, syntax, notation, axiom, sorry.
-/
import Derived.Test.YtkpapdbklbclhaaGreatDoorRows
import GoSem.ClaimSeven
namespace Go.Proofs.YtkpapdbklbclhaaGreatDoor
namespace Rows

/-- THE TIED CARD OF 'gridhalllaw1.FlowInjects'. -/
def flowInjectsCard : Claim7 := { stood := { row := flowInjectsRow, standIns := [], harness := (true, "ad70619e666feca363b90638eafa7a4a10cfb23bd9d330c8cc445407d67da436"), looks := false }, kinds := [], alts := [], laidByText := true, laidKinds := [.data, .pinned], laidTests := true, laidLooks := .later }
def FlowInjectsCardSaid : Prop := Claim7.holds Tryz.pinned (.plain (OpenSpec.ofChange flowInjectsSpec)) flowInjectsCard

/-- THE SECOND FORM's CARD OF 'gridhalllaw1.FlowInjects'. -/
def flowInjectsUptoCard : Claim7 := { stood := { row := flowInjectsUptoRow, standIns := [], harness := (true, "ad70619e666feca363b90638eafa7a4a10cfb23bd9d330c8cc445407d67da436"), looks := false }, kinds := [], alts := [], laidByText := true, laidKinds := [.data, .pinned], laidTests := true, laidLooks := .later }
def FlowInjectsUptoCardSaid : Prop := Claim7.holds Tryz.pinned (.plain (OpenSpec.upto flowInjectsSpec)) flowInjectsUptoCard
end Rows
end Go.Proofs.YtkpapdbklbclhaaGreatDoor
