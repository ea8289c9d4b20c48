/-
  DERIVED. GIVEN WITH THE SEED: THE CARDS: each row of YtlmgdnhnpkgheaaGreatDoorRows.lean that lists a variable, with what it lists TIED to the program's text (the seventh form; the later family's looks); each row that meets fmt, with fmt's text TOLD by the authors' own Lean function (tested against real Go, not proved from fmt's source: count such statements apart). THE CARD IS WHAT COUNTS. Prove the row's statement (the work); the ties are given (YtlmgdnhnpkgheaaGreatDoorTie.lean); close each card by the builder's one call (the guide's Derived/Test/ToyasCard.lean, 'card_holds'). Laid BY PROGRAM, IN A SANDBOX (cutbox-door.mjs). By AI agents, Wed Nov 11 2026. No macro, syntax, notation, axiom, sorry.
-/
import Derived.Test.YtlmgdnhnpkgheaaGreatDoorRows
import GoSem.ClaimSeven
namespace Go.Proofs.YtlmgdnhnpkgheaaGreatDoor
namespace Rows

/-- THE TIED CARD OF 'gridhalllaw1.RatCompares'. -/
def ratComparesCard : Claim7 := { stood := { row := ratComparesRow, standIns := [], harness := (true, "fa508bfd3fd389f2d8ba38e10f46f104610cb9320395848c9399b71ac7a5f914"), looks := false }, kinds := [], alts := [], laidByText := true, laidKinds := [.data, .pinned], laidTests := true, laidLooks := .later }
def RatComparesCardSaid : Prop := Claim7.holds Tryz.pinned (.plain (OpenSpec.ofChange ratComparesSpec)) ratComparesCard

/-- THE TIED CARD OF 'gridhalllaw1.RatIntegers'. -/
def ratIntegersCard : Claim7 := { stood := { row := ratIntegersRow, standIns := [], harness := (true, "fa508bfd3fd389f2d8ba38e10f46f104610cb9320395848c9399b71ac7a5f914"), looks := false }, kinds := [], alts := [], laidByText := true, laidKinds := [.data, .pinned], laidTests := true, laidLooks := .later }
def RatIntegersCardSaid : Prop := Claim7.holds Tryz.pinned (.plain (OpenSpec.ofChange ratIntegersSpec)) ratIntegersCard

/-- THE SECOND FORM's CARD OF 'gridhalllaw1.RatCompares'. -/
def ratComparesUptoCard : Claim7 := { stood := { row := ratComparesUptoRow, standIns := [], harness := (true, "fa508bfd3fd389f2d8ba38e10f46f104610cb9320395848c9399b71ac7a5f914"), looks := false }, kinds := [], alts := [], laidByText := true, laidKinds := [.data, .pinned], laidTests := true, laidLooks := .later }
def RatComparesUptoCardSaid : Prop := Claim7.holds Tryz.pinned (.plain (OpenSpec.upto ratComparesSpec)) ratComparesUptoCard

/-- THE SECOND FORM's CARD OF 'gridhalllaw1.RatIntegers'. -/
def ratIntegersUptoCard : Claim7 := { stood := { row := ratIntegersUptoRow, standIns := [], harness := (true, "fa508bfd3fd389f2d8ba38e10f46f104610cb9320395848c9399b71ac7a5f914"), looks := false }, kinds := [], alts := [], laidByText := true, laidKinds := [.data, .pinned], laidTests := true, laidLooks := .later }
def RatIntegersUptoCardSaid : Prop := Claim7.holds Tryz.pinned (.plain (OpenSpec.upto ratIntegersSpec)) ratIntegersUptoCard
end Rows
end Go.Proofs.YtlmgdnhnpkgheaaGreatDoor
