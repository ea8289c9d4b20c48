/-
  DERIVED. GIVEN WITH THE SEED: THE CARDS: each row of YtlmgdnhnpkgheaaDoorRows.lean that lists a variable, with what it lists TIED to the program's text (the seventh form; the later family's looks); each row that meets fmt, with fmt's text TOLD by the authors' own Lean function (tested against real Go, not proved from fmt's source: count such statements apart). THE CARD IS WHAT COUNTS. Prove the row's statement (the work); the ties are given (YtlmgdnhnpkgheaaDoorTie.lean); close each card by the builder's one call (the guide's Derived/Test/ToyasCard.lean, 'card_holds'). Laid BY PROGRAM, IN A SANDBOX (cutbox-door.mjs). By AI agents, Wed Nov 11 2026. No macro, syntax, notation, axiom, sorry.
-/
import Derived.Test.YtlmgdnhnpkgheaaDoorRows
import GoSem.ClaimSeven
namespace Go.Proofs.YtlmgdnhnpkgheaaDoor
namespace Rows

/-- THE TIED CARD OF 'gridhalllaw1.NatChecks'. -/
def natChecksCard : Claim7 := { stood := { row := natChecksRow, standIns := [], harness := (true, "fa2abda9e92f9b003ab5d5b4a71da3cf10fa0915e50d28bd54ccddc9cb2f79ac"), looks := false }, kinds := [], alts := [], laidByText := true, laidKinds := [.data, .pinned], laidTests := true, laidLooks := .later }
def NatChecksCardSaid : Prop := Claim7.holds Tryd.pinned (.plain (OpenSpec.ofChange natChecksSpec)) natChecksCard

/-- THE TIED CARD OF 'gridhalllaw1.NatSums'. -/
def natSumsCard : Claim7 := { stood := { row := natSumsRow, standIns := [], harness := (true, "fa2abda9e92f9b003ab5d5b4a71da3cf10fa0915e50d28bd54ccddc9cb2f79ac"), looks := false }, kinds := [], alts := [], laidByText := true, laidKinds := [.data, .pinned], laidTests := true, laidLooks := .later }
def NatSumsCardSaid : Prop := Claim7.holds Tryd.pinned (.plain (OpenSpec.ofChange natSumsSpec)) natSumsCard

/-- THE TIED CARD OF 'gridhalllaw1.NatProducts'. -/
def natProductsCard : Claim7 := { stood := { row := natProductsRow, standIns := [], harness := (true, "fa2abda9e92f9b003ab5d5b4a71da3cf10fa0915e50d28bd54ccddc9cb2f79ac"), looks := false }, kinds := [], alts := [], laidByText := true, laidKinds := [.data, .pinned], laidTests := true, laidLooks := .later }
def NatProductsCardSaid : Prop := Claim7.holds Tryd.pinned (.plain (OpenSpec.ofChange natProductsSpec)) natProductsCard

/-- THE TIED CARD OF 'gridhalllaw1.NatDivides'. -/
def natDividesCard : Claim7 := { stood := { row := natDividesRow, standIns := [], harness := (true, "fa2abda9e92f9b003ab5d5b4a71da3cf10fa0915e50d28bd54ccddc9cb2f79ac"), looks := false }, kinds := [], alts := [], laidByText := true, laidKinds := [.data, .pinned], laidTests := true, laidLooks := .later }
def NatDividesCardSaid : Prop := Claim7.holds Tryd.pinned (.plain (OpenSpec.ofChange natDividesSpec)) natDividesCard

/-- THE TIED CARD OF 'gridhalllaw1.NatPowers'. -/
def natPowersCard : Claim7 := { stood := { row := natPowersRow, standIns := [], harness := (true, "fa2abda9e92f9b003ab5d5b4a71da3cf10fa0915e50d28bd54ccddc9cb2f79ac"), looks := false }, kinds := [], alts := [], laidByText := true, laidKinds := [.data, .pinned], laidTests := true, laidLooks := .later }
def NatPowersCardSaid : Prop := Claim7.holds Tryd.pinned (.plain (OpenSpec.ofChange natPowersSpec)) natPowersCard

/-- THE TIED CARD OF 'gridhalllaw1.RatChecks'. -/
def ratChecksCard : Claim7 := { stood := { row := ratChecksRow, standIns := [], harness := (true, "fa2abda9e92f9b003ab5d5b4a71da3cf10fa0915e50d28bd54ccddc9cb2f79ac"), looks := false }, kinds := [], alts := [], laidByText := true, laidKinds := [.data, .pinned], laidTests := true, laidLooks := .later }
def RatChecksCardSaid : Prop := Claim7.holds Tryd.pinned (.plain (OpenSpec.ofChange ratChecksSpec)) ratChecksCard

/-- THE TIED CARD OF 'gridhalllaw1.RatOfs'. -/
def ratOfsCard : Claim7 := { stood := { row := ratOfsRow, standIns := [], harness := (true, "fa2abda9e92f9b003ab5d5b4a71da3cf10fa0915e50d28bd54ccddc9cb2f79ac"), looks := false }, kinds := [], alts := [], laidByText := true, laidKinds := [.data, .pinned], laidTests := true, laidLooks := .later }
def RatOfsCardSaid : Prop := Claim7.holds Tryd.pinned (.plain (OpenSpec.ofChange ratOfsSpec)) ratOfsCard

/-- THE TIED CARD OF 'gridhalllaw1.RatSums'. -/
def ratSumsCard : Claim7 := { stood := { row := ratSumsRow, standIns := [], harness := (true, "fa2abda9e92f9b003ab5d5b4a71da3cf10fa0915e50d28bd54ccddc9cb2f79ac"), looks := false }, kinds := [], alts := [], laidByText := true, laidKinds := [.data, .pinned], laidTests := true, laidLooks := .later }
def RatSumsCardSaid : Prop := Claim7.holds Tryd.pinned (.plain (OpenSpec.ofChange ratSumsSpec)) ratSumsCard

/-- THE TIED CARD OF 'gridhalllaw1.RatProducts'. -/
def ratProductsCard : Claim7 := { stood := { row := ratProductsRow, standIns := [], harness := (true, "fa2abda9e92f9b003ab5d5b4a71da3cf10fa0915e50d28bd54ccddc9cb2f79ac"), looks := false }, kinds := [], alts := [], laidByText := true, laidKinds := [.data, .pinned], laidTests := true, laidLooks := .later }
def RatProductsCardSaid : Prop := Claim7.holds Tryd.pinned (.plain (OpenSpec.ofChange ratProductsSpec)) ratProductsCard

/-- THE TIED CARD OF 'gridhalllaw1.RatLists'. -/
def ratListsCard : Claim7 := { stood := { row := ratListsRow, standIns := [], harness := (true, "fa2abda9e92f9b003ab5d5b4a71da3cf10fa0915e50d28bd54ccddc9cb2f79ac"), looks := false }, kinds := [], alts := [], laidByText := true, laidKinds := [.data, .pinned], laidTests := true, laidLooks := .later }
def RatListsCardSaid : Prop := Claim7.holds Tryd.pinned (.plain (OpenSpec.ofChange ratListsSpec)) ratListsCard

/-- THE SECOND FORM's CARD OF 'gridhalllaw1.NatChecks'. -/
def natChecksUptoCard : Claim7 := { stood := { row := natChecksUptoRow, standIns := [], harness := (true, "fa2abda9e92f9b003ab5d5b4a71da3cf10fa0915e50d28bd54ccddc9cb2f79ac"), looks := false }, kinds := [], alts := [], laidByText := true, laidKinds := [.data, .pinned], laidTests := true, laidLooks := .later }
def NatChecksUptoCardSaid : Prop := Claim7.holds Tryd.pinned (.plain (OpenSpec.upto natChecksSpec)) natChecksUptoCard

/-- THE SECOND FORM's CARD OF 'gridhalllaw1.NatSums'. -/
def natSumsUptoCard : Claim7 := { stood := { row := natSumsUptoRow, standIns := [], harness := (true, "fa2abda9e92f9b003ab5d5b4a71da3cf10fa0915e50d28bd54ccddc9cb2f79ac"), looks := false }, kinds := [], alts := [], laidByText := true, laidKinds := [.data, .pinned], laidTests := true, laidLooks := .later }
def NatSumsUptoCardSaid : Prop := Claim7.holds Tryd.pinned (.plain (OpenSpec.upto natSumsSpec)) natSumsUptoCard

/-- THE SECOND FORM's CARD OF 'gridhalllaw1.NatProducts'. -/
def natProductsUptoCard : Claim7 := { stood := { row := natProductsUptoRow, standIns := [], harness := (true, "fa2abda9e92f9b003ab5d5b4a71da3cf10fa0915e50d28bd54ccddc9cb2f79ac"), looks := false }, kinds := [], alts := [], laidByText := true, laidKinds := [.data, .pinned], laidTests := true, laidLooks := .later }
def NatProductsUptoCardSaid : Prop := Claim7.holds Tryd.pinned (.plain (OpenSpec.upto natProductsSpec)) natProductsUptoCard

/-- THE SECOND FORM's CARD OF 'gridhalllaw1.NatDivides'. -/
def natDividesUptoCard : Claim7 := { stood := { row := natDividesUptoRow, standIns := [], harness := (true, "fa2abda9e92f9b003ab5d5b4a71da3cf10fa0915e50d28bd54ccddc9cb2f79ac"), looks := false }, kinds := [], alts := [], laidByText := true, laidKinds := [.data, .pinned], laidTests := true, laidLooks := .later }
def NatDividesUptoCardSaid : Prop := Claim7.holds Tryd.pinned (.plain (OpenSpec.upto natDividesSpec)) natDividesUptoCard

/-- THE SECOND FORM's CARD OF 'gridhalllaw1.NatPowers'. -/
def natPowersUptoCard : Claim7 := { stood := { row := natPowersUptoRow, standIns := [], harness := (true, "fa2abda9e92f9b003ab5d5b4a71da3cf10fa0915e50d28bd54ccddc9cb2f79ac"), looks := false }, kinds := [], alts := [], laidByText := true, laidKinds := [.data, .pinned], laidTests := true, laidLooks := .later }
def NatPowersUptoCardSaid : Prop := Claim7.holds Tryd.pinned (.plain (OpenSpec.upto natPowersSpec)) natPowersUptoCard

/-- THE SECOND FORM's CARD OF 'gridhalllaw1.RatChecks'. -/
def ratChecksUptoCard : Claim7 := { stood := { row := ratChecksUptoRow, standIns := [], harness := (true, "fa2abda9e92f9b003ab5d5b4a71da3cf10fa0915e50d28bd54ccddc9cb2f79ac"), looks := false }, kinds := [], alts := [], laidByText := true, laidKinds := [.data, .pinned], laidTests := true, laidLooks := .later }
def RatChecksUptoCardSaid : Prop := Claim7.holds Tryd.pinned (.plain (OpenSpec.upto ratChecksSpec)) ratChecksUptoCard

/-- THE SECOND FORM's CARD OF 'gridhalllaw1.RatOfs'. -/
def ratOfsUptoCard : Claim7 := { stood := { row := ratOfsUptoRow, standIns := [], harness := (true, "fa2abda9e92f9b003ab5d5b4a71da3cf10fa0915e50d28bd54ccddc9cb2f79ac"), looks := false }, kinds := [], alts := [], laidByText := true, laidKinds := [.data, .pinned], laidTests := true, laidLooks := .later }
def RatOfsUptoCardSaid : Prop := Claim7.holds Tryd.pinned (.plain (OpenSpec.upto ratOfsSpec)) ratOfsUptoCard

/-- THE SECOND FORM's CARD OF 'gridhalllaw1.RatSums'. -/
def ratSumsUptoCard : Claim7 := { stood := { row := ratSumsUptoRow, standIns := [], harness := (true, "fa2abda9e92f9b003ab5d5b4a71da3cf10fa0915e50d28bd54ccddc9cb2f79ac"), looks := false }, kinds := [], alts := [], laidByText := true, laidKinds := [.data, .pinned], laidTests := true, laidLooks := .later }
def RatSumsUptoCardSaid : Prop := Claim7.holds Tryd.pinned (.plain (OpenSpec.upto ratSumsSpec)) ratSumsUptoCard

/-- THE SECOND FORM's CARD OF 'gridhalllaw1.RatProducts'. -/
def ratProductsUptoCard : Claim7 := { stood := { row := ratProductsUptoRow, standIns := [], harness := (true, "fa2abda9e92f9b003ab5d5b4a71da3cf10fa0915e50d28bd54ccddc9cb2f79ac"), looks := false }, kinds := [], alts := [], laidByText := true, laidKinds := [.data, .pinned], laidTests := true, laidLooks := .later }
def RatProductsUptoCardSaid : Prop := Claim7.holds Tryd.pinned (.plain (OpenSpec.upto ratProductsSpec)) ratProductsUptoCard

/-- THE SECOND FORM's CARD OF 'gridhalllaw1.RatLists'. -/
def ratListsUptoCard : Claim7 := { stood := { row := ratListsUptoRow, standIns := [], harness := (true, "fa2abda9e92f9b003ab5d5b4a71da3cf10fa0915e50d28bd54ccddc9cb2f79ac"), looks := false }, kinds := [], alts := [], laidByText := true, laidKinds := [.data, .pinned], laidTests := true, laidLooks := .later }
def RatListsUptoCardSaid : Prop := Claim7.holds Tryd.pinned (.plain (OpenSpec.upto ratListsSpec)) ratListsUptoCard
end Rows
end Go.Proofs.YtlmgdnhnpkgheaaDoor
