/- A closed fact of the law, run on the abstract machine, as a typed function. -/
import Derived.Test.YtlcdhgcfamjioaaFactsZ8
namespace Go.Am.Try
open Go Go.Am Go.Proofs
set_option linter.unusedVariables false
set_option maxRecDepth 100000
theorem fact37 (A : AH) : ACalls Try.prog 37 [] A (.bool true) A := run_closed (rounds := 200) (n := 60) mixed rfl rfl (by kernel_rfl) A
def g_law_stationFact (K : Nat) : Option Bool := some true
theorem g_law_stationFact_ok (K : Nat) {G : GM} {H : AH} {L : List Pc} (O : Ow G H L) (r : Bool) (h : g_law_stationFact K = some r) : CR Try.prog 37 [] G H L (fun v G' _ => v = .bool r) := by
  cases h; exact ⟨_, H, G, fact37 H, O, GM.le.refl _, rfl⟩
end Go.Am.Try
