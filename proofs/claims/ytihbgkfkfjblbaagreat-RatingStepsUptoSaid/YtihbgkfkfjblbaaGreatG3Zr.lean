/- A closed fact of the law, run on the abstract machine, as a typed function. -/
import Derived.Test.YtihbgkfkfjblbaaGreatG2Zr
set_option maxRecDepth 100000
set_option maxHeartbeats 8000000
set_option linter.unusedVariables false
set_option linter.unusedSimpArgs false
namespace Go.Am.Tryz
open Go Go.Am Go.Proofs
theorem zfk (A : AH) : ACalls Tryz.prog 4 [] A (.bool true) A := zjl (rounds := 200) (n := 60) rfl rfl (by kernel_rfl) A
def z7k (K : Nat) : Option Bool := some true
theorem zb5 (K : Nat) {G : GM} {H : AH} {L : List Pc} (O : Ow G H L) (r : Bool) (h : z7k K = some r) : CR Tryz.prog 4 [] G H L (fun v G' _ => v = .bool r) := by
 cases h; exact ⟨_, H, G, zfk H, O, zAf _, rfl⟩
end Go.Am.Tryz
