/- A closed fact of the law, run on the abstract machine, as a typed function. -/
import Derived.Test.YtkpapdbklbclhaaGreatDoorG2Z5
import Derived.Test.YtkpapdbklbclhaaGreatDoorG3Z5
import Derived.Test.YtkpapdbklbclhaaGreatDoorG5Z5
import Derived.Test.YtkpapdbklbclhaaGreatDoorG7Z5
import Derived.Test.YtkpapdbklbclhaaGreatDoorG9Z5
set_option maxRecDepth 100000
set_option maxHeartbeats 8000000
set_option linter.unusedVariables false
set_option linter.unusedSimpArgs false
namespace Go.Am.Tryz
open Go Go.Am Go.Proofs
theorem z93 (A : AH) : ACalls Tryz.prog 4 [] A (.bool true) A := by
 have h : ((callF zc8 Tryz.prog (extL 11 fwA4 fwH4 fwV4 fwK4 (extL 11 fwA3 fwH3 fwV3 fwK3 (extL 9 fwA2 fwH2 fwV2 fwK2 (extL 5 fwA1 fwH1 fwV1 fwK1 (zed))))) 200 60 4 [] ⟨0, []⟩).map (·.1)) = some (.bool true) := by kernel_rfl
 obtain ⟨r, h1, h2⟩ := Option.map_eq_some_iff.1 h
 rw [<- h2]
 exact (z50 (z9t zfs (z9t zfr (z9t zfq (z9t zfp z6o)))) (fun x y => z4z) mixed 200 60 4 [] _ _ _ h1).anyHeap rfl (by rw [h2]; rfl) A
def z46 (K : Nat) : Option Bool := some true
theorem z66 (K : Nat) {G : GM} {H : AH} {L : List Pc} (O : Ow G H L) (r : Bool) (h : z46 K = some r) : CR Tryz.prog 4 [] G H L (fun v G' _ => v = .bool r) := by
 cases h; exact ⟨_, H, G, z93 H, O, zAf _, rfl⟩
end Go.Am.Tryz
