/- A closed fact of the law, run on the abstract machine, as a typed function. -/
import Derived.Test.YtdogeclnbdldaaaDoorG5Z5
set_option maxRecDepth 100000
set_option maxHeartbeats 8000000
set_option linter.unusedVariables false
set_option linter.unusedSimpArgs false
namespace Go.Am.Tryd
open Go Go.Am Go.Proofs
theorem z7t (A : AH) : ACalls Tryd.prog 21 [] A (.bool true) A := by
 have h : ((callF zfr Tryd.prog (zg7 24 fwA fwH fwV fwK zi0) 200 60 21 [] ⟨0, []⟩).map (·.1)) = some (.bool true) := by kernel_rfl
 obtain ⟨r, h1, h2⟩ := Option.map_eq_some_iff.1 h
 rw [<- h2]
 exact (z8o (zek zii zd1) (fun x y => z8k) mixed 200 60 21 [] _ _ _ h1).anyHeap rfl (by rw [h2]; rfl) A
def z3e (K : Nat) : Option Bool := some true
theorem z5b (K : Nat) {G : GM} {H : AH} {L : List Pc} (O : Ow G H L) (r : Bool) (h : z3e K = some r) : CR Tryd.prog 21 [] G H L (fun v G' _ => v = .bool r) := by
 cases h; exact ⟨_, H, G, z7t H, O, zAf _, rfl⟩
end Go.Am.Tryd
