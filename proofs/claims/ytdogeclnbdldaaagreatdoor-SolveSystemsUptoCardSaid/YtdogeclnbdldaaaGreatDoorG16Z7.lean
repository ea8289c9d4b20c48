/- A closed fact of the law, run on the abstract machine, as a typed function. -/
import Derived.Test.YtdogeclnbdldaaaGreatDoorG2Z7
import Derived.Test.YtdogeclnbdldaaaGreatDoorG3Z7
import Derived.Test.YtdogeclnbdldaaaGreatDoorG5Z7
import Derived.Test.YtdogeclnbdldaaaGreatDoorG7Z7
import Derived.Test.YtdogeclnbdldaaaGreatDoorG9Z7
import Derived.Test.YtdogeclnbdldaaaGreatDoorG11Z7
import Derived.Test.YtdogeclnbdldaaaGreatDoorG13Z7
import Derived.Test.YtdogeclnbdldaaaGreatDoorG15Z7
set_option maxRecDepth 100000
set_option maxHeartbeats 8000000
set_option linter.unusedVariables false
set_option linter.unusedSimpArgs false
namespace Go.Am.Tryz
open Go Go.Am Go.Proofs
theorem zdt (A : AH) : ACalls Tryz.prog 43 [] A (.bool true) A := by
 have h : ((callF zgd Tryz.prog (extL 48 fwA7 fwH7 fwV7 fwK7 (extL 101 fwA6 fwH6 fwV6 fwK6 (extL 100 fwA5 fwH5 fwV5 fwK5 (extL 46 fwA4 fwH4 fwV4 fwK4 (extL 99 fwA3 fwH3 fwV3 fwK3 (extL 48 fwA2 fwH2 fwV2 fwK2 (extL 44 fwA1 fwH1 fwV1 fwK1 (zjr)))))))) 200 60 43 [] ⟨0, []⟩).map (·.1)) = some (.bool true) := by kernel_rfl
 obtain ⟨r, h1, h2⟩ := Option.map_eq_some_iff.1 h
 rw [<- h2]
 exact (z6g (zbb zo6 (zbb zo5 (zbb zo4 (zbb zo3 (zbb zo2 (zbb zo1 (zbb zo0 z7w))))))) (fun x y => z6e) mixed 200 60 43 [] _ _ _ h1).anyHeap rfl (by rw [h2]; rfl) A
def z6h (K : Nat) : Option Bool := some true
theorem z9v (K : Nat) {G : GM} {H : AH} {L : List Pc} (O : Ow G H L) (r : Bool) (h : z6h K = some r) : CR Tryz.prog 43 [] G H L (fun v G' _ => v = .bool r) := by
 cases h; exact ⟨_, H, G, zdt H, O, zAf _, rfl⟩
end Go.Am.Tryz
