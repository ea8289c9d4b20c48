/- A closed fact of the law, run on the abstract machine, as a typed function. -/
import Derived.Test.YtdogeclnbdldaaaGreatDoorG2Z9
import Derived.Test.YtdogeclnbdldaaaGreatDoorG3Z9
import Derived.Test.YtdogeclnbdldaaaGreatDoorG5Z9
import Derived.Test.YtdogeclnbdldaaaGreatDoorG7Z9
import Derived.Test.YtdogeclnbdldaaaGreatDoorG9Z9
import Derived.Test.YtdogeclnbdldaaaGreatDoorG11Z9
import Derived.Test.YtdogeclnbdldaaaGreatDoorG13Z9
import Derived.Test.YtdogeclnbdldaaaGreatDoorG15Z9
set_option maxRecDepth 100000
set_option maxHeartbeats 8000000
set_option linter.unusedVariables false
set_option linter.unusedSimpArgs false
namespace Go.Am.Tryz
open Go Go.Am Go.Proofs
theorem zcy (A : AH) : ACalls Tryz.prog 43 [] A (.bool true) A := by
 have h : ((callF zfl Tryz.prog (extL 48 fwA7 fwH7 fwV7 fwK7 (extL 101 fwA6 fwH6 fwV6 fwK6 (extL 100 fwA5 fwH5 fwV5 fwK5 (extL 46 fwA4 fwH4 fwV4 fwK4 (extL 99 fwA3 fwH3 fwV3 fwK3 (extL 48 fwA2 fwH2 fwV2 fwK2 (extL 44 fwA1 fwH1 fwV1 fwK1 (zix)))))))) 200 60 43 [] ⟨0, []⟩).map (·.1)) = some (.bool true) := by kernel_rfl
 obtain ⟨r, h1, h2⟩ := Option.map_eq_some_iff.1 h
 rw [<- h2]
 exact (z60 (za9 znb (za9 zna (za9 zn9 (za9 zn8 (za9 zn7 (za9 zn6 (za9 zn5 z79))))))) (fun x y => z5y) mixed 200 60 43 [] _ _ _ h1).anyHeap rfl (by rw [h2]; rfl) A
def z61 (K : Nat) : Option Bool := some true
theorem z91 (K : Nat) {G : GM} {H : AH} {L : List Pc} (O : Ow G H L) (r : Bool) (h : z61 K = some r) : CR Tryz.prog 43 [] G H L (fun v G' _ => v = .bool r) := by
 cases h; exact ⟨_, H, G, zcy H, O, zAf _, rfl⟩
end Go.Am.Tryz
