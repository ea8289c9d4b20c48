/- The net law's own facts. -/
import Derived.Test.YtlcdhgcfamjioaaFacts
namespace Go.Am.Try
open Go Go.Am Go.Proofs
theorem f9_ok (H : AH) : ∃ v H', ACalls Try.prog 9 [] H v H' ∧ v = .bool true ∧ Ext H H' :=
  ⟨_, H, run_closed mixed (rounds := 200) (n := 40) (by kernel_rfl) (by kernel_rfl) (by kernel_rfl) H, rfl, .refl H⟩
end Go.Am.Try
