/- What a call of a closed fact begins with. -/
import Derived.Test.YtdogeclnbdldaaaGreatDoorG2Z9
set_option maxRecDepth 100000
set_option maxHeartbeats 8000000
set_option linter.unusedVariables false
set_option linter.unusedSimpArgs false
namespace Go.Am.Tryz
open Go Go.Am Go.Proofs
noncomputable def fwA2 : List Value := [.slice (some ⟨5, 0, some 0⟩) 2 2, .slice (some ⟨6, 0, some 0⟩) 2 2]
noncomputable def fwH2 : AH := ⟨7, [some ⟨[.string ⟨#[51]⟩, .string ⟨#[49]⟩], 22, 1, true⟩, some ⟨[.slice (some ⟨3, 0, some 0⟩) 2 2, .slice (some ⟨4, 0, some 0⟩) 2 2], 45, 1, true⟩, some ⟨[.string ⟨#[49]⟩, .string ⟨#[45, 49]⟩], 22, 1, true⟩, some ⟨[.string ⟨#[49]⟩, .string ⟨#[49]⟩], 22, 1, true⟩, some ⟨[.slice (some ⟨0, 0, some 0⟩) 2 2, .slice (some ⟨1, 0, some 0⟩) 2 2], 45, 1, true⟩, some ⟨[.string ⟨#[51]⟩, .string ⟨#[52]⟩], 22, 1, true⟩, some ⟨[.string ⟨#[49]⟩, .string ⟨#[50]⟩], 22, 1, true⟩]⟩
end Go.Am.Tryz
