/- What a call of a closed fact begins with. -/
import Derived.Test.YtdogeclnbdldaaaGreatDoorG2Z9
set_option maxRecDepth 100000
set_option maxHeartbeats 8000000
set_option linter.unusedVariables false
set_option linter.unusedSimpArgs false
namespace Go.Am.Tryz
open Go Go.Am Go.Proofs
noncomputable def fwA6 : List Value := [.slice (some ⟨22, 0, some 0⟩) 3 3]
noncomputable def fwH6 : AH := ⟨23, [some ⟨[.slice (some ⟨19, 0, some 0⟩) 2 2, .slice (some ⟨20, 0, some 0⟩) 2 2, .slice (some ⟨21, 0, some 0⟩) 2 2], 45, 1, true⟩, some ⟨[.string ⟨#[48]⟩, .string ⟨#[49]⟩], 22, 1, true⟩, some ⟨[.string ⟨#[50]⟩, .string ⟨#[48]⟩], 22, 1, true⟩, some ⟨[.string ⟨#[49]⟩, .string ⟨#[48]⟩], 22, 1, true⟩, some ⟨[.string ⟨#[45, 50]⟩, .string ⟨#[49]⟩], 22, 1, true⟩, some ⟨[.slice (some ⟨18, 0, none⟩) 2 2], 45, 1, true⟩, some ⟨[.slice (some ⟨15, 0, some 0⟩) 2 2], 45, 1, true⟩, some ⟨[.string ⟨#[49]⟩, .string ⟨#[50]⟩], 22, 1, true⟩, some ⟨[.slice (some ⟨12, 0, some 0⟩) 2 2, .slice (some ⟨13, 0, some 0⟩) 2 2], 45, 1, true⟩, some ⟨[.string ⟨#[51]⟩, .string ⟨#[52]⟩], 22, 1, true⟩, some ⟨[.string ⟨#[49]⟩, .string ⟨#[50]⟩], 22, 1, true⟩, some ⟨[.string ⟨#[49, 47, 50]⟩], 22, 1, true⟩, some ⟨[.slice (some ⟨11, 0, none⟩) 1 1], 45, 1, true⟩, some ⟨[.slice (some ⟨8, 0, some 0⟩) 1 1], 45, 1, true⟩, some ⟨[.string ⟨#[50]⟩], 22, 1, true⟩, some ⟨[.string ⟨#[50]⟩, .string ⟨#[49]⟩], 22, 1, true⟩, some ⟨[.string ⟨#[51]⟩, .string ⟨#[49]⟩], 22, 1, true⟩, some ⟨[.slice (some ⟨3, 0, some 0⟩) 2 2, .slice (some ⟨4, 0, some 0⟩) 2 2], 45, 1, true⟩, some ⟨[.string ⟨#[49]⟩, .string ⟨#[45, 49]⟩], 22, 1, true⟩, some ⟨[.string ⟨#[49]⟩, .string ⟨#[49]⟩], 22, 1, true⟩, some ⟨[.slice (some ⟨0, 0, some 0⟩) 2 2, .slice (some ⟨1, 0, some 0⟩) 2 2], 45, 1, true⟩, some ⟨[.string ⟨#[51]⟩, .string ⟨#[52]⟩], 22, 1, true⟩, some ⟨[.string ⟨#[49]⟩, .string ⟨#[50]⟩], 22, 1, true⟩]⟩
end Go.Am.Tryz
