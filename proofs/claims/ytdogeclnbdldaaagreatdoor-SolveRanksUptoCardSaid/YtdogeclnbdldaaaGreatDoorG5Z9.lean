/- One call of a closed fact, run on the abstract machine by itself: what it hands back, under new numbers of blocks. -/
import Derived.Test.YtdogeclnbdldaaaGreatDoorG4Z9
set_option maxRecDepth 100000
set_option maxHeartbeats 8000000
set_option linter.unusedVariables false
set_option linter.unusedSimpArgs false
namespace Go.Am.Tryz
open Go Go.Am Go.Proofs
noncomputable def fwV2 : Value := .tuple #[(.slice (some ⟨7, 0, none⟩) 2 2), (.int .i64 0)]
noncomputable def fwK2 : AH := ⟨8, [some ⟨[.string ⟨#[50]⟩, .string ⟨#[49]⟩], 22, 1, true⟩, some ⟨[.string ⟨#[51]⟩, .string ⟨#[49]⟩], 22, 1, true⟩, some ⟨[.slice (some ⟨3, 0, some 0⟩) 2 2, .slice (some ⟨4, 0, some 0⟩) 2 2], 45, 1, true⟩, some ⟨[.string ⟨#[49]⟩, .string ⟨#[45, 49]⟩], 22, 1, true⟩, some ⟨[.string ⟨#[49]⟩, .string ⟨#[49]⟩], 22, 1, true⟩, some ⟨[.slice (some ⟨0, 0, some 0⟩) 2 2, .slice (some ⟨1, 0, some 0⟩) 2 2], 45, 1, true⟩, some ⟨[.string ⟨#[51]⟩, .string ⟨#[52]⟩], 22, 1, true⟩, some ⟨[.string ⟨#[49]⟩, .string ⟨#[50]⟩], 22, 1, true⟩]⟩
theorem zn6 : ACalls Tryz.prog 48 fwA2 fwH2 fwV2 fwK2 := za8 (L := [1655]) (r := callF zfl Tryz.prog zix 200 60 48 fwA2 fwH2) (by kernel_rfl) fun v H' h => z60 z79 (fun x y => z5y) mixed 200 60 48 fwA2 _ _ _ h
end Go.Am.Tryz
