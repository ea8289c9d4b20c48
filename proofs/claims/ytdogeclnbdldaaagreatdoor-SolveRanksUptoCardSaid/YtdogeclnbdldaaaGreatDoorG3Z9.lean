/- One call of a closed fact, run on the abstract machine by itself: what it hands back, under new numbers of blocks. -/
import Derived.Test.YtdogeclnbdldaaaGreatDoorG2Z9
set_option maxRecDepth 100000
set_option maxHeartbeats 8000000
set_option linter.unusedVariables false
set_option linter.unusedSimpArgs false
namespace Go.Am.Tryz
open Go Go.Am Go.Proofs
noncomputable def fwV1 : Value := .tuple #[(.int .i64 2), (.int .i64 0)]
noncomputable def fwK1 : AH := ⟨3, [some ⟨[.slice (some ⟨0, 0, some 0⟩) 2 2, .slice (some ⟨1, 0, some 0⟩) 2 2], 45, 1, true⟩, some ⟨[.string ⟨#[51]⟩, .string ⟨#[52]⟩], 22, 1, true⟩, some ⟨[.string ⟨#[49]⟩, .string ⟨#[50]⟩], 22, 1, true⟩]⟩
theorem zn5 : ACalls Tryz.prog 44 fwA1 fwH1 fwV1 fwK1 := za8 (L := []) (r := callF zfl Tryz.prog zix 200 60 44 fwA1 fwH1) (by kernel_rfl) fun v H' h => z60 z79 (fun x y => z5y) mixed 200 60 44 fwA1 _ _ _ h
end Go.Am.Tryz
