/- One call of a closed fact, run on the abstract machine by itself: what it hands back, under new numbers of blocks. -/
import Derived.Test.YtdogeclnbdldaaaGreatDoorG10Z9
set_option maxRecDepth 100000
set_option maxHeartbeats 8000000
set_option linter.unusedVariables false
set_option linter.unusedSimpArgs false
namespace Go.Am.Tryz
open Go Go.Am Go.Proofs
noncomputable def fwV5 : Value := .tuple #[(.slice (some ⟨17, 0, none⟩) 1 1), (.int .i64 0)]
noncomputable def fwK5 : AH := ⟨19, [some ⟨[.string ⟨#[45, 50]⟩, .string ⟨#[49]⟩], 22, 1, true⟩, some ⟨[.slice (some ⟨18, 0, none⟩) 2 2], 45, 1, true⟩, some ⟨[.slice (some ⟨15, 0, some 0⟩) 2 2], 45, 1, true⟩, some ⟨[.string ⟨#[49]⟩, .string ⟨#[50]⟩], 22, 1, true⟩, some ⟨[.slice (some ⟨12, 0, some 0⟩) 2 2, .slice (some ⟨13, 0, some 0⟩) 2 2], 45, 1, true⟩, some ⟨[.string ⟨#[51]⟩, .string ⟨#[52]⟩], 22, 1, true⟩, some ⟨[.string ⟨#[49]⟩, .string ⟨#[50]⟩], 22, 1, true⟩, some ⟨[.string ⟨#[49, 47, 50]⟩], 22, 1, true⟩, some ⟨[.slice (some ⟨11, 0, none⟩) 1 1], 45, 1, true⟩, some ⟨[.slice (some ⟨8, 0, some 0⟩) 1 1], 45, 1, true⟩, some ⟨[.string ⟨#[50]⟩], 22, 1, true⟩, some ⟨[.string ⟨#[50]⟩, .string ⟨#[49]⟩], 22, 1, true⟩, some ⟨[.string ⟨#[51]⟩, .string ⟨#[49]⟩], 22, 1, true⟩, some ⟨[.slice (some ⟨3, 0, some 0⟩) 2 2, .slice (some ⟨4, 0, some 0⟩) 2 2], 45, 1, true⟩, some ⟨[.string ⟨#[49]⟩, .string ⟨#[45, 49]⟩], 22, 1, true⟩, some ⟨[.string ⟨#[49]⟩, .string ⟨#[49]⟩], 22, 1, true⟩, some ⟨[.slice (some ⟨0, 0, some 0⟩) 2 2, .slice (some ⟨1, 0, some 0⟩) 2 2], 45, 1, true⟩, some ⟨[.string ⟨#[51]⟩, .string ⟨#[52]⟩], 22, 1, true⟩, some ⟨[.string ⟨#[49]⟩, .string ⟨#[50]⟩], 22, 1, true⟩]⟩
theorem zn9 : ACalls Tryz.prog 100 fwA5 fwH5 fwV5 fwK5 := za8 (L := [269, 267]) (r := callF zfl Tryz.prog zix 200 60 100 fwA5 fwH5) (by kernel_rfl) fun v H' h => z60 z79 (fun x y => z5y) mixed 200 60 100 fwA5 _ _ _ h
end Go.Am.Tryz
