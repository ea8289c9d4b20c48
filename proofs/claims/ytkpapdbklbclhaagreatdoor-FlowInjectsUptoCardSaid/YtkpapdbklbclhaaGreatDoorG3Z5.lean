/- One call of a closed fact, run on the abstract machine by itself: what it hands back, under new numbers of blocks. -/
import Derived.Test.YtkpapdbklbclhaaGreatDoorG2Z5
set_option maxRecDepth 100000
set_option maxHeartbeats 8000000
set_option linter.unusedVariables false
set_option linter.unusedSimpArgs false
namespace Go.Am.Tryz
open Go Go.Am Go.Proofs
noncomputable def fwV1 : Value := .tuple #[(.slice (some ⟨9, 0, some 0⟩) 3 3), (.int .i64 0)]
noncomputable def fwK1 : AH := ⟨10, [some ⟨[.int .i64 0, .int .i64 8, .int .i64 (-8)], 3, 1, true⟩, some ⟨[.int .i64 8], 3, 1, true⟩, some ⟨[.string ⟨#[68]⟩, .string ⟨#[67]⟩, .int .i64 8], 41, 1, true⟩, some ⟨[.string ⟨#[71]⟩, .string ⟨#[66]⟩, .int .i64 1, .int .i64 30, .int .i64 5], 37, 1, true⟩, some ⟨[.string ⟨#[76, 49]⟩, .string ⟨#[65]⟩, .string ⟨#[67]⟩, .int .i64 1000, .int .i64 1000, .int .i64 0, .int .i64 10, .int .i64 20, .int .i64 60, .string ⟨#[76, 50]⟩, .string ⟨#[65]⟩, .string ⟨#[67]⟩, .int .i64 1000, .int .i64 1000, .int .i64 0, .int .i64 10, .int .i64 20, .int .i64 60], 65, 1, true⟩, some ⟨[.string ⟨#[83]⟩, .string ⟨#[65]⟩, .string ⟨#[66]⟩, .bool false, .bool false], 67, 1, true⟩, some ⟨[.string ⟨#[65]⟩, .string ⟨#[66]⟩, .string ⟨#[67]⟩], 9, 1, true⟩, some ⟨[.string ⟨#[76, 50]⟩, .string ⟨#[65]⟩, .string ⟨#[67]⟩, .int .i64 1000, .int .i64 1000, .int .i64 0, .int .i64 10, .int .i64 20, .int .i64 60], 65, 1, true⟩, some ⟨[.string ⟨#[76, 49]⟩, .string ⟨#[65]⟩, .string ⟨#[67]⟩, .int .i64 1000, .int .i64 1000, .int .i64 0, .int .i64 10, .int .i64 20, .int .i64 60], 65, 1, true⟩, some ⟨[.slice (some ⟨3, 0, some 0⟩) 3 3, .slice (some ⟨4, 0, some 0⟩) 1 1, .slice (some ⟨5, 0, some 0⟩) 2 2, .slice (some ⟨6, 0, some 0⟩) 1 1, .slice (some ⟨7, 0, some 0⟩) 1 1, .slice none 0 0], 29, 1, true⟩]⟩
theorem zfp : ACalls Tryz.prog 5 fwA1 fwH1 fwV1 fwK1 := z9s (L := [60]) (r := callF zc8 Tryz.prog zed 200 60 5 fwA1 fwH1) (by kernel_rfl) fun v H' h => z50 z6o (fun x y => z4z) mixed 200 60 5 fwA1 _ _ _ h
end Go.Am.Tryz
