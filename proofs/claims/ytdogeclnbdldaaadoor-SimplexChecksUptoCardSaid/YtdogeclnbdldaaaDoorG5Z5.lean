/- One call of a closed fact, run on the abstract machine by itself: what it hands back, under new numbers of blocks. -/
import Derived.Test.YtdogeclnbdldaaaDoorG4Z5
set_option maxRecDepth 100000
set_option maxHeartbeats 8000000
set_option linter.unusedVariables false
set_option linter.unusedSimpArgs false
namespace Go.Am.Tryd
open Go Go.Am Go.Proofs
noncomputable def fwA : Value := .agg #[(.slice (some ⟨2, 0, some 0⟩) 1 1), (.slice (some ⟨3, 0, some 0⟩) 1 1), (.slice (some ⟨4, 0, some 0⟩) 2 2)]
noncomputable def fwH : AH := ⟨5, [some ⟨[.string ⟨#[50]⟩, .string ⟨#[49]⟩], 25, 1, true⟩, some ⟨[.string ⟨#[52]⟩], 25, 1, true⟩, some ⟨[.slice (some ⟨1, 0, some 0⟩) 2 2], 23, 1, true⟩, some ⟨[.string ⟨#[49]⟩, .string ⟨#[49]⟩], 25, 1, true⟩, some ⟨[.slice (some ⟨2, 0, some 0⟩) 1 1, .slice (some ⟨3, 0, some 0⟩) 1 1, .slice (some ⟨4, 0, some 0⟩) 2 2], 43, 1, true⟩]⟩
noncomputable def fwV : Value := .tuple #[(.agg #[(.int .i64 0), (.slice (some ⟨5, 0, none⟩) 2 2), (.slice (some ⟨6, 0, none⟩) 1 1), (.slice none 0 0), (.string ⟨#[56]⟩)]), (.int .i64 0)]
noncomputable def fwK : AH := ⟨7, [some ⟨[.string ⟨#[50]⟩], 25, 1, true⟩, some ⟨[.string ⟨#[52]⟩, .string ⟨#[48]⟩], 25, 1, true⟩, some ⟨[.string ⟨#[50]⟩, .string ⟨#[49]⟩], 25, 1, true⟩, some ⟨[.string ⟨#[52]⟩], 25, 1, true⟩, some ⟨[.slice (some ⟨1, 0, some 0⟩) 2 2], 23, 1, true⟩, some ⟨[.string ⟨#[49]⟩, .string ⟨#[49]⟩], 25, 1, true⟩, some ⟨[.slice (some ⟨2, 0, some 0⟩) 1 1, .slice (some ⟨3, 0, some 0⟩) 1 1, .slice (some ⟨4, 0, some 0⟩) 2 2], 43, 1, true⟩]⟩
theorem zii : ACalls Tryd.prog 24 [fwA] fwH fwV fwK := zha (L := [1799, 1813]) (r := callF zfr Tryd.prog zi0 200 60 24 [fwA] fwH) (by kernel_rfl) fun v H' h => z8o zd1 (fun x y => z8k) mixed 200 60 24 [fwA] _ _ _ h
end Go.Am.Tryd
