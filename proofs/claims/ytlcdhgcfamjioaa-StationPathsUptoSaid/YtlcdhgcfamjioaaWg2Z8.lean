/- Walks: function values of graph, bits.Mul. -/
import Derived.Test.YtlcdhgcfamjioaaFactsZ8
namespace Go.Am.Try
open Go Go.Am Go.Proofs
set_option linter.unusedVariables false
set_option linter.unusedSimpArgs false









theorem mul24 : ∀ (m : Nat), m ≤ 24 → ∀ A : AH, ACalls Try.prog 126 [.int .u64 1, .int .u64 (m : Int)] A (.tuple #[.int .u64 0, .int .u64 (m : Int)]) A
  | 0, _, A => run_closed mixed (rounds := 100) (n := 4) (by kernel_rfl) (by kernel_rfl) (by kernel_rfl) A
  | 1, _, A => run_closed mixed (rounds := 100) (n := 4) (by kernel_rfl) (by kernel_rfl) (by kernel_rfl) A
  | 2, _, A => run_closed mixed (rounds := 100) (n := 4) (by kernel_rfl) (by kernel_rfl) (by kernel_rfl) A
  | 3, _, A => run_closed mixed (rounds := 100) (n := 4) (by kernel_rfl) (by kernel_rfl) (by kernel_rfl) A
  | 4, _, A => run_closed mixed (rounds := 100) (n := 4) (by kernel_rfl) (by kernel_rfl) (by kernel_rfl) A
  | 5, _, A => run_closed mixed (rounds := 100) (n := 4) (by kernel_rfl) (by kernel_rfl) (by kernel_rfl) A
  | 6, _, A => run_closed mixed (rounds := 100) (n := 4) (by kernel_rfl) (by kernel_rfl) (by kernel_rfl) A
  | 7, _, A => run_closed mixed (rounds := 100) (n := 4) (by kernel_rfl) (by kernel_rfl) (by kernel_rfl) A
  | 8, _, A => run_closed mixed (rounds := 100) (n := 4) (by kernel_rfl) (by kernel_rfl) (by kernel_rfl) A
  | 9, _, A => run_closed mixed (rounds := 100) (n := 4) (by kernel_rfl) (by kernel_rfl) (by kernel_rfl) A
  | 10, _, A => run_closed mixed (rounds := 100) (n := 4) (by kernel_rfl) (by kernel_rfl) (by kernel_rfl) A
  | 11, _, A => run_closed mixed (rounds := 100) (n := 4) (by kernel_rfl) (by kernel_rfl) (by kernel_rfl) A
  | 12, _, A => run_closed mixed (rounds := 100) (n := 4) (by kernel_rfl) (by kernel_rfl) (by kernel_rfl) A
  | 13, _, A => run_closed mixed (rounds := 100) (n := 4) (by kernel_rfl) (by kernel_rfl) (by kernel_rfl) A
  | 14, _, A => run_closed mixed (rounds := 100) (n := 4) (by kernel_rfl) (by kernel_rfl) (by kernel_rfl) A
  | 15, _, A => run_closed mixed (rounds := 100) (n := 4) (by kernel_rfl) (by kernel_rfl) (by kernel_rfl) A
  | 16, _, A => run_closed mixed (rounds := 100) (n := 4) (by kernel_rfl) (by kernel_rfl) (by kernel_rfl) A
  | 17, _, A => run_closed mixed (rounds := 100) (n := 4) (by kernel_rfl) (by kernel_rfl) (by kernel_rfl) A
  | 18, _, A => run_closed mixed (rounds := 100) (n := 4) (by kernel_rfl) (by kernel_rfl) (by kernel_rfl) A
  | 19, _, A => run_closed mixed (rounds := 100) (n := 4) (by kernel_rfl) (by kernel_rfl) (by kernel_rfl) A
  | 20, _, A => run_closed mixed (rounds := 100) (n := 4) (by kernel_rfl) (by kernel_rfl) (by kernel_rfl) A
  | 21, _, A => run_closed mixed (rounds := 100) (n := 4) (by kernel_rfl) (by kernel_rfl) (by kernel_rfl) A
  | 22, _, A => run_closed mixed (rounds := 100) (n := 4) (by kernel_rfl) (by kernel_rfl) (by kernel_rfl) A
  | 23, _, A => run_closed mixed (rounds := 100) (n := 4) (by kernel_rfl) (by kernel_rfl) (by kernel_rfl) A
  | 24, _, A => run_closed mixed (rounds := 100) (n := 4) (by kernel_rfl) (by kernel_rfl) (by kernel_rfl) A
  | m + 25, h, _ => absurd h (by omega)

end Go.Am.Try
