/- Reads in an open region through a pointer that is known only by an equation. -/
import Derived.Test.YtlcdhgcfamjioaaBxGZ8
namespace Go.Am
open Go
theorem fa_px {v w : Value} {A B : AH} (h : v = w) (k : B.get (blkOf w) = A.get (blkOf w)) : B.get (blkOf v) = A.get (blkOf v) := by subst h; exact k
end Go.Am
