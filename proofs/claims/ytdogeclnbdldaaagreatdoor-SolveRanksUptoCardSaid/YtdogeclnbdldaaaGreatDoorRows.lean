/-
  NARROWER THAN 'FOR EVERY INPUT', by the rows' own cells (each row's printed sentence says how): LossChecks: laid · MatrixProducts: laid · MatrixDots: laid · MatrixSums: laid · SolveRanks: laid · SolveDets: laid · SolveSystems: laid · SimplexValues: laid.
  DERIVED. THE GIVEN ROWS OF THIS SEAT. 8 by the template 'for every input the law returns true; each argument reads behind the call as it read before'; 0 by the template 'total and deterministic' (their statements: YtdogeclnbdldaaaGreatDoorTotals.lean).
  GIVEN WITH THE SEED: the statements are not yours to turn. If you find one false, say at which input.
  Laid BY PROGRAM, IN A SANDBOX (cutbox-rows.mjs): the forced cells as the released guide's own fill.sh prints them over the translation ea97c1a82d5884e1… (all of the seat's roots in one cut). By AI agents, Wed Nov 11 2026. No macro, syntax, notation, axiom, sorry.
-/
import Derived.Test.YtdogeclnbdldaaaGreatDoorChecked
import GoSem.PinnedTables
import GoSem.Claim
import GoSem.ClaimJoined
import GoSem.ClaimMapViews
import Derived.JoinedTies
import Derived.KernelRfl
namespace Go.Proofs.YtdogeclnbdldaaaGreatDoor
/- THE CELL 'sum', in the pinned program and in every row, IS THE sha256 OF THE DUMP (.gsa) THAT YtdogeclnbdldaaaGreatDoorProg.lean LOADS. Nothing in Lean hashes anything: it is a label: what it is worth is what the hold of that sum in a sandbox is worth. -/
noncomputable def Tryz.pinned : Pinned := { name := "ytdogeclnbdldaaagreatdoor", sum := "ea97c1a82d5884e1cd678fbc5edc76c24e9a31b5e597655a3fc135565bb26b63", checked := Tryz.checked }
namespace Rows
def none {H : Type} : Left H := { results := [], args := [] }

/- WHAT THE LISTED PACKAGE-LEVEL VARIABLES READ AS WHEN THE CALL BEGINS. Each datum BY PROGRAM (the guide's laid-datum.mjs) off the statement by which the dump's own 'gosem.cut.vars' lays the variable. In a bare row this is a premise. The card (YtdogeclnbdldaaaGreatDoorCards.lean) ties it to the program's text. -/
def laid_unicode_utf8_acceptRanges {H : Type} : DataW H := .agg [.agg [.lit (.int .u8 128), .lit (.int .u8 191)], .agg [.lit (.int .u8 160), .lit (.int .u8 191)], .agg [.lit (.int .u8 128), .lit (.int .u8 159)], .agg [.lit (.int .u8 144), .lit (.int .u8 191)], .agg [.lit (.int .u8 128), .lit (.int .u8 143)], .agg [.lit (.int .u8 0), .lit (.int .u8 0)], .agg [.lit (.int .u8 0), .lit (.int .u8 0)], .agg [.lit (.int .u8 0), .lit (.int .u8 0)], .agg [.lit (.int .u8 0), .lit (.int .u8 0)], .agg [.lit (.int .u8 0), .lit (.int .u8 0)], .agg [.lit (.int .u8 0), .lit (.int .u8 0)], .agg [.lit (.int .u8 0), .lit (.int .u8 0)], .agg [.lit (.int .u8 0), .lit (.int .u8 0)], .agg [.lit (.int .u8 0), .lit (.int .u8 0)], .agg [.lit (.int .u8 0), .lit (.int .u8 0)], .agg [.lit (.int .u8 0), .lit (.int .u8 0)]]
/-- One of Go's own tables, pinned by name: the form's constant. -/
def laid_unicode_utf8_first : DataW Unit := Go.Pinned.utf8First

/-- 'gridhalllaw1.LossChecks': WHATEVER THE INPUT: true; the input reads as it did. -/
def lossChecksSpec : ChangeSpec := { name := "lossChecks", fn := fun _ => fun
  | [d1, d2, d3] => { results := [.lit (.bool true)], args := [d1, d2, d3] }
  | _ => none }
def lossChecksRow : OpenClaim := { program := "ytdogeclnbdldaaagreatdoor", sum := "ea97c1a82d5884e1cd678fbc5edc76c24e9a31b5e597655a3fc135565bb26b63", func := "gridhall/gridhalllaw1.LossChecks", spec := "lossChecks", inPlace := ["internal/bytealg.IndexByteString", "internal/bytealg.IndexString"], unfollowed := true, recurses := true, named := ["internal/bytealg.MaxLen", "unicode/utf8.first", "unicode/utf8.acceptRanges"], apart := false, laid := [("unicode/utf8.acceptRanges", laid_unicode_utf8_acceptRanges), ("unicode/utf8.first", laid_unicode_utf8_first)] }
def LossChecksSaid : Prop := lossChecksRow.holds Tryz.pinned (OpenSpec.ofChange lossChecksSpec)

/-- ITS FALSE NEIGHBOUR: 'it returns false'. Refute it at one input. -/
def lossChecksWrong : ChangeSpec := { name := "lossChecks", fn := fun _ => fun
  | [d1, d2, d3] => { results := [.lit (.bool false)], args := [d1, d2, d3] }
  | _ => none }
def LossChecksWrongFalsely : Prop := lossChecksRow.holds Tryz.pinned (OpenSpec.ofChange lossChecksWrong)

/-- 'gridhalllaw1.MatrixProducts': WHATEVER THE INPUT: true; the input reads as it did. -/
def matrixProductsSpec : ChangeSpec := { name := "matrixProducts", fn := fun _ => fun
  | [d1, d2, d3] => { results := [.lit (.bool true)], args := [d1, d2, d3] }
  | _ => none }
def matrixProductsRow : OpenClaim := { program := "ytdogeclnbdldaaagreatdoor", sum := "ea97c1a82d5884e1cd678fbc5edc76c24e9a31b5e597655a3fc135565bb26b63", func := "gridhall/gridhalllaw1.MatrixProducts", spec := "matrixProducts", inPlace := ["internal/bytealg.IndexByteString", "internal/bytealg.IndexString"], unfollowed := true, recurses := true, named := ["internal/bytealg.MaxLen", "unicode/utf8.first", "unicode/utf8.acceptRanges"], apart := false, laid := [("unicode/utf8.acceptRanges", laid_unicode_utf8_acceptRanges), ("unicode/utf8.first", laid_unicode_utf8_first)] }
def MatrixProductsSaid : Prop := matrixProductsRow.holds Tryz.pinned (OpenSpec.ofChange matrixProductsSpec)

/-- ITS FALSE NEIGHBOUR: 'it returns false'. Refute it at one input. -/
def matrixProductsWrong : ChangeSpec := { name := "matrixProducts", fn := fun _ => fun
  | [d1, d2, d3] => { results := [.lit (.bool false)], args := [d1, d2, d3] }
  | _ => none }
def MatrixProductsWrongFalsely : Prop := matrixProductsRow.holds Tryz.pinned (OpenSpec.ofChange matrixProductsWrong)

/-- 'gridhalllaw1.MatrixDots': WHATEVER THE INPUT: true; the input reads as it did. -/
def matrixDotsSpec : ChangeSpec := { name := "matrixDots", fn := fun _ => fun
  | [d1, d2] => { results := [.lit (.bool true)], args := [d1, d2] }
  | _ => none }
def matrixDotsRow : OpenClaim := { program := "ytdogeclnbdldaaagreatdoor", sum := "ea97c1a82d5884e1cd678fbc5edc76c24e9a31b5e597655a3fc135565bb26b63", func := "gridhall/gridhalllaw1.MatrixDots", spec := "matrixDots", inPlace := ["internal/bytealg.IndexByteString", "internal/bytealg.IndexString"], unfollowed := true, recurses := true, named := ["internal/bytealg.MaxLen", "unicode/utf8.first", "unicode/utf8.acceptRanges"], apart := false, laid := [("unicode/utf8.acceptRanges", laid_unicode_utf8_acceptRanges), ("unicode/utf8.first", laid_unicode_utf8_first)] }
def MatrixDotsSaid : Prop := matrixDotsRow.holds Tryz.pinned (OpenSpec.ofChange matrixDotsSpec)

/-- ITS FALSE NEIGHBOUR: 'it returns false'. Refute it at one input. -/
def matrixDotsWrong : ChangeSpec := { name := "matrixDots", fn := fun _ => fun
  | [d1, d2] => { results := [.lit (.bool false)], args := [d1, d2] }
  | _ => none }
def MatrixDotsWrongFalsely : Prop := matrixDotsRow.holds Tryz.pinned (OpenSpec.ofChange matrixDotsWrong)

/-- 'gridhalllaw1.MatrixSums': WHATEVER THE INPUT: true; the input reads as it did. -/
def matrixSumsSpec : ChangeSpec := { name := "matrixSums", fn := fun _ => fun
  | [d1, d2, d3, d4] => { results := [.lit (.bool true)], args := [d1, d2, d3, d4] }
  | _ => none }
def matrixSumsRow : OpenClaim := { program := "ytdogeclnbdldaaagreatdoor", sum := "ea97c1a82d5884e1cd678fbc5edc76c24e9a31b5e597655a3fc135565bb26b63", func := "gridhall/gridhalllaw1.MatrixSums", spec := "matrixSums", inPlace := ["internal/bytealg.IndexByteString", "internal/bytealg.IndexString"], unfollowed := true, recurses := true, named := ["internal/bytealg.MaxLen", "unicode/utf8.first", "unicode/utf8.acceptRanges"], apart := false, laid := [("unicode/utf8.acceptRanges", laid_unicode_utf8_acceptRanges), ("unicode/utf8.first", laid_unicode_utf8_first)] }
def MatrixSumsSaid : Prop := matrixSumsRow.holds Tryz.pinned (OpenSpec.ofChange matrixSumsSpec)

/-- ITS FALSE NEIGHBOUR: 'it returns false'. Refute it at one input. -/
def matrixSumsWrong : ChangeSpec := { name := "matrixSums", fn := fun _ => fun
  | [d1, d2, d3, d4] => { results := [.lit (.bool false)], args := [d1, d2, d3, d4] }
  | _ => none }
def MatrixSumsWrongFalsely : Prop := matrixSumsRow.holds Tryz.pinned (OpenSpec.ofChange matrixSumsWrong)

/-- 'gridhalllaw1.SolveRanks': WHATEVER THE INPUT: true; the input reads as it did. -/
def solveRanksSpec : ChangeSpec := { name := "solveRanks", fn := fun _ => fun
  | [d] => { results := [.lit (.bool true)], args := [d] }
  | _ => none }
def solveRanksRow : OpenClaim := { program := "ytdogeclnbdldaaagreatdoor", sum := "ea97c1a82d5884e1cd678fbc5edc76c24e9a31b5e597655a3fc135565bb26b63", func := "gridhall/gridhalllaw1.SolveRanks", spec := "solveRanks", inPlace := ["internal/bytealg.IndexByteString", "internal/bytealg.IndexString"], unfollowed := true, recurses := true, named := ["internal/bytealg.MaxLen", "unicode/utf8.first", "unicode/utf8.acceptRanges"], apart := false, laid := [("unicode/utf8.acceptRanges", laid_unicode_utf8_acceptRanges), ("unicode/utf8.first", laid_unicode_utf8_first)] }
def SolveRanksSaid : Prop := solveRanksRow.holds Tryz.pinned (OpenSpec.ofChange solveRanksSpec)

/-- ITS FALSE NEIGHBOUR: 'it returns false'. Refute it at one input. -/
def solveRanksWrong : ChangeSpec := { name := "solveRanks", fn := fun _ => fun
  | [d] => { results := [.lit (.bool false)], args := [d] }
  | _ => none }
def SolveRanksWrongFalsely : Prop := solveRanksRow.holds Tryz.pinned (OpenSpec.ofChange solveRanksWrong)

/-- 'gridhalllaw1.SolveDets': WHATEVER THE INPUT: true; the input reads as it did. -/
def solveDetsSpec : ChangeSpec := { name := "solveDets", fn := fun _ => fun
  | [d] => { results := [.lit (.bool true)], args := [d] }
  | _ => none }
def solveDetsRow : OpenClaim := { program := "ytdogeclnbdldaaagreatdoor", sum := "ea97c1a82d5884e1cd678fbc5edc76c24e9a31b5e597655a3fc135565bb26b63", func := "gridhall/gridhalllaw1.SolveDets", spec := "solveDets", inPlace := ["internal/bytealg.IndexByteString", "internal/bytealg.IndexString"], unfollowed := true, recurses := true, named := ["internal/bytealg.MaxLen", "unicode/utf8.first", "unicode/utf8.acceptRanges"], apart := false, laid := [("unicode/utf8.acceptRanges", laid_unicode_utf8_acceptRanges), ("unicode/utf8.first", laid_unicode_utf8_first)] }
def SolveDetsSaid : Prop := solveDetsRow.holds Tryz.pinned (OpenSpec.ofChange solveDetsSpec)

/-- ITS FALSE NEIGHBOUR: 'it returns false'. Refute it at one input. -/
def solveDetsWrong : ChangeSpec := { name := "solveDets", fn := fun _ => fun
  | [d] => { results := [.lit (.bool false)], args := [d] }
  | _ => none }
def SolveDetsWrongFalsely : Prop := solveDetsRow.holds Tryz.pinned (OpenSpec.ofChange solveDetsWrong)

/-- 'gridhalllaw1.SolveSystems': WHATEVER THE INPUT: true; the input reads as it did. -/
def solveSystemsSpec : ChangeSpec := { name := "solveSystems", fn := fun _ => fun
  | [d1, d2] => { results := [.lit (.bool true)], args := [d1, d2] }
  | _ => none }
def solveSystemsRow : OpenClaim := { program := "ytdogeclnbdldaaagreatdoor", sum := "ea97c1a82d5884e1cd678fbc5edc76c24e9a31b5e597655a3fc135565bb26b63", func := "gridhall/gridhalllaw1.SolveSystems", spec := "solveSystems", inPlace := ["internal/bytealg.IndexByteString", "internal/bytealg.IndexString"], unfollowed := true, recurses := true, named := ["internal/bytealg.MaxLen", "unicode/utf8.first", "unicode/utf8.acceptRanges"], apart := false, laid := [("unicode/utf8.acceptRanges", laid_unicode_utf8_acceptRanges), ("unicode/utf8.first", laid_unicode_utf8_first)] }
def SolveSystemsSaid : Prop := solveSystemsRow.holds Tryz.pinned (OpenSpec.ofChange solveSystemsSpec)

/-- ITS FALSE NEIGHBOUR: 'it returns false'. Refute it at one input. -/
def solveSystemsWrong : ChangeSpec := { name := "solveSystems", fn := fun _ => fun
  | [d1, d2] => { results := [.lit (.bool false)], args := [d1, d2] }
  | _ => none }
def SolveSystemsWrongFalsely : Prop := solveSystemsRow.holds Tryz.pinned (OpenSpec.ofChange solveSystemsWrong)

/-- 'gridhalllaw1.SimplexValues': WHATEVER THE INPUT: true; the input reads as it did. -/
def simplexValuesSpec : ChangeSpec := { name := "simplexValues", fn := fun _ => fun
  | [d] => { results := [.lit (.bool true)], args := [d] }
  | _ => none }
def simplexValuesRow : OpenClaim := { program := "ytdogeclnbdldaaagreatdoor", sum := "ea97c1a82d5884e1cd678fbc5edc76c24e9a31b5e597655a3fc135565bb26b63", func := "gridhall/gridhalllaw1.SimplexValues", spec := "simplexValues", inPlace := ["internal/bytealg.IndexByteString", "internal/bytealg.IndexString"], unfollowed := true, recurses := true, named := ["internal/bytealg.MaxLen", "unicode/utf8.first", "unicode/utf8.acceptRanges"], apart := false, laid := [("unicode/utf8.acceptRanges", laid_unicode_utf8_acceptRanges), ("unicode/utf8.first", laid_unicode_utf8_first)] }
def SimplexValuesSaid : Prop := simplexValuesRow.holds Tryz.pinned (OpenSpec.ofChange simplexValuesSpec)

/-- ITS FALSE NEIGHBOUR: 'it returns false'. Refute it at one input. -/
def simplexValuesWrong : ChangeSpec := { name := "simplexValues", fn := fun _ => fun
  | [d] => { results := [.lit (.bool false)], args := [d] }
  | _ => none }
def SimplexValuesWrongFalsely : Prop := simplexValuesRow.holds Tryz.pinned (OpenSpec.ofChange simplexValuesWrong)

/- THE SECOND FORM. 'bulk': how many values and letters a reading holds, each counted each time it is reached (what is shared counts as often as it is met; a slice's spare places count too). A statement '..UptoSaid' is the law's where the arguments, and the package variables that the reading takes, are together of bulk at most 1048576: NARROWER than '..Said'. Prove '..Said' where nothing that the law and all that it calls make is longer than what came in: it says more and counts as full. Else prove '..UptoSaid'. A law counts once. -/
mutual
def uptoBulk {H : Type} : DataW H → Nat
  | .lit (.string bytes) => bytes.length + 1
  | .lit _ => 1
  | .nil => 1
  | .ptr d => uptoBulk d + 1
  | .slice elems spare => uptoBulkAll elems + uptoBulkAll spare + 1
  | .agg parts => uptoBulkAll parts + 1
  | .iface _ d => uptoBulk d + 1
  | .map entries => uptoBulkEntries entries + 1
  | .held _ => 1
def uptoBulkAll {H : Type} : List (DataW H) → Nat
  | [] => 0
  | d :: r => uptoBulk d + uptoBulkAll r
def uptoBulkEntries {H : Type} : List (Lit × DataW H) → Nat
  | [] => 0
  | x :: r => uptoBulkEntry x + uptoBulkEntries r
def uptoBulkEntry {H : Type} : Lit × DataW H → Nat
  | (.string bytes, d) => bytes.length + uptoBulk d + 1
  | (_, d) => uptoBulk d + 1
 end
def uptoSmall : (H : Type) → List (DataW H) → Bool := fun _ ds => decide (uptoBulkAll ds ≤ 1048576)
def OpenSpec.upto (s : _root_.Go.ChangeSpec) : _root_.Go.OpenSpec := { _root_.Go.OpenSpec.ofChange s with cond := some uptoSmall }

/-- 'gridhalllaw1.LossChecks', WHERE WHAT IT READS IS OF BULK AT MOST 1048576: true; the input reads as it did. -/
def lossChecksUptoRow : OpenClaim := { program := "ytdogeclnbdldaaagreatdoor", sum := "ea97c1a82d5884e1cd678fbc5edc76c24e9a31b5e597655a3fc135565bb26b63", func := "gridhall/gridhalllaw1.LossChecks", spec := "lossChecks", inPlace := ["internal/bytealg.IndexByteString", "internal/bytealg.IndexString"], unfollowed := true, recurses := true, named := ["internal/bytealg.MaxLen", "unicode/utf8.first", "unicode/utf8.acceptRanges"], apart := false, laid := [("unicode/utf8.acceptRanges", laid_unicode_utf8_acceptRanges), ("unicode/utf8.first", laid_unicode_utf8_first)], narrowed := true }
def LossChecksUptoSaid : Prop := lossChecksUptoRow.holds Tryz.pinned (OpenSpec.upto lossChecksSpec)

/-- 'gridhalllaw1.MatrixProducts', WHERE WHAT IT READS IS OF BULK AT MOST 1048576: true; the input reads as it did. -/
def matrixProductsUptoRow : OpenClaim := { program := "ytdogeclnbdldaaagreatdoor", sum := "ea97c1a82d5884e1cd678fbc5edc76c24e9a31b5e597655a3fc135565bb26b63", func := "gridhall/gridhalllaw1.MatrixProducts", spec := "matrixProducts", inPlace := ["internal/bytealg.IndexByteString", "internal/bytealg.IndexString"], unfollowed := true, recurses := true, named := ["internal/bytealg.MaxLen", "unicode/utf8.first", "unicode/utf8.acceptRanges"], apart := false, laid := [("unicode/utf8.acceptRanges", laid_unicode_utf8_acceptRanges), ("unicode/utf8.first", laid_unicode_utf8_first)], narrowed := true }
def MatrixProductsUptoSaid : Prop := matrixProductsUptoRow.holds Tryz.pinned (OpenSpec.upto matrixProductsSpec)

/-- 'gridhalllaw1.MatrixDots', WHERE WHAT IT READS IS OF BULK AT MOST 1048576: true; the input reads as it did. -/
def matrixDotsUptoRow : OpenClaim := { program := "ytdogeclnbdldaaagreatdoor", sum := "ea97c1a82d5884e1cd678fbc5edc76c24e9a31b5e597655a3fc135565bb26b63", func := "gridhall/gridhalllaw1.MatrixDots", spec := "matrixDots", inPlace := ["internal/bytealg.IndexByteString", "internal/bytealg.IndexString"], unfollowed := true, recurses := true, named := ["internal/bytealg.MaxLen", "unicode/utf8.first", "unicode/utf8.acceptRanges"], apart := false, laid := [("unicode/utf8.acceptRanges", laid_unicode_utf8_acceptRanges), ("unicode/utf8.first", laid_unicode_utf8_first)], narrowed := true }
def MatrixDotsUptoSaid : Prop := matrixDotsUptoRow.holds Tryz.pinned (OpenSpec.upto matrixDotsSpec)

/-- 'gridhalllaw1.MatrixSums', WHERE WHAT IT READS IS OF BULK AT MOST 1048576: true; the input reads as it did. -/
def matrixSumsUptoRow : OpenClaim := { program := "ytdogeclnbdldaaagreatdoor", sum := "ea97c1a82d5884e1cd678fbc5edc76c24e9a31b5e597655a3fc135565bb26b63", func := "gridhall/gridhalllaw1.MatrixSums", spec := "matrixSums", inPlace := ["internal/bytealg.IndexByteString", "internal/bytealg.IndexString"], unfollowed := true, recurses := true, named := ["internal/bytealg.MaxLen", "unicode/utf8.first", "unicode/utf8.acceptRanges"], apart := false, laid := [("unicode/utf8.acceptRanges", laid_unicode_utf8_acceptRanges), ("unicode/utf8.first", laid_unicode_utf8_first)], narrowed := true }
def MatrixSumsUptoSaid : Prop := matrixSumsUptoRow.holds Tryz.pinned (OpenSpec.upto matrixSumsSpec)

/-- 'gridhalllaw1.SolveRanks', WHERE WHAT IT READS IS OF BULK AT MOST 1048576: true; the input reads as it did. -/
def solveRanksUptoRow : OpenClaim := { program := "ytdogeclnbdldaaagreatdoor", sum := "ea97c1a82d5884e1cd678fbc5edc76c24e9a31b5e597655a3fc135565bb26b63", func := "gridhall/gridhalllaw1.SolveRanks", spec := "solveRanks", inPlace := ["internal/bytealg.IndexByteString", "internal/bytealg.IndexString"], unfollowed := true, recurses := true, named := ["internal/bytealg.MaxLen", "unicode/utf8.first", "unicode/utf8.acceptRanges"], apart := false, laid := [("unicode/utf8.acceptRanges", laid_unicode_utf8_acceptRanges), ("unicode/utf8.first", laid_unicode_utf8_first)], narrowed := true }
def SolveRanksUptoSaid : Prop := solveRanksUptoRow.holds Tryz.pinned (OpenSpec.upto solveRanksSpec)

/-- 'gridhalllaw1.SolveDets', WHERE WHAT IT READS IS OF BULK AT MOST 1048576: true; the input reads as it did. -/
def solveDetsUptoRow : OpenClaim := { program := "ytdogeclnbdldaaagreatdoor", sum := "ea97c1a82d5884e1cd678fbc5edc76c24e9a31b5e597655a3fc135565bb26b63", func := "gridhall/gridhalllaw1.SolveDets", spec := "solveDets", inPlace := ["internal/bytealg.IndexByteString", "internal/bytealg.IndexString"], unfollowed := true, recurses := true, named := ["internal/bytealg.MaxLen", "unicode/utf8.first", "unicode/utf8.acceptRanges"], apart := false, laid := [("unicode/utf8.acceptRanges", laid_unicode_utf8_acceptRanges), ("unicode/utf8.first", laid_unicode_utf8_first)], narrowed := true }
def SolveDetsUptoSaid : Prop := solveDetsUptoRow.holds Tryz.pinned (OpenSpec.upto solveDetsSpec)

/-- 'gridhalllaw1.SolveSystems', WHERE WHAT IT READS IS OF BULK AT MOST 1048576: true; the input reads as it did. -/
def solveSystemsUptoRow : OpenClaim := { program := "ytdogeclnbdldaaagreatdoor", sum := "ea97c1a82d5884e1cd678fbc5edc76c24e9a31b5e597655a3fc135565bb26b63", func := "gridhall/gridhalllaw1.SolveSystems", spec := "solveSystems", inPlace := ["internal/bytealg.IndexByteString", "internal/bytealg.IndexString"], unfollowed := true, recurses := true, named := ["internal/bytealg.MaxLen", "unicode/utf8.first", "unicode/utf8.acceptRanges"], apart := false, laid := [("unicode/utf8.acceptRanges", laid_unicode_utf8_acceptRanges), ("unicode/utf8.first", laid_unicode_utf8_first)], narrowed := true }
def SolveSystemsUptoSaid : Prop := solveSystemsUptoRow.holds Tryz.pinned (OpenSpec.upto solveSystemsSpec)

/-- 'gridhalllaw1.SimplexValues', WHERE WHAT IT READS IS OF BULK AT MOST 1048576: true; the input reads as it did. -/
def simplexValuesUptoRow : OpenClaim := { program := "ytdogeclnbdldaaagreatdoor", sum := "ea97c1a82d5884e1cd678fbc5edc76c24e9a31b5e597655a3fc135565bb26b63", func := "gridhall/gridhalllaw1.SimplexValues", spec := "simplexValues", inPlace := ["internal/bytealg.IndexByteString", "internal/bytealg.IndexString"], unfollowed := true, recurses := true, named := ["internal/bytealg.MaxLen", "unicode/utf8.first", "unicode/utf8.acceptRanges"], apart := false, laid := [("unicode/utf8.acceptRanges", laid_unicode_utf8_acceptRanges), ("unicode/utf8.first", laid_unicode_utf8_first)], narrowed := true }
def SimplexValuesUptoSaid : Prop := simplexValuesUptoRow.holds Tryz.pinned (OpenSpec.upto simplexValuesSpec)

end Rows
end Go.Proofs.YtdogeclnbdldaaaGreatDoor
