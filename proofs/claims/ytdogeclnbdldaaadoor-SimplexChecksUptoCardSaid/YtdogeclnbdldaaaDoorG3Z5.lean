/- What the proofs ask of the program's types. -/
import Derived.Test.YtdogeclnbdldaaaDoorG1Z5
import Derived.Test.YtdogeclnbdldaaaDoorProg
import Derived.BigRegion
set_option maxRecDepth 100000
set_option maxHeartbeats 8000000
set_option linter.unusedVariables false
set_option linter.unusedSimpArgs false
namespace Go.Am.Tryd
open Go Go.Am Go.Proofs
theorem in2 : intT Tryd.prog 2 = some Go.IntKind.i64 := by kernel_rfl
theorem sz3 : szT Tryd.prog 3 = some 1 := by kernel_rfl
theorem ze3 : (Tryd.prog.info? 3).bind (·.zero) = some (Go.Value.int Go.IntKind.i64 0) := by kernel_rfl
theorem ag3 : z2v Tryd.prog 3 = some false := by kernel_rfl
theorem by3 : ((Tryd.prog.info? 3).map (·.bytes)) = some 8 := by kernel_rfl
theorem in3 : intT Tryd.prog 3 = some Go.IntKind.i64 := by kernel_rfl
theorem sz5 : szT Tryd.prog 5 = some 1 := by kernel_rfl
theorem ze5 : (Tryd.prog.info? 5).bind (·.zero) = some (Go.Value.int Go.IntKind.u8 0) := by kernel_rfl
theorem ag5 : z2v Tryd.prog 5 = some false := by kernel_rfl
theorem by5 : ((Tryd.prog.info? 5).map (·.bytes)) = some 1 := by kernel_rfl
theorem in5 : intT Tryd.prog 5 = some Go.IntKind.u8 := by kernel_rfl
theorem un9 : Tryd.prog.underlying 9 = some Go.TypeDesc.string := by kernel_rfl
theorem el22 : z6q Tryd.prog 22 = some 25 := by kernel_rfl
theorem sz23 : szT Tryd.prog 23 = some 1 := by kernel_rfl
theorem ag23 : z2v Tryd.prog 23 = some false := by kernel_rfl
theorem el23 : z6q Tryd.prog 23 = some 25 := by kernel_rfl
theorem sz25 : szT Tryd.prog 25 = some 1 := by kernel_rfl
theorem ag25 : z2v Tryd.prog 25 = some false := by kernel_rfl
theorem sz26 : szT Tryd.prog 26 = some 1 := by kernel_rfl
theorem ze26 : (Tryd.prog.info? 26).bind (·.zero) = some (Go.Value.int Go.IntKind.i64 0) := by kernel_rfl
theorem ag26 : z2v Tryd.prog 26 = some false := by kernel_rfl
theorem ag36 : z2v Tryd.prog 36 = some false := by kernel_rfl
theorem el36 : z6q Tryd.prog 36 = some 23 := by kernel_rfl
theorem sz43 : szT Tryd.prog 43 = some 3 := by kernel_rfl
theorem ag43 : z2v Tryd.prog 43 = some true := by kernel_rfl
theorem z7s : fldT Tryd.prog 43 0 = some 0 := by kernel_rfl
theorem zee : fldT Tryd.prog 43 1 = some 1 := by kernel_rfl
theorem zbf : fldT Tryd.prog 43 2 = some 2 := by kernel_rfl
theorem sz46 : szT Tryd.prog 46 = some 5 := by kernel_rfl
theorem ze46 : (Tryd.prog.info? 46).bind (·.zero) = some (Go.Value.agg #[Go.Value.int Go.IntKind.i64 0, Go.Value.slice none 0 0, Go.Value.slice none 0 0, Go.Value.slice none 0 0, Go.Value.string { data := #[] }]) := by kernel_rfl
theorem ag46 : z2v Tryd.prog 46 = some true := by kernel_rfl
theorem zo46 : zby Tryd.prog 46 = true := by kernel_rfl
theorem pl46 : plcT Tryd.prog 46 = some [(0, 1), (1, 1), (2, 1), (3, 1), (4, 1)] := by kernel_rfl
theorem zia : fldT Tryd.prog 46 0 = some 0 := by kernel_rfl
theorem zib : fldT Tryd.prog 46 1 = some 1 := by kernel_rfl
theorem zic : fldT Tryd.prog 46 2 = some 2 := by kernel_rfl
theorem zid : fldT Tryd.prog 46 3 = some 3 := by kernel_rfl
theorem zie : fldT Tryd.prog 46 4 = some 4 := by kernel_rfl
theorem ni63 : z7p Tryd.prog 63 = true := by kernel_rfl
theorem el63 : z6q Tryd.prog 63 = some 145 := by kernel_rfl
theorem el71 : z6q Tryd.prog 71 = some 26 := by kernel_rfl
theorem ni96 : z7p Tryd.prog 96 = true := by kernel_rfl
theorem el96 : z6q Tryd.prog 96 = some 3 := by kernel_rfl
theorem z3g : szT Tryd.prog 145 = some 1 := by kernel_rfl
theorem zaq : (Tryd.prog.info? 145).bind (·.zero) = some (Go.Value.int Go.IntKind.u32 0) := by kernel_rfl
theorem z7m : z2v Tryd.prog 145 = some false := by kernel_rfl
theorem zg4 : ((Tryd.prog.info? 145).map (·.bytes)) = some 4 := by kernel_rfl
theorem z6h : intT Tryd.prog 145 = some Go.IntKind.u32 := by kernel_rfl
theorem z7n : intT Tryd.prog 146 = some Go.IntKind.u64 := by kernel_rfl
theorem zef : z6q Tryd.prog 149 = some 5 := by kernel_rfl
theorem mixed : Tryd.prog.follows .mixedOrders = true := by kernel_rfl
end Go.Am.Tryd
