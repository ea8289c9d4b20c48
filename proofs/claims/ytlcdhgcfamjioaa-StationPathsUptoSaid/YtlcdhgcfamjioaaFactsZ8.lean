/- What the proofs ask of the program's types. -/
import Derived.Test.YtlcdhgcfamjioaaBxGZ8
import Derived.Test.YtlcdhgcfamjioaaProg
import Derived.BigRegion
namespace Go.Am.Try
open Go Go.Am Go.Proofs
theorem sz3 : szT Try.prog 3 = some 1 := by kernel_rfl
theorem ze3 : (Try.prog.info? 3).bind (·.zero) = some (Go.Value.int Go.IntKind.i64 0) := by kernel_rfl
theorem ag3 : isAggT Try.prog 3 = some false := by kernel_rfl
theorem by3 : ((Try.prog.info? 3).map (·.bytes)) = some 8 := by kernel_rfl
theorem in3 : intT Try.prog 3 = some Go.IntKind.i64 := by kernel_rfl
theorem sz4 : szT Try.prog 4 = some 1 := by kernel_rfl
theorem ze4 : (Try.prog.info? 4).bind (·.zero) = some (Go.Value.bool false) := by kernel_rfl
theorem ag4 : isAggT Try.prog 4 = some false := by kernel_rfl
theorem by4 : ((Try.prog.info? 4).map (·.bytes)) = some 1 := by kernel_rfl
theorem un4 : Try.prog.underlying 4 = some Go.TypeDesc.bool := by kernel_rfl
theorem sz5 : szT Try.prog 5 = some 1 := by kernel_rfl
theorem ag5 : isAggT Try.prog 5 = some false := by kernel_rfl
theorem in5 : intT Try.prog 5 = some Go.IntKind.u8 := by kernel_rfl
theorem sz9 : szT Try.prog 9 = some 1 := by kernel_rfl
theorem ze9 : (Try.prog.info? 9).bind (·.zero) = some (Go.Value.string { data := #[] }) := by kernel_rfl
theorem ag9 : isAggT Try.prog 9 = some false := by kernel_rfl
theorem by9 : ((Try.prog.info? 9).map (·.bytes)) = some 16 := by kernel_rfl
theorem un9 : Try.prog.underlying 9 = some Go.TypeDesc.string := by kernel_rfl
theorem sz22 : szT Try.prog 22 = some 1 := by kernel_rfl
theorem ze22 : (Try.prog.info? 22).bind (·.zero) = some (Go.Value.slice none 0 0) := by kernel_rfl
theorem ag22 : isAggT Try.prog 22 = some false := by kernel_rfl
theorem ni22 : notInt Try.prog 22 = true := by kernel_rfl
theorem el22 : elemT Try.prog 22 = some 29 := by kernel_rfl
theorem ni24 : notInt Try.prog 24 = true := by kernel_rfl
theorem el24 : elemT Try.prog 24 = some 3 := by kernel_rfl
theorem sz29 : szT Try.prog 29 = some 2 := by kernel_rfl
theorem ze29 : (Try.prog.info? 29).bind (·.zero) = some (Go.Value.agg #[Go.Value.int Go.IntKind.i64 0, Go.Value.int Go.IntKind.i64 0]) := by kernel_rfl
theorem ag29 : isAggT Try.prog 29 = some true := by kernel_rfl
theorem by29 : ((Try.prog.info? 29).map (·.bytes)) = some 16 := by kernel_rfl
theorem ar29 : arrT Try.prog 29 = some (2, 3) := by kernel_rfl
theorem zo29 : zeroOk Try.prog 29 = true := by kernel_rfl
theorem sz30 : szT Try.prog 30 = some 1 := by kernel_rfl
theorem ze30 : (Try.prog.info? 30).bind (·.zero) = some (Go.Value.slice none 0 0) := by kernel_rfl
theorem ag30 : isAggT Try.prog 30 = some false := by kernel_rfl
theorem by30 : ((Try.prog.info? 30).map (·.bytes)) = some 24 := by kernel_rfl
theorem el30 : elemT Try.prog 30 = some 4 := by kernel_rfl
theorem el31 : elemT Try.prog 31 = some 30 := by kernel_rfl
theorem ag33 : isAggT Try.prog 33 = some false := by kernel_rfl
theorem sz41 : szT Try.prog 41 = some 1 := by kernel_rfl
theorem ze41 : (Try.prog.info? 41).bind (·.zero) = some (Go.Value.slice none 0 0) := by kernel_rfl
theorem ag41 : isAggT Try.prog 41 = some false := by kernel_rfl
theorem ni41 : notInt Try.prog 41 = true := by kernel_rfl
theorem el41 : elemT Try.prog 41 = some 9 := by kernel_rfl
theorem ag42 : isAggT Try.prog 42 = some false := by kernel_rfl
theorem el42 : elemT Try.prog 42 = some 81 := by kernel_rfl
theorem ag43 : isAggT Try.prog 43 = some false := by kernel_rfl
theorem el43 : elemT Try.prog 43 = some 50 := by kernel_rfl
theorem ag44 : isAggT Try.prog 44 = some false := by kernel_rfl
theorem el44 : elemT Try.prog 44 = some 65 := by kernel_rfl
theorem ag45 : isAggT Try.prog 45 = some false := by kernel_rfl
theorem el45 : elemT Try.prog 45 = some 137 := by kernel_rfl
theorem ag46 : isAggT Try.prog 46 = some false := by kernel_rfl
theorem el46 : elemT Try.prog 46 = some 69 := by kernel_rfl
theorem sz48 : szT Try.prog 48 = some 6 := by kernel_rfl
theorem ag48 : isAggT Try.prog 48 = some true := by kernel_rfl
theorem fl48_0 : fldT Try.prog 48 0 = some 0 := by kernel_rfl
theorem fl48_1 : fldT Try.prog 48 1 = some 1 := by kernel_rfl
theorem fl48_2 : fldT Try.prog 48 2 = some 2 := by kernel_rfl
theorem fl48_3 : fldT Try.prog 48 3 = some 3 := by kernel_rfl
theorem fl48_4 : fldT Try.prog 48 4 = some 4 := by kernel_rfl
theorem fl48_5 : fldT Try.prog 48 5 = some 5 := by kernel_rfl
theorem sz50 : szT Try.prog 50 = some 9 := by kernel_rfl
theorem ze50 : (Try.prog.info? 50).bind (·.zero) = some (Go.Value.agg #[Go.Value.string { data := #[] }, Go.Value.string { data := #[] }, Go.Value.string { data := #[] }, Go.Value.int Go.IntKind.i64 0, Go.Value.int Go.IntKind.i64 0, Go.Value.int Go.IntKind.i64 0, Go.Value.int Go.IntKind.i64 0, Go.Value.int Go.IntKind.i64 0, Go.Value.int Go.IntKind.i64 0]) := by kernel_rfl
theorem ag50 : isAggT Try.prog 50 = some true := by kernel_rfl
theorem fl50_0 : fldT Try.prog 50 0 = some 0 := by kernel_rfl
theorem fl50_1 : fldT Try.prog 50 1 = some 1 := by kernel_rfl
theorem fl50_2 : fldT Try.prog 50 2 = some 2 := by kernel_rfl
theorem fl50_3 : fldT Try.prog 50 3 = some 3 := by kernel_rfl
theorem fl50_4 : fldT Try.prog 50 4 = some 4 := by kernel_rfl
theorem fl50_5 : fldT Try.prog 50 5 = some 5 := by kernel_rfl
theorem fl50_6 : fldT Try.prog 50 6 = some 6 := by kernel_rfl
theorem fl50_7 : fldT Try.prog 50 7 = some 7 := by kernel_rfl
theorem fl50_8 : fldT Try.prog 50 8 = some 8 := by kernel_rfl
theorem sz65 : szT Try.prog 65 = some 5 := by kernel_rfl
theorem ze65 : (Try.prog.info? 65).bind (·.zero) = some (Go.Value.agg #[Go.Value.string { data := #[] }, Go.Value.string { data := #[] }, Go.Value.int Go.IntKind.i64 0, Go.Value.int Go.IntKind.i64 0, Go.Value.int Go.IntKind.i64 0]) := by kernel_rfl
theorem ag65 : isAggT Try.prog 65 = some true := by kernel_rfl
theorem fl65_0 : fldT Try.prog 65 0 = some 0 := by kernel_rfl
theorem fl65_1 : fldT Try.prog 65 1 = some 1 := by kernel_rfl
theorem fl65_2 : fldT Try.prog 65 2 = some 2 := by kernel_rfl
theorem fl65_3 : fldT Try.prog 65 3 = some 3 := by kernel_rfl
theorem fl65_4 : fldT Try.prog 65 4 = some 4 := by kernel_rfl
theorem sz69 : szT Try.prog 69 = some 5 := by kernel_rfl
theorem ze69 : (Try.prog.info? 69).bind (·.zero) = some (Go.Value.agg #[Go.Value.string { data := #[] }, Go.Value.string { data := #[] }, Go.Value.int Go.IntKind.i64 0, Go.Value.int Go.IntKind.i64 0, Go.Value.int Go.IntKind.i64 0]) := by kernel_rfl
theorem ag69 : isAggT Try.prog 69 = some true := by kernel_rfl
theorem fl69_0 : fldT Try.prog 69 0 = some 0 := by kernel_rfl
theorem fl69_1 : fldT Try.prog 69 1 = some 1 := by kernel_rfl
theorem fl69_2 : fldT Try.prog 69 2 = some 2 := by kernel_rfl
theorem fl69_3 : fldT Try.prog 69 3 = some 3 := by kernel_rfl
theorem fl69_4 : fldT Try.prog 69 4 = some 4 := by kernel_rfl
theorem sz81 : szT Try.prog 81 = some 5 := by kernel_rfl
theorem ze81 : (Try.prog.info? 81).bind (·.zero) = some (Go.Value.agg #[Go.Value.string { data := #[] }, Go.Value.string { data := #[] }, Go.Value.string { data := #[] }, Go.Value.bool false, Go.Value.bool false]) := by kernel_rfl
theorem ag81 : isAggT Try.prog 81 = some true := by kernel_rfl
theorem fl81_0 : fldT Try.prog 81 0 = some 0 := by kernel_rfl
theorem fl81_1 : fldT Try.prog 81 1 = some 1 := by kernel_rfl
theorem fl81_2 : fldT Try.prog 81 2 = some 2 := by kernel_rfl
theorem fl81_4 : fldT Try.prog 81 4 = some 4 := by kernel_rfl
theorem sz95 : szT Try.prog 95 = some 1 := by kernel_rfl
theorem ze95 : (Try.prog.info? 95).bind (·.zero) = some Go.Value.nilFunc := by kernel_rfl
theorem ag95 : isAggT Try.prog 95 = some false := by kernel_rfl
theorem ze106 : (Try.prog.info? 106).bind (·.zero) = some (Go.Value.agg #[Go.Value.slice none 0 0]) := by kernel_rfl
theorem fl106_0 : fldT Try.prog 106 0 = some 0 := by kernel_rfl
theorem ni111 : notInt Try.prog 111 = true := by kernel_rfl
theorem el111 : elemT Try.prog 111 = some 114 := by kernel_rfl
theorem sz114 : szT Try.prog 114 = some 4 := by kernel_rfl
theorem ze114 : (Try.prog.info? 114).bind (·.zero) = some (Go.Value.agg #[Go.Value.string { data := #[] }, Go.Value.slice none 0 0, Go.Value.bool false, Go.Value.bool false]) := by kernel_rfl
theorem ag114 : isAggT Try.prog 114 = some true := by kernel_rfl
theorem by114 : ((Try.prog.info? 114).map (·.bytes)) = some 48 := by kernel_rfl
theorem zo114 : zeroOk Try.prog 114 = true := by kernel_rfl
theorem pl114 : plcT Try.prog 114 = some [(0, 1), (1, 1), (2, 1), (3, 1)] := by kernel_rfl
theorem fl114_0 : fldT Try.prog 114 0 = some 0 := by kernel_rfl
theorem fl114_1 : fldT Try.prog 114 1 = some 1 := by kernel_rfl
theorem fl114_2 : fldT Try.prog 114 2 = some 2 := by kernel_rfl
theorem fl114_3 : fldT Try.prog 114 3 = some 3 := by kernel_rfl
theorem el115 : elemT Try.prog 115 = some 5 := by kernel_rfl
theorem ze135 : (Try.prog.info? 135).bind (·.zero) = some (Go.Value.agg #[Go.Value.int Go.IntKind.i64 0, Go.Value.int Go.IntKind.i64 0, Go.Value.int Go.IntKind.i64 0, Go.Value.int Go.IntKind.i64 0]) := by kernel_rfl
theorem ar135 : arrT Try.prog 135 = some (2, 29) := by kernel_rfl
theorem zo135 : zeroOk Try.prog 135 = true := by kernel_rfl
theorem sz137 : szT Try.prog 137 = some 3 := by kernel_rfl
theorem ze137 : (Try.prog.info? 137).bind (·.zero) = some (Go.Value.agg #[Go.Value.string { data := #[] }, Go.Value.string { data := #[] }, Go.Value.int Go.IntKind.i64 0]) := by kernel_rfl
theorem ag137 : isAggT Try.prog 137 = some true := by kernel_rfl
theorem fl137_0 : fldT Try.prog 137 0 = some 0 := by kernel_rfl
theorem fl137_1 : fldT Try.prog 137 1 = some 1 := by kernel_rfl
theorem fl137_2 : fldT Try.prog 137 2 = some 2 := by kernel_rfl
theorem in163 : intT Try.prog 163 = some Go.IntKind.u64 := by kernel_rfl
theorem mixed : Try.prog.follows .mixedOrders = true := by kernel_rfl
end Go.Am.Try
