/- What the proofs ask of the program's types. -/
import Derived.Test.YtlcdhgcfamjioaaAmW
import Derived.Test.YtlcdhgcfamjioaaProg
import Derived.BigRegion
namespace Go.Am.Try
open Go Go.Am Go.Proofs
theorem sz2 : szT Try.prog 2 = some 1 := by kernel_rfl
theorem ze2 : (Try.prog.info? 2).bind (·.zero) = some (Go.Value.int Go.IntKind.i64 0) := by kernel_rfl
theorem ag2 : isAggT Try.prog 2 = some false := by kernel_rfl
theorem by2 : ((Try.prog.info? 2).map (·.bytes)) = some 8 := by kernel_rfl
theorem in2 : intT Try.prog 2 = some Go.IntKind.i64 := by kernel_rfl
theorem sz3 : szT Try.prog 3 = some 1 := by kernel_rfl
theorem ze3 : (Try.prog.info? 3).bind (·.zero) = some (Go.Value.int Go.IntKind.i64 0) := by kernel_rfl
theorem ag3 : isAggT Try.prog 3 = some false := by kernel_rfl
theorem by3 : ((Try.prog.info? 3).map (·.bytes)) = some 8 := by kernel_rfl
theorem in3 : intT Try.prog 3 = some Go.IntKind.i64 := by kernel_rfl
theorem sz4 : szT Try.prog 4 = some 1 := by kernel_rfl
theorem ze4 : (Try.prog.info? 4).bind (·.zero) = some (Go.Value.bool false) := by kernel_rfl
theorem ag4 : isAggT Try.prog 4 = some false := by kernel_rfl
theorem by4 : ((Try.prog.info? 4).map (·.bytes)) = some 1 := by kernel_rfl
theorem un4 : Try.prog.underlying 4 = some Go.TypeDesc.bool := by kernel_rfl
theorem sz5 : szT Try.prog 5 = some 1 := by kernel_rfl
theorem ze5 : (Try.prog.info? 5).bind (·.zero) = some (Go.Value.int Go.IntKind.u8 0) := by kernel_rfl
theorem ag5 : isAggT Try.prog 5 = some false := by kernel_rfl
theorem by5 : ((Try.prog.info? 5).map (·.bytes)) = some 1 := by kernel_rfl
theorem in5 : intT Try.prog 5 = some Go.IntKind.u8 := by kernel_rfl
theorem sz9 : szT Try.prog 9 = some 1 := by kernel_rfl
theorem ze9 : (Try.prog.info? 9).bind (·.zero) = some (Go.Value.string { data := #[] }) := by kernel_rfl
theorem ag9 : isAggT Try.prog 9 = some false := by kernel_rfl
theorem by9 : ((Try.prog.info? 9).map (·.bytes)) = some 16 := by kernel_rfl
theorem un9 : Try.prog.underlying 9 = some Go.TypeDesc.string := by kernel_rfl
theorem sz12 : szT Try.prog 12 = some 1 := by kernel_rfl
theorem ze12 : (Try.prog.info? 12).bind (·.zero) = some (Go.Value.int Go.IntKind.u64 0) := by kernel_rfl
theorem ag12 : isAggT Try.prog 12 = some false := by kernel_rfl
theorem by12 : ((Try.prog.info? 12).map (·.bytes)) = some 8 := by kernel_rfl
theorem in12 : intT Try.prog 12 = some Go.IntKind.u64 := by kernel_rfl
theorem sz13 : szT Try.prog 13 = some 2 := by kernel_rfl
theorem ze13 : (Try.prog.info? 13).bind (·.zero) = some (Go.Value.agg #[Go.Value.string { data := #[] }, Go.Value.int Go.IntKind.u64 0]) := by kernel_rfl
theorem ag13 : isAggT Try.prog 13 = some true := by kernel_rfl
theorem by13 : ((Try.prog.info? 13).map (·.bytes)) = some 24 := by kernel_rfl
theorem fl13_0 : fldT Try.prog 13 0 = some 0 := by kernel_rfl
theorem fl13_1 : fldT Try.prog 13 1 = some 1 := by kernel_rfl
theorem sz19 : szT Try.prog 19 = some 1 := by kernel_rfl
theorem ze19 : (Try.prog.info? 19).bind (·.zero) = some (Go.Value.agg #[Go.Value.pointer none]) := by kernel_rfl
theorem ag19 : isAggT Try.prog 19 = some true := by kernel_rfl
theorem by19 : ((Try.prog.info? 19).map (·.bytes)) = some 8 := by kernel_rfl
theorem fl19_0 : fldT Try.prog 19 0 = some 0 := by kernel_rfl
theorem sz21 : szT Try.prog 21 = some 1 := by kernel_rfl
theorem ze21 : (Try.prog.info? 21).bind (·.zero) = some (Go.Value.int Go.IntKind.i32 0) := by kernel_rfl
theorem ag21 : isAggT Try.prog 21 = some false := by kernel_rfl
theorem by21 : ((Try.prog.info? 21).map (·.bytes)) = some 4 := by kernel_rfl
theorem in21 : intT Try.prog 21 = some Go.IntKind.i32 := by kernel_rfl
theorem sz22 : szT Try.prog 22 = some 1 := by kernel_rfl
theorem ze22 : (Try.prog.info? 22).bind (·.zero) = some (Go.Value.slice none 0 0) := by kernel_rfl
theorem ag22 : isAggT Try.prog 22 = some false := by kernel_rfl
theorem by22 : ((Try.prog.info? 22).map (·.bytes)) = some 24 := by kernel_rfl
theorem ni22 : notInt Try.prog 22 = true := by kernel_rfl
theorem el22 : elemT Try.prog 22 = some 29 := by kernel_rfl
theorem sz24 : szT Try.prog 24 = some 1 := by kernel_rfl
theorem ze24 : (Try.prog.info? 24).bind (·.zero) = some (Go.Value.slice none 0 0) := by kernel_rfl
theorem ag24 : isAggT Try.prog 24 = some false := by kernel_rfl
theorem by24 : ((Try.prog.info? 24).map (·.bytes)) = some 24 := by kernel_rfl
theorem ni24 : notInt Try.prog 24 = true := by kernel_rfl
theorem el24 : elemT Try.prog 24 = some 3 := by kernel_rfl
theorem sz25 : szT Try.prog 25 = some 1 := by kernel_rfl
theorem ze25 : (Try.prog.info? 25).bind (·.zero) = some (Go.Value.int Go.IntKind.i64 0) := by kernel_rfl
theorem ag25 : isAggT Try.prog 25 = some false := by kernel_rfl
theorem by25 : ((Try.prog.info? 25).map (·.bytes)) = some 8 := by kernel_rfl
theorem in25 : intT Try.prog 25 = some Go.IntKind.i64 := by kernel_rfl
theorem sz29 : szT Try.prog 29 = some 2 := by kernel_rfl
theorem ze29 : (Try.prog.info? 29).bind (·.zero) = some (Go.Value.agg #[Go.Value.int Go.IntKind.i64 0, Go.Value.int Go.IntKind.i64 0]) := by kernel_rfl
theorem ag29 : isAggT Try.prog 29 = some true := by kernel_rfl
theorem by29 : ((Try.prog.info? 29).map (·.bytes)) = some 16 := by kernel_rfl
theorem ar29 : arrT Try.prog 29 = some (2, 3) := by kernel_rfl
theorem sz30 : szT Try.prog 30 = some 1 := by kernel_rfl
theorem ze30 : (Try.prog.info? 30).bind (·.zero) = some (Go.Value.slice none 0 0) := by kernel_rfl
theorem ag30 : isAggT Try.prog 30 = some false := by kernel_rfl
theorem by30 : ((Try.prog.info? 30).map (·.bytes)) = some 24 := by kernel_rfl
theorem ni30 : notInt Try.prog 30 = true := by kernel_rfl
theorem el30 : elemT Try.prog 30 = some 4 := by kernel_rfl
theorem sz31 : szT Try.prog 31 = some 1 := by kernel_rfl
theorem ze31 : (Try.prog.info? 31).bind (·.zero) = some (Go.Value.slice none 0 0) := by kernel_rfl
theorem ag31 : isAggT Try.prog 31 = some false := by kernel_rfl
theorem by31 : ((Try.prog.info? 31).map (·.bytes)) = some 24 := by kernel_rfl
theorem ni31 : notInt Try.prog 31 = true := by kernel_rfl
theorem el31 : elemT Try.prog 31 = some 30 := by kernel_rfl
theorem sz41 : szT Try.prog 41 = some 1 := by kernel_rfl
theorem ze41 : (Try.prog.info? 41).bind (·.zero) = some (Go.Value.slice none 0 0) := by kernel_rfl
theorem ag41 : isAggT Try.prog 41 = some false := by kernel_rfl
theorem by41 : ((Try.prog.info? 41).map (·.bytes)) = some 24 := by kernel_rfl
theorem ni41 : notInt Try.prog 41 = true := by kernel_rfl
theorem el41 : elemT Try.prog 41 = some 9 := by kernel_rfl
theorem sz42 : szT Try.prog 42 = some 1 := by kernel_rfl
theorem ze42 : (Try.prog.info? 42).bind (·.zero) = some (Go.Value.slice none 0 0) := by kernel_rfl
theorem ag42 : isAggT Try.prog 42 = some false := by kernel_rfl
theorem by42 : ((Try.prog.info? 42).map (·.bytes)) = some 24 := by kernel_rfl
theorem ni42 : notInt Try.prog 42 = true := by kernel_rfl
theorem el42 : elemT Try.prog 42 = some 81 := by kernel_rfl
theorem sz43 : szT Try.prog 43 = some 1 := by kernel_rfl
theorem ze43 : (Try.prog.info? 43).bind (·.zero) = some (Go.Value.slice none 0 0) := by kernel_rfl
theorem ag43 : isAggT Try.prog 43 = some false := by kernel_rfl
theorem by43 : ((Try.prog.info? 43).map (·.bytes)) = some 24 := by kernel_rfl
theorem ni43 : notInt Try.prog 43 = true := by kernel_rfl
theorem el43 : elemT Try.prog 43 = some 50 := by kernel_rfl
theorem sz44 : szT Try.prog 44 = some 1 := by kernel_rfl
theorem ze44 : (Try.prog.info? 44).bind (·.zero) = some (Go.Value.slice none 0 0) := by kernel_rfl
theorem ag44 : isAggT Try.prog 44 = some false := by kernel_rfl
theorem by44 : ((Try.prog.info? 44).map (·.bytes)) = some 24 := by kernel_rfl
theorem ni44 : notInt Try.prog 44 = true := by kernel_rfl
theorem el44 : elemT Try.prog 44 = some 65 := by kernel_rfl
theorem sz45 : szT Try.prog 45 = some 1 := by kernel_rfl
theorem ze45 : (Try.prog.info? 45).bind (·.zero) = some (Go.Value.slice none 0 0) := by kernel_rfl
theorem ag45 : isAggT Try.prog 45 = some false := by kernel_rfl
theorem by45 : ((Try.prog.info? 45).map (·.bytes)) = some 24 := by kernel_rfl
theorem ni45 : notInt Try.prog 45 = true := by kernel_rfl
theorem el45 : elemT Try.prog 45 = some 137 := by kernel_rfl
theorem sz46 : szT Try.prog 46 = some 1 := by kernel_rfl
theorem ze46 : (Try.prog.info? 46).bind (·.zero) = some (Go.Value.slice none 0 0) := by kernel_rfl
theorem ag46 : isAggT Try.prog 46 = some false := by kernel_rfl
theorem by46 : ((Try.prog.info? 46).map (·.bytes)) = some 24 := by kernel_rfl
theorem ni46 : notInt Try.prog 46 = true := by kernel_rfl
theorem el46 : elemT Try.prog 46 = some 69 := by kernel_rfl
theorem sz47 : szT Try.prog 47 = some 6 := by kernel_rfl
theorem ze47 : (Try.prog.info? 47).bind (·.zero) = some (Go.Value.agg #[Go.Value.slice none 0 0, Go.Value.slice none 0 0, Go.Value.slice none 0 0, Go.Value.slice none 0 0, Go.Value.slice none 0 0, Go.Value.slice none 0 0]) := by kernel_rfl
theorem ag47 : isAggT Try.prog 47 = some true := by kernel_rfl
theorem by47 : ((Try.prog.info? 47).map (·.bytes)) = some 144 := by kernel_rfl
theorem fl47_0 : fldT Try.prog 47 0 = some 0 := by kernel_rfl
theorem fl47_1 : fldT Try.prog 47 1 = some 1 := by kernel_rfl
theorem fl47_2 : fldT Try.prog 47 2 = some 2 := by kernel_rfl
theorem fl47_3 : fldT Try.prog 47 3 = some 3 := by kernel_rfl
theorem fl47_4 : fldT Try.prog 47 4 = some 4 := by kernel_rfl
theorem fl47_5 : fldT Try.prog 47 5 = some 5 := by kernel_rfl
theorem sz48 : szT Try.prog 48 = some 6 := by kernel_rfl
theorem ze48 : (Try.prog.info? 48).bind (·.zero) = some (Go.Value.agg #[Go.Value.slice none 0 0, Go.Value.slice none 0 0, Go.Value.slice none 0 0, Go.Value.slice none 0 0, Go.Value.slice none 0 0, Go.Value.slice none 0 0]) := by kernel_rfl
theorem ag48 : isAggT Try.prog 48 = some true := by kernel_rfl
theorem by48 : ((Try.prog.info? 48).map (·.bytes)) = some 144 := by kernel_rfl
theorem fl48_0 : fldT Try.prog 48 0 = some 0 := by kernel_rfl
theorem fl48_1 : fldT Try.prog 48 1 = some 1 := by kernel_rfl
theorem fl48_2 : fldT Try.prog 48 2 = some 2 := by kernel_rfl
theorem fl48_3 : fldT Try.prog 48 3 = some 3 := by kernel_rfl
theorem fl48_4 : fldT Try.prog 48 4 = some 4 := by kernel_rfl
theorem fl48_5 : fldT Try.prog 48 5 = some 5 := by kernel_rfl
theorem sz49 : szT Try.prog 49 = some 9 := by kernel_rfl
theorem ze49 : (Try.prog.info? 49).bind (·.zero) = some (Go.Value.agg #[Go.Value.string { data := #[] }, Go.Value.string { data := #[] }, Go.Value.string { data := #[] }, Go.Value.int Go.IntKind.i64 0, Go.Value.int Go.IntKind.i64 0, Go.Value.int Go.IntKind.i64 0, Go.Value.int Go.IntKind.i64 0, Go.Value.int Go.IntKind.i64 0, Go.Value.int Go.IntKind.i64 0]) := by kernel_rfl
theorem ag49 : isAggT Try.prog 49 = some true := by kernel_rfl
theorem by49 : ((Try.prog.info? 49).map (·.bytes)) = some 96 := by kernel_rfl
theorem fl49_0 : fldT Try.prog 49 0 = some 0 := by kernel_rfl
theorem fl49_1 : fldT Try.prog 49 1 = some 1 := by kernel_rfl
theorem fl49_2 : fldT Try.prog 49 2 = some 2 := by kernel_rfl
theorem fl49_3 : fldT Try.prog 49 3 = some 3 := by kernel_rfl
theorem fl49_4 : fldT Try.prog 49 4 = some 4 := by kernel_rfl
theorem fl49_5 : fldT Try.prog 49 5 = some 5 := by kernel_rfl
theorem fl49_6 : fldT Try.prog 49 6 = some 6 := by kernel_rfl
theorem fl49_7 : fldT Try.prog 49 7 = some 7 := by kernel_rfl
theorem fl49_8 : fldT Try.prog 49 8 = some 8 := by kernel_rfl
theorem sz50 : szT Try.prog 50 = some 9 := by kernel_rfl
theorem ze50 : (Try.prog.info? 50).bind (·.zero) = some (Go.Value.agg #[Go.Value.string { data := #[] }, Go.Value.string { data := #[] }, Go.Value.string { data := #[] }, Go.Value.int Go.IntKind.i64 0, Go.Value.int Go.IntKind.i64 0, Go.Value.int Go.IntKind.i64 0, Go.Value.int Go.IntKind.i64 0, Go.Value.int Go.IntKind.i64 0, Go.Value.int Go.IntKind.i64 0]) := by kernel_rfl
theorem ag50 : isAggT Try.prog 50 = some true := by kernel_rfl
theorem by50 : ((Try.prog.info? 50).map (·.bytes)) = some 96 := by kernel_rfl
theorem fl50_0 : fldT Try.prog 50 0 = some 0 := by kernel_rfl
theorem fl50_1 : fldT Try.prog 50 1 = some 1 := by kernel_rfl
theorem fl50_2 : fldT Try.prog 50 2 = some 2 := by kernel_rfl
theorem fl50_3 : fldT Try.prog 50 3 = some 3 := by kernel_rfl
theorem fl50_4 : fldT Try.prog 50 4 = some 4 := by kernel_rfl
theorem fl50_5 : fldT Try.prog 50 5 = some 5 := by kernel_rfl
theorem fl50_6 : fldT Try.prog 50 6 = some 6 := by kernel_rfl
theorem fl50_7 : fldT Try.prog 50 7 = some 7 := by kernel_rfl
theorem fl50_8 : fldT Try.prog 50 8 = some 8 := by kernel_rfl
theorem sz55 : szT Try.prog 55 = some 2 := by kernel_rfl
theorem ze55 : (Try.prog.info? 55).bind (·.zero) = some (Go.Value.agg #[Go.Value.slice none 0 0, Go.Value.slice none 0 0]) := by kernel_rfl
theorem ag55 : isAggT Try.prog 55 = some true := by kernel_rfl
theorem by55 : ((Try.prog.info? 55).map (·.bytes)) = some 48 := by kernel_rfl
theorem fl55_0 : fldT Try.prog 55 0 = some 0 := by kernel_rfl
theorem fl55_1 : fldT Try.prog 55 1 = some 1 := by kernel_rfl
theorem sz56 : szT Try.prog 56 = some 2 := by kernel_rfl
theorem ze56 : (Try.prog.info? 56).bind (·.zero) = some (Go.Value.agg #[Go.Value.slice none 0 0, Go.Value.slice none 0 0]) := by kernel_rfl
theorem ag56 : isAggT Try.prog 56 = some true := by kernel_rfl
theorem by56 : ((Try.prog.info? 56).map (·.bytes)) = some 48 := by kernel_rfl
theorem fl56_0 : fldT Try.prog 56 0 = some 0 := by kernel_rfl
theorem fl56_1 : fldT Try.prog 56 1 = some 1 := by kernel_rfl
theorem sz64 : szT Try.prog 64 = some 5 := by kernel_rfl
theorem ze64 : (Try.prog.info? 64).bind (·.zero) = some (Go.Value.agg #[Go.Value.string { data := #[] }, Go.Value.string { data := #[] }, Go.Value.int Go.IntKind.i64 0, Go.Value.int Go.IntKind.i64 0, Go.Value.int Go.IntKind.i64 0]) := by kernel_rfl
theorem ag64 : isAggT Try.prog 64 = some true := by kernel_rfl
theorem by64 : ((Try.prog.info? 64).map (·.bytes)) = some 56 := by kernel_rfl
theorem fl64_0 : fldT Try.prog 64 0 = some 0 := by kernel_rfl
theorem fl64_1 : fldT Try.prog 64 1 = some 1 := by kernel_rfl
theorem fl64_2 : fldT Try.prog 64 2 = some 2 := by kernel_rfl
theorem fl64_3 : fldT Try.prog 64 3 = some 3 := by kernel_rfl
theorem fl64_4 : fldT Try.prog 64 4 = some 4 := by kernel_rfl
theorem sz65 : szT Try.prog 65 = some 5 := by kernel_rfl
theorem ze65 : (Try.prog.info? 65).bind (·.zero) = some (Go.Value.agg #[Go.Value.string { data := #[] }, Go.Value.string { data := #[] }, Go.Value.int Go.IntKind.i64 0, Go.Value.int Go.IntKind.i64 0, Go.Value.int Go.IntKind.i64 0]) := by kernel_rfl
theorem ag65 : isAggT Try.prog 65 = some true := by kernel_rfl
theorem by65 : ((Try.prog.info? 65).map (·.bytes)) = some 56 := by kernel_rfl
theorem fl65_0 : fldT Try.prog 65 0 = some 0 := by kernel_rfl
theorem fl65_1 : fldT Try.prog 65 1 = some 1 := by kernel_rfl
theorem fl65_2 : fldT Try.prog 65 2 = some 2 := by kernel_rfl
theorem fl65_3 : fldT Try.prog 65 3 = some 3 := by kernel_rfl
theorem fl65_4 : fldT Try.prog 65 4 = some 4 := by kernel_rfl
theorem sz68 : szT Try.prog 68 = some 5 := by kernel_rfl
theorem ze68 : (Try.prog.info? 68).bind (·.zero) = some (Go.Value.agg #[Go.Value.string { data := #[] }, Go.Value.string { data := #[] }, Go.Value.int Go.IntKind.i64 0, Go.Value.int Go.IntKind.i64 0, Go.Value.int Go.IntKind.i64 0]) := by kernel_rfl
theorem ag68 : isAggT Try.prog 68 = some true := by kernel_rfl
theorem by68 : ((Try.prog.info? 68).map (·.bytes)) = some 56 := by kernel_rfl
theorem fl68_0 : fldT Try.prog 68 0 = some 0 := by kernel_rfl
theorem fl68_1 : fldT Try.prog 68 1 = some 1 := by kernel_rfl
theorem fl68_2 : fldT Try.prog 68 2 = some 2 := by kernel_rfl
theorem fl68_3 : fldT Try.prog 68 3 = some 3 := by kernel_rfl
theorem fl68_4 : fldT Try.prog 68 4 = some 4 := by kernel_rfl
theorem sz69 : szT Try.prog 69 = some 5 := by kernel_rfl
theorem ze69 : (Try.prog.info? 69).bind (·.zero) = some (Go.Value.agg #[Go.Value.string { data := #[] }, Go.Value.string { data := #[] }, Go.Value.int Go.IntKind.i64 0, Go.Value.int Go.IntKind.i64 0, Go.Value.int Go.IntKind.i64 0]) := by kernel_rfl
theorem ag69 : isAggT Try.prog 69 = some true := by kernel_rfl
theorem by69 : ((Try.prog.info? 69).map (·.bytes)) = some 56 := by kernel_rfl
theorem fl69_0 : fldT Try.prog 69 0 = some 0 := by kernel_rfl
theorem fl69_1 : fldT Try.prog 69 1 = some 1 := by kernel_rfl
theorem fl69_2 : fldT Try.prog 69 2 = some 2 := by kernel_rfl
theorem fl69_3 : fldT Try.prog 69 3 = some 3 := by kernel_rfl
theorem fl69_4 : fldT Try.prog 69 4 = some 4 := by kernel_rfl
theorem sz72 : szT Try.prog 72 = some 1 := by kernel_rfl
theorem ze72 : (Try.prog.info? 72).bind (·.zero) = some (Go.Value.slice none 0 0) := by kernel_rfl
theorem ag72 : isAggT Try.prog 72 = some false := by kernel_rfl
theorem by72 : ((Try.prog.info? 72).map (·.bytes)) = some 24 := by kernel_rfl
theorem ni72 : notInt Try.prog 72 = true := by kernel_rfl
theorem el72 : elemT Try.prog 72 = some 41 := by kernel_rfl
theorem sz80 : szT Try.prog 80 = some 5 := by kernel_rfl
theorem ze80 : (Try.prog.info? 80).bind (·.zero) = some (Go.Value.agg #[Go.Value.string { data := #[] }, Go.Value.string { data := #[] }, Go.Value.string { data := #[] }, Go.Value.bool false, Go.Value.bool false]) := by kernel_rfl
theorem ag80 : isAggT Try.prog 80 = some true := by kernel_rfl
theorem by80 : ((Try.prog.info? 80).map (·.bytes)) = some 56 := by kernel_rfl
theorem fl80_0 : fldT Try.prog 80 0 = some 0 := by kernel_rfl
theorem fl80_1 : fldT Try.prog 80 1 = some 1 := by kernel_rfl
theorem fl80_2 : fldT Try.prog 80 2 = some 2 := by kernel_rfl
theorem fl80_3 : fldT Try.prog 80 3 = some 3 := by kernel_rfl
theorem fl80_4 : fldT Try.prog 80 4 = some 4 := by kernel_rfl
theorem sz81 : szT Try.prog 81 = some 5 := by kernel_rfl
theorem ze81 : (Try.prog.info? 81).bind (·.zero) = some (Go.Value.agg #[Go.Value.string { data := #[] }, Go.Value.string { data := #[] }, Go.Value.string { data := #[] }, Go.Value.bool false, Go.Value.bool false]) := by kernel_rfl
theorem ag81 : isAggT Try.prog 81 = some true := by kernel_rfl
theorem by81 : ((Try.prog.info? 81).map (·.bytes)) = some 56 := by kernel_rfl
theorem fl81_0 : fldT Try.prog 81 0 = some 0 := by kernel_rfl
theorem fl81_1 : fldT Try.prog 81 1 = some 1 := by kernel_rfl
theorem fl81_2 : fldT Try.prog 81 2 = some 2 := by kernel_rfl
theorem fl81_3 : fldT Try.prog 81 3 = some 3 := by kernel_rfl
theorem fl81_4 : fldT Try.prog 81 4 = some 4 := by kernel_rfl
theorem sz90 : szT Try.prog 90 = some 1 := by kernel_rfl
theorem ze90 : (Try.prog.info? 90).bind (·.zero) = some (Go.Value.slice none 0 0) := by kernel_rfl
theorem ag90 : isAggT Try.prog 90 = some false := by kernel_rfl
theorem by90 : ((Try.prog.info? 90).map (·.bytes)) = some 24 := by kernel_rfl
theorem ni90 : notInt Try.prog 90 = true := by kernel_rfl
theorem el90 : elemT Try.prog 90 = some 24 := by kernel_rfl
theorem sz105 : szT Try.prog 105 = some 1 := by kernel_rfl
theorem ze105 : (Try.prog.info? 105).bind (·.zero) = some (Go.Value.agg #[Go.Value.slice none 0 0]) := by kernel_rfl
theorem ag105 : isAggT Try.prog 105 = some true := by kernel_rfl
theorem by105 : ((Try.prog.info? 105).map (·.bytes)) = some 24 := by kernel_rfl
theorem fl105_0 : fldT Try.prog 105 0 = some 0 := by kernel_rfl
theorem sz106 : szT Try.prog 106 = some 1 := by kernel_rfl
theorem ze106 : (Try.prog.info? 106).bind (·.zero) = some (Go.Value.agg #[Go.Value.slice none 0 0]) := by kernel_rfl
theorem ag106 : isAggT Try.prog 106 = some true := by kernel_rfl
theorem by106 : ((Try.prog.info? 106).map (·.bytes)) = some 24 := by kernel_rfl
theorem fl106_0 : fldT Try.prog 106 0 = some 0 := by kernel_rfl
theorem sz109 : szT Try.prog 109 = some 1 := by kernel_rfl
theorem ze109 : (Try.prog.info? 109).bind (·.zero) = some (Go.Value.pointer none) := by kernel_rfl
theorem ag109 : isAggT Try.prog 109 = some false := by kernel_rfl
theorem by109 : ((Try.prog.info? 109).map (·.bytes)) = some 8 := by kernel_rfl
theorem sz111 : szT Try.prog 111 = some 1 := by kernel_rfl
theorem ze111 : (Try.prog.info? 111).bind (·.zero) = some (Go.Value.slice none 0 0) := by kernel_rfl
theorem ag111 : isAggT Try.prog 111 = some false := by kernel_rfl
theorem by111 : ((Try.prog.info? 111).map (·.bytes)) = some 24 := by kernel_rfl
theorem ni111 : notInt Try.prog 111 = true := by kernel_rfl
theorem el111 : elemT Try.prog 111 = some 114 := by kernel_rfl
theorem sz113 : szT Try.prog 113 = some 4 := by kernel_rfl
theorem ze113 : (Try.prog.info? 113).bind (·.zero) = some (Go.Value.agg #[Go.Value.string { data := #[] }, Go.Value.slice none 0 0, Go.Value.bool false, Go.Value.bool false]) := by kernel_rfl
theorem ag113 : isAggT Try.prog 113 = some true := by kernel_rfl
theorem by113 : ((Try.prog.info? 113).map (·.bytes)) = some 48 := by kernel_rfl
theorem fl113_0 : fldT Try.prog 113 0 = some 0 := by kernel_rfl
theorem fl113_1 : fldT Try.prog 113 1 = some 1 := by kernel_rfl
theorem fl113_2 : fldT Try.prog 113 2 = some 2 := by kernel_rfl
theorem fl113_3 : fldT Try.prog 113 3 = some 3 := by kernel_rfl
theorem sz114 : szT Try.prog 114 = some 4 := by kernel_rfl
theorem ze114 : (Try.prog.info? 114).bind (·.zero) = some (Go.Value.agg #[Go.Value.string { data := #[] }, Go.Value.slice none 0 0, Go.Value.bool false, Go.Value.bool false]) := by kernel_rfl
theorem ag114 : isAggT Try.prog 114 = some true := by kernel_rfl
theorem by114 : ((Try.prog.info? 114).map (·.bytes)) = some 48 := by kernel_rfl
theorem fl114_0 : fldT Try.prog 114 0 = some 0 := by kernel_rfl
theorem fl114_1 : fldT Try.prog 114 1 = some 1 := by kernel_rfl
theorem fl114_2 : fldT Try.prog 114 2 = some 2 := by kernel_rfl
theorem fl114_3 : fldT Try.prog 114 3 = some 3 := by kernel_rfl
theorem sz115 : szT Try.prog 115 = some 1 := by kernel_rfl
theorem ze115 : (Try.prog.info? 115).bind (·.zero) = some (Go.Value.slice none 0 0) := by kernel_rfl
theorem ag115 : isAggT Try.prog 115 = some false := by kernel_rfl
theorem by115 : ((Try.prog.info? 115).map (·.bytes)) = some 24 := by kernel_rfl
theorem ni115 : notInt Try.prog 115 = true := by kernel_rfl
theorem el115 : elemT Try.prog 115 = some 5 := by kernel_rfl
theorem sz117 : szT Try.prog 117 = some 1 := by kernel_rfl
theorem ze117 : (Try.prog.info? 117).bind (·.zero) = some (Go.Value.pointer none) := by kernel_rfl
theorem ag117 : isAggT Try.prog 117 = some false := by kernel_rfl
theorem by117 : ((Try.prog.info? 117).map (·.bytes)) = some 8 := by kernel_rfl
theorem sz131 : szT Try.prog 131 = some 1 := by kernel_rfl
theorem ze131 : (Try.prog.info? 131).bind (·.zero) = some (Go.Value.slice none 0 0) := by kernel_rfl
theorem ag131 : isAggT Try.prog 131 = some false := by kernel_rfl
theorem by131 : ((Try.prog.info? 131).map (·.bytes)) = some 24 := by kernel_rfl
theorem ni131 : notInt Try.prog 131 = true := by kernel_rfl
theorem el131 : elemT Try.prog 131 = some 25 := by kernel_rfl
theorem sz135 : szT Try.prog 135 = some 4 := by kernel_rfl
theorem ze135 : (Try.prog.info? 135).bind (·.zero) = some (Go.Value.agg #[Go.Value.int Go.IntKind.i64 0, Go.Value.int Go.IntKind.i64 0, Go.Value.int Go.IntKind.i64 0, Go.Value.int Go.IntKind.i64 0]) := by kernel_rfl
theorem ag135 : isAggT Try.prog 135 = some true := by kernel_rfl
theorem by135 : ((Try.prog.info? 135).map (·.bytes)) = some 32 := by kernel_rfl
theorem ar135 : arrT Try.prog 135 = some (2, 29) := by kernel_rfl
theorem sz136 : szT Try.prog 136 = some 3 := by kernel_rfl
theorem ze136 : (Try.prog.info? 136).bind (·.zero) = some (Go.Value.agg #[Go.Value.string { data := #[] }, Go.Value.string { data := #[] }, Go.Value.int Go.IntKind.i64 0]) := by kernel_rfl
theorem ag136 : isAggT Try.prog 136 = some true := by kernel_rfl
theorem by136 : ((Try.prog.info? 136).map (·.bytes)) = some 40 := by kernel_rfl
theorem fl136_0 : fldT Try.prog 136 0 = some 0 := by kernel_rfl
theorem fl136_1 : fldT Try.prog 136 1 = some 1 := by kernel_rfl
theorem fl136_2 : fldT Try.prog 136 2 = some 2 := by kernel_rfl
theorem sz137 : szT Try.prog 137 = some 3 := by kernel_rfl
theorem ze137 : (Try.prog.info? 137).bind (·.zero) = some (Go.Value.agg #[Go.Value.string { data := #[] }, Go.Value.string { data := #[] }, Go.Value.int Go.IntKind.i64 0]) := by kernel_rfl
theorem ag137 : isAggT Try.prog 137 = some true := by kernel_rfl
theorem by137 : ((Try.prog.info? 137).map (·.bytes)) = some 40 := by kernel_rfl
theorem fl137_0 : fldT Try.prog 137 0 = some 0 := by kernel_rfl
theorem fl137_1 : fldT Try.prog 137 1 = some 1 := by kernel_rfl
theorem fl137_2 : fldT Try.prog 137 2 = some 2 := by kernel_rfl
theorem sz156 : szT Try.prog 156 = some 8 := by kernel_rfl
theorem ze156 : (Try.prog.info? 156).bind (·.zero) = some (Go.Value.agg #[Go.Value.slice none 0 0, Go.Value.slice none 0 0, Go.Value.slice none 0 0, Go.Value.slice none 0 0, Go.Value.slice none 0 0, Go.Value.slice none 0 0, Go.Value.slice none 0 0, Go.Value.slice none 0 0]) := by kernel_rfl
theorem ag156 : isAggT Try.prog 156 = some true := by kernel_rfl
theorem by156 : ((Try.prog.info? 156).map (·.bytes)) = some 192 := by kernel_rfl
theorem fl156_0 : fldT Try.prog 156 0 = some 0 := by kernel_rfl
theorem fl156_1 : fldT Try.prog 156 1 = some 6 := by kernel_rfl
theorem sz157 : szT Try.prog 157 = some 8 := by kernel_rfl
theorem ze157 : (Try.prog.info? 157).bind (·.zero) = some (Go.Value.agg #[Go.Value.slice none 0 0, Go.Value.slice none 0 0, Go.Value.slice none 0 0, Go.Value.slice none 0 0, Go.Value.slice none 0 0, Go.Value.slice none 0 0, Go.Value.slice none 0 0, Go.Value.slice none 0 0]) := by kernel_rfl
theorem ag157 : isAggT Try.prog 157 = some true := by kernel_rfl
theorem by157 : ((Try.prog.info? 157).map (·.bytes)) = some 192 := by kernel_rfl
theorem fl157_0 : fldT Try.prog 157 0 = some 0 := by kernel_rfl
theorem fl157_1 : fldT Try.prog 157 1 = some 6 := by kernel_rfl
theorem sz158 : szT Try.prog 158 = some 1 := by kernel_rfl
theorem ze158 : (Try.prog.info? 158).bind (·.zero) = some (Go.Value.pointer none) := by kernel_rfl
theorem ag158 : isAggT Try.prog 158 = some false := by kernel_rfl
theorem by158 : ((Try.prog.info? 158).map (·.bytes)) = some 8 := by kernel_rfl
theorem sz163 : szT Try.prog 163 = some 1 := by kernel_rfl
theorem ze163 : (Try.prog.info? 163).bind (·.zero) = some (Go.Value.int Go.IntKind.u64 0) := by kernel_rfl
theorem ag163 : isAggT Try.prog 163 = some false := by kernel_rfl
theorem by163 : ((Try.prog.info? 163).map (·.bytes)) = some 8 := by kernel_rfl
theorem in163 : intT Try.prog 163 = some Go.IntKind.u64 := by kernel_rfl
theorem sz166 : szT Try.prog 166 = some 1 := by kernel_rfl
theorem ze166 : (Try.prog.info? 166).bind (·.zero) = some (Go.Value.int Go.IntKind.u32 0) := by kernel_rfl
theorem ag166 : isAggT Try.prog 166 = some false := by kernel_rfl
theorem by166 : ((Try.prog.info? 166).map (·.bytes)) = some 4 := by kernel_rfl
theorem in166 : intT Try.prog 166 = some Go.IntKind.u32 := by kernel_rfl
theorem sz169 : szT Try.prog 169 = some 1 := by kernel_rfl
theorem ze169 : (Try.prog.info? 169).bind (·.zero) = some (Go.Value.int Go.IntKind.u64 0) := by kernel_rfl
theorem ag169 : isAggT Try.prog 169 = some false := by kernel_rfl
theorem by169 : ((Try.prog.info? 169).map (·.bytes)) = some 8 := by kernel_rfl
theorem in169 : intT Try.prog 169 = some Go.IntKind.u64 := by kernel_rfl
theorem sz182 : szT Try.prog 182 = some 1 := by kernel_rfl
theorem ze182 : (Try.prog.info? 182).bind (·.zero) = some (Go.Value.pointer none) := by kernel_rfl
theorem ag182 : isAggT Try.prog 182 = some false := by kernel_rfl
theorem by182 : ((Try.prog.info? 182).map (·.bytes)) = some 8 := by kernel_rfl
theorem sz187 : szT Try.prog 187 = some 1 := by kernel_rfl
theorem ze187 : (Try.prog.info? 187).bind (·.zero) = some (Go.Value.pointer none) := by kernel_rfl
theorem ag187 : isAggT Try.prog 187 = some false := by kernel_rfl
theorem by187 : ((Try.prog.info? 187).map (·.bytes)) = some 8 := by kernel_rfl
theorem mixed : Try.prog.follows .mixedOrders = true := by kernel_rfl
end Go.Am.Try
