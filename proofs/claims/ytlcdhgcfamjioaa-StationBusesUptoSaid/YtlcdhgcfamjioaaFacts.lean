/- What the proofs ask of the program's types. -/
import Derived.Test.YtlcdhgcfamjioaaBxG
import Derived.Test.YtlcdhgcfamjioaaProg
import Derived.BigRegion
namespace Go.Am.Try
open Go Go.Am Go.Proofs
theorem sz1 : szT Try.prog 1 = some 1 := by kernel_rfl
theorem ze1 : (Try.prog.info? 1).bind (·.zero) = some Go.Value.nilFunc := by kernel_rfl
theorem ag1 : isAggT Try.prog 1 = some false := by kernel_rfl
theorem by1 : ((Try.prog.info? 1).map (·.bytes)) = some 8 := by kernel_rfl
theorem sz2 : szT Try.prog 2 = some 1 := by kernel_rfl
theorem ze2 : (Try.prog.info? 2).bind (·.zero) = some (Go.Value.int Go.IntKind.i64 0) := by kernel_rfl
theorem ag2 : isAggT Try.prog 2 = some false := by kernel_rfl
theorem by2 : ((Try.prog.info? 2).map (·.bytes)) = some 8 := by kernel_rfl
theorem in2 : intT Try.prog 2 = some Go.IntKind.i64 := by kernel_rfl
theorem sz3 : szT Try.prog 3 = some 1 := by kernel_rfl
theorem ze3 : (Try.prog.info? 3).bind (·.zero) = some (Go.Value.int Go.IntKind.i64 0) := by kernel_rfl
theorem ag3 : isAggT Try.prog 3 = some false := by kernel_rfl
theorem by3 : ((Try.prog.info? 3).map (·.bytes)) = some 8 := by kernel_rfl
theorem in3 : intT Try.prog 3 = some Go.IntKind.i64 := by kernel_rfl
theorem sz4 : szT Try.prog 4 = some 1 := by kernel_rfl
theorem ze4 : (Try.prog.info? 4).bind (·.zero) = some (Go.Value.bool false) := by kernel_rfl
theorem ag4 : isAggT Try.prog 4 = some false := by kernel_rfl
theorem by4 : ((Try.prog.info? 4).map (·.bytes)) = some 1 := by kernel_rfl
theorem un4 : Try.prog.underlying 4 = some Go.TypeDesc.bool := by kernel_rfl
theorem sz5 : szT Try.prog 5 = some 1 := by kernel_rfl
theorem ze5 : (Try.prog.info? 5).bind (·.zero) = some (Go.Value.int Go.IntKind.u8 0) := by kernel_rfl
theorem ag5 : isAggT Try.prog 5 = some false := by kernel_rfl
theorem by5 : ((Try.prog.info? 5).map (·.bytes)) = some 1 := by kernel_rfl
theorem in5 : intT Try.prog 5 = some Go.IntKind.u8 := by kernel_rfl
theorem sz9 : szT Try.prog 9 = some 1 := by kernel_rfl
theorem ze9 : (Try.prog.info? 9).bind (·.zero) = some (Go.Value.string { data := #[] }) := by kernel_rfl
theorem ag9 : isAggT Try.prog 9 = some false := by kernel_rfl
theorem by9 : ((Try.prog.info? 9).map (·.bytes)) = some 16 := by kernel_rfl
theorem un9 : Try.prog.underlying 9 = some Go.TypeDesc.string := by kernel_rfl
theorem sz12 : szT Try.prog 12 = some 1 := by kernel_rfl
theorem ze12 : (Try.prog.info? 12).bind (·.zero) = some (Go.Value.int Go.IntKind.u64 0) := by kernel_rfl
theorem ag12 : isAggT Try.prog 12 = some false := by kernel_rfl
theorem by12 : ((Try.prog.info? 12).map (·.bytes)) = some 8 := by kernel_rfl
theorem in12 : intT Try.prog 12 = some Go.IntKind.u64 := by kernel_rfl
theorem sz13 : szT Try.prog 13 = some 2 := by kernel_rfl
theorem ze13 : (Try.prog.info? 13).bind (·.zero) = some (Go.Value.agg #[Go.Value.string { data := #[] }, Go.Value.int Go.IntKind.u64 0]) := by kernel_rfl
theorem ag13 : isAggT Try.prog 13 = some true := by kernel_rfl
theorem by13 : ((Try.prog.info? 13).map (·.bytes)) = some 24 := by kernel_rfl
theorem zo13 : zeroOk Try.prog 13 = true := by kernel_rfl
theorem pl13 : plcT Try.prog 13 = some [(0, 1), (1, 1)] := by kernel_rfl
theorem fl13_0 : fldT Try.prog 13 0 = some 0 := by kernel_rfl
theorem fl13_1 : fldT Try.prog 13 1 = some 1 := by kernel_rfl
theorem sz19 : szT Try.prog 19 = some 1 := by kernel_rfl
theorem ze19 : (Try.prog.info? 19).bind (·.zero) = some (Go.Value.agg #[Go.Value.pointer none]) := by kernel_rfl
theorem ag19 : isAggT Try.prog 19 = some true := by kernel_rfl
theorem by19 : ((Try.prog.info? 19).map (·.bytes)) = some 8 := by kernel_rfl
theorem zo19 : zeroOk Try.prog 19 = true := by kernel_rfl
theorem pl19 : plcT Try.prog 19 = some [(0, 1)] := by kernel_rfl
theorem fl19_0 : fldT Try.prog 19 0 = some 0 := by kernel_rfl
theorem sz21 : szT Try.prog 21 = some 1 := by kernel_rfl
theorem ze21 : (Try.prog.info? 21).bind (·.zero) = some (Go.Value.int Go.IntKind.i32 0) := by kernel_rfl
theorem ag21 : isAggT Try.prog 21 = some false := by kernel_rfl
theorem by21 : ((Try.prog.info? 21).map (·.bytes)) = some 4 := by kernel_rfl
theorem in21 : intT Try.prog 21 = some Go.IntKind.i32 := by kernel_rfl
theorem sz22 : szT Try.prog 22 = some 1 := by kernel_rfl
theorem ze22 : (Try.prog.info? 22).bind (·.zero) = some (Go.Value.slice none 0 0) := by kernel_rfl
theorem ag22 : isAggT Try.prog 22 = some false := by kernel_rfl
theorem by22 : ((Try.prog.info? 22).map (·.bytes)) = some 24 := by kernel_rfl
theorem ni22 : notInt Try.prog 22 = true := by kernel_rfl
theorem el22 : elemT Try.prog 22 = some 29 := by kernel_rfl
theorem sz23 : szT Try.prog 23 = some 1 := by kernel_rfl
theorem ze23 : (Try.prog.info? 23).bind (·.zero) = some Go.Value.nilFunc := by kernel_rfl
theorem ag23 : isAggT Try.prog 23 = some false := by kernel_rfl
theorem by23 : ((Try.prog.info? 23).map (·.bytes)) = some 8 := by kernel_rfl
theorem sz24 : szT Try.prog 24 = some 1 := by kernel_rfl
theorem ze24 : (Try.prog.info? 24).bind (·.zero) = some (Go.Value.slice none 0 0) := by kernel_rfl
theorem ag24 : isAggT Try.prog 24 = some false := by kernel_rfl
theorem by24 : ((Try.prog.info? 24).map (·.bytes)) = some 24 := by kernel_rfl
theorem ni24 : notInt Try.prog 24 = true := by kernel_rfl
theorem el24 : elemT Try.prog 24 = some 3 := by kernel_rfl
theorem sz25 : szT Try.prog 25 = some 1 := by kernel_rfl
theorem ze25 : (Try.prog.info? 25).bind (·.zero) = some (Go.Value.int Go.IntKind.i64 0) := by kernel_rfl
theorem ag25 : isAggT Try.prog 25 = some false := by kernel_rfl
theorem by25 : ((Try.prog.info? 25).map (·.bytes)) = some 8 := by kernel_rfl
theorem in25 : intT Try.prog 25 = some Go.IntKind.i64 := by kernel_rfl
theorem sz27 : szT Try.prog 27 = some 1 := by kernel_rfl
theorem ze27 : (Try.prog.info? 27).bind (·.zero) = some Go.Value.nilFunc := by kernel_rfl
theorem ag27 : isAggT Try.prog 27 = some false := by kernel_rfl
theorem by27 : ((Try.prog.info? 27).map (·.bytes)) = some 8 := by kernel_rfl
theorem sz28 : szT Try.prog 28 = some 1 := by kernel_rfl
theorem ze28 : (Try.prog.info? 28).bind (·.zero) = some Go.Value.nilFunc := by kernel_rfl
theorem ag28 : isAggT Try.prog 28 = some false := by kernel_rfl
theorem by28 : ((Try.prog.info? 28).map (·.bytes)) = some 8 := by kernel_rfl
theorem sz29 : szT Try.prog 29 = some 2 := by kernel_rfl
theorem ze29 : (Try.prog.info? 29).bind (·.zero) = some (Go.Value.agg #[Go.Value.int Go.IntKind.i64 0, Go.Value.int Go.IntKind.i64 0]) := by kernel_rfl
theorem ag29 : isAggT Try.prog 29 = some true := by kernel_rfl
theorem by29 : ((Try.prog.info? 29).map (·.bytes)) = some 16 := by kernel_rfl
theorem ar29 : arrT Try.prog 29 = some (2, 3) := by kernel_rfl
theorem zo29 : zeroOk Try.prog 29 = true := by kernel_rfl
theorem sz30 : szT Try.prog 30 = some 1 := by kernel_rfl
theorem ze30 : (Try.prog.info? 30).bind (·.zero) = some (Go.Value.slice none 0 0) := by kernel_rfl
theorem ag30 : isAggT Try.prog 30 = some false := by kernel_rfl
theorem by30 : ((Try.prog.info? 30).map (·.bytes)) = some 24 := by kernel_rfl
theorem ni30 : notInt Try.prog 30 = true := by kernel_rfl
theorem el30 : elemT Try.prog 30 = some 4 := by kernel_rfl
theorem sz31 : szT Try.prog 31 = some 1 := by kernel_rfl
theorem ze31 : (Try.prog.info? 31).bind (·.zero) = some (Go.Value.slice none 0 0) := by kernel_rfl
theorem ag31 : isAggT Try.prog 31 = some false := by kernel_rfl
theorem by31 : ((Try.prog.info? 31).map (·.bytes)) = some 24 := by kernel_rfl
theorem ni31 : notInt Try.prog 31 = true := by kernel_rfl
theorem el31 : elemT Try.prog 31 = some 30 := by kernel_rfl
theorem sz32 : szT Try.prog 32 = some 1 := by kernel_rfl
theorem ze32 : (Try.prog.info? 32).bind (·.zero) = some Go.Value.nilFunc := by kernel_rfl
theorem ag32 : isAggT Try.prog 32 = some false := by kernel_rfl
theorem by32 : ((Try.prog.info? 32).map (·.bytes)) = some 8 := by kernel_rfl
theorem sz33 : szT Try.prog 33 = some 1 := by kernel_rfl
theorem ze33 : (Try.prog.info? 33).bind (·.zero) = some Go.Value.nilFunc := by kernel_rfl
theorem ag33 : isAggT Try.prog 33 = some false := by kernel_rfl
theorem by33 : ((Try.prog.info? 33).map (·.bytes)) = some 8 := by kernel_rfl
theorem sz34 : szT Try.prog 34 = some 1 := by kernel_rfl
theorem ze34 : (Try.prog.info? 34).bind (·.zero) = some Go.Value.nilFunc := by kernel_rfl
theorem ag34 : isAggT Try.prog 34 = some false := by kernel_rfl
theorem by34 : ((Try.prog.info? 34).map (·.bytes)) = some 8 := by kernel_rfl
theorem sz35 : szT Try.prog 35 = some 1 := by kernel_rfl
theorem ze35 : (Try.prog.info? 35).bind (·.zero) = some Go.Value.nilFunc := by kernel_rfl
theorem ag35 : isAggT Try.prog 35 = some false := by kernel_rfl
theorem by35 : ((Try.prog.info? 35).map (·.bytes)) = some 8 := by kernel_rfl
theorem sz36 : szT Try.prog 36 = some 1 := by kernel_rfl
theorem ze36 : (Try.prog.info? 36).bind (·.zero) = some Go.Value.nilFunc := by kernel_rfl
theorem ag36 : isAggT Try.prog 36 = some false := by kernel_rfl
theorem by36 : ((Try.prog.info? 36).map (·.bytes)) = some 8 := by kernel_rfl
theorem sz37 : szT Try.prog 37 = some 1 := by kernel_rfl
theorem ze37 : (Try.prog.info? 37).bind (·.zero) = some Go.Value.nilFunc := by kernel_rfl
theorem ag37 : isAggT Try.prog 37 = some false := by kernel_rfl
theorem by37 : ((Try.prog.info? 37).map (·.bytes)) = some 8 := by kernel_rfl
theorem sz39 : szT Try.prog 39 = some 1 := by kernel_rfl
theorem ze39 : (Try.prog.info? 39).bind (·.zero) = some Go.Value.nilFunc := by kernel_rfl
theorem ag39 : isAggT Try.prog 39 = some false := by kernel_rfl
theorem by39 : ((Try.prog.info? 39).map (·.bytes)) = some 8 := by kernel_rfl
theorem sz40 : szT Try.prog 40 = some 1 := by kernel_rfl
theorem ze40 : (Try.prog.info? 40).bind (·.zero) = some Go.Value.nilFunc := by kernel_rfl
theorem ag40 : isAggT Try.prog 40 = some false := by kernel_rfl
theorem by40 : ((Try.prog.info? 40).map (·.bytes)) = some 8 := by kernel_rfl
theorem sz41 : szT Try.prog 41 = some 1 := by kernel_rfl
theorem ze41 : (Try.prog.info? 41).bind (·.zero) = some (Go.Value.slice none 0 0) := by kernel_rfl
theorem ag41 : isAggT Try.prog 41 = some false := by kernel_rfl
theorem by41 : ((Try.prog.info? 41).map (·.bytes)) = some 24 := by kernel_rfl
theorem ni41 : notInt Try.prog 41 = true := by kernel_rfl
theorem el41 : elemT Try.prog 41 = some 9 := by kernel_rfl
theorem sz42 : szT Try.prog 42 = some 1 := by kernel_rfl
theorem ze42 : (Try.prog.info? 42).bind (·.zero) = some (Go.Value.slice none 0 0) := by kernel_rfl
theorem ag42 : isAggT Try.prog 42 = some false := by kernel_rfl
theorem by42 : ((Try.prog.info? 42).map (·.bytes)) = some 24 := by kernel_rfl
theorem ni42 : notInt Try.prog 42 = true := by kernel_rfl
theorem el42 : elemT Try.prog 42 = some 81 := by kernel_rfl
theorem sz43 : szT Try.prog 43 = some 1 := by kernel_rfl
theorem ze43 : (Try.prog.info? 43).bind (·.zero) = some (Go.Value.slice none 0 0) := by kernel_rfl
theorem ag43 : isAggT Try.prog 43 = some false := by kernel_rfl
theorem by43 : ((Try.prog.info? 43).map (·.bytes)) = some 24 := by kernel_rfl
theorem ni43 : notInt Try.prog 43 = true := by kernel_rfl
theorem el43 : elemT Try.prog 43 = some 50 := by kernel_rfl
theorem sz44 : szT Try.prog 44 = some 1 := by kernel_rfl
theorem ze44 : (Try.prog.info? 44).bind (·.zero) = some (Go.Value.slice none 0 0) := by kernel_rfl
theorem ag44 : isAggT Try.prog 44 = some false := by kernel_rfl
theorem by44 : ((Try.prog.info? 44).map (·.bytes)) = some 24 := by kernel_rfl
theorem ni44 : notInt Try.prog 44 = true := by kernel_rfl
theorem el44 : elemT Try.prog 44 = some 65 := by kernel_rfl
theorem sz45 : szT Try.prog 45 = some 1 := by kernel_rfl
theorem ze45 : (Try.prog.info? 45).bind (·.zero) = some (Go.Value.slice none 0 0) := by kernel_rfl
theorem ag45 : isAggT Try.prog 45 = some false := by kernel_rfl
theorem by45 : ((Try.prog.info? 45).map (·.bytes)) = some 24 := by kernel_rfl
theorem ni45 : notInt Try.prog 45 = true := by kernel_rfl
theorem el45 : elemT Try.prog 45 = some 137 := by kernel_rfl
theorem sz46 : szT Try.prog 46 = some 1 := by kernel_rfl
theorem ze46 : (Try.prog.info? 46).bind (·.zero) = some (Go.Value.slice none 0 0) := by kernel_rfl
theorem ag46 : isAggT Try.prog 46 = some false := by kernel_rfl
theorem by46 : ((Try.prog.info? 46).map (·.bytes)) = some 24 := by kernel_rfl
theorem ni46 : notInt Try.prog 46 = true := by kernel_rfl
theorem el46 : elemT Try.prog 46 = some 69 := by kernel_rfl
theorem sz47 : szT Try.prog 47 = some 6 := by kernel_rfl
theorem ze47 : (Try.prog.info? 47).bind (·.zero) = some (Go.Value.agg #[Go.Value.slice none 0 0, Go.Value.slice none 0 0, Go.Value.slice none 0 0, Go.Value.slice none 0 0, Go.Value.slice none 0 0, Go.Value.slice none 0 0]) := by kernel_rfl
theorem ag47 : isAggT Try.prog 47 = some true := by kernel_rfl
theorem by47 : ((Try.prog.info? 47).map (·.bytes)) = some 144 := by kernel_rfl
theorem zo47 : zeroOk Try.prog 47 = true := by kernel_rfl
theorem pl47 : plcT Try.prog 47 = some [(0, 1), (1, 1), (2, 1), (3, 1), (4, 1), (5, 1)] := by kernel_rfl
theorem fl47_0 : fldT Try.prog 47 0 = some 0 := by kernel_rfl
theorem fl47_1 : fldT Try.prog 47 1 = some 1 := by kernel_rfl
theorem fl47_2 : fldT Try.prog 47 2 = some 2 := by kernel_rfl
theorem fl47_3 : fldT Try.prog 47 3 = some 3 := by kernel_rfl
theorem fl47_4 : fldT Try.prog 47 4 = some 4 := by kernel_rfl
theorem fl47_5 : fldT Try.prog 47 5 = some 5 := by kernel_rfl
theorem sz48 : szT Try.prog 48 = some 6 := by kernel_rfl
theorem ze48 : (Try.prog.info? 48).bind (·.zero) = some (Go.Value.agg #[Go.Value.slice none 0 0, Go.Value.slice none 0 0, Go.Value.slice none 0 0, Go.Value.slice none 0 0, Go.Value.slice none 0 0, Go.Value.slice none 0 0]) := by kernel_rfl
theorem ag48 : isAggT Try.prog 48 = some true := by kernel_rfl
theorem by48 : ((Try.prog.info? 48).map (·.bytes)) = some 144 := by kernel_rfl
theorem zo48 : zeroOk Try.prog 48 = true := by kernel_rfl
theorem pl48 : plcT Try.prog 48 = some [(0, 1), (1, 1), (2, 1), (3, 1), (4, 1), (5, 1)] := by kernel_rfl
theorem fl48_0 : fldT Try.prog 48 0 = some 0 := by kernel_rfl
theorem fl48_1 : fldT Try.prog 48 1 = some 1 := by kernel_rfl
theorem fl48_2 : fldT Try.prog 48 2 = some 2 := by kernel_rfl
theorem fl48_3 : fldT Try.prog 48 3 = some 3 := by kernel_rfl
theorem fl48_4 : fldT Try.prog 48 4 = some 4 := by kernel_rfl
theorem fl48_5 : fldT Try.prog 48 5 = some 5 := by kernel_rfl
theorem sz49 : szT Try.prog 49 = some 9 := by kernel_rfl
theorem ze49 : (Try.prog.info? 49).bind (·.zero) = some (Go.Value.agg #[Go.Value.string { data := #[] }, Go.Value.string { data := #[] }, Go.Value.string { data := #[] }, Go.Value.int Go.IntKind.i64 0, Go.Value.int Go.IntKind.i64 0, Go.Value.int Go.IntKind.i64 0, Go.Value.int Go.IntKind.i64 0, Go.Value.int Go.IntKind.i64 0, Go.Value.int Go.IntKind.i64 0]) := by kernel_rfl
theorem ag49 : isAggT Try.prog 49 = some true := by kernel_rfl
theorem by49 : ((Try.prog.info? 49).map (·.bytes)) = some 96 := by kernel_rfl
theorem zo49 : zeroOk Try.prog 49 = true := by kernel_rfl
theorem pl49 : plcT Try.prog 49 = some [(0, 1), (1, 1), (2, 1), (3, 1), (4, 1), (5, 1), (6, 1), (7, 1), (8, 1)] := by kernel_rfl
theorem fl49_0 : fldT Try.prog 49 0 = some 0 := by kernel_rfl
theorem fl49_1 : fldT Try.prog 49 1 = some 1 := by kernel_rfl
theorem fl49_2 : fldT Try.prog 49 2 = some 2 := by kernel_rfl
theorem fl49_3 : fldT Try.prog 49 3 = some 3 := by kernel_rfl
theorem fl49_4 : fldT Try.prog 49 4 = some 4 := by kernel_rfl
theorem fl49_5 : fldT Try.prog 49 5 = some 5 := by kernel_rfl
theorem fl49_6 : fldT Try.prog 49 6 = some 6 := by kernel_rfl
theorem fl49_7 : fldT Try.prog 49 7 = some 7 := by kernel_rfl
theorem fl49_8 : fldT Try.prog 49 8 = some 8 := by kernel_rfl
theorem sz50 : szT Try.prog 50 = some 9 := by kernel_rfl
theorem ze50 : (Try.prog.info? 50).bind (·.zero) = some (Go.Value.agg #[Go.Value.string { data := #[] }, Go.Value.string { data := #[] }, Go.Value.string { data := #[] }, Go.Value.int Go.IntKind.i64 0, Go.Value.int Go.IntKind.i64 0, Go.Value.int Go.IntKind.i64 0, Go.Value.int Go.IntKind.i64 0, Go.Value.int Go.IntKind.i64 0, Go.Value.int Go.IntKind.i64 0]) := by kernel_rfl
theorem ag50 : isAggT Try.prog 50 = some true := by kernel_rfl
theorem by50 : ((Try.prog.info? 50).map (·.bytes)) = some 96 := by kernel_rfl
theorem zo50 : zeroOk Try.prog 50 = true := by kernel_rfl
theorem pl50 : plcT Try.prog 50 = some [(0, 1), (1, 1), (2, 1), (3, 1), (4, 1), (5, 1), (6, 1), (7, 1), (8, 1)] := by kernel_rfl
theorem fl50_0 : fldT Try.prog 50 0 = some 0 := by kernel_rfl
theorem fl50_1 : fldT Try.prog 50 1 = some 1 := by kernel_rfl
theorem fl50_2 : fldT Try.prog 50 2 = some 2 := by kernel_rfl
theorem fl50_3 : fldT Try.prog 50 3 = some 3 := by kernel_rfl
theorem fl50_4 : fldT Try.prog 50 4 = some 4 := by kernel_rfl
theorem fl50_5 : fldT Try.prog 50 5 = some 5 := by kernel_rfl
theorem fl50_6 : fldT Try.prog 50 6 = some 6 := by kernel_rfl
theorem fl50_7 : fldT Try.prog 50 7 = some 7 := by kernel_rfl
theorem fl50_8 : fldT Try.prog 50 8 = some 8 := by kernel_rfl
theorem sz51 : szT Try.prog 51 = some 1 := by kernel_rfl
theorem ze51 : (Try.prog.info? 51).bind (·.zero) = some Go.Value.nilFunc := by kernel_rfl
theorem ag51 : isAggT Try.prog 51 = some false := by kernel_rfl
theorem by51 : ((Try.prog.info? 51).map (·.bytes)) = some 8 := by kernel_rfl
theorem sz52 : szT Try.prog 52 = some 1 := by kernel_rfl
theorem ze52 : (Try.prog.info? 52).bind (·.zero) = some Go.Value.nilFunc := by kernel_rfl
theorem ag52 : isAggT Try.prog 52 = some false := by kernel_rfl
theorem by52 : ((Try.prog.info? 52).map (·.bytes)) = some 8 := by kernel_rfl
theorem sz53 : szT Try.prog 53 = some 1 := by kernel_rfl
theorem ze53 : (Try.prog.info? 53).bind (·.zero) = some Go.Value.nilFunc := by kernel_rfl
theorem ag53 : isAggT Try.prog 53 = some false := by kernel_rfl
theorem by53 : ((Try.prog.info? 53).map (·.bytes)) = some 8 := by kernel_rfl
theorem sz54 : szT Try.prog 54 = some 1 := by kernel_rfl
theorem ze54 : (Try.prog.info? 54).bind (·.zero) = some Go.Value.nilFunc := by kernel_rfl
theorem ag54 : isAggT Try.prog 54 = some false := by kernel_rfl
theorem by54 : ((Try.prog.info? 54).map (·.bytes)) = some 8 := by kernel_rfl
theorem sz55 : szT Try.prog 55 = some 2 := by kernel_rfl
theorem ze55 : (Try.prog.info? 55).bind (·.zero) = some (Go.Value.agg #[Go.Value.slice none 0 0, Go.Value.slice none 0 0]) := by kernel_rfl
theorem ag55 : isAggT Try.prog 55 = some true := by kernel_rfl
theorem by55 : ((Try.prog.info? 55).map (·.bytes)) = some 48 := by kernel_rfl
theorem zo55 : zeroOk Try.prog 55 = true := by kernel_rfl
theorem pl55 : plcT Try.prog 55 = some [(0, 1), (1, 1)] := by kernel_rfl
theorem fl55_0 : fldT Try.prog 55 0 = some 0 := by kernel_rfl
theorem fl55_1 : fldT Try.prog 55 1 = some 1 := by kernel_rfl
theorem sz56 : szT Try.prog 56 = some 2 := by kernel_rfl
theorem ze56 : (Try.prog.info? 56).bind (·.zero) = some (Go.Value.agg #[Go.Value.slice none 0 0, Go.Value.slice none 0 0]) := by kernel_rfl
theorem ag56 : isAggT Try.prog 56 = some true := by kernel_rfl
theorem by56 : ((Try.prog.info? 56).map (·.bytes)) = some 48 := by kernel_rfl
theorem zo56 : zeroOk Try.prog 56 = true := by kernel_rfl
theorem pl56 : plcT Try.prog 56 = some [(0, 1), (1, 1)] := by kernel_rfl
theorem fl56_0 : fldT Try.prog 56 0 = some 0 := by kernel_rfl
theorem fl56_1 : fldT Try.prog 56 1 = some 1 := by kernel_rfl
theorem sz58 : szT Try.prog 58 = some 1 := by kernel_rfl
theorem ze58 : (Try.prog.info? 58).bind (·.zero) = some Go.Value.nilFunc := by kernel_rfl
theorem ag58 : isAggT Try.prog 58 = some false := by kernel_rfl
theorem by58 : ((Try.prog.info? 58).map (·.bytes)) = some 8 := by kernel_rfl
theorem sz60 : szT Try.prog 60 = some 1 := by kernel_rfl
theorem ze60 : (Try.prog.info? 60).bind (·.zero) = some Go.Value.nilFunc := by kernel_rfl
theorem ag60 : isAggT Try.prog 60 = some false := by kernel_rfl
theorem by60 : ((Try.prog.info? 60).map (·.bytes)) = some 8 := by kernel_rfl
theorem sz61 : szT Try.prog 61 = some 1 := by kernel_rfl
theorem ze61 : (Try.prog.info? 61).bind (·.zero) = some Go.Value.nilFunc := by kernel_rfl
theorem ag61 : isAggT Try.prog 61 = some false := by kernel_rfl
theorem by61 : ((Try.prog.info? 61).map (·.bytes)) = some 8 := by kernel_rfl
theorem sz62 : szT Try.prog 62 = some 1 := by kernel_rfl
theorem ze62 : (Try.prog.info? 62).bind (·.zero) = some Go.Value.nilFunc := by kernel_rfl
theorem ag62 : isAggT Try.prog 62 = some false := by kernel_rfl
theorem by62 : ((Try.prog.info? 62).map (·.bytes)) = some 8 := by kernel_rfl
theorem sz63 : szT Try.prog 63 = some 1 := by kernel_rfl
theorem ze63 : (Try.prog.info? 63).bind (·.zero) = some Go.Value.nilFunc := by kernel_rfl
theorem ag63 : isAggT Try.prog 63 = some false := by kernel_rfl
theorem by63 : ((Try.prog.info? 63).map (·.bytes)) = some 8 := by kernel_rfl
theorem sz64 : szT Try.prog 64 = some 5 := by kernel_rfl
theorem ze64 : (Try.prog.info? 64).bind (·.zero) = some (Go.Value.agg #[Go.Value.string { data := #[] }, Go.Value.string { data := #[] }, Go.Value.int Go.IntKind.i64 0, Go.Value.int Go.IntKind.i64 0, Go.Value.int Go.IntKind.i64 0]) := by kernel_rfl
theorem ag64 : isAggT Try.prog 64 = some true := by kernel_rfl
theorem by64 : ((Try.prog.info? 64).map (·.bytes)) = some 56 := by kernel_rfl
theorem zo64 : zeroOk Try.prog 64 = true := by kernel_rfl
theorem pl64 : plcT Try.prog 64 = some [(0, 1), (1, 1), (2, 1), (3, 1), (4, 1)] := by kernel_rfl
theorem fl64_0 : fldT Try.prog 64 0 = some 0 := by kernel_rfl
theorem fl64_1 : fldT Try.prog 64 1 = some 1 := by kernel_rfl
theorem fl64_2 : fldT Try.prog 64 2 = some 2 := by kernel_rfl
theorem fl64_3 : fldT Try.prog 64 3 = some 3 := by kernel_rfl
theorem fl64_4 : fldT Try.prog 64 4 = some 4 := by kernel_rfl
theorem sz65 : szT Try.prog 65 = some 5 := by kernel_rfl
theorem ze65 : (Try.prog.info? 65).bind (·.zero) = some (Go.Value.agg #[Go.Value.string { data := #[] }, Go.Value.string { data := #[] }, Go.Value.int Go.IntKind.i64 0, Go.Value.int Go.IntKind.i64 0, Go.Value.int Go.IntKind.i64 0]) := by kernel_rfl
theorem ag65 : isAggT Try.prog 65 = some true := by kernel_rfl
theorem by65 : ((Try.prog.info? 65).map (·.bytes)) = some 56 := by kernel_rfl
theorem zo65 : zeroOk Try.prog 65 = true := by kernel_rfl
theorem pl65 : plcT Try.prog 65 = some [(0, 1), (1, 1), (2, 1), (3, 1), (4, 1)] := by kernel_rfl
theorem fl65_0 : fldT Try.prog 65 0 = some 0 := by kernel_rfl
theorem fl65_1 : fldT Try.prog 65 1 = some 1 := by kernel_rfl
theorem fl65_2 : fldT Try.prog 65 2 = some 2 := by kernel_rfl
theorem fl65_3 : fldT Try.prog 65 3 = some 3 := by kernel_rfl
theorem fl65_4 : fldT Try.prog 65 4 = some 4 := by kernel_rfl
theorem sz66 : szT Try.prog 66 = some 1 := by kernel_rfl
theorem ze66 : (Try.prog.info? 66).bind (·.zero) = some Go.Value.nilFunc := by kernel_rfl
theorem ag66 : isAggT Try.prog 66 = some false := by kernel_rfl
theorem by66 : ((Try.prog.info? 66).map (·.bytes)) = some 8 := by kernel_rfl
theorem sz67 : szT Try.prog 67 = some 1 := by kernel_rfl
theorem ze67 : (Try.prog.info? 67).bind (·.zero) = some Go.Value.nilFunc := by kernel_rfl
theorem ag67 : isAggT Try.prog 67 = some false := by kernel_rfl
theorem by67 : ((Try.prog.info? 67).map (·.bytes)) = some 8 := by kernel_rfl
theorem sz68 : szT Try.prog 68 = some 5 := by kernel_rfl
theorem ze68 : (Try.prog.info? 68).bind (·.zero) = some (Go.Value.agg #[Go.Value.string { data := #[] }, Go.Value.string { data := #[] }, Go.Value.int Go.IntKind.i64 0, Go.Value.int Go.IntKind.i64 0, Go.Value.int Go.IntKind.i64 0]) := by kernel_rfl
theorem ag68 : isAggT Try.prog 68 = some true := by kernel_rfl
theorem by68 : ((Try.prog.info? 68).map (·.bytes)) = some 56 := by kernel_rfl
theorem zo68 : zeroOk Try.prog 68 = true := by kernel_rfl
theorem pl68 : plcT Try.prog 68 = some [(0, 1), (1, 1), (2, 1), (3, 1), (4, 1)] := by kernel_rfl
theorem fl68_0 : fldT Try.prog 68 0 = some 0 := by kernel_rfl
theorem fl68_1 : fldT Try.prog 68 1 = some 1 := by kernel_rfl
theorem fl68_2 : fldT Try.prog 68 2 = some 2 := by kernel_rfl
theorem fl68_3 : fldT Try.prog 68 3 = some 3 := by kernel_rfl
theorem fl68_4 : fldT Try.prog 68 4 = some 4 := by kernel_rfl
theorem sz69 : szT Try.prog 69 = some 5 := by kernel_rfl
theorem ze69 : (Try.prog.info? 69).bind (·.zero) = some (Go.Value.agg #[Go.Value.string { data := #[] }, Go.Value.string { data := #[] }, Go.Value.int Go.IntKind.i64 0, Go.Value.int Go.IntKind.i64 0, Go.Value.int Go.IntKind.i64 0]) := by kernel_rfl
theorem ag69 : isAggT Try.prog 69 = some true := by kernel_rfl
theorem by69 : ((Try.prog.info? 69).map (·.bytes)) = some 56 := by kernel_rfl
theorem zo69 : zeroOk Try.prog 69 = true := by kernel_rfl
theorem pl69 : plcT Try.prog 69 = some [(0, 1), (1, 1), (2, 1), (3, 1), (4, 1)] := by kernel_rfl
theorem fl69_0 : fldT Try.prog 69 0 = some 0 := by kernel_rfl
theorem fl69_1 : fldT Try.prog 69 1 = some 1 := by kernel_rfl
theorem fl69_2 : fldT Try.prog 69 2 = some 2 := by kernel_rfl
theorem fl69_3 : fldT Try.prog 69 3 = some 3 := by kernel_rfl
theorem fl69_4 : fldT Try.prog 69 4 = some 4 := by kernel_rfl
theorem sz70 : szT Try.prog 70 = some 1 := by kernel_rfl
theorem ze70 : (Try.prog.info? 70).bind (·.zero) = some Go.Value.nilFunc := by kernel_rfl
theorem ag70 : isAggT Try.prog 70 = some false := by kernel_rfl
theorem by70 : ((Try.prog.info? 70).map (·.bytes)) = some 8 := by kernel_rfl
theorem sz71 : szT Try.prog 71 = some 1 := by kernel_rfl
theorem ze71 : (Try.prog.info? 71).bind (·.zero) = some Go.Value.nilFunc := by kernel_rfl
theorem ag71 : isAggT Try.prog 71 = some false := by kernel_rfl
theorem by71 : ((Try.prog.info? 71).map (·.bytes)) = some 8 := by kernel_rfl
theorem sz72 : szT Try.prog 72 = some 1 := by kernel_rfl
theorem ze72 : (Try.prog.info? 72).bind (·.zero) = some (Go.Value.slice none 0 0) := by kernel_rfl
theorem ag72 : isAggT Try.prog 72 = some false := by kernel_rfl
theorem by72 : ((Try.prog.info? 72).map (·.bytes)) = some 24 := by kernel_rfl
theorem ni72 : notInt Try.prog 72 = true := by kernel_rfl
theorem el72 : elemT Try.prog 72 = some 41 := by kernel_rfl
theorem sz74 : szT Try.prog 74 = some 1 := by kernel_rfl
theorem ze74 : (Try.prog.info? 74).bind (·.zero) = some Go.Value.nilFunc := by kernel_rfl
theorem ag74 : isAggT Try.prog 74 = some false := by kernel_rfl
theorem by74 : ((Try.prog.info? 74).map (·.bytes)) = some 8 := by kernel_rfl
theorem sz76 : szT Try.prog 76 = some 1 := by kernel_rfl
theorem ze76 : (Try.prog.info? 76).bind (·.zero) = some Go.Value.nilFunc := by kernel_rfl
theorem ag76 : isAggT Try.prog 76 = some false := by kernel_rfl
theorem by76 : ((Try.prog.info? 76).map (·.bytes)) = some 8 := by kernel_rfl
theorem sz77 : szT Try.prog 77 = some 1 := by kernel_rfl
theorem ze77 : (Try.prog.info? 77).bind (·.zero) = some Go.Value.nilFunc := by kernel_rfl
theorem ag77 : isAggT Try.prog 77 = some false := by kernel_rfl
theorem by77 : ((Try.prog.info? 77).map (·.bytes)) = some 8 := by kernel_rfl
theorem sz78 : szT Try.prog 78 = some 1 := by kernel_rfl
theorem ze78 : (Try.prog.info? 78).bind (·.zero) = some Go.Value.nilFunc := by kernel_rfl
theorem ag78 : isAggT Try.prog 78 = some false := by kernel_rfl
theorem by78 : ((Try.prog.info? 78).map (·.bytes)) = some 8 := by kernel_rfl
theorem sz79 : szT Try.prog 79 = some 1 := by kernel_rfl
theorem ze79 : (Try.prog.info? 79).bind (·.zero) = some Go.Value.nilFunc := by kernel_rfl
theorem ag79 : isAggT Try.prog 79 = some false := by kernel_rfl
theorem by79 : ((Try.prog.info? 79).map (·.bytes)) = some 8 := by kernel_rfl
theorem sz80 : szT Try.prog 80 = some 5 := by kernel_rfl
theorem ze80 : (Try.prog.info? 80).bind (·.zero) = some (Go.Value.agg #[Go.Value.string { data := #[] }, Go.Value.string { data := #[] }, Go.Value.string { data := #[] }, Go.Value.bool false, Go.Value.bool false]) := by kernel_rfl
theorem ag80 : isAggT Try.prog 80 = some true := by kernel_rfl
theorem by80 : ((Try.prog.info? 80).map (·.bytes)) = some 56 := by kernel_rfl
theorem zo80 : zeroOk Try.prog 80 = true := by kernel_rfl
theorem pl80 : plcT Try.prog 80 = some [(0, 1), (1, 1), (2, 1), (3, 1), (4, 1)] := by kernel_rfl
theorem fl80_0 : fldT Try.prog 80 0 = some 0 := by kernel_rfl
theorem fl80_1 : fldT Try.prog 80 1 = some 1 := by kernel_rfl
theorem fl80_2 : fldT Try.prog 80 2 = some 2 := by kernel_rfl
theorem fl80_3 : fldT Try.prog 80 3 = some 3 := by kernel_rfl
theorem fl80_4 : fldT Try.prog 80 4 = some 4 := by kernel_rfl
theorem sz81 : szT Try.prog 81 = some 5 := by kernel_rfl
theorem ze81 : (Try.prog.info? 81).bind (·.zero) = some (Go.Value.agg #[Go.Value.string { data := #[] }, Go.Value.string { data := #[] }, Go.Value.string { data := #[] }, Go.Value.bool false, Go.Value.bool false]) := by kernel_rfl
theorem ag81 : isAggT Try.prog 81 = some true := by kernel_rfl
theorem by81 : ((Try.prog.info? 81).map (·.bytes)) = some 56 := by kernel_rfl
theorem zo81 : zeroOk Try.prog 81 = true := by kernel_rfl
theorem pl81 : plcT Try.prog 81 = some [(0, 1), (1, 1), (2, 1), (3, 1), (4, 1)] := by kernel_rfl
theorem fl81_0 : fldT Try.prog 81 0 = some 0 := by kernel_rfl
theorem fl81_1 : fldT Try.prog 81 1 = some 1 := by kernel_rfl
theorem fl81_2 : fldT Try.prog 81 2 = some 2 := by kernel_rfl
theorem fl81_3 : fldT Try.prog 81 3 = some 3 := by kernel_rfl
theorem fl81_4 : fldT Try.prog 81 4 = some 4 := by kernel_rfl
theorem sz82 : szT Try.prog 82 = some 1 := by kernel_rfl
theorem ze82 : (Try.prog.info? 82).bind (·.zero) = some Go.Value.nilFunc := by kernel_rfl
theorem ag82 : isAggT Try.prog 82 = some false := by kernel_rfl
theorem by82 : ((Try.prog.info? 82).map (·.bytes)) = some 8 := by kernel_rfl
theorem sz83 : szT Try.prog 83 = some 1 := by kernel_rfl
theorem ze83 : (Try.prog.info? 83).bind (·.zero) = some Go.Value.nilFunc := by kernel_rfl
theorem ag83 : isAggT Try.prog 83 = some false := by kernel_rfl
theorem by83 : ((Try.prog.info? 83).map (·.bytes)) = some 8 := by kernel_rfl
theorem sz84 : szT Try.prog 84 = some 1 := by kernel_rfl
theorem ze84 : (Try.prog.info? 84).bind (·.zero) = some Go.Value.nilFunc := by kernel_rfl
theorem ag84 : isAggT Try.prog 84 = some false := by kernel_rfl
theorem by84 : ((Try.prog.info? 84).map (·.bytes)) = some 8 := by kernel_rfl
theorem sz85 : szT Try.prog 85 = some 1 := by kernel_rfl
theorem ze85 : (Try.prog.info? 85).bind (·.zero) = some Go.Value.nilFunc := by kernel_rfl
theorem ag85 : isAggT Try.prog 85 = some false := by kernel_rfl
theorem by85 : ((Try.prog.info? 85).map (·.bytes)) = some 8 := by kernel_rfl
theorem sz86 : szT Try.prog 86 = some 1 := by kernel_rfl
theorem ze86 : (Try.prog.info? 86).bind (·.zero) = some Go.Value.nilFunc := by kernel_rfl
theorem ag86 : isAggT Try.prog 86 = some false := by kernel_rfl
theorem by86 : ((Try.prog.info? 86).map (·.bytes)) = some 8 := by kernel_rfl
theorem sz87 : szT Try.prog 87 = some 1 := by kernel_rfl
theorem ze87 : (Try.prog.info? 87).bind (·.zero) = some Go.Value.nilFunc := by kernel_rfl
theorem ag87 : isAggT Try.prog 87 = some false := by kernel_rfl
theorem by87 : ((Try.prog.info? 87).map (·.bytes)) = some 8 := by kernel_rfl
theorem sz88 : szT Try.prog 88 = some 1 := by kernel_rfl
theorem ze88 : (Try.prog.info? 88).bind (·.zero) = some Go.Value.nilFunc := by kernel_rfl
theorem ag88 : isAggT Try.prog 88 = some false := by kernel_rfl
theorem by88 : ((Try.prog.info? 88).map (·.bytes)) = some 8 := by kernel_rfl
theorem sz89 : szT Try.prog 89 = some 1 := by kernel_rfl
theorem ze89 : (Try.prog.info? 89).bind (·.zero) = some Go.Value.nilFunc := by kernel_rfl
theorem ag89 : isAggT Try.prog 89 = some false := by kernel_rfl
theorem by89 : ((Try.prog.info? 89).map (·.bytes)) = some 8 := by kernel_rfl
theorem sz90 : szT Try.prog 90 = some 1 := by kernel_rfl
theorem ze90 : (Try.prog.info? 90).bind (·.zero) = some (Go.Value.slice none 0 0) := by kernel_rfl
theorem ag90 : isAggT Try.prog 90 = some false := by kernel_rfl
theorem by90 : ((Try.prog.info? 90).map (·.bytes)) = some 24 := by kernel_rfl
theorem ni90 : notInt Try.prog 90 = true := by kernel_rfl
theorem el90 : elemT Try.prog 90 = some 24 := by kernel_rfl
theorem sz92 : szT Try.prog 92 = some 1 := by kernel_rfl
theorem ze92 : (Try.prog.info? 92).bind (·.zero) = some Go.Value.nilFunc := by kernel_rfl
theorem ag92 : isAggT Try.prog 92 = some false := by kernel_rfl
theorem by92 : ((Try.prog.info? 92).map (·.bytes)) = some 8 := by kernel_rfl
theorem sz93 : szT Try.prog 93 = some 1 := by kernel_rfl
theorem ze93 : (Try.prog.info? 93).bind (·.zero) = some Go.Value.nilFunc := by kernel_rfl
theorem ag93 : isAggT Try.prog 93 = some false := by kernel_rfl
theorem by93 : ((Try.prog.info? 93).map (·.bytes)) = some 8 := by kernel_rfl
theorem sz94 : szT Try.prog 94 = some 1 := by kernel_rfl
theorem ze94 : (Try.prog.info? 94).bind (·.zero) = some Go.Value.nilFunc := by kernel_rfl
theorem ag94 : isAggT Try.prog 94 = some false := by kernel_rfl
theorem by94 : ((Try.prog.info? 94).map (·.bytes)) = some 8 := by kernel_rfl
theorem sz95 : szT Try.prog 95 = some 1 := by kernel_rfl
theorem ze95 : (Try.prog.info? 95).bind (·.zero) = some Go.Value.nilFunc := by kernel_rfl
theorem ag95 : isAggT Try.prog 95 = some false := by kernel_rfl
theorem by95 : ((Try.prog.info? 95).map (·.bytes)) = some 8 := by kernel_rfl
theorem sz96 : szT Try.prog 96 = some 1 := by kernel_rfl
theorem ze96 : (Try.prog.info? 96).bind (·.zero) = some Go.Value.nilFunc := by kernel_rfl
theorem ag96 : isAggT Try.prog 96 = some false := by kernel_rfl
theorem by96 : ((Try.prog.info? 96).map (·.bytes)) = some 8 := by kernel_rfl
theorem sz98 : szT Try.prog 98 = some 1 := by kernel_rfl
theorem ze98 : (Try.prog.info? 98).bind (·.zero) = some Go.Value.nilFunc := by kernel_rfl
theorem ag98 : isAggT Try.prog 98 = some false := by kernel_rfl
theorem by98 : ((Try.prog.info? 98).map (·.bytes)) = some 8 := by kernel_rfl
theorem sz100 : szT Try.prog 100 = some 1 := by kernel_rfl
theorem ze100 : (Try.prog.info? 100).bind (·.zero) = some Go.Value.nilFunc := by kernel_rfl
theorem ag100 : isAggT Try.prog 100 = some false := by kernel_rfl
theorem by100 : ((Try.prog.info? 100).map (·.bytes)) = some 8 := by kernel_rfl
theorem sz102 : szT Try.prog 102 = some 1 := by kernel_rfl
theorem ze102 : (Try.prog.info? 102).bind (·.zero) = some Go.Value.nilFunc := by kernel_rfl
theorem ag102 : isAggT Try.prog 102 = some false := by kernel_rfl
theorem by102 : ((Try.prog.info? 102).map (·.bytes)) = some 8 := by kernel_rfl
theorem sz103 : szT Try.prog 103 = some 1 := by kernel_rfl
theorem ze103 : (Try.prog.info? 103).bind (·.zero) = some Go.Value.nilFunc := by kernel_rfl
theorem ag103 : isAggT Try.prog 103 = some false := by kernel_rfl
theorem by103 : ((Try.prog.info? 103).map (·.bytes)) = some 8 := by kernel_rfl
theorem sz104 : szT Try.prog 104 = some 1 := by kernel_rfl
theorem ze104 : (Try.prog.info? 104).bind (·.zero) = some Go.Value.nilFunc := by kernel_rfl
theorem ag104 : isAggT Try.prog 104 = some false := by kernel_rfl
theorem by104 : ((Try.prog.info? 104).map (·.bytes)) = some 8 := by kernel_rfl
theorem sz105 : szT Try.prog 105 = some 1 := by kernel_rfl
theorem ze105 : (Try.prog.info? 105).bind (·.zero) = some (Go.Value.agg #[Go.Value.slice none 0 0]) := by kernel_rfl
theorem ag105 : isAggT Try.prog 105 = some true := by kernel_rfl
theorem by105 : ((Try.prog.info? 105).map (·.bytes)) = some 24 := by kernel_rfl
theorem zo105 : zeroOk Try.prog 105 = true := by kernel_rfl
theorem pl105 : plcT Try.prog 105 = some [(0, 1)] := by kernel_rfl
theorem fl105_0 : fldT Try.prog 105 0 = some 0 := by kernel_rfl
theorem sz106 : szT Try.prog 106 = some 1 := by kernel_rfl
theorem ze106 : (Try.prog.info? 106).bind (·.zero) = some (Go.Value.agg #[Go.Value.slice none 0 0]) := by kernel_rfl
theorem ag106 : isAggT Try.prog 106 = some true := by kernel_rfl
theorem by106 : ((Try.prog.info? 106).map (·.bytes)) = some 24 := by kernel_rfl
theorem zo106 : zeroOk Try.prog 106 = true := by kernel_rfl
theorem pl106 : plcT Try.prog 106 = some [(0, 1)] := by kernel_rfl
theorem fl106_0 : fldT Try.prog 106 0 = some 0 := by kernel_rfl
theorem sz107 : szT Try.prog 107 = some 1 := by kernel_rfl
theorem ze107 : (Try.prog.info? 107).bind (·.zero) = some Go.Value.nilFunc := by kernel_rfl
theorem ag107 : isAggT Try.prog 107 = some false := by kernel_rfl
theorem by107 : ((Try.prog.info? 107).map (·.bytes)) = some 8 := by kernel_rfl
theorem sz108 : szT Try.prog 108 = some 1 := by kernel_rfl
theorem ze108 : (Try.prog.info? 108).bind (·.zero) = some Go.Value.nilFunc := by kernel_rfl
theorem ag108 : isAggT Try.prog 108 = some false := by kernel_rfl
theorem by108 : ((Try.prog.info? 108).map (·.bytes)) = some 8 := by kernel_rfl
theorem sz109 : szT Try.prog 109 = some 1 := by kernel_rfl
theorem ze109 : (Try.prog.info? 109).bind (·.zero) = some (Go.Value.pointer none) := by kernel_rfl
theorem ag109 : isAggT Try.prog 109 = some false := by kernel_rfl
theorem by109 : ((Try.prog.info? 109).map (·.bytes)) = some 8 := by kernel_rfl
theorem sz110 : szT Try.prog 110 = some 1 := by kernel_rfl
theorem ze110 : (Try.prog.info? 110).bind (·.zero) = some Go.Value.nilFunc := by kernel_rfl
theorem ag110 : isAggT Try.prog 110 = some false := by kernel_rfl
theorem by110 : ((Try.prog.info? 110).map (·.bytes)) = some 8 := by kernel_rfl
theorem sz111 : szT Try.prog 111 = some 1 := by kernel_rfl
theorem ze111 : (Try.prog.info? 111).bind (·.zero) = some (Go.Value.slice none 0 0) := by kernel_rfl
theorem ag111 : isAggT Try.prog 111 = some false := by kernel_rfl
theorem by111 : ((Try.prog.info? 111).map (·.bytes)) = some 24 := by kernel_rfl
theorem ni111 : notInt Try.prog 111 = true := by kernel_rfl
theorem el111 : elemT Try.prog 111 = some 114 := by kernel_rfl
theorem sz112 : szT Try.prog 112 = some 1 := by kernel_rfl
theorem ze112 : (Try.prog.info? 112).bind (·.zero) = some Go.Value.nilFunc := by kernel_rfl
theorem ag112 : isAggT Try.prog 112 = some false := by kernel_rfl
theorem by112 : ((Try.prog.info? 112).map (·.bytes)) = some 8 := by kernel_rfl
theorem sz113 : szT Try.prog 113 = some 4 := by kernel_rfl
theorem ze113 : (Try.prog.info? 113).bind (·.zero) = some (Go.Value.agg #[Go.Value.string { data := #[] }, Go.Value.slice none 0 0, Go.Value.bool false, Go.Value.bool false]) := by kernel_rfl
theorem ag113 : isAggT Try.prog 113 = some true := by kernel_rfl
theorem by113 : ((Try.prog.info? 113).map (·.bytes)) = some 48 := by kernel_rfl
theorem zo113 : zeroOk Try.prog 113 = true := by kernel_rfl
theorem pl113 : plcT Try.prog 113 = some [(0, 1), (1, 1), (2, 1), (3, 1)] := by kernel_rfl
theorem fl113_0 : fldT Try.prog 113 0 = some 0 := by kernel_rfl
theorem fl113_1 : fldT Try.prog 113 1 = some 1 := by kernel_rfl
theorem fl113_2 : fldT Try.prog 113 2 = some 2 := by kernel_rfl
theorem fl113_3 : fldT Try.prog 113 3 = some 3 := by kernel_rfl
theorem sz114 : szT Try.prog 114 = some 4 := by kernel_rfl
theorem ze114 : (Try.prog.info? 114).bind (·.zero) = some (Go.Value.agg #[Go.Value.string { data := #[] }, Go.Value.slice none 0 0, Go.Value.bool false, Go.Value.bool false]) := by kernel_rfl
theorem ag114 : isAggT Try.prog 114 = some true := by kernel_rfl
theorem by114 : ((Try.prog.info? 114).map (·.bytes)) = some 48 := by kernel_rfl
theorem zo114 : zeroOk Try.prog 114 = true := by kernel_rfl
theorem pl114 : plcT Try.prog 114 = some [(0, 1), (1, 1), (2, 1), (3, 1)] := by kernel_rfl
theorem fl114_0 : fldT Try.prog 114 0 = some 0 := by kernel_rfl
theorem fl114_1 : fldT Try.prog 114 1 = some 1 := by kernel_rfl
theorem fl114_2 : fldT Try.prog 114 2 = some 2 := by kernel_rfl
theorem fl114_3 : fldT Try.prog 114 3 = some 3 := by kernel_rfl
theorem sz115 : szT Try.prog 115 = some 1 := by kernel_rfl
theorem ze115 : (Try.prog.info? 115).bind (·.zero) = some (Go.Value.slice none 0 0) := by kernel_rfl
theorem ag115 : isAggT Try.prog 115 = some false := by kernel_rfl
theorem by115 : ((Try.prog.info? 115).map (·.bytes)) = some 24 := by kernel_rfl
theorem ni115 : notInt Try.prog 115 = true := by kernel_rfl
theorem el115 : elemT Try.prog 115 = some 5 := by kernel_rfl
theorem sz116 : szT Try.prog 116 = some 1 := by kernel_rfl
theorem ze116 : (Try.prog.info? 116).bind (·.zero) = some Go.Value.nilFunc := by kernel_rfl
theorem ag116 : isAggT Try.prog 116 = some false := by kernel_rfl
theorem by116 : ((Try.prog.info? 116).map (·.bytes)) = some 8 := by kernel_rfl
theorem sz117 : szT Try.prog 117 = some 1 := by kernel_rfl
theorem ze117 : (Try.prog.info? 117).bind (·.zero) = some (Go.Value.pointer none) := by kernel_rfl
theorem ag117 : isAggT Try.prog 117 = some false := by kernel_rfl
theorem by117 : ((Try.prog.info? 117).map (·.bytes)) = some 8 := by kernel_rfl
theorem sz119 : szT Try.prog 119 = some 1 := by kernel_rfl
theorem ze119 : (Try.prog.info? 119).bind (·.zero) = some Go.Value.nilFunc := by kernel_rfl
theorem ag119 : isAggT Try.prog 119 = some false := by kernel_rfl
theorem by119 : ((Try.prog.info? 119).map (·.bytes)) = some 8 := by kernel_rfl
theorem sz121 : szT Try.prog 121 = some 1 := by kernel_rfl
theorem ze121 : (Try.prog.info? 121).bind (·.zero) = some Go.Value.nilFunc := by kernel_rfl
theorem ag121 : isAggT Try.prog 121 = some false := by kernel_rfl
theorem by121 : ((Try.prog.info? 121).map (·.bytes)) = some 8 := by kernel_rfl
theorem sz122 : szT Try.prog 122 = some 1 := by kernel_rfl
theorem ze122 : (Try.prog.info? 122).bind (·.zero) = some Go.Value.nilFunc := by kernel_rfl
theorem ag122 : isAggT Try.prog 122 = some false := by kernel_rfl
theorem by122 : ((Try.prog.info? 122).map (·.bytes)) = some 8 := by kernel_rfl
theorem sz123 : szT Try.prog 123 = some 1 := by kernel_rfl
theorem ze123 : (Try.prog.info? 123).bind (·.zero) = some Go.Value.nilFunc := by kernel_rfl
theorem ag123 : isAggT Try.prog 123 = some false := by kernel_rfl
theorem by123 : ((Try.prog.info? 123).map (·.bytes)) = some 8 := by kernel_rfl
theorem sz124 : szT Try.prog 124 = some 1 := by kernel_rfl
theorem ze124 : (Try.prog.info? 124).bind (·.zero) = some Go.Value.nilFunc := by kernel_rfl
theorem ag124 : isAggT Try.prog 124 = some false := by kernel_rfl
theorem by124 : ((Try.prog.info? 124).map (·.bytes)) = some 8 := by kernel_rfl
theorem sz125 : szT Try.prog 125 = some 1 := by kernel_rfl
theorem ze125 : (Try.prog.info? 125).bind (·.zero) = some Go.Value.nilFunc := by kernel_rfl
theorem ag125 : isAggT Try.prog 125 = some false := by kernel_rfl
theorem by125 : ((Try.prog.info? 125).map (·.bytes)) = some 8 := by kernel_rfl
theorem sz126 : szT Try.prog 126 = some 1 := by kernel_rfl
theorem ze126 : (Try.prog.info? 126).bind (·.zero) = some Go.Value.nilFunc := by kernel_rfl
theorem ag126 : isAggT Try.prog 126 = some false := by kernel_rfl
theorem by126 : ((Try.prog.info? 126).map (·.bytes)) = some 8 := by kernel_rfl
theorem sz128 : szT Try.prog 128 = some 1 := by kernel_rfl
theorem ze128 : (Try.prog.info? 128).bind (·.zero) = some Go.Value.nilFunc := by kernel_rfl
theorem ag128 : isAggT Try.prog 128 = some false := by kernel_rfl
theorem by128 : ((Try.prog.info? 128).map (·.bytes)) = some 8 := by kernel_rfl
theorem sz129 : szT Try.prog 129 = some 1 := by kernel_rfl
theorem ze129 : (Try.prog.info? 129).bind (·.zero) = some Go.Value.nilFunc := by kernel_rfl
theorem ag129 : isAggT Try.prog 129 = some false := by kernel_rfl
theorem by129 : ((Try.prog.info? 129).map (·.bytes)) = some 8 := by kernel_rfl
theorem sz130 : szT Try.prog 130 = some 1 := by kernel_rfl
theorem ze130 : (Try.prog.info? 130).bind (·.zero) = some Go.Value.nilFunc := by kernel_rfl
theorem ag130 : isAggT Try.prog 130 = some false := by kernel_rfl
theorem by130 : ((Try.prog.info? 130).map (·.bytes)) = some 8 := by kernel_rfl
theorem sz131 : szT Try.prog 131 = some 1 := by kernel_rfl
theorem ze131 : (Try.prog.info? 131).bind (·.zero) = some (Go.Value.slice none 0 0) := by kernel_rfl
theorem ag131 : isAggT Try.prog 131 = some false := by kernel_rfl
theorem by131 : ((Try.prog.info? 131).map (·.bytes)) = some 24 := by kernel_rfl
theorem ni131 : notInt Try.prog 131 = true := by kernel_rfl
theorem el131 : elemT Try.prog 131 = some 25 := by kernel_rfl
theorem sz132 : szT Try.prog 132 = some 1 := by kernel_rfl
theorem ze132 : (Try.prog.info? 132).bind (·.zero) = some Go.Value.nilFunc := by kernel_rfl
theorem ag132 : isAggT Try.prog 132 = some false := by kernel_rfl
theorem by132 : ((Try.prog.info? 132).map (·.bytes)) = some 8 := by kernel_rfl
theorem sz133 : szT Try.prog 133 = some 1 := by kernel_rfl
theorem ze133 : (Try.prog.info? 133).bind (·.zero) = some Go.Value.nilFunc := by kernel_rfl
theorem ag133 : isAggT Try.prog 133 = some false := by kernel_rfl
theorem by133 : ((Try.prog.info? 133).map (·.bytes)) = some 8 := by kernel_rfl
theorem sz134 : szT Try.prog 134 = some 1 := by kernel_rfl
theorem ze134 : (Try.prog.info? 134).bind (·.zero) = some Go.Value.nilFunc := by kernel_rfl
theorem ag134 : isAggT Try.prog 134 = some false := by kernel_rfl
theorem by134 : ((Try.prog.info? 134).map (·.bytes)) = some 8 := by kernel_rfl
theorem sz135 : szT Try.prog 135 = some 4 := by kernel_rfl
theorem ze135 : (Try.prog.info? 135).bind (·.zero) = some (Go.Value.agg #[Go.Value.int Go.IntKind.i64 0, Go.Value.int Go.IntKind.i64 0, Go.Value.int Go.IntKind.i64 0, Go.Value.int Go.IntKind.i64 0]) := by kernel_rfl
theorem ag135 : isAggT Try.prog 135 = some true := by kernel_rfl
theorem by135 : ((Try.prog.info? 135).map (·.bytes)) = some 32 := by kernel_rfl
theorem ar135 : arrT Try.prog 135 = some (2, 29) := by kernel_rfl
theorem zo135 : zeroOk Try.prog 135 = true := by kernel_rfl
theorem sz136 : szT Try.prog 136 = some 3 := by kernel_rfl
theorem ze136 : (Try.prog.info? 136).bind (·.zero) = some (Go.Value.agg #[Go.Value.string { data := #[] }, Go.Value.string { data := #[] }, Go.Value.int Go.IntKind.i64 0]) := by kernel_rfl
theorem ag136 : isAggT Try.prog 136 = some true := by kernel_rfl
theorem by136 : ((Try.prog.info? 136).map (·.bytes)) = some 40 := by kernel_rfl
theorem zo136 : zeroOk Try.prog 136 = true := by kernel_rfl
theorem pl136 : plcT Try.prog 136 = some [(0, 1), (1, 1), (2, 1)] := by kernel_rfl
theorem fl136_0 : fldT Try.prog 136 0 = some 0 := by kernel_rfl
theorem fl136_1 : fldT Try.prog 136 1 = some 1 := by kernel_rfl
theorem fl136_2 : fldT Try.prog 136 2 = some 2 := by kernel_rfl
theorem sz137 : szT Try.prog 137 = some 3 := by kernel_rfl
theorem ze137 : (Try.prog.info? 137).bind (·.zero) = some (Go.Value.agg #[Go.Value.string { data := #[] }, Go.Value.string { data := #[] }, Go.Value.int Go.IntKind.i64 0]) := by kernel_rfl
theorem ag137 : isAggT Try.prog 137 = some true := by kernel_rfl
theorem by137 : ((Try.prog.info? 137).map (·.bytes)) = some 40 := by kernel_rfl
theorem zo137 : zeroOk Try.prog 137 = true := by kernel_rfl
theorem pl137 : plcT Try.prog 137 = some [(0, 1), (1, 1), (2, 1)] := by kernel_rfl
theorem fl137_0 : fldT Try.prog 137 0 = some 0 := by kernel_rfl
theorem fl137_1 : fldT Try.prog 137 1 = some 1 := by kernel_rfl
theorem fl137_2 : fldT Try.prog 137 2 = some 2 := by kernel_rfl
theorem sz138 : szT Try.prog 138 = some 1 := by kernel_rfl
theorem ze138 : (Try.prog.info? 138).bind (·.zero) = some Go.Value.nilFunc := by kernel_rfl
theorem ag138 : isAggT Try.prog 138 = some false := by kernel_rfl
theorem by138 : ((Try.prog.info? 138).map (·.bytes)) = some 8 := by kernel_rfl
theorem sz139 : szT Try.prog 139 = some 1 := by kernel_rfl
theorem ze139 : (Try.prog.info? 139).bind (·.zero) = some Go.Value.nilFunc := by kernel_rfl
theorem ag139 : isAggT Try.prog 139 = some false := by kernel_rfl
theorem by139 : ((Try.prog.info? 139).map (·.bytes)) = some 8 := by kernel_rfl
theorem sz140 : szT Try.prog 140 = some 1 := by kernel_rfl
theorem ze140 : (Try.prog.info? 140).bind (·.zero) = some Go.Value.nilFunc := by kernel_rfl
theorem ag140 : isAggT Try.prog 140 = some false := by kernel_rfl
theorem by140 : ((Try.prog.info? 140).map (·.bytes)) = some 8 := by kernel_rfl
theorem sz141 : szT Try.prog 141 = some 1 := by kernel_rfl
theorem ze141 : (Try.prog.info? 141).bind (·.zero) = some Go.Value.nilFunc := by kernel_rfl
theorem ag141 : isAggT Try.prog 141 = some false := by kernel_rfl
theorem by141 : ((Try.prog.info? 141).map (·.bytes)) = some 8 := by kernel_rfl
theorem sz142 : szT Try.prog 142 = some 1 := by kernel_rfl
theorem ze142 : (Try.prog.info? 142).bind (·.zero) = some Go.Value.nilFunc := by kernel_rfl
theorem ag142 : isAggT Try.prog 142 = some false := by kernel_rfl
theorem by142 : ((Try.prog.info? 142).map (·.bytes)) = some 8 := by kernel_rfl
theorem sz143 : szT Try.prog 143 = some 1 := by kernel_rfl
theorem ze143 : (Try.prog.info? 143).bind (·.zero) = some Go.Value.nilFunc := by kernel_rfl
theorem ag143 : isAggT Try.prog 143 = some false := by kernel_rfl
theorem by143 : ((Try.prog.info? 143).map (·.bytes)) = some 8 := by kernel_rfl
theorem sz144 : szT Try.prog 144 = some 1 := by kernel_rfl
theorem ze144 : (Try.prog.info? 144).bind (·.zero) = some Go.Value.nilFunc := by kernel_rfl
theorem ag144 : isAggT Try.prog 144 = some false := by kernel_rfl
theorem by144 : ((Try.prog.info? 144).map (·.bytes)) = some 8 := by kernel_rfl
theorem sz145 : szT Try.prog 145 = some 1 := by kernel_rfl
theorem ze145 : (Try.prog.info? 145).bind (·.zero) = some Go.Value.nilFunc := by kernel_rfl
theorem ag145 : isAggT Try.prog 145 = some false := by kernel_rfl
theorem by145 : ((Try.prog.info? 145).map (·.bytes)) = some 8 := by kernel_rfl
theorem sz146 : szT Try.prog 146 = some 1 := by kernel_rfl
theorem ze146 : (Try.prog.info? 146).bind (·.zero) = some Go.Value.nilFunc := by kernel_rfl
theorem ag146 : isAggT Try.prog 146 = some false := by kernel_rfl
theorem by146 : ((Try.prog.info? 146).map (·.bytes)) = some 8 := by kernel_rfl
theorem sz147 : szT Try.prog 147 = some 1 := by kernel_rfl
theorem ze147 : (Try.prog.info? 147).bind (·.zero) = some Go.Value.nilFunc := by kernel_rfl
theorem ag147 : isAggT Try.prog 147 = some false := by kernel_rfl
theorem by147 : ((Try.prog.info? 147).map (·.bytes)) = some 8 := by kernel_rfl
theorem sz148 : szT Try.prog 148 = some 1 := by kernel_rfl
theorem ze148 : (Try.prog.info? 148).bind (·.zero) = some Go.Value.nilFunc := by kernel_rfl
theorem ag148 : isAggT Try.prog 148 = some false := by kernel_rfl
theorem by148 : ((Try.prog.info? 148).map (·.bytes)) = some 8 := by kernel_rfl
theorem sz149 : szT Try.prog 149 = some 1 := by kernel_rfl
theorem ze149 : (Try.prog.info? 149).bind (·.zero) = some Go.Value.nilFunc := by kernel_rfl
theorem ag149 : isAggT Try.prog 149 = some false := by kernel_rfl
theorem by149 : ((Try.prog.info? 149).map (·.bytes)) = some 8 := by kernel_rfl
theorem sz150 : szT Try.prog 150 = some 1 := by kernel_rfl
theorem ze150 : (Try.prog.info? 150).bind (·.zero) = some Go.Value.nilFunc := by kernel_rfl
theorem ag150 : isAggT Try.prog 150 = some false := by kernel_rfl
theorem by150 : ((Try.prog.info? 150).map (·.bytes)) = some 8 := by kernel_rfl
theorem sz151 : szT Try.prog 151 = some 1 := by kernel_rfl
theorem ze151 : (Try.prog.info? 151).bind (·.zero) = some Go.Value.nilFunc := by kernel_rfl
theorem ag151 : isAggT Try.prog 151 = some false := by kernel_rfl
theorem by151 : ((Try.prog.info? 151).map (·.bytes)) = some 8 := by kernel_rfl
theorem sz152 : szT Try.prog 152 = some 1 := by kernel_rfl
theorem ze152 : (Try.prog.info? 152).bind (·.zero) = some Go.Value.nilFunc := by kernel_rfl
theorem ag152 : isAggT Try.prog 152 = some false := by kernel_rfl
theorem by152 : ((Try.prog.info? 152).map (·.bytes)) = some 8 := by kernel_rfl
theorem sz153 : szT Try.prog 153 = some 1 := by kernel_rfl
theorem ze153 : (Try.prog.info? 153).bind (·.zero) = some Go.Value.nilFunc := by kernel_rfl
theorem ag153 : isAggT Try.prog 153 = some false := by kernel_rfl
theorem by153 : ((Try.prog.info? 153).map (·.bytes)) = some 8 := by kernel_rfl
theorem sz154 : szT Try.prog 154 = some 1 := by kernel_rfl
theorem ze154 : (Try.prog.info? 154).bind (·.zero) = some Go.Value.nilFunc := by kernel_rfl
theorem ag154 : isAggT Try.prog 154 = some false := by kernel_rfl
theorem by154 : ((Try.prog.info? 154).map (·.bytes)) = some 8 := by kernel_rfl
theorem sz155 : szT Try.prog 155 = some 1 := by kernel_rfl
theorem ze155 : (Try.prog.info? 155).bind (·.zero) = some Go.Value.nilFunc := by kernel_rfl
theorem ag155 : isAggT Try.prog 155 = some false := by kernel_rfl
theorem by155 : ((Try.prog.info? 155).map (·.bytes)) = some 8 := by kernel_rfl
theorem sz156 : szT Try.prog 156 = some 8 := by kernel_rfl
theorem ze156 : (Try.prog.info? 156).bind (·.zero) = some (Go.Value.agg #[Go.Value.slice none 0 0, Go.Value.slice none 0 0, Go.Value.slice none 0 0, Go.Value.slice none 0 0, Go.Value.slice none 0 0, Go.Value.slice none 0 0, Go.Value.slice none 0 0, Go.Value.slice none 0 0]) := by kernel_rfl
theorem ag156 : isAggT Try.prog 156 = some true := by kernel_rfl
theorem by156 : ((Try.prog.info? 156).map (·.bytes)) = some 192 := by kernel_rfl
theorem zo156 : zeroOk Try.prog 156 = true := by kernel_rfl
theorem pl156 : plcT Try.prog 156 = some [(0, 6), (6, 2)] := by kernel_rfl
theorem fl156_0 : fldT Try.prog 156 0 = some 0 := by kernel_rfl
theorem fl156_1 : fldT Try.prog 156 1 = some 6 := by kernel_rfl
theorem sz157 : szT Try.prog 157 = some 8 := by kernel_rfl
theorem ze157 : (Try.prog.info? 157).bind (·.zero) = some (Go.Value.agg #[Go.Value.slice none 0 0, Go.Value.slice none 0 0, Go.Value.slice none 0 0, Go.Value.slice none 0 0, Go.Value.slice none 0 0, Go.Value.slice none 0 0, Go.Value.slice none 0 0, Go.Value.slice none 0 0]) := by kernel_rfl
theorem ag157 : isAggT Try.prog 157 = some true := by kernel_rfl
theorem by157 : ((Try.prog.info? 157).map (·.bytes)) = some 192 := by kernel_rfl
theorem zo157 : zeroOk Try.prog 157 = true := by kernel_rfl
theorem pl157 : plcT Try.prog 157 = some [(0, 6), (6, 2)] := by kernel_rfl
theorem fl157_0 : fldT Try.prog 157 0 = some 0 := by kernel_rfl
theorem fl157_1 : fldT Try.prog 157 1 = some 6 := by kernel_rfl
theorem sz158 : szT Try.prog 158 = some 1 := by kernel_rfl
theorem ze158 : (Try.prog.info? 158).bind (·.zero) = some (Go.Value.pointer none) := by kernel_rfl
theorem ag158 : isAggT Try.prog 158 = some false := by kernel_rfl
theorem by158 : ((Try.prog.info? 158).map (·.bytes)) = some 8 := by kernel_rfl
theorem sz159 : szT Try.prog 159 = some 1 := by kernel_rfl
theorem ze159 : (Try.prog.info? 159).bind (·.zero) = some Go.Value.nilFunc := by kernel_rfl
theorem ag159 : isAggT Try.prog 159 = some false := by kernel_rfl
theorem by159 : ((Try.prog.info? 159).map (·.bytes)) = some 8 := by kernel_rfl
theorem sz160 : szT Try.prog 160 = some 1 := by kernel_rfl
theorem ze160 : (Try.prog.info? 160).bind (·.zero) = some Go.Value.nilFunc := by kernel_rfl
theorem ag160 : isAggT Try.prog 160 = some false := by kernel_rfl
theorem by160 : ((Try.prog.info? 160).map (·.bytes)) = some 8 := by kernel_rfl
theorem sz161 : szT Try.prog 161 = some 1 := by kernel_rfl
theorem ze161 : (Try.prog.info? 161).bind (·.zero) = some Go.Value.nilFunc := by kernel_rfl
theorem ag161 : isAggT Try.prog 161 = some false := by kernel_rfl
theorem by161 : ((Try.prog.info? 161).map (·.bytes)) = some 8 := by kernel_rfl
theorem sz162 : szT Try.prog 162 = some 1 := by kernel_rfl
theorem ze162 : (Try.prog.info? 162).bind (·.zero) = some Go.Value.nilFunc := by kernel_rfl
theorem ag162 : isAggT Try.prog 162 = some false := by kernel_rfl
theorem by162 : ((Try.prog.info? 162).map (·.bytes)) = some 8 := by kernel_rfl
theorem sz163 : szT Try.prog 163 = some 1 := by kernel_rfl
theorem ze163 : (Try.prog.info? 163).bind (·.zero) = some (Go.Value.int Go.IntKind.u64 0) := by kernel_rfl
theorem ag163 : isAggT Try.prog 163 = some false := by kernel_rfl
theorem by163 : ((Try.prog.info? 163).map (·.bytes)) = some 8 := by kernel_rfl
theorem in163 : intT Try.prog 163 = some Go.IntKind.u64 := by kernel_rfl
theorem sz165 : szT Try.prog 165 = some 1 := by kernel_rfl
theorem ze165 : (Try.prog.info? 165).bind (·.zero) = some Go.Value.nilFunc := by kernel_rfl
theorem ag165 : isAggT Try.prog 165 = some false := by kernel_rfl
theorem by165 : ((Try.prog.info? 165).map (·.bytes)) = some 8 := by kernel_rfl
theorem sz166 : szT Try.prog 166 = some 1 := by kernel_rfl
theorem ze166 : (Try.prog.info? 166).bind (·.zero) = some (Go.Value.int Go.IntKind.u32 0) := by kernel_rfl
theorem ag166 : isAggT Try.prog 166 = some false := by kernel_rfl
theorem by166 : ((Try.prog.info? 166).map (·.bytes)) = some 4 := by kernel_rfl
theorem in166 : intT Try.prog 166 = some Go.IntKind.u32 := by kernel_rfl
theorem sz168 : szT Try.prog 168 = some 1 := by kernel_rfl
theorem ze168 : (Try.prog.info? 168).bind (·.zero) = some Go.Value.nilFunc := by kernel_rfl
theorem ag168 : isAggT Try.prog 168 = some false := by kernel_rfl
theorem by168 : ((Try.prog.info? 168).map (·.bytes)) = some 8 := by kernel_rfl
theorem sz169 : szT Try.prog 169 = some 1 := by kernel_rfl
theorem ze169 : (Try.prog.info? 169).bind (·.zero) = some (Go.Value.int Go.IntKind.u64 0) := by kernel_rfl
theorem ag169 : isAggT Try.prog 169 = some false := by kernel_rfl
theorem by169 : ((Try.prog.info? 169).map (·.bytes)) = some 8 := by kernel_rfl
theorem in169 : intT Try.prog 169 = some Go.IntKind.u64 := by kernel_rfl
theorem sz171 : szT Try.prog 171 = some 1 := by kernel_rfl
theorem ze171 : (Try.prog.info? 171).bind (·.zero) = some Go.Value.nilFunc := by kernel_rfl
theorem ag171 : isAggT Try.prog 171 = some false := by kernel_rfl
theorem by171 : ((Try.prog.info? 171).map (·.bytes)) = some 8 := by kernel_rfl
theorem sz172 : szT Try.prog 172 = some 1 := by kernel_rfl
theorem ze172 : (Try.prog.info? 172).bind (·.zero) = some Go.Value.nilFunc := by kernel_rfl
theorem ag172 : isAggT Try.prog 172 = some false := by kernel_rfl
theorem by172 : ((Try.prog.info? 172).map (·.bytes)) = some 8 := by kernel_rfl
theorem sz178 : szT Try.prog 178 = some 1 := by kernel_rfl
theorem ze178 : (Try.prog.info? 178).bind (·.zero) = some Go.Value.nilFunc := by kernel_rfl
theorem ag178 : isAggT Try.prog 178 = some false := by kernel_rfl
theorem by178 : ((Try.prog.info? 178).map (·.bytes)) = some 8 := by kernel_rfl
theorem sz181 : szT Try.prog 181 = some 1 := by kernel_rfl
theorem ze181 : (Try.prog.info? 181).bind (·.zero) = some Go.Value.nilFunc := by kernel_rfl
theorem ag181 : isAggT Try.prog 181 = some false := by kernel_rfl
theorem by181 : ((Try.prog.info? 181).map (·.bytes)) = some 8 := by kernel_rfl
theorem sz182 : szT Try.prog 182 = some 1 := by kernel_rfl
theorem ze182 : (Try.prog.info? 182).bind (·.zero) = some (Go.Value.pointer none) := by kernel_rfl
theorem ag182 : isAggT Try.prog 182 = some false := by kernel_rfl
theorem by182 : ((Try.prog.info? 182).map (·.bytes)) = some 8 := by kernel_rfl
theorem sz187 : szT Try.prog 187 = some 1 := by kernel_rfl
theorem ze187 : (Try.prog.info? 187).bind (·.zero) = some (Go.Value.pointer none) := by kernel_rfl
theorem ag187 : isAggT Try.prog 187 = some false := by kernel_rfl
theorem by187 : ((Try.prog.info? 187).map (·.bytes)) = some 8 := by kernel_rfl
theorem mixed : Try.prog.follows .mixedOrders = true := by kernel_rfl
end Go.Am.Try
