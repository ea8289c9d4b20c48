/- What the proofs ask of the program's types. -/
import Derived.Test.YtlmgdnhnpkgheaaDoorBxG
import Derived.Test.YtlmgdnhnpkgheaaDoorProg
import Derived.BigRegion
namespace Go.Am.Tryd
open Go Go.Am Go.Proofs
theorem sz1 : szT Tryd.prog 1 = some 1 := by kernel_rfl
theorem ze1 : (Tryd.prog.info? 1).bind (·.zero) = some Go.Value.nilFunc := by kernel_rfl
theorem ag1 : isAggT Tryd.prog 1 = some false := by kernel_rfl
theorem by1 : ((Tryd.prog.info? 1).map (·.bytes)) = some 8 := by kernel_rfl
theorem sz2 : szT Tryd.prog 2 = some 1 := by kernel_rfl
theorem ze2 : (Tryd.prog.info? 2).bind (·.zero) = some (Go.Value.int Go.IntKind.i64 0) := by kernel_rfl
theorem ag2 : isAggT Tryd.prog 2 = some false := by kernel_rfl
theorem by2 : ((Tryd.prog.info? 2).map (·.bytes)) = some 8 := by kernel_rfl
theorem in2 : intT Tryd.prog 2 = some Go.IntKind.i64 := by kernel_rfl
theorem sz3 : szT Tryd.prog 3 = some 1 := by kernel_rfl
theorem ze3 : (Tryd.prog.info? 3).bind (·.zero) = some (Go.Value.int Go.IntKind.i64 0) := by kernel_rfl
theorem ag3 : isAggT Tryd.prog 3 = some false := by kernel_rfl
theorem by3 : ((Tryd.prog.info? 3).map (·.bytes)) = some 8 := by kernel_rfl
theorem in3 : intT Tryd.prog 3 = some Go.IntKind.i64 := by kernel_rfl
theorem sz4 : szT Tryd.prog 4 = some 1 := by kernel_rfl
theorem ze4 : (Tryd.prog.info? 4).bind (·.zero) = some (Go.Value.bool false) := by kernel_rfl
theorem ag4 : isAggT Tryd.prog 4 = some false := by kernel_rfl
theorem by4 : ((Tryd.prog.info? 4).map (·.bytes)) = some 1 := by kernel_rfl
theorem un4 : Tryd.prog.underlying 4 = some Go.TypeDesc.bool := by kernel_rfl
theorem sz5 : szT Tryd.prog 5 = some 1 := by kernel_rfl
theorem ze5 : (Tryd.prog.info? 5).bind (·.zero) = some (Go.Value.int Go.IntKind.u8 0) := by kernel_rfl
theorem ag5 : isAggT Tryd.prog 5 = some false := by kernel_rfl
theorem by5 : ((Tryd.prog.info? 5).map (·.bytes)) = some 1 := by kernel_rfl
theorem in5 : intT Tryd.prog 5 = some Go.IntKind.u8 := by kernel_rfl
theorem sz9 : szT Tryd.prog 9 = some 1 := by kernel_rfl
theorem ze9 : (Tryd.prog.info? 9).bind (·.zero) = some (Go.Value.string { data := #[] }) := by kernel_rfl
theorem ag9 : isAggT Tryd.prog 9 = some false := by kernel_rfl
theorem by9 : ((Tryd.prog.info? 9).map (·.bytes)) = some 16 := by kernel_rfl
theorem un9 : Tryd.prog.underlying 9 = some Go.TypeDesc.string := by kernel_rfl
theorem sz12 : szT Tryd.prog 12 = some 1 := by kernel_rfl
theorem ze12 : (Tryd.prog.info? 12).bind (·.zero) = some (Go.Value.int Go.IntKind.u64 0) := by kernel_rfl
theorem ag12 : isAggT Tryd.prog 12 = some false := by kernel_rfl
theorem by12 : ((Tryd.prog.info? 12).map (·.bytes)) = some 8 := by kernel_rfl
theorem in12 : intT Tryd.prog 12 = some Go.IntKind.u64 := by kernel_rfl
theorem sz13 : szT Tryd.prog 13 = some 2 := by kernel_rfl
theorem ze13 : (Tryd.prog.info? 13).bind (·.zero) = some (Go.Value.agg #[Go.Value.string { data := #[] }, Go.Value.int Go.IntKind.u64 0]) := by kernel_rfl
theorem ag13 : isAggT Tryd.prog 13 = some true := by kernel_rfl
theorem by13 : ((Tryd.prog.info? 13).map (·.bytes)) = some 24 := by kernel_rfl
theorem zo13 : zeroOk Tryd.prog 13 = true := by kernel_rfl
theorem pl13 : plcT Tryd.prog 13 = some [(0, 1), (1, 1)] := by kernel_rfl
theorem fl13_0 : fldT Tryd.prog 13 0 = some 0 := by kernel_rfl
theorem fl13_1 : fldT Tryd.prog 13 1 = some 1 := by kernel_rfl
theorem sz19 : szT Tryd.prog 19 = some 1 := by kernel_rfl
theorem ze19 : (Tryd.prog.info? 19).bind (·.zero) = some (Go.Value.agg #[Go.Value.pointer none]) := by kernel_rfl
theorem ag19 : isAggT Tryd.prog 19 = some true := by kernel_rfl
theorem by19 : ((Tryd.prog.info? 19).map (·.bytes)) = some 8 := by kernel_rfl
theorem zo19 : zeroOk Tryd.prog 19 = true := by kernel_rfl
theorem pl19 : plcT Tryd.prog 19 = some [(0, 1)] := by kernel_rfl
theorem fl19_0 : fldT Tryd.prog 19 0 = some 0 := by kernel_rfl
theorem sz21 : szT Tryd.prog 21 = some 1 := by kernel_rfl
theorem ze21 : (Tryd.prog.info? 21).bind (·.zero) = some (Go.Value.int Go.IntKind.i32 0) := by kernel_rfl
theorem ag21 : isAggT Tryd.prog 21 = some false := by kernel_rfl
theorem by21 : ((Tryd.prog.info? 21).map (·.bytes)) = some 4 := by kernel_rfl
theorem in21 : intT Tryd.prog 21 = some Go.IntKind.i32 := by kernel_rfl
theorem sz22 : szT Tryd.prog 22 = some 1 := by kernel_rfl
theorem ze22 : (Tryd.prog.info? 22).bind (·.zero) = some Go.Value.nilFunc := by kernel_rfl
theorem ag22 : isAggT Tryd.prog 22 = some false := by kernel_rfl
theorem by22 : ((Tryd.prog.info? 22).map (·.bytes)) = some 8 := by kernel_rfl
theorem sz23 : szT Tryd.prog 23 = some 1 := by kernel_rfl
theorem ze23 : (Tryd.prog.info? 23).bind (·.zero) = some (Go.Value.int Go.IntKind.i64 0) := by kernel_rfl
theorem ag23 : isAggT Tryd.prog 23 = some false := by kernel_rfl
theorem by23 : ((Tryd.prog.info? 23).map (·.bytes)) = some 8 := by kernel_rfl
theorem in23 : intT Tryd.prog 23 = some Go.IntKind.i64 := by kernel_rfl
theorem sz24 : szT Tryd.prog 24 = some 1 := by kernel_rfl
theorem ze24 : (Tryd.prog.info? 24).bind (·.zero) = some Go.Value.nilFunc := by kernel_rfl
theorem ag24 : isAggT Tryd.prog 24 = some false := by kernel_rfl
theorem by24 : ((Tryd.prog.info? 24).map (·.bytes)) = some 8 := by kernel_rfl
theorem sz25 : szT Tryd.prog 25 = some 1 := by kernel_rfl
theorem ze25 : (Tryd.prog.info? 25).bind (·.zero) = some Go.Value.nilFunc := by kernel_rfl
theorem ag25 : isAggT Tryd.prog 25 = some false := by kernel_rfl
theorem by25 : ((Tryd.prog.info? 25).map (·.bytes)) = some 8 := by kernel_rfl
theorem sz27 : szT Tryd.prog 27 = some 1 := by kernel_rfl
theorem ze27 : (Tryd.prog.info? 27).bind (·.zero) = some Go.Value.nilFunc := by kernel_rfl
theorem ag27 : isAggT Tryd.prog 27 = some false := by kernel_rfl
theorem by27 : ((Tryd.prog.info? 27).map (·.bytes)) = some 8 := by kernel_rfl
theorem sz28 : szT Tryd.prog 28 = some 1 := by kernel_rfl
theorem ze28 : (Tryd.prog.info? 28).bind (·.zero) = some Go.Value.nilFunc := by kernel_rfl
theorem ag28 : isAggT Tryd.prog 28 = some false := by kernel_rfl
theorem by28 : ((Tryd.prog.info? 28).map (·.bytes)) = some 8 := by kernel_rfl
theorem sz29 : szT Tryd.prog 29 = some 1 := by kernel_rfl
theorem ze29 : (Tryd.prog.info? 29).bind (·.zero) = some Go.Value.nilFunc := by kernel_rfl
theorem ag29 : isAggT Tryd.prog 29 = some false := by kernel_rfl
theorem by29 : ((Tryd.prog.info? 29).map (·.bytes)) = some 8 := by kernel_rfl
theorem sz30 : szT Tryd.prog 30 = some 1 := by kernel_rfl
theorem ze30 : (Tryd.prog.info? 30).bind (·.zero) = some Go.Value.nilFunc := by kernel_rfl
theorem ag30 : isAggT Tryd.prog 30 = some false := by kernel_rfl
theorem by30 : ((Tryd.prog.info? 30).map (·.bytes)) = some 8 := by kernel_rfl
theorem sz31 : szT Tryd.prog 31 = some 1 := by kernel_rfl
theorem ze31 : (Tryd.prog.info? 31).bind (·.zero) = some Go.Value.nilFunc := by kernel_rfl
theorem ag31 : isAggT Tryd.prog 31 = some false := by kernel_rfl
theorem by31 : ((Tryd.prog.info? 31).map (·.bytes)) = some 8 := by kernel_rfl
theorem sz32 : szT Tryd.prog 32 = some 1 := by kernel_rfl
theorem ze32 : (Tryd.prog.info? 32).bind (·.zero) = some Go.Value.nilFunc := by kernel_rfl
theorem ag32 : isAggT Tryd.prog 32 = some false := by kernel_rfl
theorem by32 : ((Tryd.prog.info? 32).map (·.bytes)) = some 8 := by kernel_rfl
theorem sz33 : szT Tryd.prog 33 = some 1 := by kernel_rfl
theorem ze33 : (Tryd.prog.info? 33).bind (·.zero) = some Go.Value.nilFunc := by kernel_rfl
theorem ag33 : isAggT Tryd.prog 33 = some false := by kernel_rfl
theorem by33 : ((Tryd.prog.info? 33).map (·.bytes)) = some 8 := by kernel_rfl
theorem sz35 : szT Tryd.prog 35 = some 1 := by kernel_rfl
theorem ze35 : (Tryd.prog.info? 35).bind (·.zero) = some Go.Value.nilFunc := by kernel_rfl
theorem ag35 : isAggT Tryd.prog 35 = some false := by kernel_rfl
theorem by35 : ((Tryd.prog.info? 35).map (·.bytes)) = some 8 := by kernel_rfl
theorem sz37 : szT Tryd.prog 37 = some 1 := by kernel_rfl
theorem ze37 : (Tryd.prog.info? 37).bind (·.zero) = some Go.Value.nilFunc := by kernel_rfl
theorem ag37 : isAggT Tryd.prog 37 = some false := by kernel_rfl
theorem by37 : ((Tryd.prog.info? 37).map (·.bytes)) = some 8 := by kernel_rfl
theorem sz38 : szT Tryd.prog 38 = some 1 := by kernel_rfl
theorem ze38 : (Tryd.prog.info? 38).bind (·.zero) = some Go.Value.nilFunc := by kernel_rfl
theorem ag38 : isAggT Tryd.prog 38 = some false := by kernel_rfl
theorem by38 : ((Tryd.prog.info? 38).map (·.bytes)) = some 8 := by kernel_rfl
theorem sz39 : szT Tryd.prog 39 = some 1 := by kernel_rfl
theorem ze39 : (Tryd.prog.info? 39).bind (·.zero) = some Go.Value.nilFunc := by kernel_rfl
theorem ag39 : isAggT Tryd.prog 39 = some false := by kernel_rfl
theorem by39 : ((Tryd.prog.info? 39).map (·.bytes)) = some 8 := by kernel_rfl
theorem sz40 : szT Tryd.prog 40 = some 1 := by kernel_rfl
theorem ze40 : (Tryd.prog.info? 40).bind (·.zero) = some (Go.Value.string { data := #[] }) := by kernel_rfl
theorem ag40 : isAggT Tryd.prog 40 = some false := by kernel_rfl
theorem by40 : ((Tryd.prog.info? 40).map (·.bytes)) = some 16 := by kernel_rfl
theorem un40 : Tryd.prog.underlying 40 = some Go.TypeDesc.string := by kernel_rfl
theorem sz41 : szT Tryd.prog 41 = some 1 := by kernel_rfl
theorem ze41 : (Tryd.prog.info? 41).bind (·.zero) = some (Go.Value.slice none 0 0) := by kernel_rfl
theorem ag41 : isAggT Tryd.prog 41 = some false := by kernel_rfl
theorem by41 : ((Tryd.prog.info? 41).map (·.bytes)) = some 24 := by kernel_rfl
theorem ni41 : notInt Tryd.prog 41 = true := by kernel_rfl
theorem el41 : elemT Tryd.prog 41 = some 40 := by kernel_rfl
theorem sz42 : szT Tryd.prog 42 = some 1 := by kernel_rfl
theorem ze42 : (Tryd.prog.info? 42).bind (·.zero) = some Go.Value.nilFunc := by kernel_rfl
theorem ag42 : isAggT Tryd.prog 42 = some false := by kernel_rfl
theorem by42 : ((Tryd.prog.info? 42).map (·.bytes)) = some 8 := by kernel_rfl
theorem sz43 : szT Tryd.prog 43 = some 1 := by kernel_rfl
theorem ze43 : (Tryd.prog.info? 43).bind (·.zero) = some Go.Value.nilFunc := by kernel_rfl
theorem ag43 : isAggT Tryd.prog 43 = some false := by kernel_rfl
theorem by43 : ((Tryd.prog.info? 43).map (·.bytes)) = some 8 := by kernel_rfl
theorem sz44 : szT Tryd.prog 44 = some 1 := by kernel_rfl
theorem ze44 : (Tryd.prog.info? 44).bind (·.zero) = some Go.Value.nilFunc := by kernel_rfl
theorem ag44 : isAggT Tryd.prog 44 = some false := by kernel_rfl
theorem by44 : ((Tryd.prog.info? 44).map (·.bytes)) = some 8 := by kernel_rfl
theorem sz46 : szT Tryd.prog 46 = some 1 := by kernel_rfl
theorem ze46 : (Tryd.prog.info? 46).bind (·.zero) = some Go.Value.nilFunc := by kernel_rfl
theorem ag46 : isAggT Tryd.prog 46 = some false := by kernel_rfl
theorem by46 : ((Tryd.prog.info? 46).map (·.bytes)) = some 8 := by kernel_rfl
theorem sz47 : szT Tryd.prog 47 = some 1 := by kernel_rfl
theorem ze47 : (Tryd.prog.info? 47).bind (·.zero) = some Go.Value.nilFunc := by kernel_rfl
theorem ag47 : isAggT Tryd.prog 47 = some false := by kernel_rfl
theorem by47 : ((Tryd.prog.info? 47).map (·.bytes)) = some 8 := by kernel_rfl
theorem sz48 : szT Tryd.prog 48 = some 1 := by kernel_rfl
theorem ze48 : (Tryd.prog.info? 48).bind (·.zero) = some Go.Value.nilFunc := by kernel_rfl
theorem ag48 : isAggT Tryd.prog 48 = some false := by kernel_rfl
theorem by48 : ((Tryd.prog.info? 48).map (·.bytes)) = some 8 := by kernel_rfl
theorem sz49 : szT Tryd.prog 49 = some 1 := by kernel_rfl
theorem ze49 : (Tryd.prog.info? 49).bind (·.zero) = some Go.Value.nilFunc := by kernel_rfl
theorem ag49 : isAggT Tryd.prog 49 = some false := by kernel_rfl
theorem by49 : ((Tryd.prog.info? 49).map (·.bytes)) = some 8 := by kernel_rfl
theorem sz50 : szT Tryd.prog 50 = some 1 := by kernel_rfl
theorem ze50 : (Tryd.prog.info? 50).bind (·.zero) = some Go.Value.nilFunc := by kernel_rfl
theorem ag50 : isAggT Tryd.prog 50 = some false := by kernel_rfl
theorem by50 : ((Tryd.prog.info? 50).map (·.bytes)) = some 8 := by kernel_rfl
theorem sz51 : szT Tryd.prog 51 = some 1 := by kernel_rfl
theorem ze51 : (Tryd.prog.info? 51).bind (·.zero) = some Go.Value.nilFunc := by kernel_rfl
theorem ag51 : isAggT Tryd.prog 51 = some false := by kernel_rfl
theorem by51 : ((Tryd.prog.info? 51).map (·.bytes)) = some 8 := by kernel_rfl
theorem sz52 : szT Tryd.prog 52 = some 1 := by kernel_rfl
theorem ze52 : (Tryd.prog.info? 52).bind (·.zero) = some Go.Value.nilFunc := by kernel_rfl
theorem ag52 : isAggT Tryd.prog 52 = some false := by kernel_rfl
theorem by52 : ((Tryd.prog.info? 52).map (·.bytes)) = some 8 := by kernel_rfl
theorem sz53 : szT Tryd.prog 53 = some 1 := by kernel_rfl
theorem ze53 : (Tryd.prog.info? 53).bind (·.zero) = some Go.Value.nilFunc := by kernel_rfl
theorem ag53 : isAggT Tryd.prog 53 = some false := by kernel_rfl
theorem by53 : ((Tryd.prog.info? 53).map (·.bytes)) = some 8 := by kernel_rfl
theorem sz55 : szT Tryd.prog 55 = some 1 := by kernel_rfl
theorem ze55 : (Tryd.prog.info? 55).bind (·.zero) = some Go.Value.nilFunc := by kernel_rfl
theorem ag55 : isAggT Tryd.prog 55 = some false := by kernel_rfl
theorem by55 : ((Tryd.prog.info? 55).map (·.bytes)) = some 8 := by kernel_rfl
theorem sz56 : szT Tryd.prog 56 = some 1 := by kernel_rfl
theorem ze56 : (Tryd.prog.info? 56).bind (·.zero) = some Go.Value.nilFunc := by kernel_rfl
theorem ag56 : isAggT Tryd.prog 56 = some false := by kernel_rfl
theorem by56 : ((Tryd.prog.info? 56).map (·.bytes)) = some 8 := by kernel_rfl
theorem sz57 : szT Tryd.prog 57 = some 1 := by kernel_rfl
theorem ze57 : (Tryd.prog.info? 57).bind (·.zero) = some Go.Value.nilFunc := by kernel_rfl
theorem ag57 : isAggT Tryd.prog 57 = some false := by kernel_rfl
theorem by57 : ((Tryd.prog.info? 57).map (·.bytes)) = some 8 := by kernel_rfl
theorem sz58 : szT Tryd.prog 58 = some 1 := by kernel_rfl
theorem ze58 : (Tryd.prog.info? 58).bind (·.zero) = some Go.Value.nilFunc := by kernel_rfl
theorem ag58 : isAggT Tryd.prog 58 = some false := by kernel_rfl
theorem by58 : ((Tryd.prog.info? 58).map (·.bytes)) = some 8 := by kernel_rfl
theorem sz59 : szT Tryd.prog 59 = some 1 := by kernel_rfl
theorem ze59 : (Tryd.prog.info? 59).bind (·.zero) = some Go.Value.nilFunc := by kernel_rfl
theorem ag59 : isAggT Tryd.prog 59 = some false := by kernel_rfl
theorem by59 : ((Tryd.prog.info? 59).map (·.bytes)) = some 8 := by kernel_rfl
theorem sz60 : szT Tryd.prog 60 = some 1 := by kernel_rfl
theorem ze60 : (Tryd.prog.info? 60).bind (·.zero) = some Go.Value.nilFunc := by kernel_rfl
theorem ag60 : isAggT Tryd.prog 60 = some false := by kernel_rfl
theorem by60 : ((Tryd.prog.info? 60).map (·.bytes)) = some 8 := by kernel_rfl
theorem sz61 : szT Tryd.prog 61 = some 1 := by kernel_rfl
theorem ze61 : (Tryd.prog.info? 61).bind (·.zero) = some Go.Value.nilFunc := by kernel_rfl
theorem ag61 : isAggT Tryd.prog 61 = some false := by kernel_rfl
theorem by61 : ((Tryd.prog.info? 61).map (·.bytes)) = some 8 := by kernel_rfl
theorem sz62 : szT Tryd.prog 62 = some 1 := by kernel_rfl
theorem ze62 : (Tryd.prog.info? 62).bind (·.zero) = some (Go.Value.slice none 0 0) := by kernel_rfl
theorem ag62 : isAggT Tryd.prog 62 = some false := by kernel_rfl
theorem by62 : ((Tryd.prog.info? 62).map (·.bytes)) = some 24 := by kernel_rfl
theorem ni62 : notInt Tryd.prog 62 = true := by kernel_rfl
theorem el62 : elemT Tryd.prog 62 = some 5 := by kernel_rfl
theorem sz63 : szT Tryd.prog 63 = some 1 := by kernel_rfl
theorem ze63 : (Tryd.prog.info? 63).bind (·.zero) = some (Go.Value.slice none 0 0) := by kernel_rfl
theorem ag63 : isAggT Tryd.prog 63 = some false := by kernel_rfl
theorem by63 : ((Tryd.prog.info? 63).map (·.bytes)) = some 24 := by kernel_rfl
theorem ni63 : notInt Tryd.prog 63 = true := by kernel_rfl
theorem el63 : elemT Tryd.prog 63 = some 108 := by kernel_rfl
theorem sz64 : szT Tryd.prog 64 = some 1 := by kernel_rfl
theorem ze64 : (Tryd.prog.info? 64).bind (·.zero) = some (Go.Value.slice none 0 0) := by kernel_rfl
theorem ag64 : isAggT Tryd.prog 64 = some false := by kernel_rfl
theorem by64 : ((Tryd.prog.info? 64).map (·.bytes)) = some 24 := by kernel_rfl
theorem ni64 : notInt Tryd.prog 64 = true := by kernel_rfl
theorem el64 : elemT Tryd.prog 64 = some 108 := by kernel_rfl
theorem sz66 : szT Tryd.prog 66 = some 1 := by kernel_rfl
theorem ze66 : (Tryd.prog.info? 66).bind (·.zero) = some Go.Value.nilFunc := by kernel_rfl
theorem ag66 : isAggT Tryd.prog 66 = some false := by kernel_rfl
theorem by66 : ((Tryd.prog.info? 66).map (·.bytes)) = some 8 := by kernel_rfl
theorem sz67 : szT Tryd.prog 67 = some 1 := by kernel_rfl
theorem ze67 : (Tryd.prog.info? 67).bind (·.zero) = some Go.Value.nilFunc := by kernel_rfl
theorem ag67 : isAggT Tryd.prog 67 = some false := by kernel_rfl
theorem by67 : ((Tryd.prog.info? 67).map (·.bytes)) = some 8 := by kernel_rfl
theorem sz68 : szT Tryd.prog 68 = some 1 := by kernel_rfl
theorem ze68 : (Tryd.prog.info? 68).bind (·.zero) = some Go.Value.nilFunc := by kernel_rfl
theorem ag68 : isAggT Tryd.prog 68 = some false := by kernel_rfl
theorem by68 : ((Tryd.prog.info? 68).map (·.bytes)) = some 8 := by kernel_rfl
theorem sz69 : szT Tryd.prog 69 = some 1 := by kernel_rfl
theorem ze69 : (Tryd.prog.info? 69).bind (·.zero) = some Go.Value.nilFunc := by kernel_rfl
theorem ag69 : isAggT Tryd.prog 69 = some false := by kernel_rfl
theorem by69 : ((Tryd.prog.info? 69).map (·.bytes)) = some 8 := by kernel_rfl
theorem sz70 : szT Tryd.prog 70 = some 1 := by kernel_rfl
theorem ze70 : (Tryd.prog.info? 70).bind (·.zero) = some (Go.Value.slice none 0 0) := by kernel_rfl
theorem ag70 : isAggT Tryd.prog 70 = some false := by kernel_rfl
theorem by70 : ((Tryd.prog.info? 70).map (·.bytes)) = some 24 := by kernel_rfl
theorem ni70 : notInt Tryd.prog 70 = true := by kernel_rfl
theorem el70 : elemT Tryd.prog 70 = some 23 := by kernel_rfl
theorem sz71 : szT Tryd.prog 71 = some 1 := by kernel_rfl
theorem ze71 : (Tryd.prog.info? 71).bind (·.zero) = some (Go.Value.slice none 0 0) := by kernel_rfl
theorem ag71 : isAggT Tryd.prog 71 = some false := by kernel_rfl
theorem by71 : ((Tryd.prog.info? 71).map (·.bytes)) = some 24 := by kernel_rfl
theorem ni71 : notInt Tryd.prog 71 = true := by kernel_rfl
theorem el71 : elemT Tryd.prog 71 = some 3 := by kernel_rfl
theorem sz72 : szT Tryd.prog 72 = some 1 := by kernel_rfl
theorem ze72 : (Tryd.prog.info? 72).bind (·.zero) = some Go.Value.nilFunc := by kernel_rfl
theorem ag72 : isAggT Tryd.prog 72 = some false := by kernel_rfl
theorem by72 : ((Tryd.prog.info? 72).map (·.bytes)) = some 8 := by kernel_rfl
theorem sz73 : szT Tryd.prog 73 = some 1 := by kernel_rfl
theorem ze73 : (Tryd.prog.info? 73).bind (·.zero) = some Go.Value.nilFunc := by kernel_rfl
theorem ag73 : isAggT Tryd.prog 73 = some false := by kernel_rfl
theorem by73 : ((Tryd.prog.info? 73).map (·.bytes)) = some 8 := by kernel_rfl
theorem sz74 : szT Tryd.prog 74 = some 1 := by kernel_rfl
theorem ze74 : (Tryd.prog.info? 74).bind (·.zero) = some (Go.Value.slice none 0 0) := by kernel_rfl
theorem ag74 : isAggT Tryd.prog 74 = some false := by kernel_rfl
theorem by74 : ((Tryd.prog.info? 74).map (·.bytes)) = some 24 := by kernel_rfl
theorem ni74 : notInt Tryd.prog 74 = true := by kernel_rfl
theorem el74 : elemT Tryd.prog 74 = some 9 := by kernel_rfl
theorem sz75 : szT Tryd.prog 75 = some 1 := by kernel_rfl
theorem ze75 : (Tryd.prog.info? 75).bind (·.zero) = some Go.Value.nilFunc := by kernel_rfl
theorem ag75 : isAggT Tryd.prog 75 = some false := by kernel_rfl
theorem by75 : ((Tryd.prog.info? 75).map (·.bytes)) = some 8 := by kernel_rfl
theorem sz77 : szT Tryd.prog 77 = some 1 := by kernel_rfl
theorem ze77 : (Tryd.prog.info? 77).bind (·.zero) = some Go.Value.nilFunc := by kernel_rfl
theorem ag77 : isAggT Tryd.prog 77 = some false := by kernel_rfl
theorem by77 : ((Tryd.prog.info? 77).map (·.bytes)) = some 8 := by kernel_rfl
theorem sz78 : szT Tryd.prog 78 = some 1 := by kernel_rfl
theorem ze78 : (Tryd.prog.info? 78).bind (·.zero) = some Go.Value.nilFunc := by kernel_rfl
theorem ag78 : isAggT Tryd.prog 78 = some false := by kernel_rfl
theorem by78 : ((Tryd.prog.info? 78).map (·.bytes)) = some 8 := by kernel_rfl
theorem sz79 : szT Tryd.prog 79 = some 1 := by kernel_rfl
theorem ze79 : (Tryd.prog.info? 79).bind (·.zero) = some Go.Value.nilFunc := by kernel_rfl
theorem ag79 : isAggT Tryd.prog 79 = some false := by kernel_rfl
theorem by79 : ((Tryd.prog.info? 79).map (·.bytes)) = some 8 := by kernel_rfl
theorem sz80 : szT Tryd.prog 80 = some 1 := by kernel_rfl
theorem ze80 : (Tryd.prog.info? 80).bind (·.zero) = some Go.Value.nilFunc := by kernel_rfl
theorem ag80 : isAggT Tryd.prog 80 = some false := by kernel_rfl
theorem by80 : ((Tryd.prog.info? 80).map (·.bytes)) = some 8 := by kernel_rfl
theorem sz81 : szT Tryd.prog 81 = some 1 := by kernel_rfl
theorem ze81 : (Tryd.prog.info? 81).bind (·.zero) = some Go.Value.nilFunc := by kernel_rfl
theorem ag81 : isAggT Tryd.prog 81 = some false := by kernel_rfl
theorem by81 : ((Tryd.prog.info? 81).map (·.bytes)) = some 8 := by kernel_rfl
theorem sz82 : szT Tryd.prog 82 = some 1 := by kernel_rfl
theorem ze82 : (Tryd.prog.info? 82).bind (·.zero) = some Go.Value.nilFunc := by kernel_rfl
theorem ag82 : isAggT Tryd.prog 82 = some false := by kernel_rfl
theorem by82 : ((Tryd.prog.info? 82).map (·.bytes)) = some 8 := by kernel_rfl
theorem sz83 : szT Tryd.prog 83 = some 1 := by kernel_rfl
theorem ze83 : (Tryd.prog.info? 83).bind (·.zero) = some Go.Value.nilFunc := by kernel_rfl
theorem ag83 : isAggT Tryd.prog 83 = some false := by kernel_rfl
theorem by83 : ((Tryd.prog.info? 83).map (·.bytes)) = some 8 := by kernel_rfl
theorem sz84 : szT Tryd.prog 84 = some 1 := by kernel_rfl
theorem ze84 : (Tryd.prog.info? 84).bind (·.zero) = some Go.Value.nilFunc := by kernel_rfl
theorem ag84 : isAggT Tryd.prog 84 = some false := by kernel_rfl
theorem by84 : ((Tryd.prog.info? 84).map (·.bytes)) = some 8 := by kernel_rfl
theorem sz86 : szT Tryd.prog 86 = some 1 := by kernel_rfl
theorem ze86 : (Tryd.prog.info? 86).bind (·.zero) = some Go.Value.nilFunc := by kernel_rfl
theorem ag86 : isAggT Tryd.prog 86 = some false := by kernel_rfl
theorem by86 : ((Tryd.prog.info? 86).map (·.bytes)) = some 8 := by kernel_rfl
theorem sz88 : szT Tryd.prog 88 = some 1 := by kernel_rfl
theorem ze88 : (Tryd.prog.info? 88).bind (·.zero) = some Go.Value.nilFunc := by kernel_rfl
theorem ag88 : isAggT Tryd.prog 88 = some false := by kernel_rfl
theorem by88 : ((Tryd.prog.info? 88).map (·.bytes)) = some 8 := by kernel_rfl
theorem sz89 : szT Tryd.prog 89 = some 1 := by kernel_rfl
theorem ze89 : (Tryd.prog.info? 89).bind (·.zero) = some Go.Value.nilFunc := by kernel_rfl
theorem ag89 : isAggT Tryd.prog 89 = some false := by kernel_rfl
theorem by89 : ((Tryd.prog.info? 89).map (·.bytes)) = some 8 := by kernel_rfl
theorem sz90 : szT Tryd.prog 90 = some 3 := by kernel_rfl
theorem ze90 : (Tryd.prog.info? 90).bind (·.zero) = some (Go.Value.agg #[Go.Value.bool false, Go.Value.slice none 0 0, Go.Value.slice none 0 0]) := by kernel_rfl
theorem ag90 : isAggT Tryd.prog 90 = some true := by kernel_rfl
theorem by90 : ((Tryd.prog.info? 90).map (·.bytes)) = some 56 := by kernel_rfl
theorem zo90 : zeroOk Tryd.prog 90 = true := by kernel_rfl
theorem pl90 : plcT Tryd.prog 90 = some [(0, 1), (1, 1), (2, 1)] := by kernel_rfl
theorem fl90_0 : fldT Tryd.prog 90 0 = some 0 := by kernel_rfl
theorem fl90_1 : fldT Tryd.prog 90 1 = some 1 := by kernel_rfl
theorem fl90_2 : fldT Tryd.prog 90 2 = some 2 := by kernel_rfl
theorem sz91 : szT Tryd.prog 91 = some 3 := by kernel_rfl
theorem ze91 : (Tryd.prog.info? 91).bind (·.zero) = some (Go.Value.agg #[Go.Value.bool false, Go.Value.slice none 0 0, Go.Value.slice none 0 0]) := by kernel_rfl
theorem ag91 : isAggT Tryd.prog 91 = some true := by kernel_rfl
theorem by91 : ((Tryd.prog.info? 91).map (·.bytes)) = some 56 := by kernel_rfl
theorem zo91 : zeroOk Tryd.prog 91 = true := by kernel_rfl
theorem pl91 : plcT Tryd.prog 91 = some [(0, 1), (1, 1), (2, 1)] := by kernel_rfl
theorem fl91_0 : fldT Tryd.prog 91 0 = some 0 := by kernel_rfl
theorem fl91_1 : fldT Tryd.prog 91 1 = some 1 := by kernel_rfl
theorem fl91_2 : fldT Tryd.prog 91 2 = some 2 := by kernel_rfl
theorem sz92 : szT Tryd.prog 92 = some 1 := by kernel_rfl
theorem ze92 : (Tryd.prog.info? 92).bind (·.zero) = some Go.Value.nilFunc := by kernel_rfl
theorem ag92 : isAggT Tryd.prog 92 = some false := by kernel_rfl
theorem by92 : ((Tryd.prog.info? 92).map (·.bytes)) = some 8 := by kernel_rfl
theorem sz94 : szT Tryd.prog 94 = some 1 := by kernel_rfl
theorem ze94 : (Tryd.prog.info? 94).bind (·.zero) = some Go.Value.nilFunc := by kernel_rfl
theorem ag94 : isAggT Tryd.prog 94 = some false := by kernel_rfl
theorem by94 : ((Tryd.prog.info? 94).map (·.bytes)) = some 8 := by kernel_rfl
theorem sz95 : szT Tryd.prog 95 = some 1 := by kernel_rfl
theorem ze95 : (Tryd.prog.info? 95).bind (·.zero) = some Go.Value.nilFunc := by kernel_rfl
theorem ag95 : isAggT Tryd.prog 95 = some false := by kernel_rfl
theorem by95 : ((Tryd.prog.info? 95).map (·.bytes)) = some 8 := by kernel_rfl
theorem sz96 : szT Tryd.prog 96 = some 1 := by kernel_rfl
theorem ze96 : (Tryd.prog.info? 96).bind (·.zero) = some Go.Value.nilFunc := by kernel_rfl
theorem ag96 : isAggT Tryd.prog 96 = some false := by kernel_rfl
theorem by96 : ((Tryd.prog.info? 96).map (·.bytes)) = some 8 := by kernel_rfl
theorem sz97 : szT Tryd.prog 97 = some 1 := by kernel_rfl
theorem ze97 : (Tryd.prog.info? 97).bind (·.zero) = some Go.Value.nilFunc := by kernel_rfl
theorem ag97 : isAggT Tryd.prog 97 = some false := by kernel_rfl
theorem by97 : ((Tryd.prog.info? 97).map (·.bytes)) = some 8 := by kernel_rfl
theorem sz98 : szT Tryd.prog 98 = some 1 := by kernel_rfl
theorem ze98 : (Tryd.prog.info? 98).bind (·.zero) = some Go.Value.nilFunc := by kernel_rfl
theorem ag98 : isAggT Tryd.prog 98 = some false := by kernel_rfl
theorem by98 : ((Tryd.prog.info? 98).map (·.bytes)) = some 8 := by kernel_rfl
theorem sz99 : szT Tryd.prog 99 = some 1 := by kernel_rfl
theorem ze99 : (Tryd.prog.info? 99).bind (·.zero) = some Go.Value.nilFunc := by kernel_rfl
theorem ag99 : isAggT Tryd.prog 99 = some false := by kernel_rfl
theorem by99 : ((Tryd.prog.info? 99).map (·.bytes)) = some 8 := by kernel_rfl
theorem sz100 : szT Tryd.prog 100 = some 1 := by kernel_rfl
theorem ze100 : (Tryd.prog.info? 100).bind (·.zero) = some Go.Value.nilFunc := by kernel_rfl
theorem ag100 : isAggT Tryd.prog 100 = some false := by kernel_rfl
theorem by100 : ((Tryd.prog.info? 100).map (·.bytes)) = some 8 := by kernel_rfl
theorem sz101 : szT Tryd.prog 101 = some 1 := by kernel_rfl
theorem ze101 : (Tryd.prog.info? 101).bind (·.zero) = some Go.Value.nilFunc := by kernel_rfl
theorem ag101 : isAggT Tryd.prog 101 = some false := by kernel_rfl
theorem by101 : ((Tryd.prog.info? 101).map (·.bytes)) = some 8 := by kernel_rfl
theorem sz102 : szT Tryd.prog 102 = some 1 := by kernel_rfl
theorem ze102 : (Tryd.prog.info? 102).bind (·.zero) = some Go.Value.nilFunc := by kernel_rfl
theorem ag102 : isAggT Tryd.prog 102 = some false := by kernel_rfl
theorem by102 : ((Tryd.prog.info? 102).map (·.bytes)) = some 8 := by kernel_rfl
theorem sz103 : szT Tryd.prog 103 = some 1 := by kernel_rfl
theorem ze103 : (Tryd.prog.info? 103).bind (·.zero) = some Go.Value.nilFunc := by kernel_rfl
theorem ag103 : isAggT Tryd.prog 103 = some false := by kernel_rfl
theorem by103 : ((Tryd.prog.info? 103).map (·.bytes)) = some 8 := by kernel_rfl
theorem sz104 : szT Tryd.prog 104 = some 1 := by kernel_rfl
theorem ze104 : (Tryd.prog.info? 104).bind (·.zero) = some Go.Value.nilFunc := by kernel_rfl
theorem ag104 : isAggT Tryd.prog 104 = some false := by kernel_rfl
theorem by104 : ((Tryd.prog.info? 104).map (·.bytes)) = some 8 := by kernel_rfl
theorem sz105 : szT Tryd.prog 105 = some 1 := by kernel_rfl
theorem ze105 : (Tryd.prog.info? 105).bind (·.zero) = some Go.Value.nilFunc := by kernel_rfl
theorem ag105 : isAggT Tryd.prog 105 = some false := by kernel_rfl
theorem by105 : ((Tryd.prog.info? 105).map (·.bytes)) = some 8 := by kernel_rfl
theorem sz106 : szT Tryd.prog 106 = some 1 := by kernel_rfl
theorem ze106 : (Tryd.prog.info? 106).bind (·.zero) = some Go.Value.nilFunc := by kernel_rfl
theorem ag106 : isAggT Tryd.prog 106 = some false := by kernel_rfl
theorem by106 : ((Tryd.prog.info? 106).map (·.bytes)) = some 8 := by kernel_rfl
theorem sz107 : szT Tryd.prog 107 = some 1 := by kernel_rfl
theorem ze107 : (Tryd.prog.info? 107).bind (·.zero) = some Go.Value.nilFunc := by kernel_rfl
theorem ag107 : isAggT Tryd.prog 107 = some false := by kernel_rfl
theorem by107 : ((Tryd.prog.info? 107).map (·.bytes)) = some 8 := by kernel_rfl
theorem sz108 : szT Tryd.prog 108 = some 1 := by kernel_rfl
theorem ze108 : (Tryd.prog.info? 108).bind (·.zero) = some (Go.Value.int Go.IntKind.u32 0) := by kernel_rfl
theorem ag108 : isAggT Tryd.prog 108 = some false := by kernel_rfl
theorem by108 : ((Tryd.prog.info? 108).map (·.bytes)) = some 4 := by kernel_rfl
theorem in108 : intT Tryd.prog 108 = some Go.IntKind.u32 := by kernel_rfl
theorem sz109 : szT Tryd.prog 109 = some 1 := by kernel_rfl
theorem ze109 : (Tryd.prog.info? 109).bind (·.zero) = some Go.Value.nilFunc := by kernel_rfl
theorem ag109 : isAggT Tryd.prog 109 = some false := by kernel_rfl
theorem by109 : ((Tryd.prog.info? 109).map (·.bytes)) = some 8 := by kernel_rfl
theorem sz110 : szT Tryd.prog 110 = some 1 := by kernel_rfl
theorem ze110 : (Tryd.prog.info? 110).bind (·.zero) = some Go.Value.nilFunc := by kernel_rfl
theorem ag110 : isAggT Tryd.prog 110 = some false := by kernel_rfl
theorem by110 : ((Tryd.prog.info? 110).map (·.bytes)) = some 8 := by kernel_rfl
theorem sz111 : szT Tryd.prog 111 = some 1 := by kernel_rfl
theorem ze111 : (Tryd.prog.info? 111).bind (·.zero) = some Go.Value.nilFunc := by kernel_rfl
theorem ag111 : isAggT Tryd.prog 111 = some false := by kernel_rfl
theorem by111 : ((Tryd.prog.info? 111).map (·.bytes)) = some 8 := by kernel_rfl
theorem sz112 : szT Tryd.prog 112 = some 1 := by kernel_rfl
theorem ze112 : (Tryd.prog.info? 112).bind (·.zero) = some (Go.Value.int Go.IntKind.u64 0) := by kernel_rfl
theorem ag112 : isAggT Tryd.prog 112 = some false := by kernel_rfl
theorem by112 : ((Tryd.prog.info? 112).map (·.bytes)) = some 8 := by kernel_rfl
theorem in112 : intT Tryd.prog 112 = some Go.IntKind.u64 := by kernel_rfl
theorem sz113 : szT Tryd.prog 113 = some 1 := by kernel_rfl
theorem ze113 : (Tryd.prog.info? 113).bind (·.zero) = some Go.Value.nilFunc := by kernel_rfl
theorem ag113 : isAggT Tryd.prog 113 = some false := by kernel_rfl
theorem by113 : ((Tryd.prog.info? 113).map (·.bytes)) = some 8 := by kernel_rfl
theorem sz114 : szT Tryd.prog 114 = some 1 := by kernel_rfl
theorem ze114 : (Tryd.prog.info? 114).bind (·.zero) = some Go.Value.nilFunc := by kernel_rfl
theorem ag114 : isAggT Tryd.prog 114 = some false := by kernel_rfl
theorem by114 : ((Tryd.prog.info? 114).map (·.bytes)) = some 8 := by kernel_rfl
theorem sz115 : szT Tryd.prog 115 = some 1 := by kernel_rfl
theorem ze115 : (Tryd.prog.info? 115).bind (·.zero) = some Go.Value.nilFunc := by kernel_rfl
theorem ag115 : isAggT Tryd.prog 115 = some false := by kernel_rfl
theorem by115 : ((Tryd.prog.info? 115).map (·.bytes)) = some 8 := by kernel_rfl
theorem sz116 : szT Tryd.prog 116 = some 9 := by kernel_rfl
theorem ze116 : (Tryd.prog.info? 116).bind (·.zero) = some (Go.Value.agg #[Go.Value.int Go.IntKind.u8 0, Go.Value.int Go.IntKind.u8 0, Go.Value.int Go.IntKind.u8 0, Go.Value.int Go.IntKind.u8 0, Go.Value.int Go.IntKind.u8 0, Go.Value.int Go.IntKind.u8 0, Go.Value.int Go.IntKind.u8 0, Go.Value.int Go.IntKind.u8 0, Go.Value.int Go.IntKind.u8 0]) := by kernel_rfl
theorem ag116 : isAggT Tryd.prog 116 = some true := by kernel_rfl
theorem by116 : ((Tryd.prog.info? 116).map (·.bytes)) = some 9 := by kernel_rfl
theorem ar116 : arrT Tryd.prog 116 = some (9, 5) := by kernel_rfl
theorem zo116 : zeroOk Tryd.prog 116 = true := by kernel_rfl
theorem sz117 : szT Tryd.prog 117 = some 1 := by kernel_rfl
theorem ze117 : (Tryd.prog.info? 117).bind (·.zero) = some Go.Value.nilFunc := by kernel_rfl
theorem ag117 : isAggT Tryd.prog 117 = some false := by kernel_rfl
theorem by117 : ((Tryd.prog.info? 117).map (·.bytes)) = some 8 := by kernel_rfl
theorem sz118 : szT Tryd.prog 118 = some 1 := by kernel_rfl
theorem ze118 : (Tryd.prog.info? 118).bind (·.zero) = some (Go.Value.int Go.IntKind.u64 0) := by kernel_rfl
theorem ag118 : isAggT Tryd.prog 118 = some false := by kernel_rfl
theorem by118 : ((Tryd.prog.info? 118).map (·.bytes)) = some 8 := by kernel_rfl
theorem in118 : intT Tryd.prog 118 = some Go.IntKind.u64 := by kernel_rfl
theorem sz120 : szT Tryd.prog 120 = some 1 := by kernel_rfl
theorem ze120 : (Tryd.prog.info? 120).bind (·.zero) = some Go.Value.nilFunc := by kernel_rfl
theorem ag120 : isAggT Tryd.prog 120 = some false := by kernel_rfl
theorem by120 : ((Tryd.prog.info? 120).map (·.bytes)) = some 8 := by kernel_rfl
theorem sz121 : szT Tryd.prog 121 = some 1 := by kernel_rfl
theorem ze121 : (Tryd.prog.info? 121).bind (·.zero) = some (Go.Value.pointer none) := by kernel_rfl
theorem ag121 : isAggT Tryd.prog 121 = some false := by kernel_rfl
theorem by121 : ((Tryd.prog.info? 121).map (·.bytes)) = some 8 := by kernel_rfl
theorem sz122 : szT Tryd.prog 122 = some 2 := by kernel_rfl
theorem ze122 : (Tryd.prog.info? 122).bind (·.zero) = some (Go.Value.agg #[Go.Value.pointer none, Go.Value.slice none 0 0]) := by kernel_rfl
theorem ag122 : isAggT Tryd.prog 122 = some true := by kernel_rfl
theorem by122 : ((Tryd.prog.info? 122).map (·.bytes)) = some 32 := by kernel_rfl
theorem zo122 : zeroOk Tryd.prog 122 = true := by kernel_rfl
theorem pl122 : plcT Tryd.prog 122 = some [(0, 1), (1, 1)] := by kernel_rfl
theorem fl122_0 : fldT Tryd.prog 122 0 = some 0 := by kernel_rfl
theorem fl122_1 : fldT Tryd.prog 122 1 = some 1 := by kernel_rfl
theorem sz123 : szT Tryd.prog 123 = some 2 := by kernel_rfl
theorem ze123 : (Tryd.prog.info? 123).bind (·.zero) = some (Go.Value.agg #[Go.Value.pointer none, Go.Value.slice none 0 0]) := by kernel_rfl
theorem ag123 : isAggT Tryd.prog 123 = some true := by kernel_rfl
theorem by123 : ((Tryd.prog.info? 123).map (·.bytes)) = some 32 := by kernel_rfl
theorem zo123 : zeroOk Tryd.prog 123 = true := by kernel_rfl
theorem pl123 : plcT Tryd.prog 123 = some [(0, 1), (1, 1)] := by kernel_rfl
theorem fl123_0 : fldT Tryd.prog 123 0 = some 0 := by kernel_rfl
theorem fl123_1 : fldT Tryd.prog 123 1 = some 1 := by kernel_rfl
theorem sz124 : szT Tryd.prog 124 = some 1 := by kernel_rfl
theorem ze124 : (Tryd.prog.info? 124).bind (·.zero) = some Go.Value.nilFunc := by kernel_rfl
theorem ag124 : isAggT Tryd.prog 124 = some false := by kernel_rfl
theorem by124 : ((Tryd.prog.info? 124).map (·.bytes)) = some 8 := by kernel_rfl
theorem sz128 : szT Tryd.prog 128 = some 1 := by kernel_rfl
theorem ze128 : (Tryd.prog.info? 128).bind (·.zero) = some Go.Value.nilFunc := by kernel_rfl
theorem ag128 : isAggT Tryd.prog 128 = some false := by kernel_rfl
theorem by128 : ((Tryd.prog.info? 128).map (·.bytes)) = some 8 := by kernel_rfl
theorem sz129 : szT Tryd.prog 129 = some 1 := by kernel_rfl
theorem ze129 : (Tryd.prog.info? 129).bind (·.zero) = some Go.Value.nilFunc := by kernel_rfl
theorem ag129 : isAggT Tryd.prog 129 = some false := by kernel_rfl
theorem by129 : ((Tryd.prog.info? 129).map (·.bytes)) = some 8 := by kernel_rfl
theorem sz130 : szT Tryd.prog 130 = some 1 := by kernel_rfl
theorem ze130 : (Tryd.prog.info? 130).bind (·.zero) = some Go.Value.nilFunc := by kernel_rfl
theorem ag130 : isAggT Tryd.prog 130 = some false := by kernel_rfl
theorem by130 : ((Tryd.prog.info? 130).map (·.bytes)) = some 8 := by kernel_rfl
theorem sz131 : szT Tryd.prog 131 = some 256 := by kernel_rfl
theorem ze131 : (Tryd.prog.info? 131).bind (·.zero) = some (Go.Value.agg (([Go.Value.bool false, Go.Value.bool false, Go.Value.bool false, Go.Value.bool false, Go.Value.bool false, Go.Value.bool false, Go.Value.bool false, Go.Value.bool false, Go.Value.bool false, Go.Value.bool false, Go.Value.bool false, Go.Value.bool false, Go.Value.bool false, Go.Value.bool false, Go.Value.bool false, Go.Value.bool false, Go.Value.bool false, Go.Value.bool false, Go.Value.bool false, Go.Value.bool false, Go.Value.bool false, Go.Value.bool false, Go.Value.bool false, Go.Value.bool false, Go.Value.bool false, Go.Value.bool false, Go.Value.bool false, Go.Value.bool false, Go.Value.bool false, Go.Value.bool false, Go.Value.bool false, Go.Value.bool false, Go.Value.bool false, Go.Value.bool false, Go.Value.bool false, Go.Value.bool false, Go.Value.bool false, Go.Value.bool false, Go.Value.bool false, Go.Value.bool false, Go.Value.bool false, Go.Value.bool false, Go.Value.bool false, Go.Value.bool false, Go.Value.bool false, Go.Value.bool false, Go.Value.bool false, Go.Value.bool false, Go.Value.bool false, Go.Value.bool false, Go.Value.bool false, Go.Value.bool false, Go.Value.bool false, Go.Value.bool false, Go.Value.bool false, Go.Value.bool false, Go.Value.bool false, Go.Value.bool false, Go.Value.bool false, Go.Value.bool false, Go.Value.bool false, Go.Value.bool false, Go.Value.bool false, Go.Value.bool false].append [Go.Value.bool false, Go.Value.bool false, Go.Value.bool false, Go.Value.bool false, Go.Value.bool false, Go.Value.bool false, Go.Value.bool false, Go.Value.bool false, Go.Value.bool false, Go.Value.bool false, Go.Value.bool false, Go.Value.bool false, Go.Value.bool false, Go.Value.bool false, Go.Value.bool false, Go.Value.bool false, Go.Value.bool false, Go.Value.bool false, Go.Value.bool false, Go.Value.bool false, Go.Value.bool false, Go.Value.bool false, Go.Value.bool false, Go.Value.bool false, Go.Value.bool false, Go.Value.bool false, Go.Value.bool false, Go.Value.bool false, Go.Value.bool false, Go.Value.bool false, Go.Value.bool false, Go.Value.bool false, Go.Value.bool false, Go.Value.bool false, Go.Value.bool false, Go.Value.bool false, Go.Value.bool false, Go.Value.bool false, Go.Value.bool false, Go.Value.bool false, Go.Value.bool false, Go.Value.bool false, Go.Value.bool false, Go.Value.bool false, Go.Value.bool false, Go.Value.bool false, Go.Value.bool false, Go.Value.bool false, Go.Value.bool false, Go.Value.bool false, Go.Value.bool false, Go.Value.bool false, Go.Value.bool false, Go.Value.bool false, Go.Value.bool false, Go.Value.bool false, Go.Value.bool false, Go.Value.bool false, Go.Value.bool false, Go.Value.bool false, Go.Value.bool false, Go.Value.bool false, Go.Value.bool false, Go.Value.bool false]).append ([Go.Value.bool false, Go.Value.bool false, Go.Value.bool false, Go.Value.bool false, Go.Value.bool false, Go.Value.bool false, Go.Value.bool false, Go.Value.bool false, Go.Value.bool false, Go.Value.bool false, Go.Value.bool false, Go.Value.bool false, Go.Value.bool false, Go.Value.bool false, Go.Value.bool false, Go.Value.bool false, Go.Value.bool false, Go.Value.bool false, Go.Value.bool false, Go.Value.bool false, Go.Value.bool false, Go.Value.bool false, Go.Value.bool false, Go.Value.bool false, Go.Value.bool false, Go.Value.bool false, Go.Value.bool false, Go.Value.bool false, Go.Value.bool false, Go.Value.bool false, Go.Value.bool false, Go.Value.bool false, Go.Value.bool false, Go.Value.bool false, Go.Value.bool false, Go.Value.bool false, Go.Value.bool false, Go.Value.bool false, Go.Value.bool false, Go.Value.bool false, Go.Value.bool false, Go.Value.bool false, Go.Value.bool false, Go.Value.bool false, Go.Value.bool false, Go.Value.bool false, Go.Value.bool false, Go.Value.bool false, Go.Value.bool false, Go.Value.bool false, Go.Value.bool false, Go.Value.bool false, Go.Value.bool false, Go.Value.bool false, Go.Value.bool false, Go.Value.bool false, Go.Value.bool false, Go.Value.bool false, Go.Value.bool false, Go.Value.bool false, Go.Value.bool false, Go.Value.bool false, Go.Value.bool false, Go.Value.bool false].append [Go.Value.bool false, Go.Value.bool false, Go.Value.bool false, Go.Value.bool false, Go.Value.bool false, Go.Value.bool false, Go.Value.bool false, Go.Value.bool false, Go.Value.bool false, Go.Value.bool false, Go.Value.bool false, Go.Value.bool false, Go.Value.bool false, Go.Value.bool false, Go.Value.bool false, Go.Value.bool false, Go.Value.bool false, Go.Value.bool false, Go.Value.bool false, Go.Value.bool false, Go.Value.bool false, Go.Value.bool false, Go.Value.bool false, Go.Value.bool false, Go.Value.bool false, Go.Value.bool false, Go.Value.bool false, Go.Value.bool false, Go.Value.bool false, Go.Value.bool false, Go.Value.bool false, Go.Value.bool false, Go.Value.bool false, Go.Value.bool false, Go.Value.bool false, Go.Value.bool false, Go.Value.bool false, Go.Value.bool false, Go.Value.bool false, Go.Value.bool false, Go.Value.bool false, Go.Value.bool false, Go.Value.bool false, Go.Value.bool false, Go.Value.bool false, Go.Value.bool false, Go.Value.bool false, Go.Value.bool false, Go.Value.bool false, Go.Value.bool false, Go.Value.bool false, Go.Value.bool false, Go.Value.bool false, Go.Value.bool false, Go.Value.bool false, Go.Value.bool false, Go.Value.bool false, Go.Value.bool false, Go.Value.bool false, Go.Value.bool false, Go.Value.bool false, Go.Value.bool false, Go.Value.bool false, Go.Value.bool false])).toArray) := by kernel_rfl
theorem ag131 : isAggT Tryd.prog 131 = some true := by kernel_rfl
theorem by131 : ((Tryd.prog.info? 131).map (·.bytes)) = some 256 := by kernel_rfl
theorem ar131 : arrT Tryd.prog 131 = some (256, 4) := by kernel_rfl
theorem zo131 : zeroOk Tryd.prog 131 = true := by kernel_rfl
theorem sz132 : szT Tryd.prog 132 = some 256 := by kernel_rfl
theorem ze132 : (Tryd.prog.info? 132).bind (·.zero) = some (Go.Value.agg (([Go.Value.bool false, Go.Value.bool false, Go.Value.bool false, Go.Value.bool false, Go.Value.bool false, Go.Value.bool false, Go.Value.bool false, Go.Value.bool false, Go.Value.bool false, Go.Value.bool false, Go.Value.bool false, Go.Value.bool false, Go.Value.bool false, Go.Value.bool false, Go.Value.bool false, Go.Value.bool false, Go.Value.bool false, Go.Value.bool false, Go.Value.bool false, Go.Value.bool false, Go.Value.bool false, Go.Value.bool false, Go.Value.bool false, Go.Value.bool false, Go.Value.bool false, Go.Value.bool false, Go.Value.bool false, Go.Value.bool false, Go.Value.bool false, Go.Value.bool false, Go.Value.bool false, Go.Value.bool false, Go.Value.bool false, Go.Value.bool false, Go.Value.bool false, Go.Value.bool false, Go.Value.bool false, Go.Value.bool false, Go.Value.bool false, Go.Value.bool false, Go.Value.bool false, Go.Value.bool false, Go.Value.bool false, Go.Value.bool false, Go.Value.bool false, Go.Value.bool false, Go.Value.bool false, Go.Value.bool false, Go.Value.bool false, Go.Value.bool false, Go.Value.bool false, Go.Value.bool false, Go.Value.bool false, Go.Value.bool false, Go.Value.bool false, Go.Value.bool false, Go.Value.bool false, Go.Value.bool false, Go.Value.bool false, Go.Value.bool false, Go.Value.bool false, Go.Value.bool false, Go.Value.bool false, Go.Value.bool false].append [Go.Value.bool false, Go.Value.bool false, Go.Value.bool false, Go.Value.bool false, Go.Value.bool false, Go.Value.bool false, Go.Value.bool false, Go.Value.bool false, Go.Value.bool false, Go.Value.bool false, Go.Value.bool false, Go.Value.bool false, Go.Value.bool false, Go.Value.bool false, Go.Value.bool false, Go.Value.bool false, Go.Value.bool false, Go.Value.bool false, Go.Value.bool false, Go.Value.bool false, Go.Value.bool false, Go.Value.bool false, Go.Value.bool false, Go.Value.bool false, Go.Value.bool false, Go.Value.bool false, Go.Value.bool false, Go.Value.bool false, Go.Value.bool false, Go.Value.bool false, Go.Value.bool false, Go.Value.bool false, Go.Value.bool false, Go.Value.bool false, Go.Value.bool false, Go.Value.bool false, Go.Value.bool false, Go.Value.bool false, Go.Value.bool false, Go.Value.bool false, Go.Value.bool false, Go.Value.bool false, Go.Value.bool false, Go.Value.bool false, Go.Value.bool false, Go.Value.bool false, Go.Value.bool false, Go.Value.bool false, Go.Value.bool false, Go.Value.bool false, Go.Value.bool false, Go.Value.bool false, Go.Value.bool false, Go.Value.bool false, Go.Value.bool false, Go.Value.bool false, Go.Value.bool false, Go.Value.bool false, Go.Value.bool false, Go.Value.bool false, Go.Value.bool false, Go.Value.bool false, Go.Value.bool false, Go.Value.bool false]).append ([Go.Value.bool false, Go.Value.bool false, Go.Value.bool false, Go.Value.bool false, Go.Value.bool false, Go.Value.bool false, Go.Value.bool false, Go.Value.bool false, Go.Value.bool false, Go.Value.bool false, Go.Value.bool false, Go.Value.bool false, Go.Value.bool false, Go.Value.bool false, Go.Value.bool false, Go.Value.bool false, Go.Value.bool false, Go.Value.bool false, Go.Value.bool false, Go.Value.bool false, Go.Value.bool false, Go.Value.bool false, Go.Value.bool false, Go.Value.bool false, Go.Value.bool false, Go.Value.bool false, Go.Value.bool false, Go.Value.bool false, Go.Value.bool false, Go.Value.bool false, Go.Value.bool false, Go.Value.bool false, Go.Value.bool false, Go.Value.bool false, Go.Value.bool false, Go.Value.bool false, Go.Value.bool false, Go.Value.bool false, Go.Value.bool false, Go.Value.bool false, Go.Value.bool false, Go.Value.bool false, Go.Value.bool false, Go.Value.bool false, Go.Value.bool false, Go.Value.bool false, Go.Value.bool false, Go.Value.bool false, Go.Value.bool false, Go.Value.bool false, Go.Value.bool false, Go.Value.bool false, Go.Value.bool false, Go.Value.bool false, Go.Value.bool false, Go.Value.bool false, Go.Value.bool false, Go.Value.bool false, Go.Value.bool false, Go.Value.bool false, Go.Value.bool false, Go.Value.bool false, Go.Value.bool false, Go.Value.bool false].append [Go.Value.bool false, Go.Value.bool false, Go.Value.bool false, Go.Value.bool false, Go.Value.bool false, Go.Value.bool false, Go.Value.bool false, Go.Value.bool false, Go.Value.bool false, Go.Value.bool false, Go.Value.bool false, Go.Value.bool false, Go.Value.bool false, Go.Value.bool false, Go.Value.bool false, Go.Value.bool false, Go.Value.bool false, Go.Value.bool false, Go.Value.bool false, Go.Value.bool false, Go.Value.bool false, Go.Value.bool false, Go.Value.bool false, Go.Value.bool false, Go.Value.bool false, Go.Value.bool false, Go.Value.bool false, Go.Value.bool false, Go.Value.bool false, Go.Value.bool false, Go.Value.bool false, Go.Value.bool false, Go.Value.bool false, Go.Value.bool false, Go.Value.bool false, Go.Value.bool false, Go.Value.bool false, Go.Value.bool false, Go.Value.bool false, Go.Value.bool false, Go.Value.bool false, Go.Value.bool false, Go.Value.bool false, Go.Value.bool false, Go.Value.bool false, Go.Value.bool false, Go.Value.bool false, Go.Value.bool false, Go.Value.bool false, Go.Value.bool false, Go.Value.bool false, Go.Value.bool false, Go.Value.bool false, Go.Value.bool false, Go.Value.bool false, Go.Value.bool false, Go.Value.bool false, Go.Value.bool false, Go.Value.bool false, Go.Value.bool false, Go.Value.bool false, Go.Value.bool false, Go.Value.bool false, Go.Value.bool false])).toArray) := by kernel_rfl
theorem ag132 : isAggT Tryd.prog 132 = some true := by kernel_rfl
theorem by132 : ((Tryd.prog.info? 132).map (·.bytes)) = some 256 := by kernel_rfl
theorem ar132 : arrT Tryd.prog 132 = some (256, 4) := by kernel_rfl
theorem zo132 : zeroOk Tryd.prog 132 = true := by kernel_rfl
theorem sz134 : szT Tryd.prog 134 = some 1 := by kernel_rfl
theorem ze134 : (Tryd.prog.info? 134).bind (·.zero) = some Go.Value.nilFunc := by kernel_rfl
theorem ag134 : isAggT Tryd.prog 134 = some false := by kernel_rfl
theorem by134 : ((Tryd.prog.info? 134).map (·.bytes)) = some 8 := by kernel_rfl
theorem sz135 : szT Tryd.prog 135 = some 1 := by kernel_rfl
theorem ze135 : (Tryd.prog.info? 135).bind (·.zero) = some Go.Value.nilFunc := by kernel_rfl
theorem ag135 : isAggT Tryd.prog 135 = some false := by kernel_rfl
theorem by135 : ((Tryd.prog.info? 135).map (·.bytes)) = some 8 := by kernel_rfl
theorem sz136 : szT Tryd.prog 136 = some 1 := by kernel_rfl
theorem ze136 : (Tryd.prog.info? 136).bind (·.zero) = some (Go.Value.pointer none) := by kernel_rfl
theorem ag136 : isAggT Tryd.prog 136 = some false := by kernel_rfl
theorem by136 : ((Tryd.prog.info? 136).map (·.bytes)) = some 8 := by kernel_rfl
theorem sz138 : szT Tryd.prog 138 = some 1 := by kernel_rfl
theorem ze138 : (Tryd.prog.info? 138).bind (·.zero) = some Go.Value.nilFunc := by kernel_rfl
theorem ag138 : isAggT Tryd.prog 138 = some false := by kernel_rfl
theorem by138 : ((Tryd.prog.info? 138).map (·.bytes)) = some 8 := by kernel_rfl
theorem sz140 : szT Tryd.prog 140 = some 1 := by kernel_rfl
theorem ze140 : (Tryd.prog.info? 140).bind (·.zero) = some Go.Value.nilFunc := by kernel_rfl
theorem ag140 : isAggT Tryd.prog 140 = some false := by kernel_rfl
theorem by140 : ((Tryd.prog.info? 140).map (·.bytes)) = some 8 := by kernel_rfl
theorem sz141 : szT Tryd.prog 141 = some 1 := by kernel_rfl
theorem ze141 : (Tryd.prog.info? 141).bind (·.zero) = some (Go.Value.pointer none) := by kernel_rfl
theorem ag141 : isAggT Tryd.prog 141 = some false := by kernel_rfl
theorem by141 : ((Tryd.prog.info? 141).map (·.bytes)) = some 8 := by kernel_rfl
theorem sz142 : szT Tryd.prog 142 = some 1 := by kernel_rfl
theorem ze142 : (Tryd.prog.info? 142).bind (·.zero) = some Go.Value.nilFunc := by kernel_rfl
theorem ag142 : isAggT Tryd.prog 142 = some false := by kernel_rfl
theorem by142 : ((Tryd.prog.info? 142).map (·.bytes)) = some 8 := by kernel_rfl
theorem sz144 : szT Tryd.prog 144 = some 1 := by kernel_rfl
theorem ze144 : (Tryd.prog.info? 144).bind (·.zero) = some Go.Value.nilFunc := by kernel_rfl
theorem ag144 : isAggT Tryd.prog 144 = some false := by kernel_rfl
theorem by144 : ((Tryd.prog.info? 144).map (·.bytes)) = some 8 := by kernel_rfl
theorem sz145 : szT Tryd.prog 145 = some 1 := by kernel_rfl
theorem ze145 : (Tryd.prog.info? 145).bind (·.zero) = some Go.Value.nilFunc := by kernel_rfl
theorem ag145 : isAggT Tryd.prog 145 = some false := by kernel_rfl
theorem by145 : ((Tryd.prog.info? 145).map (·.bytes)) = some 8 := by kernel_rfl
theorem sz146 : szT Tryd.prog 146 = some 1 := by kernel_rfl
theorem ze146 : (Tryd.prog.info? 146).bind (·.zero) = some Go.Value.nilFunc := by kernel_rfl
theorem ag146 : isAggT Tryd.prog 146 = some false := by kernel_rfl
theorem by146 : ((Tryd.prog.info? 146).map (·.bytes)) = some 8 := by kernel_rfl
theorem sz147 : szT Tryd.prog 147 = some 1 := by kernel_rfl
theorem ze147 : (Tryd.prog.info? 147).bind (·.zero) = some Go.Value.nilFunc := by kernel_rfl
theorem ag147 : isAggT Tryd.prog 147 = some false := by kernel_rfl
theorem by147 : ((Tryd.prog.info? 147).map (·.bytes)) = some 8 := by kernel_rfl
theorem sz148 : szT Tryd.prog 148 = some 1 := by kernel_rfl
theorem ze148 : (Tryd.prog.info? 148).bind (·.zero) = some (Go.Value.pointer none) := by kernel_rfl
theorem ag148 : isAggT Tryd.prog 148 = some false := by kernel_rfl
theorem by148 : ((Tryd.prog.info? 148).map (·.bytes)) = some 8 := by kernel_rfl
theorem sz149 : szT Tryd.prog 149 = some 1 := by kernel_rfl
theorem ze149 : (Tryd.prog.info? 149).bind (·.zero) = some Go.Value.nilFunc := by kernel_rfl
theorem ag149 : isAggT Tryd.prog 149 = some false := by kernel_rfl
theorem by149 : ((Tryd.prog.info? 149).map (·.bytes)) = some 8 := by kernel_rfl
theorem sz150 : szT Tryd.prog 150 = some 1 := by kernel_rfl
theorem ze150 : (Tryd.prog.info? 150).bind (·.zero) = some Go.Value.nilFunc := by kernel_rfl
theorem ag150 : isAggT Tryd.prog 150 = some false := by kernel_rfl
theorem by150 : ((Tryd.prog.info? 150).map (·.bytes)) = some 8 := by kernel_rfl
theorem sz151 : szT Tryd.prog 151 = some 1 := by kernel_rfl
theorem ze151 : (Tryd.prog.info? 151).bind (·.zero) = some Go.Value.nilFunc := by kernel_rfl
theorem ag151 : isAggT Tryd.prog 151 = some false := by kernel_rfl
theorem by151 : ((Tryd.prog.info? 151).map (·.bytes)) = some 8 := by kernel_rfl
theorem sz152 : szT Tryd.prog 152 = some 1 := by kernel_rfl
theorem ze152 : (Tryd.prog.info? 152).bind (·.zero) = some Go.Value.nilFunc := by kernel_rfl
theorem ag152 : isAggT Tryd.prog 152 = some false := by kernel_rfl
theorem by152 : ((Tryd.prog.info? 152).map (·.bytes)) = some 8 := by kernel_rfl
theorem sz153 : szT Tryd.prog 153 = some 256 := by kernel_rfl
theorem ze153 : (Tryd.prog.info? 153).bind (·.zero) = some (Go.Value.agg (([Go.Value.int Go.IntKind.u8 0, Go.Value.int Go.IntKind.u8 0, Go.Value.int Go.IntKind.u8 0, Go.Value.int Go.IntKind.u8 0, Go.Value.int Go.IntKind.u8 0, Go.Value.int Go.IntKind.u8 0, Go.Value.int Go.IntKind.u8 0, Go.Value.int Go.IntKind.u8 0, Go.Value.int Go.IntKind.u8 0, Go.Value.int Go.IntKind.u8 0, Go.Value.int Go.IntKind.u8 0, Go.Value.int Go.IntKind.u8 0, Go.Value.int Go.IntKind.u8 0, Go.Value.int Go.IntKind.u8 0, Go.Value.int Go.IntKind.u8 0, Go.Value.int Go.IntKind.u8 0, Go.Value.int Go.IntKind.u8 0, Go.Value.int Go.IntKind.u8 0, Go.Value.int Go.IntKind.u8 0, Go.Value.int Go.IntKind.u8 0, Go.Value.int Go.IntKind.u8 0, Go.Value.int Go.IntKind.u8 0, Go.Value.int Go.IntKind.u8 0, Go.Value.int Go.IntKind.u8 0, Go.Value.int Go.IntKind.u8 0, Go.Value.int Go.IntKind.u8 0, Go.Value.int Go.IntKind.u8 0, Go.Value.int Go.IntKind.u8 0, Go.Value.int Go.IntKind.u8 0, Go.Value.int Go.IntKind.u8 0, Go.Value.int Go.IntKind.u8 0, Go.Value.int Go.IntKind.u8 0, Go.Value.int Go.IntKind.u8 0, Go.Value.int Go.IntKind.u8 0, Go.Value.int Go.IntKind.u8 0, Go.Value.int Go.IntKind.u8 0, Go.Value.int Go.IntKind.u8 0, Go.Value.int Go.IntKind.u8 0, Go.Value.int Go.IntKind.u8 0, Go.Value.int Go.IntKind.u8 0, Go.Value.int Go.IntKind.u8 0, Go.Value.int Go.IntKind.u8 0, Go.Value.int Go.IntKind.u8 0, Go.Value.int Go.IntKind.u8 0, Go.Value.int Go.IntKind.u8 0, Go.Value.int Go.IntKind.u8 0, Go.Value.int Go.IntKind.u8 0, Go.Value.int Go.IntKind.u8 0, Go.Value.int Go.IntKind.u8 0, Go.Value.int Go.IntKind.u8 0, Go.Value.int Go.IntKind.u8 0, Go.Value.int Go.IntKind.u8 0, Go.Value.int Go.IntKind.u8 0, Go.Value.int Go.IntKind.u8 0, Go.Value.int Go.IntKind.u8 0, Go.Value.int Go.IntKind.u8 0, Go.Value.int Go.IntKind.u8 0, Go.Value.int Go.IntKind.u8 0, Go.Value.int Go.IntKind.u8 0, Go.Value.int Go.IntKind.u8 0, Go.Value.int Go.IntKind.u8 0, Go.Value.int Go.IntKind.u8 0, Go.Value.int Go.IntKind.u8 0, Go.Value.int Go.IntKind.u8 0].append [Go.Value.int Go.IntKind.u8 0, Go.Value.int Go.IntKind.u8 0, Go.Value.int Go.IntKind.u8 0, Go.Value.int Go.IntKind.u8 0, Go.Value.int Go.IntKind.u8 0, Go.Value.int Go.IntKind.u8 0, Go.Value.int Go.IntKind.u8 0, Go.Value.int Go.IntKind.u8 0, Go.Value.int Go.IntKind.u8 0, Go.Value.int Go.IntKind.u8 0, Go.Value.int Go.IntKind.u8 0, Go.Value.int Go.IntKind.u8 0, Go.Value.int Go.IntKind.u8 0, Go.Value.int Go.IntKind.u8 0, Go.Value.int Go.IntKind.u8 0, Go.Value.int Go.IntKind.u8 0, Go.Value.int Go.IntKind.u8 0, Go.Value.int Go.IntKind.u8 0, Go.Value.int Go.IntKind.u8 0, Go.Value.int Go.IntKind.u8 0, Go.Value.int Go.IntKind.u8 0, Go.Value.int Go.IntKind.u8 0, Go.Value.int Go.IntKind.u8 0, Go.Value.int Go.IntKind.u8 0, Go.Value.int Go.IntKind.u8 0, Go.Value.int Go.IntKind.u8 0, Go.Value.int Go.IntKind.u8 0, Go.Value.int Go.IntKind.u8 0, Go.Value.int Go.IntKind.u8 0, Go.Value.int Go.IntKind.u8 0, Go.Value.int Go.IntKind.u8 0, Go.Value.int Go.IntKind.u8 0, Go.Value.int Go.IntKind.u8 0, Go.Value.int Go.IntKind.u8 0, Go.Value.int Go.IntKind.u8 0, Go.Value.int Go.IntKind.u8 0, Go.Value.int Go.IntKind.u8 0, Go.Value.int Go.IntKind.u8 0, Go.Value.int Go.IntKind.u8 0, Go.Value.int Go.IntKind.u8 0, Go.Value.int Go.IntKind.u8 0, Go.Value.int Go.IntKind.u8 0, Go.Value.int Go.IntKind.u8 0, Go.Value.int Go.IntKind.u8 0, Go.Value.int Go.IntKind.u8 0, Go.Value.int Go.IntKind.u8 0, Go.Value.int Go.IntKind.u8 0, Go.Value.int Go.IntKind.u8 0, Go.Value.int Go.IntKind.u8 0, Go.Value.int Go.IntKind.u8 0, Go.Value.int Go.IntKind.u8 0, Go.Value.int Go.IntKind.u8 0, Go.Value.int Go.IntKind.u8 0, Go.Value.int Go.IntKind.u8 0, Go.Value.int Go.IntKind.u8 0, Go.Value.int Go.IntKind.u8 0, Go.Value.int Go.IntKind.u8 0, Go.Value.int Go.IntKind.u8 0, Go.Value.int Go.IntKind.u8 0, Go.Value.int Go.IntKind.u8 0, Go.Value.int Go.IntKind.u8 0, Go.Value.int Go.IntKind.u8 0, Go.Value.int Go.IntKind.u8 0, Go.Value.int Go.IntKind.u8 0]).append ([Go.Value.int Go.IntKind.u8 0, Go.Value.int Go.IntKind.u8 0, Go.Value.int Go.IntKind.u8 0, Go.Value.int Go.IntKind.u8 0, Go.Value.int Go.IntKind.u8 0, Go.Value.int Go.IntKind.u8 0, Go.Value.int Go.IntKind.u8 0, Go.Value.int Go.IntKind.u8 0, Go.Value.int Go.IntKind.u8 0, Go.Value.int Go.IntKind.u8 0, Go.Value.int Go.IntKind.u8 0, Go.Value.int Go.IntKind.u8 0, Go.Value.int Go.IntKind.u8 0, Go.Value.int Go.IntKind.u8 0, Go.Value.int Go.IntKind.u8 0, Go.Value.int Go.IntKind.u8 0, Go.Value.int Go.IntKind.u8 0, Go.Value.int Go.IntKind.u8 0, Go.Value.int Go.IntKind.u8 0, Go.Value.int Go.IntKind.u8 0, Go.Value.int Go.IntKind.u8 0, Go.Value.int Go.IntKind.u8 0, Go.Value.int Go.IntKind.u8 0, Go.Value.int Go.IntKind.u8 0, Go.Value.int Go.IntKind.u8 0, Go.Value.int Go.IntKind.u8 0, Go.Value.int Go.IntKind.u8 0, Go.Value.int Go.IntKind.u8 0, Go.Value.int Go.IntKind.u8 0, Go.Value.int Go.IntKind.u8 0, Go.Value.int Go.IntKind.u8 0, Go.Value.int Go.IntKind.u8 0, Go.Value.int Go.IntKind.u8 0, Go.Value.int Go.IntKind.u8 0, Go.Value.int Go.IntKind.u8 0, Go.Value.int Go.IntKind.u8 0, Go.Value.int Go.IntKind.u8 0, Go.Value.int Go.IntKind.u8 0, Go.Value.int Go.IntKind.u8 0, Go.Value.int Go.IntKind.u8 0, Go.Value.int Go.IntKind.u8 0, Go.Value.int Go.IntKind.u8 0, Go.Value.int Go.IntKind.u8 0, Go.Value.int Go.IntKind.u8 0, Go.Value.int Go.IntKind.u8 0, Go.Value.int Go.IntKind.u8 0, Go.Value.int Go.IntKind.u8 0, Go.Value.int Go.IntKind.u8 0, Go.Value.int Go.IntKind.u8 0, Go.Value.int Go.IntKind.u8 0, Go.Value.int Go.IntKind.u8 0, Go.Value.int Go.IntKind.u8 0, Go.Value.int Go.IntKind.u8 0, Go.Value.int Go.IntKind.u8 0, Go.Value.int Go.IntKind.u8 0, Go.Value.int Go.IntKind.u8 0, Go.Value.int Go.IntKind.u8 0, Go.Value.int Go.IntKind.u8 0, Go.Value.int Go.IntKind.u8 0, Go.Value.int Go.IntKind.u8 0, Go.Value.int Go.IntKind.u8 0, Go.Value.int Go.IntKind.u8 0, Go.Value.int Go.IntKind.u8 0, Go.Value.int Go.IntKind.u8 0].append [Go.Value.int Go.IntKind.u8 0, Go.Value.int Go.IntKind.u8 0, Go.Value.int Go.IntKind.u8 0, Go.Value.int Go.IntKind.u8 0, Go.Value.int Go.IntKind.u8 0, Go.Value.int Go.IntKind.u8 0, Go.Value.int Go.IntKind.u8 0, Go.Value.int Go.IntKind.u8 0, Go.Value.int Go.IntKind.u8 0, Go.Value.int Go.IntKind.u8 0, Go.Value.int Go.IntKind.u8 0, Go.Value.int Go.IntKind.u8 0, Go.Value.int Go.IntKind.u8 0, Go.Value.int Go.IntKind.u8 0, Go.Value.int Go.IntKind.u8 0, Go.Value.int Go.IntKind.u8 0, Go.Value.int Go.IntKind.u8 0, Go.Value.int Go.IntKind.u8 0, Go.Value.int Go.IntKind.u8 0, Go.Value.int Go.IntKind.u8 0, Go.Value.int Go.IntKind.u8 0, Go.Value.int Go.IntKind.u8 0, Go.Value.int Go.IntKind.u8 0, Go.Value.int Go.IntKind.u8 0, Go.Value.int Go.IntKind.u8 0, Go.Value.int Go.IntKind.u8 0, Go.Value.int Go.IntKind.u8 0, Go.Value.int Go.IntKind.u8 0, Go.Value.int Go.IntKind.u8 0, Go.Value.int Go.IntKind.u8 0, Go.Value.int Go.IntKind.u8 0, Go.Value.int Go.IntKind.u8 0, Go.Value.int Go.IntKind.u8 0, Go.Value.int Go.IntKind.u8 0, Go.Value.int Go.IntKind.u8 0, Go.Value.int Go.IntKind.u8 0, Go.Value.int Go.IntKind.u8 0, Go.Value.int Go.IntKind.u8 0, Go.Value.int Go.IntKind.u8 0, Go.Value.int Go.IntKind.u8 0, Go.Value.int Go.IntKind.u8 0, Go.Value.int Go.IntKind.u8 0, Go.Value.int Go.IntKind.u8 0, Go.Value.int Go.IntKind.u8 0, Go.Value.int Go.IntKind.u8 0, Go.Value.int Go.IntKind.u8 0, Go.Value.int Go.IntKind.u8 0, Go.Value.int Go.IntKind.u8 0, Go.Value.int Go.IntKind.u8 0, Go.Value.int Go.IntKind.u8 0, Go.Value.int Go.IntKind.u8 0, Go.Value.int Go.IntKind.u8 0, Go.Value.int Go.IntKind.u8 0, Go.Value.int Go.IntKind.u8 0, Go.Value.int Go.IntKind.u8 0, Go.Value.int Go.IntKind.u8 0, Go.Value.int Go.IntKind.u8 0, Go.Value.int Go.IntKind.u8 0, Go.Value.int Go.IntKind.u8 0, Go.Value.int Go.IntKind.u8 0, Go.Value.int Go.IntKind.u8 0, Go.Value.int Go.IntKind.u8 0, Go.Value.int Go.IntKind.u8 0, Go.Value.int Go.IntKind.u8 0])).toArray) := by kernel_rfl
theorem ag153 : isAggT Tryd.prog 153 = some true := by kernel_rfl
theorem by153 : ((Tryd.prog.info? 153).map (·.bytes)) = some 256 := by kernel_rfl
theorem ar153 : arrT Tryd.prog 153 = some (256, 5) := by kernel_rfl
theorem zo153 : zeroOk Tryd.prog 153 = true := by kernel_rfl
theorem sz154 : szT Tryd.prog 154 = some 2 := by kernel_rfl
theorem ze154 : (Tryd.prog.info? 154).bind (·.zero) = some (Go.Value.agg #[Go.Value.int Go.IntKind.u8 0, Go.Value.int Go.IntKind.u8 0]) := by kernel_rfl
theorem ag154 : isAggT Tryd.prog 154 = some true := by kernel_rfl
theorem by154 : ((Tryd.prog.info? 154).map (·.bytes)) = some 2 := by kernel_rfl
theorem zo154 : zeroOk Tryd.prog 154 = true := by kernel_rfl
theorem pl154 : plcT Tryd.prog 154 = some [(0, 1), (1, 1)] := by kernel_rfl
theorem fl154_0 : fldT Tryd.prog 154 0 = some 0 := by kernel_rfl
theorem fl154_1 : fldT Tryd.prog 154 1 = some 1 := by kernel_rfl
theorem sz155 : szT Tryd.prog 155 = some 2 := by kernel_rfl
theorem ze155 : (Tryd.prog.info? 155).bind (·.zero) = some (Go.Value.agg #[Go.Value.int Go.IntKind.u8 0, Go.Value.int Go.IntKind.u8 0]) := by kernel_rfl
theorem ag155 : isAggT Tryd.prog 155 = some true := by kernel_rfl
theorem by155 : ((Tryd.prog.info? 155).map (·.bytes)) = some 2 := by kernel_rfl
theorem zo155 : zeroOk Tryd.prog 155 = true := by kernel_rfl
theorem pl155 : plcT Tryd.prog 155 = some [(0, 1), (1, 1)] := by kernel_rfl
theorem fl155_0 : fldT Tryd.prog 155 0 = some 0 := by kernel_rfl
theorem fl155_1 : fldT Tryd.prog 155 1 = some 1 := by kernel_rfl
theorem sz156 : szT Tryd.prog 156 = some 32 := by kernel_rfl
theorem ze156 : (Tryd.prog.info? 156).bind (·.zero) = some (Go.Value.agg #[Go.Value.int Go.IntKind.u8 0, Go.Value.int Go.IntKind.u8 0, Go.Value.int Go.IntKind.u8 0, Go.Value.int Go.IntKind.u8 0, Go.Value.int Go.IntKind.u8 0, Go.Value.int Go.IntKind.u8 0, Go.Value.int Go.IntKind.u8 0, Go.Value.int Go.IntKind.u8 0, Go.Value.int Go.IntKind.u8 0, Go.Value.int Go.IntKind.u8 0, Go.Value.int Go.IntKind.u8 0, Go.Value.int Go.IntKind.u8 0, Go.Value.int Go.IntKind.u8 0, Go.Value.int Go.IntKind.u8 0, Go.Value.int Go.IntKind.u8 0, Go.Value.int Go.IntKind.u8 0, Go.Value.int Go.IntKind.u8 0, Go.Value.int Go.IntKind.u8 0, Go.Value.int Go.IntKind.u8 0, Go.Value.int Go.IntKind.u8 0, Go.Value.int Go.IntKind.u8 0, Go.Value.int Go.IntKind.u8 0, Go.Value.int Go.IntKind.u8 0, Go.Value.int Go.IntKind.u8 0, Go.Value.int Go.IntKind.u8 0, Go.Value.int Go.IntKind.u8 0, Go.Value.int Go.IntKind.u8 0, Go.Value.int Go.IntKind.u8 0, Go.Value.int Go.IntKind.u8 0, Go.Value.int Go.IntKind.u8 0, Go.Value.int Go.IntKind.u8 0, Go.Value.int Go.IntKind.u8 0]) := by kernel_rfl
theorem ag156 : isAggT Tryd.prog 156 = some true := by kernel_rfl
theorem by156 : ((Tryd.prog.info? 156).map (·.bytes)) = some 32 := by kernel_rfl
theorem ar156 : arrT Tryd.prog 156 = some (16, 155) := by kernel_rfl
theorem zo156 : zeroOk Tryd.prog 156 = true := by kernel_rfl
theorem sz157 : szT Tryd.prog 157 = some 1 := by kernel_rfl
theorem ze157 : (Tryd.prog.info? 157).bind (·.zero) = some Go.Value.nilFunc := by kernel_rfl
theorem ag157 : isAggT Tryd.prog 157 = some false := by kernel_rfl
theorem by157 : ((Tryd.prog.info? 157).map (·.bytes)) = some 8 := by kernel_rfl
theorem sz165 : szT Tryd.prog 165 = some 1 := by kernel_rfl
theorem ze165 : (Tryd.prog.info? 165).bind (·.zero) = some Go.Value.nilFunc := by kernel_rfl
theorem ag165 : isAggT Tryd.prog 165 = some false := by kernel_rfl
theorem by165 : ((Tryd.prog.info? 165).map (·.bytes)) = some 8 := by kernel_rfl
theorem mixed : Tryd.prog.follows .mixedOrders = true := by kernel_rfl
end Go.Am.Tryd
