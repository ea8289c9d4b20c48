/- Typed functions with the same answers as the program's, and the walks that show it. -/
import Derived.Test.YtlmgdnhnpkgheaaDoorG2Z12
import Derived.Test.YtlmgdnhnpkgheaaDoorG4Z12
import Derived.Laws.Strings
namespace Go.Am.Tryd
open Go Go.Am Go.Proofs
set_option linter.unusedVariables false
set_option linter.unusedSimpArgs false
set_option maxRecDepth 10000

def g_law_ratFact (K : Nat) : Option Bool := ((g_rat_Of K 6 (-4)).bind fun x1 => ((g_rat_Add K (⟨#[49, 47, 50]⟩ : ByteArray) (⟨#[49, 47, 51]⟩ : ByteArray)).bind fun x12 => ((g_rat_Sub K (⟨#[49, 47, 50]⟩ : ByteArray) (⟨#[49, 47, 51]⟩ : ByteArray)).bind fun x23 => ((g_rat_Mul K (⟨#[50, 47, 51]⟩ : ByteArray) (⟨#[51, 47, 50]⟩ : ByteArray)).bind fun x34 => ((g_rat_Div K (⟨#[49]⟩ : ByteArray) (⟨#[45, 51]⟩ : ByteArray)).bind fun x45 => ((g_rat_Neg K (⟨#[49, 47, 50]⟩ : ByteArray)).bind fun x56 => ((g_rat_Compare K (⟨#[49, 47, 50]⟩ : ByteArray) (⟨#[49, 47, 51]⟩ : ByteArray)).bind fun x67 => ((g_rat_Sign K (⟨#[45, 49]⟩ : ByteArray)).bind fun x78 => ((g_rat_Floor K (⟨#[45, 49, 47, 50]⟩ : ByteArray)).bind fun x89 => ((g_rat_Ceil K (⟨#[49, 47, 50]⟩ : ByteArray)).bind fun x100 => ((g_rat_Round K (⟨#[53, 47, 50]⟩ : ByteArray)).bind fun x111 => ((g_rat_Integer K (⟨#[45, 55]⟩ : ByteArray)).bind fun x122 => ((g_rat_Sum K [(⟨#[49, 47, 50]⟩ : ByteArray), (⟨#[49, 47, 51]⟩ : ByteArray), (⟨#[49, 47, 54]⟩ : ByteArray)]).bind fun x137 => ((g_rat_Least K [(⟨#[50]⟩ : ByteArray), (⟨#[49]⟩ : ByteArray), (⟨#[49]⟩ : ByteArray)]).bind fun x152 => (Option.bind (((g_law_fine K [x1.2, x12.2, x23.2, x34.2, x45.2, x56.2, x67.2, x78.2, x89.2, x100.2, x111.2, x122.2, x137.2, x152.2]).bind fun x170 => (if x170 = true then (if (sEq x1.1 (⟨#[45, 51, 47, 50]⟩ : ByteArray)) = true then (if (sEq x12.1 (⟨#[53, 47, 54]⟩ : ByteArray)) = true then (if (sEq x23.1 (⟨#[49, 47, 54]⟩ : ByteArray)) = true then (if (sEq x34.1 (⟨#[49]⟩ : ByteArray)) = true then (if (sEq x45.1 (⟨#[45, 49, 47, 51]⟩ : ByteArray)) = true then (if (sEq x56.1 (⟨#[45, 49, 47, 50]⟩ : ByteArray)) = true then (if (x67.1 == 1) = true then (if (x78.1 == (-1)) = true then (if (sEq x89.1 (⟨#[45, 49]⟩ : ByteArray)) = true then (if (sEq x100.1 (⟨#[49]⟩ : ByteArray)) = true then (if (sEq x111.1 (⟨#[50]⟩ : ByteArray)) = true then (if (x122.1 == (-7)) = true then (if (sEq x137.1 (⟨#[49]⟩ : ByteArray)) = true then (if (x152.1 == 1) = true then ((g_rat_Check K (⟨#[50, 47, 52]⟩ : ByteArray)).bind fun x226 => (if (x226 == 3) = true then ((g_rat_CheckAll K [(⟨#[48]⟩ : ByteArray), (⟨#[45, 48]⟩ : ByteArray)]).bind fun x244 => some (x244 == 5)) else some false)) else some false) else some false) else some false) else some false) else some false) else some false) else some false) else some false) else some false) else some false) else some false) else some false) else some false) else some false) else some false))) (tu1 fun x289 => some x289))))))))))))))))
set_option maxHeartbeats 4000000 in
theorem g_law_ratFact_ok (K : Nat) {G : GM} {H : AH} {L : List Pc}  (O : Ow G H (L)) (r : Bool) (h : g_law_ratFact K = some r) :
    CR Tryd.prog 31 [] G H (L) (fun v G' _ => v = .bool r) := by
 unfold g_law_ratFact at h
 refine CR.of (calls_of_AW (n := 168) (fn := Tryd.f31) (R := fun v H' => ∃ G', Ow G' H' (L) ∧ G.le G' ∧ v = .bool r) (by kernel_rfl) rfl rfl ?_)
 refine .seq (.region (W.q1 (.bool false) rfl (.nil (.seq (.region ?_)))))
 obtain ⟨x1, i2, h3⟩ := bd_inv h
 refine W.lo rfl rfl (Lo.callP (ps := []) (ps' := []) rfl (fn := Tryd.f36) (by kernel_rfl) rfl (mc rfl (mc rfl mn)) O (fun L' O' => g_rat_Of_ok K 6 (-4) O' _ i2)) ?_
 rintro v10 H11 ⟨G4, O5, s6, sm9, rfl⟩
 replace O5 : Ow G4 H11 (L) := O5
 refine W.q2 (.tuple #[(.string x1.1), (.int .i64 x1.2)]) rfl (W.pure (v := (.string x1.1)) rfl rfl (v_extract (oo rfl rfl) rfl) (W.pure (v := (.int .i64 x1.2)) rfl rfl (v_extract (oo rfl rfl) rfl) (W.q1 (.string x1.1) rfl (W.q1 (.int .i64 x1.2) rfl (.nil (.seq ?_))))))
 refine .region ?_
 obtain ⟨x12, i13, h14⟩ := bd_inv h3
 refine W.lo rfl rfl (Lo.callP (ps := []) (ps' := []) rfl (fn := Tryd.f39) (by kernel_rfl) rfl (mc rfl (mc rfl mn)) O5 (fun L' O' => g_rat_Add_ok K (⟨#[49, 47, 50]⟩ : ByteArray) (⟨#[49, 47, 51]⟩ : ByteArray) O' _ i13)) ?_
 rintro v21 H22 ⟨G15, O16, s17, sm20, rfl⟩
 replace O16 : Ow G15 H22 (L) := O16
 refine W.q2 (.tuple #[(.string x12.1), (.int .i64 x12.2)]) rfl (W.pure (v := (.string x12.1)) rfl rfl (v_extract (oo rfl rfl) rfl) (W.pure (v := (.int .i64 x12.2)) rfl rfl (v_extract (oo rfl rfl) rfl) (W.q1 (.string x12.1) rfl (W.q1 (.int .i64 x12.2) rfl (.nil (.seq ?_))))))
 refine .region ?_
 obtain ⟨x23, i24, h25⟩ := bd_inv h14
 refine W.lo rfl rfl (Lo.callP (ps := []) (ps' := []) rfl (fn := Tryd.f40) (by kernel_rfl) rfl (mc rfl (mc rfl mn)) O16 (fun L' O' => g_rat_Sub_ok K (⟨#[49, 47, 50]⟩ : ByteArray) (⟨#[49, 47, 51]⟩ : ByteArray) O' _ i24)) ?_
 rintro v32 H33 ⟨G26, O27, s28, sm31, rfl⟩
 replace O27 : Ow G26 H33 (L) := O27
 refine W.q2 (.tuple #[(.string x23.1), (.int .i64 x23.2)]) rfl (W.pure (v := (.string x23.1)) rfl rfl (v_extract (oo rfl rfl) rfl) (W.pure (v := (.int .i64 x23.2)) rfl rfl (v_extract (oo rfl rfl) rfl) (W.q1 (.string x23.1) rfl (W.q1 (.int .i64 x23.2) rfl (.nil (.seq ?_))))))
 refine .region ?_
 obtain ⟨x34, i35, h36⟩ := bd_inv h25
 refine W.lo rfl rfl (Lo.callP (ps := []) (ps' := []) rfl (fn := Tryd.f45) (by kernel_rfl) rfl (mc rfl (mc rfl mn)) O27 (fun L' O' => g_rat_Mul_ok K (⟨#[50, 47, 51]⟩ : ByteArray) (⟨#[51, 47, 50]⟩ : ByteArray) O' _ i35)) ?_
 rintro v43 H44 ⟨G37, O38, s39, sm42, rfl⟩
 replace O38 : Ow G37 H44 (L) := O38
 refine W.q2 (.tuple #[(.string x34.1), (.int .i64 x34.2)]) rfl (W.pure (v := (.string x34.1)) rfl rfl (v_extract (oo rfl rfl) rfl) (W.pure (v := (.int .i64 x34.2)) rfl rfl (v_extract (oo rfl rfl) rfl) (W.q1 (.string x34.1) rfl (W.q1 (.int .i64 x34.2) rfl (.nil (.seq ?_))))))
 refine .region ?_
 obtain ⟨x45, i46, h47⟩ := bd_inv h36
 refine W.lo rfl rfl (Lo.callP (ps := []) (ps' := []) rfl (fn := Tryd.f46) (by kernel_rfl) rfl (mc rfl (mc rfl mn)) O38 (fun L' O' => g_rat_Div_ok K (⟨#[49]⟩ : ByteArray) (⟨#[45, 51]⟩ : ByteArray) O' _ i46)) ?_
 rintro v54 H55 ⟨G48, O49, s50, sm53, rfl⟩
 replace O49 : Ow G48 H55 (L) := O49
 refine W.q2 (.tuple #[(.string x45.1), (.int .i64 x45.2)]) rfl (W.pure (v := (.string x45.1)) rfl rfl (v_extract (oo rfl rfl) rfl) (W.pure (v := (.int .i64 x45.2)) rfl rfl (v_extract (oo rfl rfl) rfl) (W.q1 (.string x45.1) rfl (W.q1 (.int .i64 x45.2) rfl (.nil (.seq ?_))))))
 refine .region ?_
 obtain ⟨x56, i57, h58⟩ := bd_inv h47
 refine W.lo rfl rfl (Lo.callP (ps := []) (ps' := []) rfl (fn := Tryd.f41) (by kernel_rfl) rfl (mc rfl mn) O49 (fun L' O' => g_rat_Neg_ok K (⟨#[49, 47, 50]⟩ : ByteArray) O' _ i57)) ?_
 rintro v65 H66 ⟨G59, O60, s61, sm64, rfl⟩
 replace O60 : Ow G59 H66 (L) := O60
 refine W.q2 (.tuple #[(.string x56.1), (.int .i64 x56.2)]) rfl (W.pure (v := (.string x56.1)) rfl rfl (v_extract (oo rfl rfl) rfl) (W.pure (v := (.int .i64 x56.2)) rfl rfl (v_extract (oo rfl rfl) rfl) (W.q1 (.string x56.1) rfl (W.q1 (.int .i64 x56.2) rfl (.nil (.seq ?_))))))
 refine .region ?_
 obtain ⟨x67, i68, h69⟩ := bd_inv h58
 refine W.lo rfl rfl (Lo.callP (ps := []) (ps' := []) rfl (fn := Tryd.f73) (by kernel_rfl) rfl (mc rfl (mc rfl mn)) O60 (fun L' O' => g_rat_Compare_ok K (⟨#[49, 47, 50]⟩ : ByteArray) (⟨#[49, 47, 51]⟩ : ByteArray) O' _ i68)) ?_
 rintro v76 H77 ⟨G70, O71, s72, sm75, rfl⟩
 replace O71 : Ow G70 H77 (L) := O71
 refine W.q2 (.tuple #[(.int .i64 x67.1), (.int .i64 x67.2)]) rfl (W.pure (v := (.int .i64 x67.1)) rfl rfl (v_extract (oo rfl rfl) rfl) (W.pure (v := (.int .i64 x67.2)) rfl rfl (v_extract (oo rfl rfl) rfl) (W.q1 (.int .i64 x67.1) rfl (W.q1 (.int .i64 x67.2) rfl (.nil (.seq ?_))))))
 refine .region ?_
 obtain ⟨x78, i79, h80⟩ := bd_inv h69
 refine W.lo rfl rfl (Lo.callP (ps := []) (ps' := []) rfl (fn := Tryd.f74) (by kernel_rfl) rfl (mc rfl mn) O71 (fun L' O' => g_rat_Sign_ok K (⟨#[45, 49]⟩ : ByteArray) O' _ i79)) ?_
 rintro v87 H88 ⟨G81, O82, s83, sm86, rfl⟩
 replace O82 : Ow G81 H88 (L) := O82
 refine W.q2 (.tuple #[(.int .i64 x78.1), (.int .i64 x78.2)]) rfl (W.pure (v := (.int .i64 x78.1)) rfl rfl (v_extract (oo rfl rfl) rfl) (W.pure (v := (.int .i64 x78.2)) rfl rfl (v_extract (oo rfl rfl) rfl) (W.q1 (.int .i64 x78.1) rfl (W.q1 (.int .i64 x78.2) rfl (.nil (.seq ?_))))))
 refine .region ?_
 obtain ⟨x89, i90, h91⟩ := bd_inv h80
 refine W.lo rfl rfl (Lo.callP (ps := []) (ps' := []) rfl (fn := Tryd.f75) (by kernel_rfl) rfl (mc rfl mn) O82 (fun L' O' => g_rat_Floor_ok K (⟨#[45, 49, 47, 50]⟩ : ByteArray) O' _ i90)) ?_
 rintro v98 H99 ⟨G92, O93, s94, sm97, rfl⟩
 replace O93 : Ow G92 H99 (L) := O93
 refine W.q2 (.tuple #[(.string x89.1), (.int .i64 x89.2)]) rfl (W.pure (v := (.string x89.1)) rfl rfl (v_extract (oo rfl rfl) rfl) (W.pure (v := (.int .i64 x89.2)) rfl rfl (v_extract (oo rfl rfl) rfl) (W.q1 (.string x89.1) rfl (W.q1 (.int .i64 x89.2) rfl (.nil (.seq ?_))))))
 refine .region ?_
 obtain ⟨x100, i101, h102⟩ := bd_inv h91
 refine W.lo rfl rfl (Lo.callP (ps := []) (ps' := []) rfl (fn := Tryd.f76) (by kernel_rfl) rfl (mc rfl mn) O93 (fun L' O' => g_rat_Ceil_ok K (⟨#[49, 47, 50]⟩ : ByteArray) O' _ i101)) ?_
 rintro v109 H110 ⟨G103, O104, s105, sm108, rfl⟩
 replace O104 : Ow G103 H110 (L) := O104
 refine W.q2 (.tuple #[(.string x100.1), (.int .i64 x100.2)]) rfl (W.pure (v := (.string x100.1)) rfl rfl (v_extract (oo rfl rfl) rfl) (W.pure (v := (.int .i64 x100.2)) rfl rfl (v_extract (oo rfl rfl) rfl) (W.q1 (.string x100.1) rfl (W.q1 (.int .i64 x100.2) rfl (.nil (.seq ?_))))))
 refine .region ?_
 obtain ⟨x111, i112, h113⟩ := bd_inv h102
 refine W.lo rfl rfl (Lo.callP (ps := []) (ps' := []) rfl (fn := Tryd.f77) (by kernel_rfl) rfl (mc rfl mn) O104 (fun L' O' => g_rat_Round_ok K (⟨#[53, 47, 50]⟩ : ByteArray) O' _ i112)) ?_
 rintro v120 H121 ⟨G114, O115, s116, sm119, rfl⟩
 replace O115 : Ow G114 H121 (L) := O115
 refine W.q2 (.tuple #[(.string x111.1), (.int .i64 x111.2)]) rfl (W.pure (v := (.string x111.1)) rfl rfl (v_extract (oo rfl rfl) rfl) (W.pure (v := (.int .i64 x111.2)) rfl rfl (v_extract (oo rfl rfl) rfl) (W.q1 (.string x111.1) rfl (W.q1 (.int .i64 x111.2) rfl (.nil (.seq ?_))))))
 refine .region ?_
 obtain ⟨x122, i123, h124⟩ := bd_inv h113
 refine W.lo rfl rfl (Lo.callP (ps := []) (ps' := []) rfl (fn := Tryd.f78) (by kernel_rfl) rfl (mc rfl mn) O115 (fun L' O' => g_rat_Integer_ok K (⟨#[45, 55]⟩ : ByteArray) O' _ i123)) ?_
 rintro v131 H132 ⟨G125, O126, s127, sm130, rfl⟩
 replace O126 : Ow G125 H132 (L) := O126
 refine W.q2 (.tuple #[(.int .i64 x122.1), (.int .i64 x122.2)]) rfl (W.pure (v := (.int .i64 x122.1)) rfl rfl (v_extract (oo rfl rfl) rfl) (W.pure (v := (.int .i64 x122.2)) rfl rfl (v_extract (oo rfl rfl) rfl) (W.q1 (.int .i64 x122.1) rfl (W.q1 (.int .i64 x122.2) rfl (.nil (.seq ?_))))))
 refine .region (W.lo rfl rfl (Lo.buildSlice (r := rS) (vs := [(.string (⟨#[49, 47, 50]⟩ : ByteArray)), (.string (⟨#[49, 47, 51]⟩ : ByteArray)), (.string (⟨#[49, 47, 54]⟩ : ByteArray))]) (xs := [(⟨#[49, 47, 50]⟩ : ByteArray), (⟨#[49, 47, 51]⟩ : ByteArray), (⟨#[49, 47, 54]⟩ : ByteArray)]) el41 ze40 sz40 (by kernel_rfl) rfl (qc rfl (qc rfl (qc rfl qn))) rfl (.cons rfl (.cons rfl (.cons rfl .nil))) O126) ?_)
 rintro v135 H136 ⟨O133, sm134⟩
 obtain ⟨x137, i138, h139⟩ := bd_inv h124
 refine W.lo rfl rfl (Lo.callB (j := 0) rfl rfl (fn := Tryd.f48) (by kernel_rfl) rfl (mc rfl mn) O133 (fun G' L' hG O' hB => g_rat_Sum_ok K v135 [(⟨#[49, 47, 50]⟩ : ByteArray), (⟨#[49, 47, 51]⟩ : ByteArray), (⟨#[49, 47, 54]⟩ : ByteArray)] hB O' _ i138)) ?_
 rintro v146 H147 ⟨G140, O141, s142, sm145, rfl⟩
 replace O141 : Ow G140 H147 (eSl v135 40 rS [(⟨#[49, 47, 50]⟩ : ByteArray), (⟨#[49, 47, 51]⟩ : ByteArray), (⟨#[49, 47, 54]⟩ : ByteArray)] :: L) := O141
 refine W.q2 (.tuple #[(.string x137.1), (.int .i64 x137.2)]) rfl (W.pure (v := (.string x137.1)) rfl rfl (v_extract (oo rfl rfl) rfl) (W.pure (v := (.int .i64 x137.2)) rfl rfl (v_extract (oo rfl rfl) rfl) (W.q1 (.string x137.1) rfl (W.q1 (.int .i64 x137.2) rfl (.nil (.seq ?_))))))
 refine .region (W.lo rfl rfl (Lo.buildSlice (r := rS) (vs := [(.string (⟨#[50]⟩ : ByteArray)), (.string (⟨#[49]⟩ : ByteArray)), (.string (⟨#[49]⟩ : ByteArray))]) (xs := [(⟨#[50]⟩ : ByteArray), (⟨#[49]⟩ : ByteArray), (⟨#[49]⟩ : ByteArray)]) el41 ze40 sz40 (by kernel_rfl) rfl (qc rfl (qc rfl (qc rfl qn))) rfl (.cons rfl (.cons rfl (.cons rfl .nil))) O141) ?_)
 rintro v150 H151 ⟨O148, sm149⟩
 obtain ⟨x152, i153, h154⟩ := bd_inv h139
 refine W.lo rfl rfl (Lo.callB (j := 0) rfl rfl (fn := Tryd.f49) (by kernel_rfl) rfl (mc rfl mn) O148 (fun G' L' hG O' hB => g_rat_Least_ok K v150 [(⟨#[50]⟩ : ByteArray), (⟨#[49]⟩ : ByteArray), (⟨#[49]⟩ : ByteArray)] hB O' _ i153)) ?_
 rintro v161 H162 ⟨G155, O156, s157, sm160, rfl⟩
 replace O156 : Ow G155 H162 (eSl v150 40 rS [(⟨#[50]⟩ : ByteArray), (⟨#[49]⟩ : ByteArray), (⟨#[49]⟩ : ByteArray)] :: eSl v135 40 rS [(⟨#[49, 47, 50]⟩ : ByteArray), (⟨#[49, 47, 51]⟩ : ByteArray), (⟨#[49, 47, 54]⟩ : ByteArray)] :: L) := O156
 refine W.q2 (.tuple #[(.int .i64 x152.1), (.int .i64 x152.2)]) rfl (W.pure (v := (.int .i64 x152.1)) rfl rfl (v_extract (oo rfl rfl) rfl) (W.pure (v := (.int .i64 x152.2)) rfl rfl (v_extract (oo rfl rfl) rfl) (W.q1 (.int .i64 x152.1) rfl (W.q1 (.int .i64 x152.2) rfl (.nil (.seq ?_))))))
 obtain ⟨q163, h164, h165⟩ := bd_inv h154
 refine AW.midT (fun σ' H' => ∃ (y1 : Bool) (G' : GM), y1 = q163 ∧ Ow G' H' (eSl v150 40 rS [(⟨#[50]⟩ : ByteArray), (⟨#[49]⟩ : ByteArray), (⟨#[49]⟩ : ByteArray)] :: eSl v135 40 rS [(⟨#[49, 47, 50]⟩ : ByteArray), (⟨#[49, 47, 51]⟩ : ByteArray), (⟨#[49, 47, 54]⟩ : ByteArray)] :: L) ∧ GM.le G155 G' ∧ σ' 0 = .bool y1) ?_ ?_
 rotate_left
 ·rintro σ290 H291 fr292 ⟨x289, G293, rfl, O294, s295, t297⟩
  have h298 := tu1_inv h165
  refine .ret ?_
  have O299 : Ow G293 H291 (eSl v135 40 rS [(⟨#[49, 47, 50]⟩ : ByteArray), (⟨#[49, 47, 51]⟩ : ByteArray), (⟨#[49, 47, 54]⟩ : ByteArray)] :: L) := O294.drop 0
  have O300 : Ow G293 H291 (L) := O299.drop 0
  obtain rfl := Option.some.inj h298
  refine ret1R (P := Tryd.prog) (fn := Tryd.f31) (n := 168) (R := fun v H' => ∃ G', Ow G' H' (L) ∧ G.le G' ∧ v = .bool x289) (v1 := (.bool x289)) (by rfl) (rr_tmp (by rfl) (by exact t297)) ?_
  exact ⟨_, O300, (GM.le.trans s6 (GM.le.trans s17 (GM.le.trans s28 (GM.le.trans s39 (GM.le.trans s50 (GM.le.trans s61 (GM.le.trans s72 (GM.le.trans s83 (GM.le.trans s94 (GM.le.trans s105 (GM.le.trans s116 (GM.le.trans s127 (GM.le.trans s142 (GM.le.trans s157 s295)))))))))))))), rfl⟩
 refine .region (W.q2 (.int .i64 x1.2) rfl (W.q2 (.int .i64 x12.2) rfl (W.q2 (.int .i64 x23.2) rfl (W.q2 (.int .i64 x34.2) rfl (W.q2 (.int .i64 x45.2) rfl (W.q2 (.int .i64 x56.2) rfl ?_))))))
 refine W.q2 (.int .i64 x67.2) rfl (W.q2 (.int .i64 x78.2) rfl (W.q2 (.int .i64 x89.2) rfl (W.q2 (.int .i64 x100.2) rfl (W.q2 (.int .i64 x111.2) rfl (W.q2 (.int .i64 x122.2) rfl (W.q2 (.int .i64 x137.2) rfl ?_))))))
 refine W.q2 (.int .i64 x152.2) rfl (W.lo rfl rfl (Lo.buildSlice (r := (rI .i64)) (vs := [(.int .i64 x1.2), (.int .i64 x12.2), (.int .i64 x23.2), (.int .i64 x34.2), (.int .i64 x45.2), (.int .i64 x56.2), (.int .i64 x67.2), (.int .i64 x78.2), (.int .i64 x89.2), (.int .i64 x100.2), (.int .i64 x111.2), (.int .i64 x122.2), (.int .i64 x137.2), (.int .i64 x152.2)]) (xs := [x1.2, x12.2, x23.2, x34.2, x45.2, x56.2, x67.2, x78.2, x89.2, x100.2, x111.2, x122.2, x137.2, x152.2]) el70 ze23 sz23 (by kernel_rfl) rfl (qc rfl (qc rfl (qc rfl (qc rfl (qc rfl (qc rfl (qc rfl (qc rfl (qc rfl (qc rfl (qc rfl (qc rfl (qc rfl (qc rfl qn)))))))))))))) rfl (.cons rfl (.cons rfl (.cons rfl (.cons rfl (.cons rfl (.cons rfl (.cons rfl (.cons rfl (.cons rfl (.cons rfl (.cons rfl (.cons rfl (.cons rfl (.cons rfl .nil)))))))))))))) O156) ?_)
 rintro v168 H169 ⟨O166, sm167⟩
 obtain ⟨x170, i171, h172⟩ := bd_inv h164
 refine W.lo rfl rfl (Lo.callB (j := 0) rfl rfl (fn := Tryd.f55) (by kernel_rfl) rfl (mc rfl mn) O166 (fun G' L' hG O' hB => g_law_fine_ok K v168 [x1.2, x12.2, x23.2, x34.2, x45.2, x56.2, x67.2, x78.2, x89.2, x100.2, x111.2, x122.2, x137.2, x152.2] hB O' _ i171)) ?_
 rintro v179 H180 ⟨G173, O174, s175, sm178, rfl⟩
 replace O174 : Ow G173 H180 (eSl v168 23 (rI .i64) [x1.2, x12.2, x23.2, x34.2, x45.2, x56.2, x67.2, x78.2, x89.2, x100.2, x111.2, x122.2, x137.2, x152.2] :: eSl v150 40 rS [(⟨#[50]⟩ : ByteArray), (⟨#[49]⟩ : ByteArray), (⟨#[49]⟩ : ByteArray)] :: eSl v135 40 rS [(⟨#[49, 47, 50]⟩ : ByteArray), (⟨#[49, 47, 51]⟩ : ByteArray), (⟨#[49, 47, 54]⟩ : ByteArray)] :: L) := O174
 refine W.q2 (.bool x170) rfl (W.splitAt (t := 103) (b := x170) rfl (fun g181 gv182 => ?_) (fun g181 gv182 => ?_))
 rotate_left
 ·have h287 := neg_b g181 h172
  refine W.q6 rfl gv182 (W.q6 rfl gv182 (W.q5 (.bool false) gv182 rfl (W.q2 (.bool false) rfl (W.q6 rfl rfl (W.q6 rfl rfl (W.q5 (.bool false) rfl rfl ?_))))))
  refine W.q2 (.bool false) rfl (W.q6 rfl rfl (W.q6 rfl rfl (W.q5 (.bool false) rfl rfl (W.q2 (.bool false) rfl (W.q6 rfl rfl (W.q6 rfl rfl ?_))))))
  refine W.q5 (.bool false) rfl rfl (W.q2 (.bool false) rfl (W.q6 rfl rfl (W.q6 rfl rfl (W.q5 (.bool false) rfl rfl (W.q2 (.bool false) rfl (W.q6 rfl rfl ?_))))))
  refine W.q6 rfl rfl (W.q5 (.bool false) rfl rfl (W.q2 (.bool false) rfl (W.q6 rfl rfl (W.q6 rfl rfl (W.q5 (.bool false) rfl rfl (W.q2 (.bool false) rfl ?_))))))
  refine W.q6 rfl rfl (W.q6 rfl rfl (W.q5 (.bool false) rfl rfl (W.q2 (.bool false) rfl (W.q6 rfl rfl (W.q6 rfl rfl (W.q5 (.bool false) rfl rfl ?_))))))
  refine W.q2 (.bool false) rfl (W.q6 rfl rfl (W.q6 rfl rfl (W.q5 (.bool false) rfl rfl (W.q2 (.bool false) rfl (W.q6 rfl rfl (W.q6 rfl rfl ?_))))))
  refine W.q5 (.bool false) rfl rfl (W.q2 (.bool false) rfl (W.q6 rfl rfl (W.q6 rfl rfl (W.q5 (.bool false) rfl rfl (W.q2 (.bool false) rfl (W.q6 rfl rfl ?_))))))
  refine W.q6 rfl rfl (W.q5 (.bool false) rfl rfl (W.q2 (.bool false) rfl (W.q6 rfl rfl (W.q6 rfl rfl (W.q5 (.bool false) rfl rfl (W.q2 (.bool false) rfl ?_))))))
  refine W.q6 rfl rfl (W.q6 rfl rfl (W.q5 (.bool false) rfl rfl (W.q2 (.bool false) rfl (W.q6 rfl rfl (W.q6 rfl rfl (W.q6 rfl rfl ?_))))))
  refine W.q5 (.bool false) rfl rfl (W.q1 (.bool false) rfl (.nil ?_))
  have O288 : Ow G173 H180 (eSl v150 40 rS [(⟨#[50]⟩ : ByteArray), (⟨#[49]⟩ : ByteArray), (⟨#[49]⟩ : ByteArray)] :: eSl v135 40 rS [(⟨#[49, 47, 50]⟩ : ByteArray), (⟨#[49, 47, 51]⟩ : ByteArray), (⟨#[49, 47, 54]⟩ : ByteArray)] :: L) := O174.drop 0
  obtain rfl := Option.some.inj h287
  exact ⟨false, _, rfl, O288, s175, rfl⟩
 have h183 := pos_inv g181 h172
 refine W.q2 (hg := gk rfl rfl gv182 rfl) (.string x1.1) rfl (W.pure (v := (.bool (sEq x1.1 (⟨#[45, 51, 47, 50]⟩ : ByteArray)))) (gk rfl rfl gv182 rfl) rfl (vs_eql (oo rfl rfl) (oo rfl rfl)) (W.q4 (.bool (sEq x1.1 (⟨#[45, 51, 47, 50]⟩ : ByteArray))) gv182 rfl (W.q2 (.bool (sEq x1.1 (⟨#[45, 51, 47, 50]⟩ : ByteArray))) rfl (W.splitAt (t := 107) (b := sEq x1.1 (⟨#[45, 51, 47, 50]⟩ : ByteArray)) rfl (fun g184 gv185 => ?_) (fun g184 gv185 => ?_)))))
 rotate_left
 ·have h285 := neg_b g184 h183
  refine W.q6 rfl gv185 (W.q6 rfl gv185 (W.q5 (.bool false) gv185 rfl (W.q2 (.bool false) rfl (W.q6 rfl rfl (W.q6 rfl rfl (W.q5 (.bool false) rfl rfl ?_))))))
  refine W.q2 (.bool false) rfl (W.q6 rfl rfl (W.q6 rfl rfl (W.q5 (.bool false) rfl rfl (W.q2 (.bool false) rfl (W.q6 rfl rfl (W.q6 rfl rfl ?_))))))
  refine W.q5 (.bool false) rfl rfl (W.q2 (.bool false) rfl (W.q6 rfl rfl (W.q6 rfl rfl (W.q5 (.bool false) rfl rfl (W.q2 (.bool false) rfl (W.q6 rfl rfl ?_))))))
  refine W.q6 rfl rfl (W.q5 (.bool false) rfl rfl (W.q2 (.bool false) rfl (W.q6 rfl rfl (W.q6 rfl rfl (W.q5 (.bool false) rfl rfl (W.q2 (.bool false) rfl ?_))))))
  refine W.q6 rfl rfl (W.q6 rfl rfl (W.q5 (.bool false) rfl rfl (W.q2 (.bool false) rfl (W.q6 rfl rfl (W.q6 rfl rfl (W.q5 (.bool false) rfl rfl ?_))))))
  refine W.q2 (.bool false) rfl (W.q6 rfl rfl (W.q6 rfl rfl (W.q5 (.bool false) rfl rfl (W.q2 (.bool false) rfl (W.q6 rfl rfl (W.q6 rfl rfl ?_))))))
  refine W.q5 (.bool false) rfl rfl (W.q2 (.bool false) rfl (W.q6 rfl rfl (W.q6 rfl rfl (W.q5 (.bool false) rfl rfl (W.q2 (.bool false) rfl (W.q6 rfl rfl ?_))))))
  refine W.q6 rfl rfl (W.q5 (.bool false) rfl rfl (W.q2 (.bool false) rfl (W.q6 rfl rfl (W.q6 rfl rfl (W.q5 (.bool false) rfl rfl (W.q2 (.bool false) rfl ?_))))))
  refine W.q6 rfl rfl (W.q6 rfl rfl (W.q6 rfl rfl (W.q5 (.bool false) rfl rfl (W.q1 (.bool false) rfl (.nil ?_)))))
  have O286 : Ow G173 H180 (eSl v150 40 rS [(⟨#[50]⟩ : ByteArray), (⟨#[49]⟩ : ByteArray), (⟨#[49]⟩ : ByteArray)] :: eSl v135 40 rS [(⟨#[49, 47, 50]⟩ : ByteArray), (⟨#[49, 47, 51]⟩ : ByteArray), (⟨#[49, 47, 54]⟩ : ByteArray)] :: L) := O174.drop 0
  obtain rfl := Option.some.inj h285
  exact ⟨false, _, rfl, O286, s175, rfl⟩
 have h186 := pos_inv g184 h183
 refine W.q2 (hg := gk rfl rfl gv185 rfl) (.string x12.1) rfl (W.pure (v := (.bool (sEq x12.1 (⟨#[53, 47, 54]⟩ : ByteArray)))) (gk rfl rfl gv185 rfl) rfl (vs_eql (oo rfl rfl) (oo rfl rfl)) (W.q4 (.bool (sEq x12.1 (⟨#[53, 47, 54]⟩ : ByteArray))) gv185 rfl (W.q2 (.bool (sEq x12.1 (⟨#[53, 47, 54]⟩ : ByteArray))) rfl (W.splitAt (t := 111) (b := sEq x12.1 (⟨#[53, 47, 54]⟩ : ByteArray)) rfl (fun g187 gv188 => ?_) (fun g187 gv188 => ?_)))))
 rotate_left
 ·have h283 := neg_b g187 h186
  refine W.q6 rfl gv188 (W.q6 rfl gv188 (W.q5 (.bool false) gv188 rfl (W.q2 (.bool false) rfl (W.q6 rfl rfl (W.q6 rfl rfl (W.q5 (.bool false) rfl rfl ?_))))))
  refine W.q2 (.bool false) rfl (W.q6 rfl rfl (W.q6 rfl rfl (W.q5 (.bool false) rfl rfl (W.q2 (.bool false) rfl (W.q6 rfl rfl (W.q6 rfl rfl ?_))))))
  refine W.q5 (.bool false) rfl rfl (W.q2 (.bool false) rfl (W.q6 rfl rfl (W.q6 rfl rfl (W.q5 (.bool false) rfl rfl (W.q2 (.bool false) rfl (W.q6 rfl rfl ?_))))))
  refine W.q6 rfl rfl (W.q5 (.bool false) rfl rfl (W.q2 (.bool false) rfl (W.q6 rfl rfl (W.q6 rfl rfl (W.q5 (.bool false) rfl rfl (W.q2 (.bool false) rfl ?_))))))
  refine W.q6 rfl rfl (W.q6 rfl rfl (W.q5 (.bool false) rfl rfl (W.q2 (.bool false) rfl (W.q6 rfl rfl (W.q6 rfl rfl (W.q5 (.bool false) rfl rfl ?_))))))
  refine W.q2 (.bool false) rfl (W.q6 rfl rfl (W.q6 rfl rfl (W.q5 (.bool false) rfl rfl (W.q2 (.bool false) rfl (W.q6 rfl rfl (W.q6 rfl rfl ?_))))))
  refine W.q5 (.bool false) rfl rfl (W.q2 (.bool false) rfl (W.q6 rfl rfl (W.q6 rfl rfl (W.q5 (.bool false) rfl rfl (W.q2 (.bool false) rfl (W.q6 rfl rfl ?_))))))
  refine W.q6 rfl rfl (W.q5 (.bool false) rfl rfl (W.q2 (.bool false) rfl (W.q6 rfl rfl (W.q6 rfl rfl (W.q6 rfl rfl (W.q5 (.bool false) rfl rfl ?_))))))
  refine W.q1 (.bool false) rfl (.nil ?_)
  have O284 : Ow G173 H180 (eSl v150 40 rS [(⟨#[50]⟩ : ByteArray), (⟨#[49]⟩ : ByteArray), (⟨#[49]⟩ : ByteArray)] :: eSl v135 40 rS [(⟨#[49, 47, 50]⟩ : ByteArray), (⟨#[49, 47, 51]⟩ : ByteArray), (⟨#[49, 47, 54]⟩ : ByteArray)] :: L) := O174.drop 0
  obtain rfl := Option.some.inj h283
  exact ⟨false, _, rfl, O284, s175, rfl⟩
 have h189 := pos_inv g187 h186
 refine W.q2 (hg := gk rfl rfl gv188 rfl) (.string x23.1) rfl (W.pure (v := (.bool (sEq x23.1 (⟨#[49, 47, 54]⟩ : ByteArray)))) (gk rfl rfl gv188 rfl) rfl (vs_eql (oo rfl rfl) (oo rfl rfl)) (W.q4 (.bool (sEq x23.1 (⟨#[49, 47, 54]⟩ : ByteArray))) gv188 rfl (W.q2 (.bool (sEq x23.1 (⟨#[49, 47, 54]⟩ : ByteArray))) rfl (W.splitAt (t := 115) (b := sEq x23.1 (⟨#[49, 47, 54]⟩ : ByteArray)) rfl (fun g190 gv191 => ?_) (fun g190 gv191 => ?_)))))
 rotate_left
 ·have h281 := neg_b g190 h189
  refine W.q6 rfl gv191 (W.q6 rfl gv191 (W.q5 (.bool false) gv191 rfl (W.q2 (.bool false) rfl (W.q6 rfl rfl (W.q6 rfl rfl (W.q5 (.bool false) rfl rfl ?_))))))
  refine W.q2 (.bool false) rfl (W.q6 rfl rfl (W.q6 rfl rfl (W.q5 (.bool false) rfl rfl (W.q2 (.bool false) rfl (W.q6 rfl rfl (W.q6 rfl rfl ?_))))))
  refine W.q5 (.bool false) rfl rfl (W.q2 (.bool false) rfl (W.q6 rfl rfl (W.q6 rfl rfl (W.q5 (.bool false) rfl rfl (W.q2 (.bool false) rfl (W.q6 rfl rfl ?_))))))
  refine W.q6 rfl rfl (W.q5 (.bool false) rfl rfl (W.q2 (.bool false) rfl (W.q6 rfl rfl (W.q6 rfl rfl (W.q5 (.bool false) rfl rfl (W.q2 (.bool false) rfl ?_))))))
  refine W.q6 rfl rfl (W.q6 rfl rfl (W.q5 (.bool false) rfl rfl (W.q2 (.bool false) rfl (W.q6 rfl rfl (W.q6 rfl rfl (W.q5 (.bool false) rfl rfl ?_))))))
  refine W.q2 (.bool false) rfl (W.q6 rfl rfl (W.q6 rfl rfl (W.q5 (.bool false) rfl rfl (W.q2 (.bool false) rfl (W.q6 rfl rfl (W.q6 rfl rfl ?_))))))
  refine W.q5 (.bool false) rfl rfl (W.q2 (.bool false) rfl (W.q6 rfl rfl (W.q6 rfl rfl (W.q5 (.bool false) rfl rfl (W.q2 (.bool false) rfl (W.q6 rfl rfl ?_))))))
  refine W.q6 rfl rfl (W.q6 rfl rfl (W.q5 (.bool false) rfl rfl (W.q1 (.bool false) rfl (.nil ?_))))
  have O282 : Ow G173 H180 (eSl v150 40 rS [(⟨#[50]⟩ : ByteArray), (⟨#[49]⟩ : ByteArray), (⟨#[49]⟩ : ByteArray)] :: eSl v135 40 rS [(⟨#[49, 47, 50]⟩ : ByteArray), (⟨#[49, 47, 51]⟩ : ByteArray), (⟨#[49, 47, 54]⟩ : ByteArray)] :: L) := O174.drop 0
  obtain rfl := Option.some.inj h281
  exact ⟨false, _, rfl, O282, s175, rfl⟩
 have h192 := pos_inv g190 h189
 refine W.q2 (hg := gk rfl rfl gv191 rfl) (.string x34.1) rfl (W.pure (v := (.bool (sEq x34.1 (⟨#[49]⟩ : ByteArray)))) (gk rfl rfl gv191 rfl) rfl (vs_eql (oo rfl rfl) (oo rfl rfl)) (W.q4 (.bool (sEq x34.1 (⟨#[49]⟩ : ByteArray))) gv191 rfl (W.q2 (.bool (sEq x34.1 (⟨#[49]⟩ : ByteArray))) rfl (W.splitAt (t := 119) (b := sEq x34.1 (⟨#[49]⟩ : ByteArray)) rfl (fun g193 gv194 => ?_) (fun g193 gv194 => ?_)))))
 rotate_left
 ·have h279 := neg_b g193 h192
  refine W.q6 rfl gv194 (W.q6 rfl gv194 (W.q5 (.bool false) gv194 rfl (W.q2 (.bool false) rfl (W.q6 rfl rfl (W.q6 rfl rfl (W.q5 (.bool false) rfl rfl ?_))))))
  refine W.q2 (.bool false) rfl (W.q6 rfl rfl (W.q6 rfl rfl (W.q5 (.bool false) rfl rfl (W.q2 (.bool false) rfl (W.q6 rfl rfl (W.q6 rfl rfl ?_))))))
  refine W.q5 (.bool false) rfl rfl (W.q2 (.bool false) rfl (W.q6 rfl rfl (W.q6 rfl rfl (W.q5 (.bool false) rfl rfl (W.q2 (.bool false) rfl (W.q6 rfl rfl ?_))))))
  refine W.q6 rfl rfl (W.q5 (.bool false) rfl rfl (W.q2 (.bool false) rfl (W.q6 rfl rfl (W.q6 rfl rfl (W.q5 (.bool false) rfl rfl (W.q2 (.bool false) rfl ?_))))))
  refine W.q6 rfl rfl (W.q6 rfl rfl (W.q5 (.bool false) rfl rfl (W.q2 (.bool false) rfl (W.q6 rfl rfl (W.q6 rfl rfl (W.q5 (.bool false) rfl rfl ?_))))))
  refine W.q2 (.bool false) rfl (W.q6 rfl rfl (W.q6 rfl rfl (W.q5 (.bool false) rfl rfl (W.q2 (.bool false) rfl (W.q6 rfl rfl (W.q6 rfl rfl ?_))))))
  refine W.q5 (.bool false) rfl rfl (W.q2 (.bool false) rfl (W.q6 rfl rfl (W.q6 rfl rfl (W.q6 rfl rfl (W.q5 (.bool false) rfl rfl (W.q1 (.bool false) rfl ?_))))))
  refine .nil ?_
  have O280 : Ow G173 H180 (eSl v150 40 rS [(⟨#[50]⟩ : ByteArray), (⟨#[49]⟩ : ByteArray), (⟨#[49]⟩ : ByteArray)] :: eSl v135 40 rS [(⟨#[49, 47, 50]⟩ : ByteArray), (⟨#[49, 47, 51]⟩ : ByteArray), (⟨#[49, 47, 54]⟩ : ByteArray)] :: L) := O174.drop 0
  obtain rfl := Option.some.inj h279
  exact ⟨false, _, rfl, O280, s175, rfl⟩
 have h195 := pos_inv g193 h192
 refine W.q2 (hg := gk rfl rfl gv194 rfl) (.string x45.1) rfl (W.pure (v := (.bool (sEq x45.1 (⟨#[45, 49, 47, 51]⟩ : ByteArray)))) (gk rfl rfl gv194 rfl) rfl (vs_eql (oo rfl rfl) (oo rfl rfl)) (W.q4 (.bool (sEq x45.1 (⟨#[45, 49, 47, 51]⟩ : ByteArray))) gv194 rfl (W.q2 (.bool (sEq x45.1 (⟨#[45, 49, 47, 51]⟩ : ByteArray))) rfl (W.splitAt (t := 123) (b := sEq x45.1 (⟨#[45, 49, 47, 51]⟩ : ByteArray)) rfl (fun g196 gv197 => ?_) (fun g196 gv197 => ?_)))))
 rotate_left
 ·have h277 := neg_b g196 h195
  refine W.q6 rfl gv197 (W.q6 rfl gv197 (W.q5 (.bool false) gv197 rfl (W.q2 (.bool false) rfl (W.q6 rfl rfl (W.q6 rfl rfl (W.q5 (.bool false) rfl rfl ?_))))))
  refine W.q2 (.bool false) rfl (W.q6 rfl rfl (W.q6 rfl rfl (W.q5 (.bool false) rfl rfl (W.q2 (.bool false) rfl (W.q6 rfl rfl (W.q6 rfl rfl ?_))))))
  refine W.q5 (.bool false) rfl rfl (W.q2 (.bool false) rfl (W.q6 rfl rfl (W.q6 rfl rfl (W.q5 (.bool false) rfl rfl (W.q2 (.bool false) rfl (W.q6 rfl rfl ?_))))))
  refine W.q6 rfl rfl (W.q5 (.bool false) rfl rfl (W.q2 (.bool false) rfl (W.q6 rfl rfl (W.q6 rfl rfl (W.q5 (.bool false) rfl rfl (W.q2 (.bool false) rfl ?_))))))
  refine W.q6 rfl rfl (W.q6 rfl rfl (W.q5 (.bool false) rfl rfl (W.q2 (.bool false) rfl (W.q6 rfl rfl (W.q6 rfl rfl (W.q5 (.bool false) rfl rfl ?_))))))
  refine W.q2 (.bool false) rfl (W.q6 rfl rfl (W.q6 rfl rfl (W.q5 (.bool false) rfl rfl (W.q2 (.bool false) rfl (W.q6 rfl rfl (W.q6 rfl rfl ?_))))))
  refine W.q6 rfl rfl (W.q5 (.bool false) rfl rfl (W.q1 (.bool false) rfl (.nil ?_)))
  have O278 : Ow G173 H180 (eSl v150 40 rS [(⟨#[50]⟩ : ByteArray), (⟨#[49]⟩ : ByteArray), (⟨#[49]⟩ : ByteArray)] :: eSl v135 40 rS [(⟨#[49, 47, 50]⟩ : ByteArray), (⟨#[49, 47, 51]⟩ : ByteArray), (⟨#[49, 47, 54]⟩ : ByteArray)] :: L) := O174.drop 0
  obtain rfl := Option.some.inj h277
  exact ⟨false, _, rfl, O278, s175, rfl⟩
 have h198 := pos_inv g196 h195
 refine W.q2 (hg := gk rfl rfl gv197 rfl) (.string x56.1) rfl (W.pure (v := (.bool (sEq x56.1 (⟨#[45, 49, 47, 50]⟩ : ByteArray)))) (gk rfl rfl gv197 rfl) rfl (vs_eql (oo rfl rfl) (oo rfl rfl)) (W.q4 (.bool (sEq x56.1 (⟨#[45, 49, 47, 50]⟩ : ByteArray))) gv197 rfl (W.q2 (.bool (sEq x56.1 (⟨#[45, 49, 47, 50]⟩ : ByteArray))) rfl (W.splitAt (t := 127) (b := sEq x56.1 (⟨#[45, 49, 47, 50]⟩ : ByteArray)) rfl (fun g199 gv200 => ?_) (fun g199 gv200 => ?_)))))
 rotate_left
 ·have h275 := neg_b g199 h198
  refine W.q6 rfl gv200 (W.q6 rfl gv200 (W.q5 (.bool false) gv200 rfl (W.q2 (.bool false) rfl (W.q6 rfl rfl (W.q6 rfl rfl (W.q5 (.bool false) rfl rfl ?_))))))
  refine W.q2 (.bool false) rfl (W.q6 rfl rfl (W.q6 rfl rfl (W.q5 (.bool false) rfl rfl (W.q2 (.bool false) rfl (W.q6 rfl rfl (W.q6 rfl rfl ?_))))))
  refine W.q5 (.bool false) rfl rfl (W.q2 (.bool false) rfl (W.q6 rfl rfl (W.q6 rfl rfl (W.q5 (.bool false) rfl rfl (W.q2 (.bool false) rfl (W.q6 rfl rfl ?_))))))
  refine W.q6 rfl rfl (W.q5 (.bool false) rfl rfl (W.q2 (.bool false) rfl (W.q6 rfl rfl (W.q6 rfl rfl (W.q5 (.bool false) rfl rfl (W.q2 (.bool false) rfl ?_))))))
  refine W.q6 rfl rfl (W.q6 rfl rfl (W.q5 (.bool false) rfl rfl (W.q2 (.bool false) rfl (W.q6 rfl rfl (W.q6 rfl rfl (W.q5 (.bool false) rfl rfl ?_))))))
  refine W.q2 (.bool false) rfl (W.q6 rfl rfl (W.q6 rfl rfl (W.q6 rfl rfl (W.q5 (.bool false) rfl rfl (W.q1 (.bool false) rfl (.nil ?_))))))
  have O276 : Ow G173 H180 (eSl v150 40 rS [(⟨#[50]⟩ : ByteArray), (⟨#[49]⟩ : ByteArray), (⟨#[49]⟩ : ByteArray)] :: eSl v135 40 rS [(⟨#[49, 47, 50]⟩ : ByteArray), (⟨#[49, 47, 51]⟩ : ByteArray), (⟨#[49, 47, 54]⟩ : ByteArray)] :: L) := O174.drop 0
  obtain rfl := Option.some.inj h275
  exact ⟨false, _, rfl, O276, s175, rfl⟩
 have h201 := pos_inv g199 h198
 refine W.q2 (hg := gk rfl rfl gv200 rfl) (.int .i64 x67.1) rfl (W.q3 (hg := gk rfl rfl gv200 rfl) (.bool (x67.1 == 1)) rfl rfl (W.q4 (.bool (x67.1 == 1)) gv200 rfl (W.q2 (.bool (x67.1 == 1)) rfl (W.splitAt (t := 131) (b := (x67.1 == 1)) rfl (fun g202 gv203 => ?_) (fun g202 gv203 => ?_)))))
 rotate_left
 ·have h273 := neg_b g202 h201
  refine W.q6 rfl gv203 (W.q6 rfl gv203 (W.q5 (.bool false) gv203 rfl (W.q2 (.bool false) rfl (W.q6 rfl rfl (W.q6 rfl rfl (W.q5 (.bool false) rfl rfl ?_))))))
  refine W.q2 (.bool false) rfl (W.q6 rfl rfl (W.q6 rfl rfl (W.q5 (.bool false) rfl rfl (W.q2 (.bool false) rfl (W.q6 rfl rfl (W.q6 rfl rfl ?_))))))
  refine W.q5 (.bool false) rfl rfl (W.q2 (.bool false) rfl (W.q6 rfl rfl (W.q6 rfl rfl (W.q5 (.bool false) rfl rfl (W.q2 (.bool false) rfl (W.q6 rfl rfl ?_))))))
  refine W.q6 rfl rfl (W.q5 (.bool false) rfl rfl (W.q2 (.bool false) rfl (W.q6 rfl rfl (W.q6 rfl rfl (W.q5 (.bool false) rfl rfl (W.q2 (.bool false) rfl ?_))))))
  refine W.q6 rfl rfl (W.q6 rfl rfl (W.q5 (.bool false) rfl rfl (W.q2 (.bool false) rfl (W.q6 rfl rfl (W.q6 rfl rfl (W.q6 rfl rfl ?_))))))
  refine W.q5 (.bool false) rfl rfl (W.q1 (.bool false) rfl (.nil ?_))
  have O274 : Ow G173 H180 (eSl v150 40 rS [(⟨#[50]⟩ : ByteArray), (⟨#[49]⟩ : ByteArray), (⟨#[49]⟩ : ByteArray)] :: eSl v135 40 rS [(⟨#[49, 47, 50]⟩ : ByteArray), (⟨#[49, 47, 51]⟩ : ByteArray), (⟨#[49, 47, 54]⟩ : ByteArray)] :: L) := O174.drop 0
  obtain rfl := Option.some.inj h273
  exact ⟨false, _, rfl, O274, s175, rfl⟩
 have h204 := pos_inv g202 h201
 refine W.q2 (hg := gk rfl rfl gv203 rfl) (.int .i64 x78.1) rfl (W.q3 (hg := gk rfl rfl gv203 rfl) (.bool (x78.1 == (-1))) rfl rfl (W.q4 (.bool (x78.1 == (-1))) gv203 rfl (W.q2 (.bool (x78.1 == (-1))) rfl (W.splitAt (t := 135) (b := (x78.1 == (-1))) rfl (fun g205 gv206 => ?_) (fun g205 gv206 => ?_)))))
 rotate_left
 ·have h271 := neg_b g205 h204
  refine W.q6 rfl gv206 (W.q6 rfl gv206 (W.q5 (.bool false) gv206 rfl (W.q2 (.bool false) rfl (W.q6 rfl rfl (W.q6 rfl rfl (W.q5 (.bool false) rfl rfl ?_))))))
  refine W.q2 (.bool false) rfl (W.q6 rfl rfl (W.q6 rfl rfl (W.q5 (.bool false) rfl rfl (W.q2 (.bool false) rfl (W.q6 rfl rfl (W.q6 rfl rfl ?_))))))
  refine W.q5 (.bool false) rfl rfl (W.q2 (.bool false) rfl (W.q6 rfl rfl (W.q6 rfl rfl (W.q5 (.bool false) rfl rfl (W.q2 (.bool false) rfl (W.q6 rfl rfl ?_))))))
  refine W.q6 rfl rfl (W.q5 (.bool false) rfl rfl (W.q2 (.bool false) rfl (W.q6 rfl rfl (W.q6 rfl rfl (W.q5 (.bool false) rfl rfl (W.q2 (.bool false) rfl ?_))))))
  refine W.q6 rfl rfl (W.q6 rfl rfl (W.q6 rfl rfl (W.q5 (.bool false) rfl rfl (W.q1 (.bool false) rfl (.nil ?_)))))
  have O272 : Ow G173 H180 (eSl v150 40 rS [(⟨#[50]⟩ : ByteArray), (⟨#[49]⟩ : ByteArray), (⟨#[49]⟩ : ByteArray)] :: eSl v135 40 rS [(⟨#[49, 47, 50]⟩ : ByteArray), (⟨#[49, 47, 51]⟩ : ByteArray), (⟨#[49, 47, 54]⟩ : ByteArray)] :: L) := O174.drop 0
  obtain rfl := Option.some.inj h271
  exact ⟨false, _, rfl, O272, s175, rfl⟩
 have h207 := pos_inv g205 h204
 refine W.q2 (hg := gk rfl rfl gv206 rfl) (.string x89.1) rfl (W.pure (v := (.bool (sEq x89.1 (⟨#[45, 49]⟩ : ByteArray)))) (gk rfl rfl gv206 rfl) rfl (vs_eql (oo rfl rfl) (oo rfl rfl)) (W.q4 (.bool (sEq x89.1 (⟨#[45, 49]⟩ : ByteArray))) gv206 rfl (W.q2 (.bool (sEq x89.1 (⟨#[45, 49]⟩ : ByteArray))) rfl (W.splitAt (t := 139) (b := sEq x89.1 (⟨#[45, 49]⟩ : ByteArray)) rfl (fun g208 gv209 => ?_) (fun g208 gv209 => ?_)))))
 rotate_left
 ·have h269 := neg_b g208 h207
  refine W.q6 rfl gv209 (W.q6 rfl gv209 (W.q5 (.bool false) gv209 rfl (W.q2 (.bool false) rfl (W.q6 rfl rfl (W.q6 rfl rfl (W.q5 (.bool false) rfl rfl ?_))))))
  refine W.q2 (.bool false) rfl (W.q6 rfl rfl (W.q6 rfl rfl (W.q5 (.bool false) rfl rfl (W.q2 (.bool false) rfl (W.q6 rfl rfl (W.q6 rfl rfl ?_))))))
  refine W.q5 (.bool false) rfl rfl (W.q2 (.bool false) rfl (W.q6 rfl rfl (W.q6 rfl rfl (W.q5 (.bool false) rfl rfl (W.q2 (.bool false) rfl (W.q6 rfl rfl ?_))))))
  refine W.q6 rfl rfl (W.q5 (.bool false) rfl rfl (W.q2 (.bool false) rfl (W.q6 rfl rfl (W.q6 rfl rfl (W.q6 rfl rfl (W.q5 (.bool false) rfl rfl ?_))))))
  refine W.q1 (.bool false) rfl (.nil ?_)
  have O270 : Ow G173 H180 (eSl v150 40 rS [(⟨#[50]⟩ : ByteArray), (⟨#[49]⟩ : ByteArray), (⟨#[49]⟩ : ByteArray)] :: eSl v135 40 rS [(⟨#[49, 47, 50]⟩ : ByteArray), (⟨#[49, 47, 51]⟩ : ByteArray), (⟨#[49, 47, 54]⟩ : ByteArray)] :: L) := O174.drop 0
  obtain rfl := Option.some.inj h269
  exact ⟨false, _, rfl, O270, s175, rfl⟩
 have h210 := pos_inv g208 h207
 refine W.q2 (hg := gk rfl rfl gv209 rfl) (.string x100.1) rfl (W.pure (v := (.bool (sEq x100.1 (⟨#[49]⟩ : ByteArray)))) (gk rfl rfl gv209 rfl) rfl (vs_eql (oo rfl rfl) (oo rfl rfl)) (W.q4 (.bool (sEq x100.1 (⟨#[49]⟩ : ByteArray))) gv209 rfl (W.q2 (.bool (sEq x100.1 (⟨#[49]⟩ : ByteArray))) rfl (W.splitAt (t := 143) (b := sEq x100.1 (⟨#[49]⟩ : ByteArray)) rfl (fun g211 gv212 => ?_) (fun g211 gv212 => ?_)))))
 rotate_left
 ·have h267 := neg_b g211 h210
  refine W.q6 rfl gv212 (W.q6 rfl gv212 (W.q5 (.bool false) gv212 rfl (W.q2 (.bool false) rfl (W.q6 rfl rfl (W.q6 rfl rfl (W.q5 (.bool false) rfl rfl ?_))))))
  refine W.q2 (.bool false) rfl (W.q6 rfl rfl (W.q6 rfl rfl (W.q5 (.bool false) rfl rfl (W.q2 (.bool false) rfl (W.q6 rfl rfl (W.q6 rfl rfl ?_))))))
  refine W.q5 (.bool false) rfl rfl (W.q2 (.bool false) rfl (W.q6 rfl rfl (W.q6 rfl rfl (W.q5 (.bool false) rfl rfl (W.q2 (.bool false) rfl (W.q6 rfl rfl ?_))))))
  refine W.q6 rfl rfl (W.q6 rfl rfl (W.q5 (.bool false) rfl rfl (W.q1 (.bool false) rfl (.nil ?_))))
  have O268 : Ow G173 H180 (eSl v150 40 rS [(⟨#[50]⟩ : ByteArray), (⟨#[49]⟩ : ByteArray), (⟨#[49]⟩ : ByteArray)] :: eSl v135 40 rS [(⟨#[49, 47, 50]⟩ : ByteArray), (⟨#[49, 47, 51]⟩ : ByteArray), (⟨#[49, 47, 54]⟩ : ByteArray)] :: L) := O174.drop 0
  obtain rfl := Option.some.inj h267
  exact ⟨false, _, rfl, O268, s175, rfl⟩
 have h213 := pos_inv g211 h210
 refine W.q2 (hg := gk rfl rfl gv212 rfl) (.string x111.1) rfl (W.pure (v := (.bool (sEq x111.1 (⟨#[50]⟩ : ByteArray)))) (gk rfl rfl gv212 rfl) rfl (vs_eql (oo rfl rfl) (oo rfl rfl)) (W.q4 (.bool (sEq x111.1 (⟨#[50]⟩ : ByteArray))) gv212 rfl (W.q2 (.bool (sEq x111.1 (⟨#[50]⟩ : ByteArray))) rfl (W.splitAt (t := 147) (b := sEq x111.1 (⟨#[50]⟩ : ByteArray)) rfl (fun g214 gv215 => ?_) (fun g214 gv215 => ?_)))))
 rotate_left
 ·have h265 := neg_b g214 h213
  refine W.q6 rfl gv215 (W.q6 rfl gv215 (W.q5 (.bool false) gv215 rfl (W.q2 (.bool false) rfl (W.q6 rfl rfl (W.q6 rfl rfl (W.q5 (.bool false) rfl rfl ?_))))))
  refine W.q2 (.bool false) rfl (W.q6 rfl rfl (W.q6 rfl rfl (W.q5 (.bool false) rfl rfl (W.q2 (.bool false) rfl (W.q6 rfl rfl (W.q6 rfl rfl ?_))))))
  refine W.q5 (.bool false) rfl rfl (W.q2 (.bool false) rfl (W.q6 rfl rfl (W.q6 rfl rfl (W.q6 rfl rfl (W.q5 (.bool false) rfl rfl (W.q1 (.bool false) rfl ?_))))))
  refine .nil ?_
  have O266 : Ow G173 H180 (eSl v150 40 rS [(⟨#[50]⟩ : ByteArray), (⟨#[49]⟩ : ByteArray), (⟨#[49]⟩ : ByteArray)] :: eSl v135 40 rS [(⟨#[49, 47, 50]⟩ : ByteArray), (⟨#[49, 47, 51]⟩ : ByteArray), (⟨#[49, 47, 54]⟩ : ByteArray)] :: L) := O174.drop 0
  obtain rfl := Option.some.inj h265
  exact ⟨false, _, rfl, O266, s175, rfl⟩
 have h216 := pos_inv g214 h213
 refine W.q2 (hg := gk rfl rfl gv215 rfl) (.int .i64 x122.1) rfl (W.q3 (hg := gk rfl rfl gv215 rfl) (.bool (x122.1 == (-7))) rfl rfl (W.q4 (.bool (x122.1 == (-7))) gv215 rfl (W.q2 (.bool (x122.1 == (-7))) rfl (W.splitAt (t := 151) (b := (x122.1 == (-7))) rfl (fun g217 gv218 => ?_) (fun g217 gv218 => ?_)))))
 rotate_left
 ·have h263 := neg_b g217 h216
  refine W.q6 rfl gv218 (W.q6 rfl gv218 (W.q5 (.bool false) gv218 rfl (W.q2 (.bool false) rfl (W.q6 rfl rfl (W.q6 rfl rfl (W.q5 (.bool false) rfl rfl ?_))))))
  refine W.q2 (.bool false) rfl (W.q6 rfl rfl (W.q6 rfl rfl (W.q5 (.bool false) rfl rfl (W.q2 (.bool false) rfl (W.q6 rfl rfl (W.q6 rfl rfl ?_))))))
  refine W.q6 rfl rfl (W.q5 (.bool false) rfl rfl (W.q1 (.bool false) rfl (.nil ?_)))
  have O264 : Ow G173 H180 (eSl v150 40 rS [(⟨#[50]⟩ : ByteArray), (⟨#[49]⟩ : ByteArray), (⟨#[49]⟩ : ByteArray)] :: eSl v135 40 rS [(⟨#[49, 47, 50]⟩ : ByteArray), (⟨#[49, 47, 51]⟩ : ByteArray), (⟨#[49, 47, 54]⟩ : ByteArray)] :: L) := O174.drop 0
  obtain rfl := Option.some.inj h263
  exact ⟨false, _, rfl, O264, s175, rfl⟩
 have h219 := pos_inv g217 h216
 refine W.q2 (hg := gk rfl rfl gv218 rfl) (.string x137.1) rfl (W.pure (v := (.bool (sEq x137.1 (⟨#[49]⟩ : ByteArray)))) (gk rfl rfl gv218 rfl) rfl (vs_eql (oo rfl rfl) (oo rfl rfl)) (W.q4 (.bool (sEq x137.1 (⟨#[49]⟩ : ByteArray))) gv218 rfl (W.q2 (.bool (sEq x137.1 (⟨#[49]⟩ : ByteArray))) rfl (W.splitAt (t := 155) (b := sEq x137.1 (⟨#[49]⟩ : ByteArray)) rfl (fun g220 gv221 => ?_) (fun g220 gv221 => ?_)))))
 rotate_left
 ·have h261 := neg_b g220 h219
  refine W.q6 rfl gv221 (W.q6 rfl gv221 (W.q5 (.bool false) gv221 rfl (W.q2 (.bool false) rfl (W.q6 rfl rfl (W.q6 rfl rfl (W.q5 (.bool false) rfl rfl ?_))))))
  refine W.q2 (.bool false) rfl (W.q6 rfl rfl (W.q6 rfl rfl (W.q6 rfl rfl (W.q5 (.bool false) rfl rfl (W.q1 (.bool false) rfl (.nil ?_))))))
  have O262 : Ow G173 H180 (eSl v150 40 rS [(⟨#[50]⟩ : ByteArray), (⟨#[49]⟩ : ByteArray), (⟨#[49]⟩ : ByteArray)] :: eSl v135 40 rS [(⟨#[49, 47, 50]⟩ : ByteArray), (⟨#[49, 47, 51]⟩ : ByteArray), (⟨#[49, 47, 54]⟩ : ByteArray)] :: L) := O174.drop 0
  obtain rfl := Option.some.inj h261
  exact ⟨false, _, rfl, O262, s175, rfl⟩
 have h222 := pos_inv g220 h219
 refine W.q2 (hg := gk rfl rfl gv221 rfl) (.int .i64 x152.1) rfl (W.q3 (hg := gk rfl rfl gv221 rfl) (.bool (x152.1 == 1)) rfl rfl (W.q4 (.bool (x152.1 == 1)) gv221 rfl (W.q2 (.bool (x152.1 == 1)) rfl (W.splitAt (t := 159) (b := (x152.1 == 1)) rfl (fun g223 gv224 => ?_) (fun g223 gv224 => ?_)))))
 rotate_left
 ·have h259 := neg_b g223 h222
  refine W.q6 rfl gv224 (W.q6 rfl gv224 (W.q5 (.bool false) gv224 rfl (W.q2 (.bool false) rfl (W.q6 rfl rfl (W.q6 rfl rfl (W.q6 rfl rfl ?_))))))
  refine W.q5 (.bool false) rfl rfl (W.q1 (.bool false) rfl (.nil ?_))
  have O260 : Ow G173 H180 (eSl v150 40 rS [(⟨#[50]⟩ : ByteArray), (⟨#[49]⟩ : ByteArray), (⟨#[49]⟩ : ByteArray)] :: eSl v135 40 rS [(⟨#[49, 47, 50]⟩ : ByteArray), (⟨#[49, 47, 51]⟩ : ByteArray), (⟨#[49, 47, 54]⟩ : ByteArray)] :: L) := O174.drop 0
  obtain rfl := Option.some.inj h259
  exact ⟨false, _, rfl, O260, s175, rfl⟩
 have h225 := pos_inv g223 h222
 obtain ⟨x226, i227, h228⟩ := bd_inv h225
 refine W.lo (gk rfl rfl gv224 rfl) rfl (Lo.callP (ps := []) (ps' := []) rfl (fn := Tryd.f32) (by kernel_rfl) rfl (mc rfl mn) O174 (fun L' O' => g_rat_Check_ok K (⟨#[50, 47, 52]⟩ : ByteArray) O' _ i227)) ?_
 rintro v235 H236 ⟨G229, O230, s231, sm234, rfl⟩
 replace O230 : Ow G229 H236 (eSl v168 23 (rI .i64) [x1.2, x12.2, x23.2, x34.2, x45.2, x56.2, x67.2, x78.2, x89.2, x100.2, x111.2, x122.2, x137.2, x152.2] :: eSl v150 40 rS [(⟨#[50]⟩ : ByteArray), (⟨#[49]⟩ : ByteArray), (⟨#[49]⟩ : ByteArray)] :: eSl v135 40 rS [(⟨#[49, 47, 50]⟩ : ByteArray), (⟨#[49, 47, 51]⟩ : ByteArray), (⟨#[49, 47, 54]⟩ : ByteArray)] :: L) := O230
 refine W.q3 (hg := gk rfl rfl gv224 rfl) (.bool (x226 == 3)) rfl rfl (W.q4 (.bool (x226 == 3)) gv224 rfl (W.q2 (.bool (x226 == 3)) rfl (W.splitAt (t := 163) (b := (x226 == 3)) rfl (fun g237 gv238 => ?_) (fun g237 gv238 => ?_))))
 rotate_left
 ·have h257 := neg_b g237 h228
  refine W.q6 rfl gv238 (W.q6 rfl gv238 (W.q6 rfl gv238 (W.q5 (.bool false) gv238 rfl (W.q1 (.bool false) rfl (.nil ?_)))))
  have O258 : Ow G229 H236 (eSl v150 40 rS [(⟨#[50]⟩ : ByteArray), (⟨#[49]⟩ : ByteArray), (⟨#[49]⟩ : ByteArray)] :: eSl v135 40 rS [(⟨#[49, 47, 50]⟩ : ByteArray), (⟨#[49, 47, 51]⟩ : ByteArray), (⟨#[49, 47, 54]⟩ : ByteArray)] :: L) := O230.drop 0
  obtain rfl := Option.some.inj h257
  exact ⟨false, _, rfl, O258, (GM.le.trans s175 s231), rfl⟩
 have h239 := pos_inv g237 h228
 refine W.lo (gk rfl rfl gv238 rfl) rfl (Lo.buildSlice (r := rS) (vs := [(.string (⟨#[48]⟩ : ByteArray)), (.string (⟨#[45, 48]⟩ : ByteArray))]) (xs := [(⟨#[48]⟩ : ByteArray), (⟨#[45, 48]⟩ : ByteArray)]) el41 ze40 sz40 (by kernel_rfl) rfl (qc rfl (qc rfl qn)) rfl (.cons rfl (.cons rfl .nil)) O230) ?_
 rintro v242 H243 ⟨O240, sm241⟩
 obtain ⟨x244, i245, h246⟩ := bd_inv h239
 refine W.lo (gk rfl rfl gv238 rfl) rfl (Lo.callB (j := 0) rfl rfl (fn := Tryd.f34) (by kernel_rfl) rfl (mc rfl mn) O240 (fun G' L' hG O' hB => g_rat_CheckAll_ok K v242 [(⟨#[48]⟩ : ByteArray), (⟨#[45, 48]⟩ : ByteArray)] hB O' _ i245)) ?_
 rintro v253 H254 ⟨G247, O248, s249, sm252, rfl⟩
 replace O248 : Ow G247 H254 (eSl v242 40 rS [(⟨#[48]⟩ : ByteArray), (⟨#[45, 48]⟩ : ByteArray)] :: eSl v168 23 (rI .i64) [x1.2, x12.2, x23.2, x34.2, x45.2, x56.2, x67.2, x78.2, x89.2, x100.2, x111.2, x122.2, x137.2, x152.2] :: eSl v150 40 rS [(⟨#[50]⟩ : ByteArray), (⟨#[49]⟩ : ByteArray), (⟨#[49]⟩ : ByteArray)] :: eSl v135 40 rS [(⟨#[49, 47, 50]⟩ : ByteArray), (⟨#[49, 47, 51]⟩ : ByteArray), (⟨#[49, 47, 54]⟩ : ByteArray)] :: L) := O248
 refine W.q3 (hg := gk rfl rfl gv238 rfl) (.bool (x244 == 5)) rfl rfl (W.q4 (.bool (x244 == 5)) gv238 rfl (W.q1 (.bool (x244 == 5)) rfl (.nil ?_)))
 have O255 : Ow G247 H254 (eSl v168 23 (rI .i64) [x1.2, x12.2, x23.2, x34.2, x45.2, x56.2, x67.2, x78.2, x89.2, x100.2, x111.2, x122.2, x137.2, x152.2] :: eSl v150 40 rS [(⟨#[50]⟩ : ByteArray), (⟨#[49]⟩ : ByteArray), (⟨#[49]⟩ : ByteArray)] :: eSl v135 40 rS [(⟨#[49, 47, 50]⟩ : ByteArray), (⟨#[49, 47, 51]⟩ : ByteArray), (⟨#[49, 47, 54]⟩ : ByteArray)] :: L) := O248.drop 0
 have O256 : Ow G247 H254 (eSl v150 40 rS [(⟨#[50]⟩ : ByteArray), (⟨#[49]⟩ : ByteArray), (⟨#[49]⟩ : ByteArray)] :: eSl v135 40 rS [(⟨#[49, 47, 50]⟩ : ByteArray), (⟨#[49, 47, 51]⟩ : ByteArray), (⟨#[49, 47, 54]⟩ : ByteArray)] :: L) := O255.drop 0
 obtain rfl := Option.some.inj h246
 exact ⟨(x244 == 5), _, rfl, O256, (GM.le.trans s175 (GM.le.trans s231 s249)), rfl⟩
def g_R_RatError_l0 (K : Nat) (x30 : ByteArray) : Nat → Int → ByteArray → ByteArray → Int → Option (Int × ByteArray × ByteArray)
  | 0, _, _, _, _ => none
  | k + 1, x46, x47, x48, x49 => (if (decide (x49 < (x30.size : Int))) = true then (Option.bind ((Option.bind (((bidx x30 x49).bind fun x69 => (if (x69 == 47) = true then some (x46 == 1) else some false))) (tu1 fun x76 => (if x76 = true then ((ssl x30 0 x49).bind fun x93 => ((ssl x30 (kwrap .i64 (x49 + 1)) (x30.size : Int)).bind fun x96 => some (2, x93, x96))) else some (x46, x47, x48))))) (tu3 fun x100 x101 x102 => g_R_RatError_l0 K x30 k x100 x101 x102 (kwrap .i64 (x49 + 1)))) else some (x46, x47, x48))
def g_R_RatError (K : Nat) (p0 : ByteArray) : Option Int := (Option.bind ((if (decide ((p0.size : Int) > 0)) = true then ((bidx p0 0).bind fun x7 => some (x7 == 45)) else some false)) (tu1 fun x11 => (Option.bind ((if x11 = true then ((ssl p0 1 (p0.size : Int)).bind fun x26 => some (x26, true)) else some (p0, false))) (tu2 fun x30 x31 => (Option.bind (g_R_RatError_l0 K x30 K 1 x30 (⟨#[50]⟩ : ByteArray) 0) (tu3 fun x115 x116 x117 => ((g_R_NatError K x116).bind fun x129 => ((g_R_NatError K x117).bind fun x140 => (Option.bind ((if (x129 == 5) = true then some true else (if (x140 == 5) = true then some true else (if x31 = true then some (sEq x116 (⟨#[48]⟩ : ByteArray)) else some false)))) (tu1 fun x166 => (if x166 = true then some 5 else (Option.bind ((if (x129 != 0) = true then some true else some (x140 != 0))) (tu1 fun x186 => (if x186 = true then some 2 else (Option.bind ((if (x115 == 2) = true then (if (sEq x117 (⟨#[48]⟩ : ByteArray)) = true then some true else (if (sEq x117 (⟨#[49]⟩ : ByteArray)) = true then some true else ((g_R_NatGcd K x116 x117).bind fun x213 => some (!(sEq x213 (⟨#[49]⟩ : ByteArray)))))) else some false)) (tu1 fun x225 => (if x225 = true then some 3 else some 0)))))))))))))))))
set_option maxHeartbeats 4000000 in
theorem g_R_RatError_ok (K : Nat) {G : GM} {H : AH} {L : List Pc} (p0 : ByteArray) (O : Ow G H (L)) (r : Int) (h : g_R_RatError K p0 = some r) :
    CR Tryd.prog 33 [(.string p0)] G H (L) (fun v G' _ => v = .int .i64 r) := by
 unfold g_R_RatError at h
 refine CR.of (calls_of_AW (n := 86) (fn := Tryd.f33) (R := fun v H' => ∃ G', Ow G' H' (L) ∧ G.le G' ∧ v = .int .i64 r) (by kernel_rfl) rfl rfl ?_)
 refine .seq (.region (W.q1 (.int .i64 0) rfl (.nil (.seq (.region (W.q2 (.string p0) rfl ?_))))))
 refine W.q1 (.string p0) rfl (W.q1 (.bool false) rfl (W.q1 (.int .i64 1) rfl (.nil (.seq (.seq ?_)))))
 obtain ⟨q1, h2, h3⟩ := bd_inv h
 refine AW.midT (fun σ' H' => ∃ (y1 : Bool) (G' : GM), y1 = q1 ∧ Ow G' H' (L) ∧ GM.le G G' ∧ σ' 19 = .bool y1) ?_ ?_
 ·refine .region (W.q2 (.string p0) rfl (W.pure (v := (.int .i64 (p0.size : Int))) rfl rfl (len_str (oo rfl rfl) un9) (W.q3 (.bool (decide ((p0.size : Int) > 0))) rfl rfl (W.q2 (.bool (decide ((p0.size : Int) > 0))) rfl (W.splitAt (t := 15) (b := decide ((p0.size : Int) > 0)) rfl (fun g4 gv5 => ?_) (fun g4 gv5 => ?_))))))
  rotate_left
  ·have h10 := neg_b g4 h2
   refine W.q6 rfl gv5 (W.q6 rfl gv5 (W.q6 rfl gv5 (W.q5 (.bool false) gv5 rfl (.nil ?_))))
   obtain rfl := Option.some.inj h10
   exact ⟨false, _, rfl, O, (GM.le.refl _), rfl⟩
  have h6 := pos_inv g4 h2
  refine W.q2 (hg := gk rfl rfl gv5 rfl) (.string p0) rfl ?_
  obtain ⟨x7, i8, h9⟩ := bd_inv h6
  refine W.pure (v := (.int .u8 x7)) (gk rfl rfl gv5 rfl) rfl (v_sidx un9 (oo rfl rfl) (oo rfl rfl) i8) (W.q3 (hg := gk rfl rfl gv5 rfl) (.bool (x7 == 45)) rfl rfl (W.q4 (.bool (x7 == 45)) gv5 rfl (.nil ?_)))
  obtain rfl := Option.some.inj h9
  exact ⟨(x7 == 45), _, rfl, O, (GM.le.refl _), rfl⟩
 rintro σ12 H13 fr14 ⟨x11, G15, rfl, O16, s17, t19⟩
 have h20 := tu1_inv h3
 obtain ⟨q21, h22, h23⟩ := bd_inv h20
 refine AW.midT (fun σ' H' => ∃ (y1 : ByteArray) (y2 : Bool) (G' : GM), (y1, y2) = q21 ∧ Ow G' H' (L) ∧ GM.le G15 G' ∧ σ' 3 = .string y1 ∧ σ' 4 = .bool y2) ?_ ?_
 ·refine .cond (b := x11) rfl t19 (fun g24 => ?_) (fun g24 => ?_)
  rotate_left
  ·have h29 := neg_b g24 h22
   refine .skip ?_
   obtain rfl := Option.some.inj h29
   exact ⟨p0, false, _, rfl, O16, (GM.le.refl _), ((fr14 3 rfl).trans rfl), ((fr14 4 rfl).trans rfl)⟩
  have h25 := pos_inv g24 h22
  refine .region (W.q2 (.string p0) ((fr14 3 rfl).trans rfl) ?_)
  obtain ⟨x26, i27, h28⟩ := bd_inv h25
  refine W.pure (v := (.string x26)) rfl rfl (v_sslL un9 (oo rfl rfl) (oo rfl rfl) i27) (W.q1 (.string x26) rfl (W.q1 (.bool true) rfl (.nil ?_)))
  obtain rfl := Option.some.inj h28
  exact ⟨x26, true, _, rfl, O16, (GM.le.refl _), rfl, rfl⟩
 rintro σ32 H33 fr34 ⟨x30, x31, G35, rfl, O36, s37, t39, t40⟩
 have h41 := tu2_inv h23
 refine .seq (.region (W.q2 (.string x30) t39 (W.q1 (.string x30) rfl (W.q1 (.string (⟨#[50]⟩ : ByteArray)) rfl (.nil (.seq ?_))))))
 refine .seq (.region (W.q2 (.string x30) t39 (W.pure (v := (.int .i64 (x30.size : Int))) rfl rfl (len_str (oo rfl rfl) un9) (W.q2 (.int .i64 0) rfl (.nil ?_)))))
 obtain ⟨q42, h43, h44⟩ := bd_inv h41
 refine AW.midT (fun σ' H' => ∃ (y1 : Int) (y2 : ByteArray) (y3 : ByteArray) (G' : GM), (y1, y2, y3) = q42 ∧ Ow G' H' (L) ∧ GM.le G35 G' ∧ σ' 5 = .int .i64 y1 ∧ σ' 6 = .string y2 ∧ σ' 7 = .string y3) ?_ ?_
 ·refine .block (AW.loop (α := Nat) (fun k' σ' H' => ∃ (y1 : Int) (y2 : ByteArray) (y3 : ByteArray) (y4 : Int) (G' : GM), g_R_RatError_l0 K x30 k' y1 y2 y3 y4 = some q42 ∧ Ow G' H' (L) ∧ GM.le G35 G' ∧ σ' 5 = .int .i64 y1 ∧ σ' 6 = .string y2 ∧ σ' 7 = .string y3 ∧ σ' 25 = .int .i64 y4) (fun k' => k') K ⟨1, x30, (⟨#[50]⟩ : ByteArray), 0, _, h43, O36, (GM.le.refl _), ((fr34 5 rfl).trans ((fr14 5 rfl).trans rfl)), rfl, rfl, rfl⟩ ?_)
  rintro k45
  rintro σ50 H51 fr52 ⟨x46, x47, x48, x49, G53, h56, O54, s55, t57, t58, t59, t60⟩
  rcases k45 with _ | k45
  ·exact none_absurd h56
  rw [g_R_RatError_l0] at h56
  refine .seq (.region (W.q3 (.bool (decide (x49 < (x30.size : Int)))) t60 ((fr52 24 rfl).trans rfl) (.nil (.seq (.cond (b := decide (x49 < (x30.size : Int))) rfl rfl (fun g61 => ?_) (fun g61 => ?_))))))
  rotate_left
  ·have h114 := neg_b g61 h56
   refine .exit ?_
   obtain rfl := Option.some.inj h114
   exact ⟨x46, x47, x48, _, rfl, O54, s55, t57, t58, t59⟩
  have h62 := pos_inv g61 h56
  refine .skip (.seq ?_)
  obtain ⟨q63, h64, h65⟩ := bd_inv h62
  refine AW.midT (fun σ' H' => ∃ (y1 : Int) (y2 : ByteArray) (y3 : ByteArray) (G' : GM), (y1, y2, y3) = q63 ∧ Ow G' H' (L) ∧ GM.le G53 G' ∧ σ' 5 = .int .i64 y1 ∧ σ' 6 = .string y2 ∧ σ' 7 = .string y3) ?_ ?_
  rotate_left
  ·rintro σ103 H104 fr105 ⟨x100, x101, x102, G106, rfl, O107, s108, t110, t111, t112⟩
   have h113 := tu3_inv h65
   refine .region (W.q3 (.int .i64 (kwrap .i64 (x49 + 1))) ((fr105 25 rfl).trans t60) rfl (W.q2 (.int .i64 (kwrap .i64 (x49 + 1))) rfl (.nil ?_)))
   exact ⟨k45, Nat.lt_succ_self _, ⟨x100, x101, x102, kwrap .i64 (x49 + 1), _, h113, O107, (GM.le.trans s55 s108), t110, t111, t112, rfl⟩⟩
  refine .block (.seq (.region (W.q2 (.int .i64 x49) t60 (W.q1 (.int .i64 x49) rfl (.nil (.seq ?_))))))
  obtain ⟨q66, h67, h68⟩ := bd_inv h64
  refine AW.midT (fun σ' H' => ∃ (y1 : Bool) (G' : GM), y1 = q66 ∧ Ow G' H' (L) ∧ GM.le G53 G' ∧ σ' 35 = .bool y1) ?_ ?_
  ·refine .region (W.q2 (.string x30) ((fr52 3 rfl).trans t39) (W.q2 (.int .i64 x49) rfl ?_))
   obtain ⟨x69, i70, h71⟩ := bd_inv h67
   refine W.pure (v := (.int .u8 x69)) rfl rfl (v_sidx un9 (oo rfl rfl) (oo rfl rfl) i70) (W.q3 (.bool (x69 == 47)) rfl rfl (W.q2 (.bool (x69 == 47)) rfl (W.splitAt (t := 32) (b := (x69 == 47)) rfl (fun g72 gv73 => ?_) (fun g72 gv73 => ?_))))
   rotate_left
   ·have h75 := neg_b g72 h71
    refine W.q6 rfl gv73 (W.q6 rfl gv73 (W.q5 (.bool false) gv73 rfl (.nil ?_)))
    obtain rfl := Option.some.inj h75
    exact ⟨false, _, rfl, O54, (GM.le.refl _), rfl⟩
   have h74 := pos_inv g72 h71
   refine W.q2 (hg := gk rfl rfl gv73 rfl) (.int .i64 x46) t57 (W.q3 (hg := gk rfl rfl gv73 rfl) (.bool (x46 == 1)) rfl rfl (W.q4 (.bool (x46 == 1)) gv73 rfl (.nil ?_)))
   obtain rfl := Option.some.inj h74
   exact ⟨(x46 == 1), _, rfl, O54, (GM.le.refl _), rfl⟩
  rintro σ77 H78 fr79 ⟨x76, G80, rfl, O81, s82, t84⟩
  have h85 := tu1_inv h68
  refine .cond (b := x76) rfl t84 (fun g86 => ?_) (fun g86 => ?_)
  rotate_left
  ·have h99 := neg_b g86 h85
   refine .skip ?_
   obtain rfl := Option.some.inj h99
   exact ⟨x46, x47, x48, _, rfl, O81, s82, ((fr79 5 rfl).trans t57), ((fr79 6 rfl).trans t58), ((fr79 7 rfl).trans t59)⟩
  have h87 := pos_inv g86 h85
  refine .draw2 (M := [0, 0, 3, 0, 0, 16, 56, 7, 255, 511]) mixed (by kernel_rfl) (by kernel_rfl) fun H88 N92 x89 F91 => ?_
  have O90 := O81.ext x89
  refine D2.q2 (.string x30) ((fr79 3 rfl).trans ((fr52 3 rfl).trans t39)) (D2.q2 (.int .i64 x49) ((fr79 8 rfl).trans rfl) ?_)
  obtain ⟨x93, i94, h95⟩ := bd_inv h87
  refine D2.pure (v := (.string x93)) rfl rfl (v_sslH un9 (oo rfl rfl) (oo rfl rfl) i94) (D2.q2 (.string x30) ((fr79 3 rfl).trans ((fr52 3 rfl).trans t39)) (D2.q2 (.int .i64 x49) ((fr79 8 rfl).trans rfl) (D2.q3 (.int .i64 (kwrap .i64 (x49 + 1))) rfl rfl ?_)))
  obtain ⟨x96, i97, h98⟩ := bd_inv h95
  refine D2.pure (v := (.string x96)) rfl rfl (v_sslL un9 (oo rfl rfl) (oo rfl rfl) i97) (D2.q1 (.string x93) rfl (D2.q1 (.string x96) rfl (D2.q1 (.int .i64 2) rfl (.nil ?_))))
  obtain rfl := Option.some.inj h98
  exact ⟨2, x93, x96, _, rfl, O90, s82, rfl, rfl, rfl⟩
 rintro σ118 H119 fr120 ⟨x115, x116, x117, G121, rfl, O122, s123, t125, t126, t127⟩
 have h128 := tu3_inv h44
 refine .seq (.region (W.q2 (.string x116) t126 ?_))
 obtain ⟨x129, i130, h131⟩ := bd_inv h128
 refine W.lo rfl rfl (Lo.callP (ps := []) (ps' := []) rfl (fn := Tryd.f15) (by kernel_rfl) rfl (mc rfl mn) O122 (fun L' O' => g_R_NatError_ok K x116 O' _ i130)) ?_
 rintro v138 H139 ⟨G132, O133, s134, sm137, rfl⟩
 replace O133 : Ow G132 H139 (L) := O133
 refine W.q2 (.string x117) t127 ?_
 obtain ⟨x140, i141, h142⟩ := bd_inv h131
 refine W.lo rfl rfl (Lo.callP (ps := []) (ps' := []) rfl (fn := Tryd.f15) (by kernel_rfl) rfl (mc rfl mn) O133 (fun L' O' => g_R_NatError_ok K x117 O' _ i141)) ?_
 rintro v149 H150 ⟨G143, O144, s145, sm148, rfl⟩
 replace O144 : Ow G143 H150 (L) := O144
 refine W.q1 (.int .i64 x129) rfl (W.q1 (.int .i64 x140) rfl (.nil (.seq (.block (.seq ?_)))))
 obtain ⟨q151, h152, h153⟩ := bd_inv h142
 refine AW.midT (fun σ' H' => ∃ (y1 : Bool) (G' : GM), y1 = q151 ∧ Ow G' H' (L) ∧ GM.le G143 G' ∧ σ' 48 = .bool y1) ?_ ?_
 ·refine .region (W.q2 (.int .i64 x129) rfl (W.q3 (.bool (x129 == 5)) rfl rfl (W.q2 (.bool (x129 == 5)) rfl (W.splitAt (t := 51) (b := (x129 == 5)) rfl (fun g154 gv155 => ?_) (fun g154 gv155 => ?_)))))
  ·have h156 := pos_inv g154 h152
   refine W.q6 rfl gv155 (W.q6 rfl gv155 (W.q4 (.bool true) gv155 rfl (W.q2 (.bool true) rfl (W.q6 rfl rfl (W.q6 rfl rfl (W.skipU rfl rfl rfl rfl ?_))))))
   refine W.skipU rfl rfl rfl rfl (W.q6 rfl rfl (W.q4 (.bool true) rfl rfl (W.q1 (.bool true) rfl (.nil ?_))))
   obtain rfl := Option.some.inj h156
   exact ⟨true, _, rfl, O144, (GM.le.refl _), rfl⟩
  have h157 := neg_b g154 h152
  refine W.q2 (hg := gk rfl rfl gv155 rfl) (.int .i64 x140) rfl (W.q3 (hg := gk rfl rfl gv155 rfl) (.bool (x140 == 5)) rfl rfl (W.q5 (.bool (x140 == 5)) gv155 rfl (W.q2 (.bool (x140 == 5)) rfl (W.splitAt (t := 55) (b := (x140 == 5)) rfl (fun g158 gv159 => ?_) (fun g158 gv159 => ?_)))))
  ·have h160 := pos_inv g158 h157
   refine W.q6 rfl gv159 (W.q6 rfl gv159 (W.skipU rfl rfl rfl rfl (W.skipU rfl rfl rfl rfl (W.q6 rfl gv159 (W.q4 (.bool true) gv159 rfl (W.q1 (.bool true) rfl ?_))))))
   refine .nil ?_
   obtain rfl := Option.some.inj h160
   exact ⟨true, _, rfl, O144, (GM.le.refl _), rfl⟩
  have h161 := neg_b g158 h157
  refine W.q2 (hg := gk rfl rfl gv159 rfl) (.bool x31) ((fr120 4 rfl).trans t40) (W.q2 (hg := gk rfl rfl gv159 rfl) (.bool x31) rfl (W.splitAt (t := 57) (b := x31) rfl (fun g162 gv163 => ?_) (fun g162 gv163 => ?_)))
  rotate_left
  ·have h165 := neg_b g162 h161
   refine W.q6 rfl gv163 (W.q6 rfl gv163 (W.q5 (hg := gk rfl rfl gv159 rfl) (.bool false) gv163 rfl (W.q5 (.bool false) gv159 rfl (W.q1 (.bool false) rfl (.nil ?_)))))
   obtain rfl := Option.some.inj h165
   exact ⟨false, _, rfl, O144, (GM.le.refl _), rfl⟩
  have h164 := pos_inv g162 h161
  refine W.q2 (hg := gk rfl rfl gv163 rfl) (.string x116) t126 (W.pure (v := (.bool (sEq x116 (⟨#[48]⟩ : ByteArray)))) (gk rfl rfl gv163 rfl) rfl (vs_eql (oo rfl rfl) (oo rfl rfl)) (W.q4 (hg := gk rfl rfl gv159 rfl) (.bool (sEq x116 (⟨#[48]⟩ : ByteArray))) gv163 rfl (W.q5 (.bool (sEq x116 (⟨#[48]⟩ : ByteArray))) gv159 rfl (W.q1 (.bool (sEq x116 (⟨#[48]⟩ : ByteArray))) rfl (.nil ?_)))))
  obtain rfl := Option.some.inj h164
  exact ⟨sEq x116 (⟨#[48]⟩ : ByteArray), _, rfl, O144, (GM.le.refl _), rfl⟩
 rintro σ167 H168 fr169 ⟨x166, G170, rfl, O171, s172, t174⟩
 have h175 := tu1_inv h153
 refine .cond (b := x166) rfl t174 (fun g176 => ?_) (fun g176 => ?_)
 ·have h177 := pos_inv g176 h175
  refine .seq (.region (W.q1 (.int .i64 5) rfl (.nil (.ret ?_))))
  obtain rfl := Option.some.inj h177
  refine ret1R (P := Tryd.prog) (fn := Tryd.f33) (n := 86) (R := fun v H' => ∃ G', Ow G' H' (L) ∧ G.le G' ∧ v = .int .i64 5) (v1 := (.int .i64 5)) (by rfl) (rr_tmp (by rfl) (by exact rfl)) ?_
  exact ⟨_, O171, (GM.le.trans s17 (GM.le.trans s37 (GM.le.trans s123 (GM.le.trans s134 (GM.le.trans s145 s172))))), rfl⟩
 have h178 := neg_b g176 h175
 refine .seq ?_
 obtain ⟨q179, h180, h181⟩ := bd_inv h178
 refine AW.midT (fun σ' H' => ∃ (y1 : Bool) (G' : GM), y1 = q179 ∧ Ow G' H' (L) ∧ GM.le G170 G' ∧ σ' 62 = .bool y1) ?_ ?_
 ·refine .region (W.q2 (.int .i64 x129) ((fr169 9 rfl).trans rfl) (W.q3 (.bool (x129 != 0)) rfl rfl (W.q2 (.bool (x129 != 0)) rfl (W.splitAt (t := 65) (b := (x129 != 0)) rfl (fun g182 gv183 => ?_) (fun g182 gv183 => ?_)))))
  ·have h184 := pos_inv g182 h180
   refine W.q6 rfl gv183 (W.q6 rfl gv183 (W.q4 (.bool true) gv183 rfl (W.q1 (.bool true) rfl (.nil ?_))))
   obtain rfl := Option.some.inj h184
   exact ⟨true, _, rfl, O171, (GM.le.refl _), rfl⟩
  have h185 := neg_b g182 h180
  refine W.q2 (hg := gk rfl rfl gv183 rfl) (.int .i64 x140) ((fr169 10 rfl).trans rfl) (W.q3 (hg := gk rfl rfl gv183 rfl) (.bool (x140 != 0)) rfl rfl (W.q5 (.bool (x140 != 0)) gv183 rfl (W.q1 (.bool (x140 != 0)) rfl (.nil ?_))))
  obtain rfl := Option.some.inj h185
  exact ⟨(x140 != 0), _, rfl, O171, (GM.le.refl _), rfl⟩
 rintro σ187 H188 fr189 ⟨x186, G190, rfl, O191, s192, t194⟩
 have h195 := tu1_inv h181
 refine .cond (b := x186) rfl t194 (fun g196 => ?_) (fun g196 => ?_)
 ·have h197 := pos_inv g196 h195
  refine .seq (.region (W.q1 (.int .i64 2) rfl (.nil (.ret ?_))))
  obtain rfl := Option.some.inj h197
  refine ret1R (P := Tryd.prog) (fn := Tryd.f33) (n := 86) (R := fun v H' => ∃ G', Ow G' H' (L) ∧ G.le G' ∧ v = .int .i64 2) (v1 := (.int .i64 2)) (by rfl) (rr_tmp (by rfl) (by exact rfl)) ?_
  exact ⟨_, O191, (GM.le.trans s17 (GM.le.trans s37 (GM.le.trans s123 (GM.le.trans s134 (GM.le.trans s145 (GM.le.trans s172 s192)))))), rfl⟩
 have h198 := neg_b g196 h195
 refine .seq ?_
 obtain ⟨q199, h200, h201⟩ := bd_inv h198
 refine AW.midT (fun σ' H' => ∃ (y1 : Bool) (G' : GM), y1 = q199 ∧ Ow G' H' (L) ∧ GM.le G190 G' ∧ σ' 69 = .bool y1) ?_ ?_
 rotate_left
 ·rintro σ226 H227 fr228 ⟨x225, G229, rfl, O230, s231, t233⟩
  have h234 := tu1_inv h201
  refine .cond (b := x225) rfl t233 (fun g235 => ?_) (fun g235 => ?_)
  ·have h236 := pos_inv g235 h234
   refine .seq (.region (W.q1 (.int .i64 3) rfl (.nil (.ret ?_))))
   obtain rfl := Option.some.inj h236
   refine ret1R (P := Tryd.prog) (fn := Tryd.f33) (n := 86) (R := fun v H' => ∃ G', Ow G' H' (L) ∧ G.le G' ∧ v = .int .i64 3) (v1 := (.int .i64 3)) (by rfl) (rr_tmp (by rfl) (by exact rfl)) ?_
   exact ⟨_, O230, (GM.le.trans s17 (GM.le.trans s37 (GM.le.trans s123 (GM.le.trans s134 (GM.le.trans s145 (GM.le.trans s172 (GM.le.trans s192 s231))))))), rfl⟩
  have h237 := neg_b g235 h234
  refine .skip (.seq (.region (W.q1 (.int .i64 0) rfl (.nil (.ret ?_)))))
  obtain rfl := Option.some.inj h237
  refine ret1R (P := Tryd.prog) (fn := Tryd.f33) (n := 86) (R := fun v H' => ∃ G', Ow G' H' (L) ∧ G.le G' ∧ v = .int .i64 0) (v1 := (.int .i64 0)) (by rfl) (rr_tmp (by rfl) (by exact rfl)) ?_
  exact ⟨_, O230, (GM.le.trans s17 (GM.le.trans s37 (GM.le.trans s123 (GM.le.trans s134 (GM.le.trans s145 (GM.le.trans s172 (GM.le.trans s192 s231))))))), rfl⟩
 refine .region (W.q2 (.int .i64 x115) ((fr189 5 rfl).trans ((fr169 5 rfl).trans t125)) (W.q3 (.bool (x115 == 2)) rfl rfl (W.q2 (.bool (x115 == 2)) rfl (W.splitAt (t := 72) (b := (x115 == 2)) rfl (fun g202 gv203 => ?_) (fun g202 gv203 => ?_)))))
 rotate_left
 ·have h224 := neg_b g202 h200
  refine W.q6 rfl gv203 (W.q6 rfl gv203 (W.q6 rfl gv203 (W.skipU rfl rfl rfl rfl (W.skipU rfl rfl rfl rfl (W.q6 rfl gv203 (W.q6 rfl gv203 ?_))))))
  refine W.skipU rfl rfl rfl rfl (W.skipU rfl rfl rfl rfl (W.skipU rfl rfl rfl rfl (W.skipU rfl rfl rfl rfl (W.q6 rfl gv203 (W.q5 (.bool false) gv203 rfl (W.q1 (.bool false) rfl ?_))))))
  refine .nil ?_
  obtain rfl := Option.some.inj h224
  exact ⟨false, _, rfl, O191, (GM.le.refl _), rfl⟩
 have h204 := pos_inv g202 h200
 refine W.q2 (hg := gk rfl rfl gv203 rfl) (.string x117) ((fr189 7 rfl).trans ((fr169 7 rfl).trans t127)) (W.pure (v := (.bool (sEq x117 (⟨#[48]⟩ : ByteArray)))) (gk rfl rfl gv203 rfl) rfl (vs_eql (oo rfl rfl) (oo rfl rfl)) (W.q2 (hg := gk rfl rfl gv203 rfl) (.bool (sEq x117 (⟨#[48]⟩ : ByteArray))) rfl (W.splitAt (t := 75) (b := sEq x117 (⟨#[48]⟩ : ByteArray)) rfl (fun g205 gv206 => ?_) (fun g205 gv206 => ?_))))
 ·have h207 := pos_inv g205 h204
  refine W.q6 rfl gv206 (W.q6 rfl gv206 (W.q4 (hg := gk rfl rfl gv203 rfl) (.bool true) gv206 rfl (W.q2 (hg := gk rfl rfl gv203 rfl) (.bool true) rfl (W.q6 rfl rfl (W.q6 rfl rfl (W.q6 rfl rfl ?_))))))
  refine W.q6 rfl rfl (W.q4 (hg := gk rfl rfl gv203 rfl) (.bool true) rfl rfl (W.q4 (.bool true) gv203 rfl (W.q1 (.bool true) rfl (.nil ?_))))
  obtain rfl := Option.some.inj h207
  exact ⟨true, _, rfl, O191, (GM.le.refl _), rfl⟩
 have h208 := neg_b g205 h204
 refine W.q2 (hg := gk rfl rfl gv206 rfl) (.string x117) ((fr189 7 rfl).trans ((fr169 7 rfl).trans t127)) (W.pure (v := (.bool (sEq x117 (⟨#[49]⟩ : ByteArray)))) (gk rfl rfl gv206 rfl) rfl (vs_eql (oo rfl rfl) (oo rfl rfl)) (W.q5 (hg := gk rfl rfl gv203 rfl) (.bool (sEq x117 (⟨#[49]⟩ : ByteArray))) gv206 rfl (W.q2 (hg := gk rfl rfl gv203 rfl) (.bool (sEq x117 (⟨#[49]⟩ : ByteArray))) rfl (W.splitAt (t := 79) (b := sEq x117 (⟨#[49]⟩ : ByteArray)) rfl (fun g209 gv210 => ?_) (fun g209 gv210 => ?_)))))
 ·have h211 := pos_inv g209 h208
  refine W.q6 rfl gv210 (W.q6 rfl gv210 (W.q6 rfl gv210 (W.q6 rfl gv210 (W.q4 (hg := gk rfl rfl gv203 rfl) (.bool true) gv210 rfl (W.q4 (.bool true) gv203 rfl (W.q1 (.bool true) rfl ?_))))))
  refine .nil ?_
  obtain rfl := Option.some.inj h211
  exact ⟨true, _, rfl, O191, (GM.le.refl _), rfl⟩
 have h212 := neg_b g209 h208
 refine W.q2 (hg := gk rfl rfl gv210 rfl) (.string x116) ((fr189 6 rfl).trans ((fr169 6 rfl).trans t126)) (W.q2 (hg := gk rfl rfl gv210 rfl) (.string x117) ((fr189 7 rfl).trans ((fr169 7 rfl).trans t127)) ?_)
 obtain ⟨x213, i214, h215⟩ := bd_inv h212
 refine W.lo (gk rfl rfl gv210 rfl) rfl (Lo.callP (ps := []) (ps' := []) rfl (fn := Tryd.f28) (by kernel_rfl) rfl (mc rfl (mc rfl mn)) O191 (fun L' O' => g_R_NatGcd_ok K x116 x117 O' _ i214)) ?_
 rintro v222 H223 ⟨G216, O217, s218, sm221, rfl⟩
 replace O217 : Ow G216 H223 (L) := O217
 refine W.pure (v := (.bool (!(sEq x213 (⟨#[49]⟩ : ByteArray))))) (gk rfl rfl gv210 rfl) rfl (vs_neq (oo rfl rfl) (oo rfl rfl)) (W.q5 (hg := gk rfl rfl gv203 rfl) (.bool (!(sEq x213 (⟨#[49]⟩ : ByteArray)))) gv210 rfl (W.q4 (.bool (!(sEq x213 (⟨#[49]⟩ : ByteArray)))) gv203 rfl (W.q1 (.bool (!(sEq x213 (⟨#[49]⟩ : ByteArray)))) rfl (.nil ?_))))
 obtain rfl := Option.some.inj h215
 exact ⟨(!(sEq x213 (⟨#[49]⟩ : ByteArray))), _, rfl, O217, s218, rfl⟩
def g_R_RatErrors_l0 (K : Nat) (p0 : List ByteArray) : Nat → Int → Option (Int ⊕ Unit)
  | 0, _ => none
  | k + 1, x5 => (if (decide (x5 < (List.length p0 : Int))) = true then ((idx p0 x5).bind fun x16 => ((g_R_RatError K x16).bind fun x20 => (if (x20 != 0) = true then some (.inl x20) else g_R_RatErrors_l0 K p0 k (kwrap .i64 (x5 + 1))))) else some (.inr ()))
def g_R_RatErrors (K : Nat) (p0 : List ByteArray) : Option Int := (bindS (g_R_RatErrors_l0 K p0 K 0) (tu1 fun a44 => some a44) (tu0 (some 0)))
set_option maxHeartbeats 4000000 in
theorem g_R_RatErrors_ok (K : Nat) {G : GM} {H : AH} {L : List Pc} (v0 : Value) (p0 : List ByteArray) (hp0 : (rSl rS).rep G [v0] p0) (O : Ow G H (L)) (r : Int) (h : g_R_RatErrors K p0 = some r) :
    CR Tryd.prog 35 [v0] G H (L) (fun v G' _ => v = .int .i64 r) := by
 unfold g_R_RatErrors at h
 refine CR.of (calls_of_AW (n := 18) (fn := Tryd.f35) (R := fun v H' => ∃ G', Ow G' H' (L) ∧ G.le G' ∧ v = .int .i64 r) (by kernel_rfl) rfl rfl ?_)
 refine .seq (.region (W.q1 (.int .i64 0) rfl (.nil (.seq (.seq (.region ?_))))))
 refine W.q2 v0 rfl (W.pure (v := (.int .i64 (List.length p0 : Int))) rfl rfl (len_sl (oo rfl rfl) (sl_len hp0) (elemT_inv el41)) (W.q2 (.int .i64 0) rfl (.nil ?_)))
 obtain ⟨q1, h2, h3⟩ := bindS_inv h
 refine AW.midT (fun σ' H' => ∃  (G' : GM), (.inr ()) = q1 ∧ Ow G' H' (L) ∧ GM.le G G') ?_ ?_
 rotate_left
 ·rintro σ36 H37 fr38 ⟨G39, rfl, O40, s41⟩
  have h43 := tu0_inv (outS_r h3)
  refine .seq (.region (W.q1 (.int .i64 0) rfl (.nil (.ret ?_))))
  obtain rfl := Option.some.inj h43
  refine ret1R (P := Tryd.prog) (fn := Tryd.f35) (n := 18) (R := fun v H' => ∃ G', Ow G' H' (L) ∧ G.le G' ∧ v = .int .i64 0) (v1 := (.int .i64 0)) (by rfl) (rr_tmp (by rfl) (by exact rfl)) ?_
  exact ⟨_, O40, s41, rfl⟩
 refine .block (AW.loop (α := Nat) (fun k' σ' H' => ∃ (y1 : Int) (G' : GM), g_R_RatErrors_l0 K p0 k' y1 = some q1 ∧ Ow G' H' (L) ∧ GM.le G G' ∧ σ' 8 = .int .i64 y1) (fun k' => k') K ⟨0, _, h2, O, (GM.le.refl _), rfl⟩ ?_)
 rintro k4
 rintro σ6 H7 fr8 ⟨x5, G9, h12, O10, s11, t13⟩
 rcases k4 with _ | k4
 ·exact none_absurd h12
 rw [g_R_RatErrors_l0] at h12
 refine .seq (.region (W.q3 (.bool (decide (x5 < (List.length p0 : Int)))) t13 ((fr8 7 rfl).trans rfl) (.nil (.seq (.cond (b := decide (x5 < (List.length p0 : Int))) rfl rfl (fun g14 => ?_) (fun g14 => ?_))))))
 rotate_left
 ·have h35 := neg_b g14 h12
  refine .exit ?_
  obtain rfl := Option.some.inj h35
  exact ⟨_, rfl, O10, s11⟩
 have h15 := pos_inv g14 h12
 refine .skip (.seq (.block (.seq (.region ?_))))
 obtain ⟨x16, i17, h18⟩ := bd_inv h15
 have j19 := idx_inv i17
 refine W.pure (v := (selem v0 (Int.toNat x5 * 1))) rfl rfl (v_idx el41 sz40 (oo rfl ((fr8 6 rfl).trans rfl)) (oo rfl t13) (sl_len (RT.mono _ s11 hp0)) j19.1 j19.2.1) (W.load1 (v := (.string x16)) (r := []) rfl rfl ag40 (pt_px rfl (At.str (At.le (At.le (sl_idx hp0 j19.2.2) s11 s11) (GM.le.refl _) O10.fro))) (W.q1 (.string x16) rfl (.nil (.seq (.region (W.q2 (.string x16) rfl ?_))))))
 obtain ⟨x20, i21, h22⟩ := bd_inv h18
 refine W.lo rfl rfl (Lo.callP (ps := []) (ps' := []) rfl (fn := Tryd.f33) (by kernel_rfl) rfl (mc rfl mn) O10 (fun L' O' => g_R_RatError_ok K x16 O' _ i21)) ?_
 rintro v29 H30 ⟨G23, O24, s25, sm28, rfl⟩
 replace O24 : Ow G23 H30 (L) := O24
 refine W.q1 (.int .i64 x20) rfl (.nil (.seq (.region (W.q2 (.int .i64 x20) rfl (W.q3 (.bool (x20 != 0)) rfl rfl (.nil ?_))))))
 refine .cond (b := (x20 != 0)) rfl rfl (fun g31 => ?_) (fun g31 => ?_)
 rotate_left
 ·have h34 := neg_b g31 h22
  refine .skip (.region (W.q3 (.int .i64 (kwrap .i64 (x5 + 1))) t13 rfl (W.q2 (.int .i64 (kwrap .i64 (x5 + 1))) rfl (.nil ?_))))
  exact ⟨k4, Nat.lt_succ_self _, ⟨kwrap .i64 (x5 + 1), _, h34, O24, (GM.le.trans s11 s25), rfl⟩⟩
 have h32 := pos_inv g31 h22
 refine .seq (.region (W.q2 (.int .i64 x20) rfl (W.q1 (.int .i64 x20) rfl (.nil (.ret ?_)))))
 obtain rfl := Option.some.inj h32
 have h33 := tu1_inv (outS_l h3)
 obtain rfl := Option.some.inj h33
 refine ret1R (P := Tryd.prog) (fn := Tryd.f35) (n := 18) (R := fun v H' => ∃ G', Ow G' H' (L) ∧ G.le G' ∧ v = .int .i64 x20) (v1 := (.int .i64 x20)) (by rfl) (rr_tmp (by rfl) (by exact rfl)) ?_
 exact ⟨_, O24, (GM.le.trans s11 s25), rfl⟩
def g_R_parts_l0 (K : Nat) (x1 : Int) (x13 : ByteArray) : Nat → Int → Option ((Bool × ByteArray × ByteArray) ⊕ Unit)
  | 0, _ => none
  | k + 1, x27 => (if (decide (x27 < (x13.size : Int))) = true then ((bidx x13 x27).bind fun x38 => (if (x38 == 47) = true then ((ssl x13 0 x27).bind fun x48 => ((ssl x13 (kwrap .i64 (x27 + 1)) (x13.size : Int)).bind fun x51 => some (.inl ((x1 == 45), x48, x51)))) else g_R_parts_l0 K x1 x13 k (kwrap .i64 (x27 + 1)))) else some (.inr ()))
def g_R_parts (K : Nat) (p0 : ByteArray) : Option (Bool × ByteArray × ByteArray) := ((bidx p0 0).bind fun x1 => (Option.bind ((if (x1 == 45) = true then ((ssl p0 1 (p0.size : Int)).bind fun x9 => some x9) else some p0)) (tu1 fun x13 => (bindS (g_R_parts_l0 K x1 x13 K 0) (tu3 fun a65 a66 a67 => some (a65, a66, a67)) (tu0 (some ((x1 == 45), x13, (⟨#[49]⟩ : ByteArray))))))))
set_option maxHeartbeats 4000000 in
theorem g_R_parts_ok (K : Nat) {G : GM} {H : AH} {L : List Pc} (p0 : ByteArray) (O : Ow G H (L)) (r : Bool × ByteArray × ByteArray) (h : g_R_parts K p0 = some r) :
    CR Tryd.prog 84 [(.string p0)] G H (L) (fun v G' _ => v = .tuple #[.bool r.1, .string r.2.1, .string r.2.2]) := by
 unfold g_R_parts at h
 refine CR.of (calls_of_AW (n := 35) (fn := Tryd.f84) (R := fun v H' => ∃ G', Ow G' H' (L) ∧ G.le G' ∧ v = .tuple #[.bool r.1, .string r.2.1, .string r.2.2]) (by kernel_rfl) rfl rfl ?_)
 refine .seq (.region (W.q1 (.bool false) rfl (W.q1 (.string (⟨#[]⟩ : ByteArray)) rfl (W.q1 (.string (⟨#[]⟩ : ByteArray)) rfl (.nil (.seq ?_))))))
 refine .region (W.q2 (.string p0) rfl (W.q1 (.string p0) rfl (.nil (.seq (.region (W.q2 (.string p0) rfl ?_))))))
 obtain ⟨x1, i2, h3⟩ := bd_inv h
 refine W.pure (v := (.int .u8 x1)) rfl rfl (v_sidx un9 (oo rfl rfl) (oo rfl rfl) i2) (W.q3 (.bool (x1 == 45)) rfl rfl (W.q1 (.bool (x1 == 45)) rfl (.nil (.seq (.seq (.region ?_))))))
 refine W.q2 (.bool (x1 == 45)) rfl (.nil ?_)
 obtain ⟨q4, h5, h6⟩ := bd_inv h3
 refine AW.midT (fun σ' H' => ∃ (y1 : ByteArray) (G' : GM), y1 = q4 ∧ Ow G' H' (L) ∧ GM.le G G' ∧ σ' 5 = .string y1) ?_ ?_
 ·refine .cond (b := (x1 == 45)) rfl rfl (fun g7 => ?_) (fun g7 => ?_)
  rotate_left
  ·have h12 := neg_b g7 h5
   refine .skip ?_
   obtain rfl := Option.some.inj h12
   exact ⟨p0, _, rfl, O, (GM.le.refl _), rfl⟩
  have h8 := pos_inv g7 h5
  refine .region (W.q2 (.string p0) rfl ?_)
  obtain ⟨x9, i10, h11⟩ := bd_inv h8
  refine W.pure (v := (.string x9)) rfl rfl (v_sslL un9 (oo rfl rfl) (oo rfl rfl) i10) (W.q1 (.string x9) rfl (.nil ?_))
  obtain rfl := Option.some.inj h11
  exact ⟨x9, _, rfl, O, (GM.le.refl _), rfl⟩
 rintro σ14 H15 fr16 ⟨x13, G17, rfl, O18, s19, t21⟩
 have h22 := tu1_inv h6
 refine .seq (.seq (.region (W.q2 (.string x13) t21 (W.pure (v := (.int .i64 (x13.size : Int))) rfl rfl (len_str (oo rfl rfl) un9) (W.q2 (.int .i64 0) rfl (.nil ?_))))))
 obtain ⟨q23, h24, h25⟩ := bindS_inv h22
 refine AW.midT (fun σ' H' => ∃  (G' : GM), (.inr ()) = q23 ∧ Ow G' H' (L) ∧ GM.le G17 G') ?_ ?_
 rotate_left
 ·rintro σ57 H58 fr59 ⟨G60, rfl, O61, s62⟩
  have h64 := tu0_inv (outS_r h25)
  refine .seq (.region (W.q2 (.bool (x1 == 45)) ((fr59 6 rfl).trans ((fr16 6 rfl).trans rfl)) (W.q2 (.string x13) ((fr59 5 rfl).trans t21) (W.q1 (.bool (x1 == 45)) rfl (W.q1 (.string x13) rfl (W.q1 (.string (⟨#[49]⟩ : ByteArray)) rfl ?_))))))
  refine .nil (.ret ?_)
  obtain rfl := Option.some.inj h64
  refine ret3R (P := Tryd.prog) (fn := Tryd.f84) (n := 35) (R := fun v H' => ∃ G', Ow G' H' (L) ∧ G.le G' ∧ v = .tuple #[.bool ((x1 == 45), x13, (⟨#[49]⟩ : ByteArray)).1, .string ((x1 == 45), x13, (⟨#[49]⟩ : ByteArray)).2.1, .string ((x1 == 45), x13, (⟨#[49]⟩ : ByteArray)).2.2]) (v1 := (.bool (x1 == 45))) (v2 := (.string x13)) (v3 := (.string (⟨#[49]⟩ : ByteArray))) (by rfl) (rr_tmp (by rfl) (by exact rfl)) (rr_tmp (by rfl) (by exact rfl)) (rr_tmp (by rfl) (by exact rfl)) ?_
  exact ⟨_, O61, (GM.le.trans s19 s62), rfl⟩
 refine .block (AW.loop (α := Nat) (fun k' σ' H' => ∃ (y1 : Int) (G' : GM), g_R_parts_l0 K x1 x13 k' y1 = some q23 ∧ Ow G' H' (L) ∧ GM.le G17 G' ∧ σ' 17 = .int .i64 y1) (fun k' => k') K ⟨0, _, h24, O18, (GM.le.refl _), rfl⟩ ?_)
 rintro k26
 rintro σ28 H29 fr30 ⟨x27, G31, h34, O32, s33, t35⟩
 rcases k26 with _ | k26
 ·exact none_absurd h34
 rw [g_R_parts_l0] at h34
 refine .seq (.region (W.q3 (.bool (decide (x27 < (x13.size : Int)))) t35 ((fr30 16 rfl).trans rfl) (.nil (.seq (.cond (b := decide (x27 < (x13.size : Int))) rfl rfl (fun g36 => ?_) (fun g36 => ?_))))))
 rotate_left
 ·have h56 := neg_b g36 h34
  refine .exit ?_
  obtain rfl := Option.some.inj h56
  exact ⟨_, rfl, O32, s33⟩
 have h37 := pos_inv g36 h34
 refine .skip (.seq (.block (.seq (.region (W.q2 (.int .i64 x27) t35 (W.q1 (.int .i64 x27) rfl ?_))))))
 refine .nil (.seq (.region (W.q2 (.string x13) ((fr30 5 rfl).trans t21) (W.q2 (.int .i64 x27) rfl ?_))))
 obtain ⟨x38, i39, h40⟩ := bd_inv h37
 refine W.pure (v := (.int .u8 x38)) rfl rfl (v_sidx un9 (oo rfl rfl) (oo rfl rfl) i39) (W.q3 (.bool (x38 == 47)) rfl rfl (.nil (.cond (b := (x38 == 47)) rfl rfl (fun g41 => ?_) (fun g41 => ?_))))
 rotate_left
 ·have h55 := neg_b g41 h40
  refine .skip (.region (W.q3 (.int .i64 (kwrap .i64 (x27 + 1))) t35 rfl (W.q2 (.int .i64 (kwrap .i64 (x27 + 1))) rfl (.nil ?_))))
  exact ⟨k26, Nat.lt_succ_self _, ⟨kwrap .i64 (x27 + 1), _, h55, O32, s33, rfl⟩⟩
 have h42 := pos_inv g41 h40
 refine .seq (.draw2 (M := [0, 0, 0, 6, 0, 0, 32, 112, 1, 271, 1023]) mixed (by kernel_rfl) (by kernel_rfl) fun H43 N47 x44 F46 => ?_)
 have O45 := O32.ext x44
 refine D2.q2 (.bool (x1 == 45)) ((fr30 6 rfl).trans ((fr16 6 rfl).trans rfl)) (D2.q2 (.string x13) ((fr30 5 rfl).trans t21) (D2.q2 (.int .i64 x27) rfl ?_))
 obtain ⟨x48, i49, h50⟩ := bd_inv h42
 refine D2.pure (v := (.string x48)) rfl rfl (v_sslH un9 (oo rfl rfl) (oo rfl rfl) i49) (D2.q2 (.string x13) ((fr30 5 rfl).trans t21) (D2.q2 (.int .i64 x27) rfl (D2.q3 (.int .i64 (kwrap .i64 (x27 + 1))) rfl rfl ?_)))
 obtain ⟨x51, i52, h53⟩ := bd_inv h50
 refine D2.pure (v := (.string x51)) rfl rfl (v_sslL un9 (oo rfl rfl) (oo rfl rfl) i52) (D2.q1 (.bool (x1 == 45)) rfl (D2.q1 (.string x48) rfl (D2.q1 (.string x51) rfl (.nil (.ret ?_)))))
 obtain rfl := Option.some.inj h53
 have h54 := tu3_inv (outS_l h25)
 obtain rfl := Option.some.inj h54
 refine ret3R (P := Tryd.prog) (fn := Tryd.f84) (n := 35) (R := fun v H' => ∃ G', Ow G' H' (L) ∧ G.le G' ∧ v = .tuple #[.bool ((x1 == 45), x48, x51).1, .string ((x1 == 45), x48, x51).2.1, .string ((x1 == 45), x48, x51).2.2]) (v1 := (.bool (x1 == 45))) (v2 := (.string x48)) (v3 := (.string x51)) (by rfl) (rr_tmp (by rfl) (by exact rfl)) (rr_tmp (by rfl) (by exact rfl)) (rr_tmp (by rfl) (by exact rfl)) ?_
 exact ⟨_, O45, (GM.le.trans s19 s33), rfl⟩
def g_R_Canon (K : Nat) (p0 : Bool) (p1 : ByteArray) (p2 : ByteArray) : Option ByteArray := (if (sEq p1 (⟨#[48]⟩ : ByteArray)) = true then some (⟨#[48]⟩ : ByteArray) else ((g_R_NatGcd K p1 p2).bind fun x4 => ((g_R_NatDiv K p1 x4).bind fun x15 => ((g_R_NatDiv K p2 x4).bind fun x26 => (Option.bind ((if p0 = true then (if ((⟨#[45]⟩ : ByteArray)).size + (x15.1).size ≤ 4611686018427387904 then some ((⟨#[45]⟩ : ByteArray) ++ x15.1) else none) else some x15.1)) (tu1 fun x45 => (if (sEq x26.1 (⟨#[49]⟩ : ByteArray)) = true then some x45 else (if (x45).size + ((⟨#[47]⟩ : ByteArray)).size ≤ 4611686018427387904 then (if ((x45 ++ (⟨#[47]⟩ : ByteArray))).size + (x26.1).size ≤ 4611686018427387904 then some ((x45 ++ (⟨#[47]⟩ : ByteArray)) ++ x26.1) else none) else none))))))))
set_option maxHeartbeats 4000000 in
theorem g_R_Canon_ok (K : Nat) {G : GM} {H : AH} {L : List Pc} (p0 : Bool) (p1 : ByteArray) (p2 : ByteArray) (O : Ow G H (L)) (r : ByteArray) (h : g_R_Canon K p0 p1 p2 = some r) :
    CR Tryd.prog 85 [(.bool p0), (.string p1), (.string p2)] G H (L) (fun v G' _ => v = .string r) := by
 unfold g_R_Canon at h
 refine CR.of (calls_of_AW (n := 35) (fn := Tryd.f85) (R := fun v H' => ∃ G', Ow G' H' (L) ∧ G.le G' ∧ v = .string r) (by kernel_rfl) rfl rfl ?_)
 refine .seq (.region (W.q1 (.string (⟨#[]⟩ : ByteArray)) rfl (.nil (.seq (.seq (.region ?_))))))
 refine W.q2 (.string p1) rfl (W.pure (v := (.bool (sEq p1 (⟨#[48]⟩ : ByteArray)))) rfl rfl (vs_eql (oo rfl rfl) (oo rfl rfl)) (.nil (.cond (b := sEq p1 (⟨#[48]⟩ : ByteArray)) rfl rfl (fun g1 => ?_) (fun g1 => ?_))))
 ·have h2 := pos_inv g1 h
  refine .seq (.region (W.q1 (.string (⟨#[48]⟩ : ByteArray)) rfl (.nil (.ret ?_))))
  obtain rfl := Option.some.inj h2
  refine ret1R (P := Tryd.prog) (fn := Tryd.f85) (n := 35) (R := fun v H' => ∃ G', Ow G' H' (L) ∧ G.le G' ∧ v = .string (⟨#[48]⟩ : ByteArray)) (v1 := (.string (⟨#[48]⟩ : ByteArray))) (by rfl) (rr_tmp (by rfl) (by exact rfl)) ?_
  exact ⟨_, O, (GM.le.refl _), rfl⟩
 have h3 := neg_b g1 h
 refine .skip (.seq (.region (W.q2 (.string p1) rfl (W.q2 (.string p2) rfl ?_))))
 obtain ⟨x4, i5, h6⟩ := bd_inv h3
 refine W.lo rfl rfl (Lo.callP (ps := []) (ps' := []) rfl (fn := Tryd.f28) (by kernel_rfl) rfl (mc rfl (mc rfl mn)) O (fun L' O' => g_R_NatGcd_ok K p1 p2 O' _ i5)) ?_
 rintro v13 H14 ⟨G7, O8, s9, sm12, rfl⟩
 replace O8 : Ow G7 H14 (L) := O8
 refine W.q1 (.string x4) rfl (.nil (.seq (.region (W.q2 (.string p1) rfl (W.q2 (.string x4) rfl ?_)))))
 obtain ⟨x15, i16, h17⟩ := bd_inv h6
 refine W.lo rfl rfl (Lo.callP (ps := []) (ps' := []) rfl (fn := Tryd.f29) (by kernel_rfl) rfl (mc rfl (mc rfl mn)) O8 (fun L' O' => g_R_NatDiv_ok K p1 x4 O' _ i16)) ?_
 rintro v24 H25 ⟨G18, O19, s20, sm23, rfl⟩
 replace O19 : Ow G18 H25 (L) := O19
 refine W.q2 (.tuple #[(.string x15.1), (.string x15.2)]) rfl (W.pure (v := (.string x15.1)) rfl rfl (v_extract (oo rfl rfl) rfl) (W.pure (v := (.string x15.2)) rfl rfl (v_extract (oo rfl rfl) rfl) (W.q1 (.string x15.1) rfl (.nil (.seq (.region ?_))))))
 refine W.q2 (.string p2) rfl (W.q2 (.string x4) rfl ?_)
 obtain ⟨x26, i27, h28⟩ := bd_inv h17
 refine W.lo rfl rfl (Lo.callP (ps := []) (ps' := []) rfl (fn := Tryd.f29) (by kernel_rfl) rfl (mc rfl (mc rfl mn)) O19 (fun L' O' => g_R_NatDiv_ok K p2 x4 O' _ i27)) ?_
 rintro v35 H36 ⟨G29, O30, s31, sm34, rfl⟩
 replace O30 : Ow G29 H36 (L) := O30
 refine W.q2 (.tuple #[(.string x26.1), (.string x26.2)]) rfl (W.pure (v := (.string x26.1)) rfl rfl (v_extract (oo rfl rfl) rfl) (W.pure (v := (.string x26.2)) rfl rfl (v_extract (oo rfl rfl) rfl) (W.q1 (.string x26.1) rfl (.nil (.seq (.seq ?_))))))
 refine .region (W.q2 (.bool p0) rfl (.nil ?_))
 obtain ⟨q37, h38, h39⟩ := bd_inv h28
 refine AW.midT (fun σ' H' => ∃ (y1 : ByteArray) (G' : GM), y1 = q37 ∧ Ow G' H' (L) ∧ GM.le G29 G' ∧ σ' 1 = .string y1) ?_ ?_
 ·refine .cond (b := p0) rfl rfl (fun g40 => ?_) (fun g40 => ?_)
  rotate_left
  ·have h44 := neg_b g40 h38
   refine .skip ?_
   obtain rfl := Option.some.inj h44
   exact ⟨x15.1, _, rfl, O30, (GM.le.refl _), rfl⟩
  have h41 := pos_inv g40 h38
  refine .region (W.q2 (.string x15.1) rfl ?_)
  obtain ⟨g42, h43⟩ := gd_inv h41
  refine W.pure (v := (.string ((⟨#[45]⟩ : ByteArray) ++ x15.1))) rfl rfl (vs_add g42 (oo rfl rfl) (oo rfl rfl)) (W.q1 (.string ((⟨#[45]⟩ : ByteArray) ++ x15.1)) rfl (.nil ?_))
  obtain rfl := Option.some.inj h43
  exact ⟨((⟨#[45]⟩ : ByteArray) ++ x15.1), _, rfl, O30, (GM.le.refl _), rfl⟩
 rintro σ46 H47 fr48 ⟨x45, G49, rfl, O50, s51, t53⟩
 have h54 := tu1_inv h39
 refine .seq (.seq (.region (W.q2 (.string x26.1) ((fr48 2 rfl).trans rfl) (W.pure (v := (.bool (sEq x26.1 (⟨#[49]⟩ : ByteArray)))) rfl rfl (vs_eql (oo rfl rfl) (oo rfl rfl)) (.nil (.cond (b := sEq x26.1 (⟨#[49]⟩ : ByteArray)) rfl rfl (fun g55 => ?_) (fun g55 => ?_)))))))
 ·have h56 := pos_inv g55 h54
  refine .seq (.region (W.q2 (.string x45) t53 (W.q1 (.string x45) rfl (.nil (.ret ?_)))))
  obtain rfl := Option.some.inj h56
  refine ret1R (P := Tryd.prog) (fn := Tryd.f85) (n := 35) (R := fun v H' => ∃ G', Ow G' H' (L) ∧ G.le G' ∧ v = .string x45) (v1 := (.string x45)) (by rfl) (rr_tmp (by rfl) (by exact rfl)) ?_
  exact ⟨_, O50, (GM.le.trans s9 (GM.le.trans s20 (GM.le.trans s31 s51))), rfl⟩
 have h57 := neg_b g55 h54
 refine .skip (.seq (.region (W.q2 (.string x45) t53 ?_)))
 obtain ⟨g58, h59⟩ := gd_inv h57
 refine W.pure (v := (.string (x45 ++ (⟨#[47]⟩ : ByteArray)))) rfl rfl (vs_add g58 (oo rfl rfl) (oo rfl rfl)) (W.q2 (.string x26.1) ((fr48 2 rfl).trans rfl) ?_)
 obtain ⟨g60, h61⟩ := gd_inv h59
 refine W.pure (v := (.string ((x45 ++ (⟨#[47]⟩ : ByteArray)) ++ x26.1))) rfl rfl (vs_add g60 (oo rfl rfl) (oo rfl rfl)) (W.q1 (.string ((x45 ++ (⟨#[47]⟩ : ByteArray)) ++ x26.1)) rfl (.nil (.ret ?_)))
 obtain rfl := Option.some.inj h61
 refine ret1R (P := Tryd.prog) (fn := Tryd.f85) (n := 35) (R := fun v H' => ∃ G', Ow G' H' (L) ∧ G.le G' ∧ v = .string ((x45 ++ (⟨#[47]⟩ : ByteArray)) ++ x26.1)) (v1 := (.string ((x45 ++ (⟨#[47]⟩ : ByteArray)) ++ x26.1))) (by rfl) (rr_tmp (by rfl) (by exact rfl)) ?_
 exact ⟨_, O50, (GM.le.trans s9 (GM.le.trans s20 (GM.le.trans s31 s51))), rfl⟩
def g_R_RatAdd (K : Nat) (p0 : ByteArray) (p1 : ByteArray) : Option ByteArray := ((g_R_parts K p0).bind fun x1 => ((g_R_parts K p1).bind fun x12 => ((g_R_NatMul K x1.2.1 x12.2.2).bind fun x23 => ((g_R_NatMul K x12.2.1 x1.2.2).bind fun x34 => ((g_R_NatMul K x1.2.2 x12.2.2).bind fun x45 => (if (x1.1 == x12.1) = true then ((g_R_NatAdd K x23 x34).bind fun x58 => ((g_R_Canon K x1.1 x58 x45).bind fun x69 => some x69)) else ((g_R_NatCmp K x23 x34).bind fun x81 => (Option.bind ((if (decide (x81 < 0)) = true then some (x12.1, x34, x23) else some (x1.1, x23, x34))) (tu3 fun x98 x99 x100 => ((g_R_NatSub K x99 x100).bind fun x112 => ((g_R_Canon K x98 x112 x45).bind fun x123 => some x123)))))))))))
set_option maxHeartbeats 4000000 in
theorem g_R_RatAdd_ok (K : Nat) {G : GM} {H : AH} {L : List Pc} (p0 : ByteArray) (p1 : ByteArray) (O : Ow G H (L)) (r : ByteArray) (h : g_R_RatAdd K p0 p1 = some r) :
    CR Tryd.prog 42 [(.string p0), (.string p1)] G H (L) (fun v G' _ => v = .string r) := by
 unfold g_R_RatAdd at h
 refine CR.of (calls_of_AW (n := 57) (fn := Tryd.f42) (R := fun v H' => ∃ G', Ow G' H' (L) ∧ G.le G' ∧ v = .string r) (by kernel_rfl) rfl rfl ?_)
 refine .seq (.region (W.q1 (.string (⟨#[]⟩ : ByteArray)) rfl (.nil (.seq (.region (W.q2 (.string p0) rfl ?_))))))
 obtain ⟨x1, i2, h3⟩ := bd_inv h
 refine W.lo rfl rfl (Lo.callP (ps := []) (ps' := []) rfl (fn := Tryd.f84) (by kernel_rfl) rfl (mc rfl mn) O (fun L' O' => g_R_parts_ok K p0 O' _ i2)) ?_
 rintro v10 H11 ⟨G4, O5, s6, sm9, rfl⟩
 replace O5 : Ow G4 H11 (L) := O5
 refine W.q2 (.tuple #[(.bool x1.1), (.string x1.2.1), (.string x1.2.2)]) rfl (W.pure (v := (.bool x1.1)) rfl rfl (v_extract (oo rfl rfl) rfl) (W.pure (v := (.string x1.2.1)) rfl rfl (v_extract (oo rfl rfl) rfl) (W.pure (v := (.string x1.2.2)) rfl rfl (v_extract (oo rfl rfl) rfl) (W.q1 (.bool x1.1) rfl (W.q1 (.string x1.2.1) rfl (W.q1 (.string x1.2.2) rfl ?_))))))
 refine .nil (.seq (.region (W.q2 (.string p1) rfl ?_)))
 obtain ⟨x12, i13, h14⟩ := bd_inv h3
 refine W.lo rfl rfl (Lo.callP (ps := []) (ps' := []) rfl (fn := Tryd.f84) (by kernel_rfl) rfl (mc rfl mn) O5 (fun L' O' => g_R_parts_ok K p1 O' _ i13)) ?_
 rintro v21 H22 ⟨G15, O16, s17, sm20, rfl⟩
 replace O16 : Ow G15 H22 (L) := O16
 refine W.q2 (.tuple #[(.bool x12.1), (.string x12.2.1), (.string x12.2.2)]) rfl (W.pure (v := (.bool x12.1)) rfl rfl (v_extract (oo rfl rfl) rfl) (W.pure (v := (.string x12.2.1)) rfl rfl (v_extract (oo rfl rfl) rfl) (W.pure (v := (.string x12.2.2)) rfl rfl (v_extract (oo rfl rfl) rfl) (W.q1 (.bool x12.1) rfl (W.q1 (.string x12.2.1) rfl (W.q1 (.string x12.2.2) rfl ?_))))))
 refine .nil (.seq (.region (W.q2 (.string x1.2.1) rfl (W.q2 (.string x12.2.2) rfl ?_))))
 obtain ⟨x23, i24, h25⟩ := bd_inv h14
 refine W.lo rfl rfl (Lo.callP (ps := []) (ps' := []) rfl (fn := Tryd.f25) (by kernel_rfl) rfl (mc rfl (mc rfl mn)) O16 (fun L' O' => g_R_NatMul_ok K x1.2.1 x12.2.2 O' _ i24)) ?_
 rintro v32 H33 ⟨G26, O27, s28, sm31, rfl⟩
 replace O27 : Ow G26 H33 (L) := O27
 refine W.q2 (.string x12.2.1) rfl (W.q2 (.string x1.2.2) rfl ?_)
 obtain ⟨x34, i35, h36⟩ := bd_inv h25
 refine W.lo rfl rfl (Lo.callP (ps := []) (ps' := []) rfl (fn := Tryd.f25) (by kernel_rfl) rfl (mc rfl (mc rfl mn)) O27 (fun L' O' => g_R_NatMul_ok K x12.2.1 x1.2.2 O' _ i35)) ?_
 rintro v43 H44 ⟨G37, O38, s39, sm42, rfl⟩
 replace O38 : Ow G37 H44 (L) := O38
 refine W.q2 (.string x1.2.2) rfl (W.q2 (.string x12.2.2) rfl ?_)
 obtain ⟨x45, i46, h47⟩ := bd_inv h36
 refine W.lo rfl rfl (Lo.callP (ps := []) (ps' := []) rfl (fn := Tryd.f25) (by kernel_rfl) rfl (mc rfl (mc rfl mn)) O38 (fun L' O' => g_R_NatMul_ok K x1.2.2 x12.2.2 O' _ i46)) ?_
 rintro v54 H55 ⟨G48, O49, s50, sm53, rfl⟩
 replace O49 : Ow G48 H55 (L) := O49
 refine W.q1 (.string x23) rfl (W.q1 (.string x34) rfl (W.q1 (.string x45) rfl (.nil (.seq (.seq (.region ?_))))))
 refine W.q2 (.bool x1.1) rfl (W.q2 (.bool x12.1) rfl (W.pure (v := (.bool (x1.1 == x12.1))) rfl rfl (bool_eql (oo rfl rfl) (oo rfl rfl) un4) (.nil (.cond (b := (x1.1 == x12.1)) rfl rfl (fun g56 => ?_) (fun g56 => ?_)))))
 ·have h57 := pos_inv g56 h47
  refine .seq (.region (W.q2 (.bool x1.1) rfl (W.q2 (.string x23) rfl (W.q2 (.string x34) rfl ?_))))
  obtain ⟨x58, i59, h60⟩ := bd_inv h57
  refine W.lo rfl rfl (Lo.callP (ps := []) (ps' := []) rfl (fn := Tryd.f20) (by kernel_rfl) rfl (mc rfl (mc rfl mn)) O49 (fun L' O' => g_R_NatAdd_ok K x23 x34 O' _ i59)) ?_
  rintro v67 H68 ⟨G61, O62, s63, sm66, rfl⟩
  replace O62 : Ow G61 H68 (L) := O62
  refine W.q2 (.string x45) rfl ?_
  obtain ⟨x69, i70, h71⟩ := bd_inv h60
  refine W.lo rfl rfl (Lo.callP (ps := []) (ps' := []) rfl (fn := Tryd.f85) (by kernel_rfl) rfl (mc rfl (mc rfl (mc rfl mn))) O62 (fun L' O' => g_R_Canon_ok K x1.1 x58 x45 O' _ i70)) ?_
  rintro v78 H79 ⟨G72, O73, s74, sm77, rfl⟩
  replace O73 : Ow G72 H79 (L) := O73
  refine W.q1 (.string x69) rfl (.nil (.ret ?_))
  obtain rfl := Option.some.inj h71
  refine ret1R (P := Tryd.prog) (fn := Tryd.f42) (n := 57) (R := fun v H' => ∃ G', Ow G' H' (L) ∧ G.le G' ∧ v = .string x69) (v1 := (.string x69)) (by rfl) (rr_tmp (by rfl) (by exact rfl)) ?_
  exact ⟨_, O73, (GM.le.trans s6 (GM.le.trans s17 (GM.le.trans s28 (GM.le.trans s39 (GM.le.trans s50 (GM.le.trans s63 s74)))))), rfl⟩
 have h80 := neg_b g56 h47
 refine .skip (.seq (.seq (.region (W.q2 (.string x23) rfl (W.q2 (.string x34) rfl ?_)))))
 obtain ⟨x81, i82, h83⟩ := bd_inv h80
 refine W.lo rfl rfl (Lo.callP (ps := []) (ps' := []) rfl (fn := Tryd.f21) (by kernel_rfl) rfl (mc rfl (mc rfl mn)) O49 (fun L' O' => g_R_NatCmp_ok K x23 x34 O' _ i82)) ?_
 rintro v90 H91 ⟨G84, O85, s86, sm89, rfl⟩
 replace O85 : Ow G84 H91 (L) := O85
 refine W.q3 (.bool (decide (x81 < 0))) rfl rfl (.nil ?_)
 obtain ⟨q92, h93, h94⟩ := bd_inv h83
 refine AW.midT (fun σ' H' => ∃ (y1 : Bool) (y2 : ByteArray) (y3 : ByteArray) (G' : GM), (y1, y2, y3) = q92 ∧ Ow G' H' (L) ∧ GM.le G84 G' ∧ σ' 5 = .bool y1 ∧ σ' 11 = .string y2 ∧ σ' 12 = .string y3) ?_ ?_
 ·refine .cond (b := decide (x81 < 0)) rfl rfl (fun g95 => ?_) (fun g95 => ?_)
  rotate_left
  ·have h97 := neg_b g95 h93
   refine .skip ?_
   obtain rfl := Option.some.inj h97
   exact ⟨x1.1, x23, x34, _, rfl, O85, (GM.le.refl _), rfl, rfl, rfl⟩
  have h96 := pos_inv g95 h93
  refine .region (W.q2 (.string x34) rfl (W.q2 (.string x23) rfl (W.q2 (.bool x12.1) rfl (W.q1 (.string x34) rfl (W.q1 (.string x23) rfl (W.q1 (.bool x12.1) rfl ?_))))))
  refine .nil ?_
  obtain rfl := Option.some.inj h96
  exact ⟨x12.1, x34, x23, _, rfl, O85, (GM.le.refl _), rfl, rfl, rfl⟩
 rintro σ101 H102 fr103 ⟨x98, x99, x100, G104, rfl, O105, s106, t108, t109, t110⟩
 have h111 := tu3_inv h94
 refine .seq (.region (W.q2 (.bool x98) t108 (W.q2 (.string x99) t109 (W.q2 (.string x100) t110 ?_))))
 obtain ⟨x112, i113, h114⟩ := bd_inv h111
 refine W.lo rfl rfl (Lo.callP (ps := []) (ps' := []) rfl (fn := Tryd.f22) (by kernel_rfl) rfl (mc rfl (mc rfl mn)) O105 (fun L' O' => g_R_NatSub_ok K x99 x100 O' _ i113)) ?_
 rintro v121 H122 ⟨G115, O116, s117, sm120, rfl⟩
 replace O116 : Ow G115 H122 (L) := O116
 refine W.q2 (.string x45) ((fr103 13 rfl).trans rfl) ?_
 obtain ⟨x123, i124, h125⟩ := bd_inv h114
 refine W.lo rfl rfl (Lo.callP (ps := []) (ps' := []) rfl (fn := Tryd.f85) (by kernel_rfl) rfl (mc rfl (mc rfl (mc rfl mn))) O116 (fun L' O' => g_R_Canon_ok K x98 x112 x45 O' _ i124)) ?_
 rintro v132 H133 ⟨G126, O127, s128, sm131, rfl⟩
 replace O127 : Ow G126 H133 (L) := O127
 refine W.q1 (.string x123) rfl (.nil (.ret ?_))
 obtain rfl := Option.some.inj h125
 refine ret1R (P := Tryd.prog) (fn := Tryd.f42) (n := 57) (R := fun v H' => ∃ G', Ow G' H' (L) ∧ G.le G' ∧ v = .string x123) (v1 := (.string x123)) (by rfl) (rr_tmp (by rfl) (by exact rfl)) ?_
 exact ⟨_, O127, (GM.le.trans s6 (GM.le.trans s17 (GM.le.trans s28 (GM.le.trans s39 (GM.le.trans s50 (GM.le.trans s86 (GM.le.trans s106 (GM.le.trans s117 s128)))))))), rfl⟩
def g_R_RatNeg (K : Nat) (p0 : ByteArray) : Option ByteArray := ((g_R_parts K p0).bind fun x1 => ((g_R_Canon K (!x1.1) x1.2.1 x1.2.2).bind fun x12 => some x12))
set_option maxHeartbeats 4000000 in
theorem g_R_RatNeg_ok (K : Nat) {G : GM} {H : AH} {L : List Pc} (p0 : ByteArray) (O : Ow G H (L)) (r : ByteArray) (h : g_R_RatNeg K p0 = some r) :
    CR Tryd.prog 44 [(.string p0)] G H (L) (fun v G' _ => v = .string r) := by
 unfold g_R_RatNeg at h
 refine CR.of (calls_of_AW (n := 17) (fn := Tryd.f44) (R := fun v H' => ∃ G', Ow G' H' (L) ∧ G.le G' ∧ v = .string r) (by kernel_rfl) rfl rfl ?_)
 refine .seq (.region (W.q1 (.string (⟨#[]⟩ : ByteArray)) rfl (.nil (.seq (.region (W.q2 (.string p0) rfl ?_))))))
 obtain ⟨x1, i2, h3⟩ := bd_inv h
 refine W.lo rfl rfl (Lo.callP (ps := []) (ps' := []) rfl (fn := Tryd.f84) (by kernel_rfl) rfl (mc rfl mn) O (fun L' O' => g_R_parts_ok K p0 O' _ i2)) ?_
 rintro v10 H11 ⟨G4, O5, s6, sm9, rfl⟩
 replace O5 : Ow G4 H11 (L) := O5
 refine W.q2 (.tuple #[(.bool x1.1), (.string x1.2.1), (.string x1.2.2)]) rfl (W.pure (v := (.bool x1.1)) rfl rfl (v_extract (oo rfl rfl) rfl) (W.pure (v := (.string x1.2.1)) rfl rfl (v_extract (oo rfl rfl) rfl) (W.pure (v := (.string x1.2.2)) rfl rfl (v_extract (oo rfl rfl) rfl) (W.q1 (.bool x1.1) rfl (W.q1 (.string x1.2.1) rfl (W.q1 (.string x1.2.2) rfl ?_))))))
 refine .nil (.seq (.region (W.q2 (.bool x1.1) rfl (W.pure (v := (.bool (!x1.1))) rfl rfl (bool_not (a := x1.1) (oo rfl rfl)) (W.q2 (.string x1.2.1) rfl (W.q2 (.string x1.2.2) rfl ?_))))))
 obtain ⟨x12, i13, h14⟩ := bd_inv h3
 refine W.lo rfl rfl (Lo.callP (ps := []) (ps' := []) rfl (fn := Tryd.f85) (by kernel_rfl) rfl (mc rfl (mc rfl (mc rfl mn))) O5 (fun L' O' => g_R_Canon_ok K (!x1.1) x1.2.1 x1.2.2 O' _ i13)) ?_
 rintro v21 H22 ⟨G15, O16, s17, sm20, rfl⟩
 replace O16 : Ow G15 H22 (L) := O16
 refine W.q1 (.string x12) rfl (.nil (.ret ?_))
 obtain rfl := Option.some.inj h14
 refine ret1R (P := Tryd.prog) (fn := Tryd.f44) (n := 17) (R := fun v H' => ∃ G', Ow G' H' (L) ∧ G.le G' ∧ v = .string x12) (v1 := (.string x12)) (by rfl) (rr_tmp (by rfl) (by exact rfl)) ?_
 exact ⟨_, O16, (GM.le.trans s6 s17), rfl⟩
def g_R_RatSub (K : Nat) (p0 : ByteArray) (p1 : ByteArray) : Option ByteArray := ((g_R_RatNeg K p1).bind fun x1 => ((g_R_RatAdd K p0 x1).bind fun x12 => some x12))
set_option maxHeartbeats 4000000 in
theorem g_R_RatSub_ok (K : Nat) {G : GM} {H : AH} {L : List Pc} (p0 : ByteArray) (p1 : ByteArray) (O : Ow G H (L)) (r : ByteArray) (h : g_R_RatSub K p0 p1 = some r) :
    CR Tryd.prog 43 [(.string p0), (.string p1)] G H (L) (fun v G' _ => v = .string r) := by
 unfold g_R_RatSub at h
 refine CR.of (calls_of_AW (n := 9) (fn := Tryd.f43) (R := fun v H' => ∃ G', Ow G' H' (L) ∧ G.le G' ∧ v = .string r) (by kernel_rfl) rfl rfl ?_)
 refine .seq (.region (W.q1 (.string (⟨#[]⟩ : ByteArray)) rfl (.nil (.seq (.region (W.q2 (.string p0) rfl ?_))))))
 refine W.q2 (.string p1) rfl ?_
 obtain ⟨x1, i2, h3⟩ := bd_inv h
 refine W.lo rfl rfl (Lo.callP (ps := []) (ps' := []) rfl (fn := Tryd.f44) (by kernel_rfl) rfl (mc rfl mn) O (fun L' O' => g_R_RatNeg_ok K p1 O' _ i2)) ?_
 rintro v10 H11 ⟨G4, O5, s6, sm9, rfl⟩
 replace O5 : Ow G4 H11 (L) := O5
 obtain ⟨x12, i13, h14⟩ := bd_inv h3
 refine W.lo rfl rfl (Lo.callP (ps := []) (ps' := []) rfl (fn := Tryd.f42) (by kernel_rfl) rfl (mc rfl (mc rfl mn)) O5 (fun L' O' => g_R_RatAdd_ok K p0 x1 O' _ i13)) ?_
 rintro v21 H22 ⟨G15, O16, s17, sm20, rfl⟩
 replace O16 : Ow G15 H22 (L) := O16
 refine W.q1 (.string x12) rfl (.nil (.ret ?_))
 obtain rfl := Option.some.inj h14
 refine ret1R (P := Tryd.prog) (fn := Tryd.f43) (n := 9) (R := fun v H' => ∃ G', Ow G' H' (L) ∧ G.le G' ∧ v = .string x12) (v1 := (.string x12)) (by rfl) (rr_tmp (by rfl) (by exact rfl)) ?_
 exact ⟨_, O16, (GM.le.trans s6 s17), rfl⟩
end Go.Am.Tryd
/- Typed functions with the same answers as the program's, and the walks that show it. -/
namespace Go.Am.Tryd
open Go Go.Am Go.Proofs
set_option linter.unusedVariables false
set_option linter.unusedSimpArgs false
set_option maxRecDepth 10000

def g_slices_IndexFunc_api_Rat_api_Rat_l0 (K : Nat) (p0 : List ByteArray) (p1 : ByteArray → Option Bool) : Nat → Int → Option (Int ⊕ Unit)
  | 0, _ => none
  | k + 1, x5 => (if (decide (x5 < (List.length p0 : Int))) = true then ((idx p0 x5).bind fun x16 => ((p1 x16).bind fun x20 => (if x20 = true then some (.inl x5) else g_slices_IndexFunc_api_Rat_api_Rat_l0 K p0 p1 k (kwrap .i64 (x5 + 1))))) else some (.inr ()))
def g_slices_IndexFunc_api_Rat_api_Rat (K : Nat) (p0 : List ByteArray) (p1 : ByteArray → Option Bool) : Option Int := (bindS (g_slices_IndexFunc_api_Rat_api_Rat_l0 K p0 p1 K 0) (tu1 fun a42 => some a42) (tu0 (some (-1))))
set_option maxHeartbeats 4000000 in
theorem g_slices_IndexFunc_api_Rat_api_Rat_ok (K : Nat) {G : GM} {H : AH} {L : List Pc} (v0 : Value) (p0 : List ByteArray) (hp0 : (rSl rS).rep G [v0] p0) (v1 : Value) (p1 : ByteArray → Option Bool) (hp1 : FnOk Tryd.prog G v1 (fun _ vs (x : (ByteArray)) => vs = [.string x]) (fun _ v (rr : (Bool)) => v = .bool rr) p1) (O : Ow G H (L)) (r : Int) (h : g_slices_IndexFunc_api_Rat_api_Rat K p0 p1 = some r) :
    CR Tryd.prog 96 [v0, v1] G H (L) (fun v G' _ => v = .int .i64 r) := by
 unfold g_slices_IndexFunc_api_Rat_api_Rat at h
 refine CR.of (calls_of_AW (n := 19) (fn := Tryd.f96) (R := fun v H' => ∃ G', Ow G' H' (L) ∧ G.le G' ∧ v = .int .i64 r) (by kernel_rfl) rfl rfl ?_)
 refine .seq (.region (W.q1 (.int .i64 0) rfl (.nil (.seq (.seq (.region ?_))))))
 refine W.q2 v0 rfl (W.pure (v := (.int .i64 (List.length p0 : Int))) rfl rfl (len_sl (oo rfl rfl) (sl_len hp0) (elemT_inv el41)) (W.q2 (.int .i64 0) rfl (.nil ?_)))
 obtain ⟨q1, h2, h3⟩ := bindS_inv h
 refine AW.midT (fun σ' H' => ∃  (G' : GM), (.inr ()) = q1 ∧ Ow G' H' (L) ∧ GM.le G G') ?_ ?_
 rotate_left
 ·rintro σ34 H35 fr36 ⟨G37, rfl, O38, s39⟩
  have h41 := tu0_inv (outS_r h3)
  refine .seq (.region (W.q1 (.int .i64 (-1)) rfl (.nil (.ret ?_))))
  obtain rfl := Option.some.inj h41
  refine ret1R (P := Tryd.prog) (fn := Tryd.f96) (n := 19) (R := fun v H' => ∃ G', Ow G' H' (L) ∧ G.le G' ∧ v = .int .i64 (-1)) (v1 := (.int .i64 (-1))) (by rfl) (rr_tmp (by rfl) (by exact rfl)) ?_
  exact ⟨_, O38, s39, rfl⟩
 refine .block (AW.loop (α := Nat) (fun k' σ' H' => ∃ (y1 : Int) (G' : GM), g_slices_IndexFunc_api_Rat_api_Rat_l0 K p0 p1 k' y1 = some q1 ∧ Ow G' H' (L) ∧ GM.le G G' ∧ σ' 8 = .int .i64 y1) (fun k' => k') K ⟨0, _, h2, O, (GM.le.refl _), rfl⟩ ?_)
 rintro k4
 rintro σ6 H7 fr8 ⟨x5, G9, h12, O10, s11, t13⟩
 rcases k4 with _ | k4
 ·exact none_absurd h12
 rw [g_slices_IndexFunc_api_Rat_api_Rat_l0] at h12
 refine .seq (.region (W.q3 (.bool (decide (x5 < (List.length p0 : Int)))) t13 ((fr8 7 rfl).trans rfl) (.nil (.seq (.cond (b := decide (x5 < (List.length p0 : Int))) rfl rfl (fun g14 => ?_) (fun g14 => ?_))))))
 rotate_left
 ·have h33 := neg_b g14 h12
  refine .exit ?_
  obtain rfl := Option.some.inj h33
  exact ⟨_, rfl, O10, s11⟩
 have h15 := pos_inv g14 h12
 refine .skip (.seq (.block (.seq (.region (W.q2 (.int .i64 x5) t13 (W.q1 (.int .i64 x5) rfl ?_))))))
 refine .nil (.seq (.region (W.q2 v1 ((fr8 1 rfl).trans rfl) (W.q2 v0 ((fr8 0 rfl).trans rfl) (W.q2 (.int .i64 x5) rfl ?_)))))
 obtain ⟨x16, i17, h18⟩ := bd_inv h15
 have j19 := idx_inv i17
 refine W.pure (v := (selem v0 (Int.toNat x5 * 1))) rfl rfl (v_idx el41 sz40 (oo rfl rfl) (oo rfl rfl) (sl_len (RT.mono _ s11 hp0)) j19.1 j19.2.1) (W.load1 (v := (.string x16)) (r := []) rfl rfl ag40 (pt_px rfl (At.str (At.le (At.le (sl_idx hp0 j19.2.2) s11 s11) (GM.le.refl _) O10.fro))) ?_)
 obtain ⟨x20, i21, h22⟩ := bd_inv h18
 refine W.lo rfl rfl (Lo.callF (x0 := x16) rfl rfl (FnOk.le hp1 s11) (mc rfl mn) rfl i21 O10) ?_
 rintro v27 H28 ⟨G23, O24, s25, sm26, rfl⟩
 refine .nil (.cond (b := x20) rfl rfl (fun g29 => ?_) (fun g29 => ?_))
 rotate_left
 ·have h32 := neg_b g29 h22
  refine .skip (.region (W.q3 (.int .i64 (kwrap .i64 (x5 + 1))) t13 rfl (W.q2 (.int .i64 (kwrap .i64 (x5 + 1))) rfl (.nil ?_))))
  exact ⟨k4, Nat.lt_succ_self _, ⟨kwrap .i64 (x5 + 1), _, h32, O24, (GM.le.trans s11 s25), rfl⟩⟩
 have h30 := pos_inv g29 h22
 refine .seq (.region (W.q2 (.int .i64 x5) rfl (W.q1 (.int .i64 x5) rfl (.nil (.ret ?_)))))
 obtain rfl := Option.some.inj h30
 have h31 := tu1_inv (outS_l h3)
 obtain rfl := Option.some.inj h31
 refine ret1R (P := Tryd.prog) (fn := Tryd.f96) (n := 19) (R := fun v H' => ∃ G', Ow G' H' (L) ∧ G.le G' ∧ v = .int .i64 x5) (v1 := (.int .i64 x5)) (by rfl) (rr_tmp (by rfl) (by exact rfl)) ?_
 exact ⟨_, O24, (GM.le.trans s11 s25), rfl⟩
def g_slices_ContainsFunc_api_Rat_api_Rat (K : Nat) (p0 : List ByteArray) (p1 : ByteArray → Option Bool) : Option Bool := ((g_slices_IndexFunc_api_Rat_api_Rat K p0 p1).bind fun x1 => some (decide (x1 ≥ 0)))
set_option maxHeartbeats 4000000 in
theorem g_slices_ContainsFunc_api_Rat_api_Rat_ok (K : Nat) {G : GM} {H : AH} {L : List Pc} (v0 : Value) (p0 : List ByteArray) (hp0 : (rSl rS).rep G [v0] p0) (v1 : Value) (p1 : ByteArray → Option Bool) (hp1 : FnOk Tryd.prog G v1 (fun _ vs (x : (ByteArray)) => vs = [.string x]) (fun _ v (rr : (Bool)) => v = .bool rr) p1) (O : Ow G H (L)) (r : Bool) (h : g_slices_ContainsFunc_api_Rat_api_Rat K p0 p1 = some r) :
    CR Tryd.prog 50 [v0, v1] G H (L) (fun v G' _ => v = .bool r) := by
 unfold g_slices_ContainsFunc_api_Rat_api_Rat at h
 refine CR.of (calls_of_AW (n := 9) (fn := Tryd.f50) (R := fun v H' => ∃ G', Ow G' H' (L) ∧ G.le G' ∧ v = .bool r) (by kernel_rfl) rfl rfl ?_)
 refine .seq (.region (W.q1 (.bool false) rfl (.nil (.seq (.region (W.q2 v0 rfl ?_))))))
 refine W.q2 v1 rfl ?_
 obtain ⟨x1, i2, h3⟩ := bd_inv h
 refine W.lo rfl rfl (Lo.callP (ps := []) (ps' := []) rfl (fn := Tryd.f96) (by kernel_rfl) rfl (mc rfl (mc rfl mn)) O (fun L' O' => g_slices_IndexFunc_api_Rat_api_Rat_ok K v0 p0 hp0 v1 p1 hp1 O' _ i2)) ?_
 rintro v10 H11 ⟨G4, O5, s6, sm9, rfl⟩
 replace O5 : Ow G4 H11 (L) := O5
 refine W.q3 (.bool (decide (x1 ≥ 0))) rfl rfl (W.q1 (.bool (decide (x1 ≥ 0))) rfl (.nil (.ret ?_)))
 obtain rfl := Option.some.inj h3
 refine ret1R (P := Tryd.prog) (fn := Tryd.f50) (n := 9) (R := fun v H' => ∃ G', Ow G' H' (L) ∧ G.le G' ∧ v = .bool (decide (x1 ≥ 0))) (v1 := (.bool (decide (x1 ≥ 0)))) (by rfl) (rr_tmp (by rfl) (by exact rfl)) ?_
 exact ⟨_, O5, s6, rfl⟩
def g_law_RatLists_1 (K : Nat) (p0 : ByteArray) : Option Bool := some (decide ((p0.size : Int) > 60))
set_option maxHeartbeats 4000000 in
theorem g_law_RatLists_1_ok (K : Nat) {G : GM} {H : AH} {L : List Pc} (p0 : ByteArray) (O : Ow G H (L)) (r : Bool) (h : g_law_RatLists_1 K p0 = some r) :
    CR Tryd.prog 51 [(.string p0)] G H (L) (fun v G' _ => v = .bool r) := by
 unfold g_law_RatLists_1 at h
 refine CR.of (calls_of_AW (n := 6) (fn := Tryd.f51) (R := fun v H' => ∃ G', Ow G' H' (L) ∧ G.le G' ∧ v = .bool r) (by kernel_rfl) rfl rfl ?_)
 refine .seq (.region (W.q1 (.bool false) rfl (.nil (.seq (.region (W.q2 (.string p0) rfl ?_))))))
 refine W.pure (v := (.int .i64 (p0.size : Int))) rfl rfl (len_str (oo rfl rfl) un40) (W.q3 (.bool (decide ((p0.size : Int) > 60))) rfl rfl (W.q1 (.bool (decide ((p0.size : Int) > 60))) rfl (.nil (.ret ?_))))
 obtain rfl := Option.some.inj h
 refine ret1R (P := Tryd.prog) (fn := Tryd.f51) (n := 6) (R := fun v H' => ∃ G', Ow G' H' (L) ∧ G.le G' ∧ v = .bool (decide ((p0.size : Int) > 60))) (v1 := (.bool (decide ((p0.size : Int) > 60)))) (by rfl) (rr_tmp (by rfl) (by exact rfl)) ?_
 exact ⟨_, O, (GM.le.refl _), rfl⟩
def g_R_RatSign (K : Nat) (p0 : ByteArray) : Option Int := ((g_R_parts K p0).bind fun x1 => (if (sEq x1.2.1 (⟨#[48]⟩ : ByteArray)) = true then some 0 else (if x1.1 = true then some (-1) else some 1)))
set_option maxHeartbeats 4000000 in
theorem g_R_RatSign_ok (K : Nat) {G : GM} {H : AH} {L : List Pc} (p0 : ByteArray) (O : Ow G H (L)) (r : Int) (h : g_R_RatSign K p0 = some r) :
    CR Tryd.prog 97 [(.string p0)] G H (L) (fun v G' _ => v = .int .i64 r) := by
 unfold g_R_RatSign at h
 refine CR.of (calls_of_AW (n := 17) (fn := Tryd.f97) (R := fun v H' => ∃ G', Ow G' H' (L) ∧ G.le G' ∧ v = .int .i64 r) (by kernel_rfl) rfl rfl ?_)
 refine .seq (.region (W.q1 (.int .i64 0) rfl (.nil (.seq (.region (W.q2 (.string p0) rfl ?_))))))
 obtain ⟨x1, i2, h3⟩ := bd_inv h
 refine W.lo rfl rfl (Lo.callP (ps := []) (ps' := []) rfl (fn := Tryd.f84) (by kernel_rfl) rfl (mc rfl mn) O (fun L' O' => g_R_parts_ok K p0 O' _ i2)) ?_
 rintro v10 H11 ⟨G4, O5, s6, sm9, rfl⟩
 replace O5 : Ow G4 H11 (L) := O5
 refine W.q2 (.tuple #[(.bool x1.1), (.string x1.2.1), (.string x1.2.2)]) rfl (W.pure (v := (.bool x1.1)) rfl rfl (v_extract (oo rfl rfl) rfl) (W.pure (v := (.string x1.2.1)) rfl rfl (v_extract (oo rfl rfl) rfl) (W.pure (v := (.string x1.2.2)) rfl rfl (v_extract (oo rfl rfl) rfl) (W.q1 (.bool x1.1) rfl (W.q1 (.string x1.2.1) rfl (W.q1 (.string x1.2.2) rfl ?_))))))
 refine .nil (.seq (.block (.seq (.region (W.q2 (.string x1.2.1) rfl (W.pure (v := (.bool (sEq x1.2.1 (⟨#[48]⟩ : ByteArray)))) rfl rfl (vs_eql (oo rfl rfl) (oo rfl rfl)) ?_))))))
 refine W.q1 (.bool (sEq x1.2.1 (⟨#[48]⟩ : ByteArray))) rfl (.nil (.cond (b := sEq x1.2.1 (⟨#[48]⟩ : ByteArray)) rfl rfl (fun g12 => ?_) (fun g12 => ?_)))
 ·have h13 := pos_inv g12 h3
  refine .seq (.region (W.q1 (.int .i64 0) rfl (.nil (.ret ?_))))
  obtain rfl := Option.some.inj h13
  refine ret1R (P := Tryd.prog) (fn := Tryd.f97) (n := 17) (R := fun v H' => ∃ G', Ow G' H' (L) ∧ G.le G' ∧ v = .int .i64 0) (v1 := (.int .i64 0)) (by rfl) (rr_tmp (by rfl) (by exact rfl)) ?_
  exact ⟨_, O5, s6, rfl⟩
 have h14 := neg_b g12 h3
 refine .seq (.region (W.q2 (.bool x1.1) rfl (W.q1 (.bool x1.1) rfl (.nil (.cond (b := x1.1) rfl rfl (fun g15 => ?_) (fun g15 => ?_))))))
 ·have h16 := pos_inv g15 h14
  refine .seq (.region (W.q1 (.int .i64 (-1)) rfl (.nil (.ret ?_))))
  obtain rfl := Option.some.inj h16
  refine ret1R (P := Tryd.prog) (fn := Tryd.f97) (n := 17) (R := fun v H' => ∃ G', Ow G' H' (L) ∧ G.le G' ∧ v = .int .i64 (-1)) (v1 := (.int .i64 (-1))) (by rfl) (rr_tmp (by rfl) (by exact rfl)) ?_
  exact ⟨_, O5, s6, rfl⟩
 have h17 := neg_b g15 h14
 refine .skip (.seq (.region (W.q1 (.int .i64 1) rfl (.nil (.ret ?_)))))
 obtain rfl := Option.some.inj h17
 refine ret1R (P := Tryd.prog) (fn := Tryd.f97) (n := 17) (R := fun v H' => ∃ G', Ow G' H' (L) ∧ G.le G' ∧ v = .int .i64 1) (v1 := (.int .i64 1)) (by rfl) (rr_tmp (by rfl) (by exact rfl)) ?_
 exact ⟨_, O5, s6, rfl⟩
def g_R_RatCmp (K : Nat) (p0 : ByteArray) (p1 : ByteArray) : Option Int := ((g_R_RatSub K p0 p1).bind fun x1 => ((g_R_RatSign K x1).bind fun x12 => some x12))
set_option maxHeartbeats 4000000 in
theorem g_R_RatCmp_ok (K : Nat) {G : GM} {H : AH} {L : List Pc} (p0 : ByteArray) (p1 : ByteArray) (O : Ow G H (L)) (r : Int) (h : g_R_RatCmp K p0 p1 = some r) :
    CR Tryd.prog 52 [(.string p0), (.string p1)] G H (L) (fun v G' _ => v = .int .i64 r) := by
 unfold g_R_RatCmp at h
 refine CR.of (calls_of_AW (n := 9) (fn := Tryd.f52) (R := fun v H' => ∃ G', Ow G' H' (L) ∧ G.le G' ∧ v = .int .i64 r) (by kernel_rfl) rfl rfl ?_)
 refine .seq (.region (W.q1 (.int .i64 0) rfl (.nil (.seq (.region (W.q2 (.string p0) rfl ?_))))))
 refine W.q2 (.string p1) rfl ?_
 obtain ⟨x1, i2, h3⟩ := bd_inv h
 refine W.lo rfl rfl (Lo.callP (ps := []) (ps' := []) rfl (fn := Tryd.f43) (by kernel_rfl) rfl (mc rfl (mc rfl mn)) O (fun L' O' => g_R_RatSub_ok K p0 p1 O' _ i2)) ?_
 rintro v10 H11 ⟨G4, O5, s6, sm9, rfl⟩
 replace O5 : Ow G4 H11 (L) := O5
 obtain ⟨x12, i13, h14⟩ := bd_inv h3
 refine W.lo rfl rfl (Lo.callP (ps := []) (ps' := []) rfl (fn := Tryd.f97) (by kernel_rfl) rfl (mc rfl mn) O5 (fun L' O' => g_R_RatSign_ok K x1 O' _ i13)) ?_
 rintro v21 H22 ⟨G15, O16, s17, sm20, rfl⟩
 replace O16 : Ow G15 H22 (L) := O16
 refine W.q1 (.int .i64 x12) rfl (.nil (.ret ?_))
 obtain rfl := Option.some.inj h14
 refine ret1R (P := Tryd.prog) (fn := Tryd.f52) (n := 9) (R := fun v H' => ∃ G', Ow G' H' (L) ∧ G.le G' ∧ v = .int .i64 x12) (v1 := (.int .i64 x12)) (by rfl) (rr_tmp (by rfl) (by exact rfl)) ?_
 exact ⟨_, O16, (GM.le.trans s6 s17), rfl⟩
def g_law_RatLists_l0 (K : Nat) (p0 : List ByteArray) : Nat → ByteArray → Int → Int → Option (ByteArray × Int)
  | 0, _, _, _ => none
  | k + 1, x167, x168, x169 => (if (decide (x169 ≥ 0)) = true then (Option.bind (((idx p0 x169).bind fun x185 => ((g_R_RatAdd K x185 x167).bind fun x189 => ((idx p0 x169).bind fun x205 => ((idx p0 x168).bind fun x209 => ((g_R_RatCmp K x205 x209).bind fun x213 => (if (decide (x213 ≤ 0)) = true then some (x189, x169) else some (x189, x168)))))))) (tu2 fun x227 x228 => g_law_RatLists_l0 K p0 k x227 x228 (kwrap .i64 (x169 - 1)))) else some (x167, x168))
def g_law_RatLists (K : Nat) (p0 : List ByteArray) : Option Bool := ((g_law_ratFact K ).bind fun x1 => (if (!x1) = true then some false else ((g_rat_Sum K p0).bind fun x15 => ((g_rat_Least K p0).bind fun x26 => (if (decide ((List.length p0 : Int) > 256)) = true then (Option.bind ((if (x15.2 == 2) = true then (if (x26.2 == 2) = true then (if (sEq x15.1 (⟨#[]⟩ : ByteArray)) = true then some (x26.1 == 0) else some false) else some false) else some false)) (tu1 fun x54 => some x54)) else (if ((List.length p0 : Int) == 0) = true then (Option.bind ((if (x15.2 == 0) = true then (if (sEq x15.1 (⟨#[48]⟩ : ByteArray)) = true then (if (x26.2 == 8) = true then some (x26.1 == 0) else some false) else some false) else some false)) (tu1 fun x82 => some x82)) else ((g_R_RatErrors K p0).bind fun x93 => (if (x93 != 0) = true then (Option.bind ((if (x15.2 == x93) = true then (if (x26.2 == x93) = true then (if (sEq x15.1 (⟨#[]⟩ : ByteArray)) = true then some (x26.1 == 0) else some false) else some false) else some false)) (tu1 fun x121 => some x121)) else (Option.bind ((if (decide ((List.length p0 : Int) > 12)) = true then some true else ((g_slices_ContainsFunc_api_Rat_api_Rat K p0 (fun x => g_law_RatLists_1 K x)).bind fun x139 => some x139))) (tu1 fun x150 => (if x150 = true then some true else (Option.bind (g_law_RatLists_l0 K p0 K (⟨#[48]⟩ : ByteArray) (kwrap .i64 ((List.length p0 : Int) - 1)) (kwrap .i64 ((List.length p0 : Int) - 1))) (tu2 fun x240 x241 => (Option.bind ((if (x15.2 == 0) = true then (if (sEq x15.1 x240) = true then (if (x26.2 == 0) = true then some (x26.1 == x241) else some false) else some false) else some false)) (tu1 fun x267 => some x267)))))))))))))))
set_option maxHeartbeats 4000000 in
theorem g_law_RatLists_ok (K : Nat) {G : GM} {H : AH} {L : List Pc} (v0 : Value) (p0 : List ByteArray) (hp0 : (rSl rS).rep G [v0] p0) (O : Ow G H (L)) (r : Bool) (h : g_law_RatLists K p0 = some r) :
    CR Tryd.prog 12 [v0] G H (L) (fun v G' _ => v = .bool r) := by
 unfold g_law_RatLists at h
 refine CR.of (calls_of_AW (n := 127) (fn := Tryd.f12) (R := fun v H' => ∃ G', Ow G' H' (L) ∧ G.le G' ∧ v = .bool r) (by kernel_rfl) rfl rfl ?_)
 refine .seq (.region (W.q1 (.bool false) rfl (.nil (.seq (.seq (.region ?_))))))
 obtain ⟨x1, i2, h3⟩ := bd_inv h
 refine W.lo rfl rfl (Lo.callP (ps := []) (ps' := []) rfl (fn := Tryd.f31) (by kernel_rfl) rfl mn O (fun L' O' => g_law_ratFact_ok K  O' _ i2)) ?_
 rintro v10 H11 ⟨G4, O5, s6, sm9, rfl⟩
 replace O5 : Ow G4 H11 (L) := O5
 refine W.pure (v := (.bool (!x1))) rfl rfl (bool_not (a := x1) (oo rfl rfl)) (.nil (.cond (b := (!x1)) rfl rfl (fun g12 => ?_) (fun g12 => ?_)))
 ·have h13 := pos_inv g12 h3
  refine .seq (.region (W.q1 (.bool false) rfl (.nil (.ret ?_))))
  obtain rfl := Option.some.inj h13
  refine ret1R (P := Tryd.prog) (fn := Tryd.f12) (n := 127) (R := fun v H' => ∃ G', Ow G' H' (L) ∧ G.le G' ∧ v = .bool false) (v1 := (.bool false)) (by rfl) (rr_tmp (by rfl) (by exact rfl)) ?_
  exact ⟨_, O5, s6, rfl⟩
 have h14 := neg_b g12 h3
 refine .skip (.seq (.region (W.q2 v0 rfl ?_)))
 obtain ⟨x15, i16, h17⟩ := bd_inv h14
 refine W.lo rfl rfl (Lo.callP (ps := []) (ps' := []) rfl (fn := Tryd.f48) (by kernel_rfl) rfl (mc rfl mn) O5 (fun L' O' => g_rat_Sum_ok K v0 p0 (RT.mono _ s6 hp0) O' _ i16)) ?_
 rintro v24 H25 ⟨G18, O19, s20, sm23, rfl⟩
 replace O19 : Ow G18 H25 (L) := O19
 refine W.q2 (.tuple #[(.string x15.1), (.int .i64 x15.2)]) rfl (W.pure (v := (.string x15.1)) rfl rfl (v_extract (oo rfl rfl) rfl) (W.pure (v := (.int .i64 x15.2)) rfl rfl (v_extract (oo rfl rfl) rfl) (W.q1 (.string x15.1) rfl (W.q1 (.int .i64 x15.2) rfl (.nil (.seq ?_))))))
 refine .region (W.q2 v0 rfl ?_)
 obtain ⟨x26, i27, h28⟩ := bd_inv h17
 refine W.lo rfl rfl (Lo.callP (ps := []) (ps' := []) rfl (fn := Tryd.f49) (by kernel_rfl) rfl (mc rfl mn) O19 (fun L' O' => g_rat_Least_ok K v0 p0 (RT.mono _ (GM.le.trans s6 s20) hp0) O' _ i27)) ?_
 rintro v35 H36 ⟨G29, O30, s31, sm34, rfl⟩
 replace O30 : Ow G29 H36 (L) := O30
 refine W.q2 (.tuple #[(.int .i64 x26.1), (.int .i64 x26.2)]) rfl (W.pure (v := (.int .i64 x26.1)) rfl rfl (v_extract (oo rfl rfl) rfl) (W.pure (v := (.int .i64 x26.2)) rfl rfl (v_extract (oo rfl rfl) rfl) (W.q1 (.int .i64 x26.1) rfl (W.q1 (.int .i64 x26.2) rfl (.nil (.seq ?_))))))
 refine .seq (.region (W.q2 v0 rfl (W.pure (v := (.int .i64 (List.length p0 : Int))) rfl rfl (len_sl (oo rfl rfl) (sl_len (RT.mono _ (GM.le.trans s6 (GM.le.trans s20 s31)) hp0)) (elemT_inv el41)) (W.q3 (.bool (decide ((List.length p0 : Int) > 256))) rfl rfl (.nil (.cond (b := decide ((List.length p0 : Int) > 256)) rfl rfl (fun g37 => ?_) (fun g37 => ?_)))))))
 ·have h38 := pos_inv g37 h28
  refine .seq ?_
  obtain ⟨q39, h40, h41⟩ := bd_inv h38
  refine AW.midT (fun σ' H' => ∃ (y1 : Bool) (G' : GM), y1 = q39 ∧ Ow G' H' (L) ∧ GM.le G29 G' ∧ σ' 2 = .bool y1) ?_ ?_
  rotate_left
  ·rintro σ55 H56 fr57 ⟨x54, G58, rfl, O59, s60, t62⟩
   have h63 := tu1_inv h41
   refine .ret ?_
   obtain rfl := Option.some.inj h63
   refine ret1R (P := Tryd.prog) (fn := Tryd.f12) (n := 127) (R := fun v H' => ∃ G', Ow G' H' (L) ∧ G.le G' ∧ v = .bool x54) (v1 := (.bool x54)) (by rfl) (rr_tmp (by rfl) (by exact t62)) ?_
   exact ⟨_, O59, (GM.le.trans s6 (GM.le.trans s20 (GM.le.trans s31 s60))), rfl⟩
  refine .region (W.q2 (.int .i64 x15.2) rfl (W.q3 (.bool (x15.2 == 2)) rfl rfl (W.q2 (.bool (x15.2 == 2)) rfl (W.splitAt (t := 28) (b := (x15.2 == 2)) rfl (fun g42 gv43 => ?_) (fun g42 gv43 => ?_)))))
  rotate_left
  ·have h53 := neg_b g42 h40
   refine W.q6 rfl gv43 (W.q6 rfl gv43 (W.q5 (.bool false) gv43 rfl (W.q2 (.bool false) rfl (W.q6 rfl rfl (W.q6 rfl rfl (W.q5 (.bool false) rfl rfl ?_))))))
   refine W.q2 (.bool false) rfl (W.q6 rfl rfl (W.q6 rfl rfl (W.q5 (.bool false) rfl rfl (W.q1 (.bool false) rfl (.nil ?_)))))
   obtain rfl := Option.some.inj h53
   exact ⟨false, _, rfl, O30, (GM.le.refl _), rfl⟩
  have h44 := pos_inv g42 h40
  refine W.q2 (hg := gk rfl rfl gv43 rfl) (.int .i64 x26.2) rfl (W.q3 (hg := gk rfl rfl gv43 rfl) (.bool (x26.2 == 2)) rfl rfl (W.q4 (.bool (x26.2 == 2)) gv43 rfl (W.q2 (.bool (x26.2 == 2)) rfl (W.splitAt (t := 32) (b := (x26.2 == 2)) rfl (fun g45 gv46 => ?_) (fun g45 gv46 => ?_)))))
  rotate_left
  ·have h52 := neg_b g45 h44
   refine W.q6 rfl gv46 (W.q6 rfl gv46 (W.q5 (.bool false) gv46 rfl (W.q2 (.bool false) rfl (W.q6 rfl rfl (W.q6 rfl rfl (W.q5 (.bool false) rfl rfl ?_))))))
   refine W.q1 (.bool false) rfl (.nil ?_)
   obtain rfl := Option.some.inj h52
   exact ⟨false, _, rfl, O30, (GM.le.refl _), rfl⟩
  have h47 := pos_inv g45 h44
  refine W.q2 (hg := gk rfl rfl gv46 rfl) (.string x15.1) rfl (W.pure (v := (.bool (sEq x15.1 (⟨#[]⟩ : ByteArray)))) (gk rfl rfl gv46 rfl) rfl (vs_eql (oo rfl rfl) (oo rfl rfl)) (W.q4 (.bool (sEq x15.1 (⟨#[]⟩ : ByteArray))) gv46 rfl (W.q2 (.bool (sEq x15.1 (⟨#[]⟩ : ByteArray))) rfl (W.splitAt (t := 36) (b := sEq x15.1 (⟨#[]⟩ : ByteArray)) rfl (fun g48 gv49 => ?_) (fun g48 gv49 => ?_)))))
  rotate_left
  ·have h51 := neg_b g48 h47
   refine W.q6 rfl gv49 (W.q6 rfl gv49 (W.q5 (.bool false) gv49 rfl (W.q1 (.bool false) rfl (.nil ?_))))
   obtain rfl := Option.some.inj h51
   exact ⟨false, _, rfl, O30, (GM.le.refl _), rfl⟩
  have h50 := pos_inv g48 h47
  refine W.q2 (hg := gk rfl rfl gv49 rfl) (.int .i64 x26.1) rfl (W.q3 (hg := gk rfl rfl gv49 rfl) (.bool (x26.1 == 0)) rfl rfl (W.q4 (.bool (x26.1 == 0)) gv49 rfl (W.q1 (.bool (x26.1 == 0)) rfl (.nil ?_))))
  obtain rfl := Option.some.inj h50
  exact ⟨(x26.1 == 0), _, rfl, O30, (GM.le.refl _), rfl⟩
 have h64 := neg_b g37 h28
 refine .skip (.seq (.seq (.region (W.q2 v0 rfl (W.pure (v := (.int .i64 (List.length p0 : Int))) rfl rfl (len_sl (oo rfl rfl) (sl_len (RT.mono _ (GM.le.trans s6 (GM.le.trans s20 s31)) hp0)) (elemT_inv el41)) (W.q3 (.bool ((List.length p0 : Int) == 0)) rfl rfl ?_))))))
 refine .nil (.cond (b := ((List.length p0 : Int) == 0)) rfl rfl (fun g65 => ?_) (fun g65 => ?_))
 ·have h66 := pos_inv g65 h64
  refine .seq ?_
  obtain ⟨q67, h68, h69⟩ := bd_inv h66
  refine AW.midT (fun σ' H' => ∃ (y1 : Bool) (G' : GM), y1 = q67 ∧ Ow G' H' (L) ∧ GM.le G29 G' ∧ σ' 2 = .bool y1) ?_ ?_
  rotate_left
  ·rintro σ83 H84 fr85 ⟨x82, G86, rfl, O87, s88, t90⟩
   have h91 := tu1_inv h69
   refine .ret ?_
   obtain rfl := Option.some.inj h91
   refine ret1R (P := Tryd.prog) (fn := Tryd.f12) (n := 127) (R := fun v H' => ∃ G', Ow G' H' (L) ∧ G.le G' ∧ v = .bool x82) (v1 := (.bool x82)) (by rfl) (rr_tmp (by rfl) (by exact t90)) ?_
   exact ⟨_, O87, (GM.le.trans s6 (GM.le.trans s20 (GM.le.trans s31 s88))), rfl⟩
  refine .region (W.q2 (.int .i64 x15.2) rfl (W.q3 (.bool (x15.2 == 0)) rfl rfl (W.q2 (.bool (x15.2 == 0)) rfl (W.splitAt (t := 45) (b := (x15.2 == 0)) rfl (fun g70 gv71 => ?_) (fun g70 gv71 => ?_)))))
  rotate_left
  ·have h81 := neg_b g70 h68
   refine W.q6 rfl gv71 (W.q6 rfl gv71 (W.q5 (.bool false) gv71 rfl (W.q2 (.bool false) rfl (W.q6 rfl rfl (W.q6 rfl rfl (W.q5 (.bool false) rfl rfl ?_))))))
   refine W.q2 (.bool false) rfl (W.q6 rfl rfl (W.q6 rfl rfl (W.q5 (.bool false) rfl rfl (W.q1 (.bool false) rfl (.nil ?_)))))
   obtain rfl := Option.some.inj h81
   exact ⟨false, _, rfl, O30, (GM.le.refl _), rfl⟩
  have h72 := pos_inv g70 h68
  refine W.q2 (hg := gk rfl rfl gv71 rfl) (.string x15.1) rfl (W.pure (v := (.bool (sEq x15.1 (⟨#[48]⟩ : ByteArray)))) (gk rfl rfl gv71 rfl) rfl (vs_eql (oo rfl rfl) (oo rfl rfl)) (W.q4 (.bool (sEq x15.1 (⟨#[48]⟩ : ByteArray))) gv71 rfl (W.q2 (.bool (sEq x15.1 (⟨#[48]⟩ : ByteArray))) rfl (W.splitAt (t := 49) (b := sEq x15.1 (⟨#[48]⟩ : ByteArray)) rfl (fun g73 gv74 => ?_) (fun g73 gv74 => ?_)))))
  rotate_left
  ·have h80 := neg_b g73 h72
   refine W.q6 rfl gv74 (W.q6 rfl gv74 (W.q5 (.bool false) gv74 rfl (W.q2 (.bool false) rfl (W.q6 rfl rfl (W.q6 rfl rfl (W.q5 (.bool false) rfl rfl ?_))))))
   refine W.q1 (.bool false) rfl (.nil ?_)
   obtain rfl := Option.some.inj h80
   exact ⟨false, _, rfl, O30, (GM.le.refl _), rfl⟩
  have h75 := pos_inv g73 h72
  refine W.q2 (hg := gk rfl rfl gv74 rfl) (.int .i64 x26.2) rfl (W.q3 (hg := gk rfl rfl gv74 rfl) (.bool (x26.2 == 8)) rfl rfl (W.q4 (.bool (x26.2 == 8)) gv74 rfl (W.q2 (.bool (x26.2 == 8)) rfl (W.splitAt (t := 53) (b := (x26.2 == 8)) rfl (fun g76 gv77 => ?_) (fun g76 gv77 => ?_)))))
  rotate_left
  ·have h79 := neg_b g76 h75
   refine W.q6 rfl gv77 (W.q6 rfl gv77 (W.q5 (.bool false) gv77 rfl (W.q1 (.bool false) rfl (.nil ?_))))
   obtain rfl := Option.some.inj h79
   exact ⟨false, _, rfl, O30, (GM.le.refl _), rfl⟩
  have h78 := pos_inv g76 h75
  refine W.q2 (hg := gk rfl rfl gv77 rfl) (.int .i64 x26.1) rfl (W.q3 (hg := gk rfl rfl gv77 rfl) (.bool (x26.1 == 0)) rfl rfl (W.q4 (.bool (x26.1 == 0)) gv77 rfl (W.q1 (.bool (x26.1 == 0)) rfl (.nil ?_))))
  obtain rfl := Option.some.inj h78
  exact ⟨(x26.1 == 0), _, rfl, O30, (GM.le.refl _), rfl⟩
 have h92 := neg_b g65 h64
 refine .skip (.seq (.seq (.region (W.q2 v0 rfl ?_))))
 obtain ⟨x93, i94, h95⟩ := bd_inv h92
 refine W.lo rfl rfl (Lo.callP (ps := []) (ps' := []) rfl (fn := Tryd.f35) (by kernel_rfl) rfl (mc rfl mn) O30 (fun L' O' => g_R_RatErrors_ok K v0 p0 (RT.mono _ (GM.le.trans s6 (GM.le.trans s20 s31)) hp0) O' _ i94)) ?_
 rintro v102 H103 ⟨G96, O97, s98, sm101, rfl⟩
 replace O97 : Ow G96 H103 (L) := O97
 refine W.q1 (.int .i64 x93) rfl (.nil (.seq (.region (W.q2 (.int .i64 x93) rfl (W.q3 (.bool (x93 != 0)) rfl rfl (.nil ?_))))))
 refine .cond (b := (x93 != 0)) rfl rfl (fun g104 => ?_) (fun g104 => ?_)
 ·have h105 := pos_inv g104 h95
  refine .seq ?_
  obtain ⟨q106, h107, h108⟩ := bd_inv h105
  refine AW.midT (fun σ' H' => ∃ (y1 : Bool) (G' : GM), y1 = q106 ∧ Ow G' H' (L) ∧ GM.le G96 G' ∧ σ' 2 = .bool y1) ?_ ?_
  rotate_left
  ·rintro σ122 H123 fr124 ⟨x121, G125, rfl, O126, s127, t129⟩
   have h130 := tu1_inv h108
   refine .ret ?_
   obtain rfl := Option.some.inj h130
   refine ret1R (P := Tryd.prog) (fn := Tryd.f12) (n := 127) (R := fun v H' => ∃ G', Ow G' H' (L) ∧ G.le G' ∧ v = .bool x121) (v1 := (.bool x121)) (by rfl) (rr_tmp (by rfl) (by exact t129)) ?_
   exact ⟨_, O126, (GM.le.trans s6 (GM.le.trans s20 (GM.le.trans s31 (GM.le.trans s98 s127)))), rfl⟩
  refine .region (W.q2 (.int .i64 x15.2) rfl (W.q2 (.int .i64 x93) rfl (W.q3 (.bool (x15.2 == x93)) rfl rfl (W.q2 (.bool (x15.2 == x93)) rfl (W.splitAt (t := 64) (b := (x15.2 == x93)) rfl (fun g109 gv110 => ?_) (fun g109 gv110 => ?_))))))
  rotate_left
  ·have h120 := neg_b g109 h107
   refine W.q6 rfl gv110 (W.q6 rfl gv110 (W.q6 rfl gv110 (W.q5 (.bool false) gv110 rfl (W.q2 (.bool false) rfl (W.q6 rfl rfl (W.q6 rfl rfl ?_))))))
   refine W.q5 (.bool false) rfl rfl (W.q2 (.bool false) rfl (W.q6 rfl rfl (W.q6 rfl rfl (W.q5 (.bool false) rfl rfl (W.q1 (.bool false) rfl (.nil ?_))))))
   obtain rfl := Option.some.inj h120
   exact ⟨false, _, rfl, O97, (GM.le.refl _), rfl⟩
  have h111 := pos_inv g109 h107
  refine W.q2 (hg := gk rfl rfl gv110 rfl) (.int .i64 x26.2) rfl (W.q2 (hg := gk rfl rfl gv110 rfl) (.int .i64 x93) rfl (W.q3 (hg := gk rfl rfl gv110 rfl) (.bool (x26.2 == x93)) rfl rfl (W.q4 (.bool (x26.2 == x93)) gv110 rfl (W.q2 (.bool (x26.2 == x93)) rfl (W.splitAt (t := 69) (b := (x26.2 == x93)) rfl (fun g112 gv113 => ?_) (fun g112 gv113 => ?_))))))
  rotate_left
  ·have h119 := neg_b g112 h111
   refine W.q6 rfl gv113 (W.q6 rfl gv113 (W.q5 (.bool false) gv113 rfl (W.q2 (.bool false) rfl (W.q6 rfl rfl (W.q6 rfl rfl (W.q5 (.bool false) rfl rfl ?_))))))
   refine W.q1 (.bool false) rfl (.nil ?_)
   obtain rfl := Option.some.inj h119
   exact ⟨false, _, rfl, O97, (GM.le.refl _), rfl⟩
  have h114 := pos_inv g112 h111
  refine W.q2 (hg := gk rfl rfl gv113 rfl) (.string x15.1) rfl (W.pure (v := (.bool (sEq x15.1 (⟨#[]⟩ : ByteArray)))) (gk rfl rfl gv113 rfl) rfl (vs_eql (oo rfl rfl) (oo rfl rfl)) (W.q4 (.bool (sEq x15.1 (⟨#[]⟩ : ByteArray))) gv113 rfl (W.q2 (.bool (sEq x15.1 (⟨#[]⟩ : ByteArray))) rfl (W.splitAt (t := 73) (b := sEq x15.1 (⟨#[]⟩ : ByteArray)) rfl (fun g115 gv116 => ?_) (fun g115 gv116 => ?_)))))
  rotate_left
  ·have h118 := neg_b g115 h114
   refine W.q6 rfl gv116 (W.q6 rfl gv116 (W.q5 (.bool false) gv116 rfl (W.q1 (.bool false) rfl (.nil ?_))))
   obtain rfl := Option.some.inj h118
   exact ⟨false, _, rfl, O97, (GM.le.refl _), rfl⟩
  have h117 := pos_inv g115 h114
  refine W.q2 (hg := gk rfl rfl gv116 rfl) (.int .i64 x26.1) rfl (W.q3 (hg := gk rfl rfl gv116 rfl) (.bool (x26.1 == 0)) rfl rfl (W.q4 (.bool (x26.1 == 0)) gv116 rfl (W.q1 (.bool (x26.1 == 0)) rfl (.nil ?_))))
  obtain rfl := Option.some.inj h117
  exact ⟨(x26.1 == 0), _, rfl, O97, (GM.le.refl _), rfl⟩
 have h131 := neg_b g104 h95
 refine .skip (.seq (.seq ?_))
 obtain ⟨q132, h133, h134⟩ := bd_inv h131
 refine AW.midT (fun σ' H' => ∃ (y1 : Bool) (G' : GM), y1 = q132 ∧ Ow G' H' (L) ∧ GM.le G96 G' ∧ σ' 83 = .bool y1) ?_ ?_
 ·refine .region (W.q2 v0 rfl (W.pure (v := (.int .i64 (List.length p0 : Int))) rfl rfl (len_sl (oo rfl rfl) (sl_len (RT.mono _ (GM.le.trans s6 (GM.le.trans s20 (GM.le.trans s31 s98))) hp0)) (elemT_inv el41)) (W.q3 (.bool (decide ((List.length p0 : Int) > 12))) rfl rfl (W.q2 (.bool (decide ((List.length p0 : Int) > 12))) rfl (W.splitAt (t := 80) (b := decide ((List.length p0 : Int) > 12)) rfl (fun g135 gv136 => ?_) (fun g135 gv136 => ?_))))))
  ·have h137 := pos_inv g135 h133
   refine W.q6 rfl gv136 (W.q6 rfl gv136 (W.q4 (.bool true) gv136 rfl (.nil ?_)))
   obtain rfl := Option.some.inj h137
   exact ⟨true, _, rfl, O97, (GM.le.refl _), rfl⟩
  have h138 := neg_b g135 h133
  refine W.q2 (hg := gk rfl rfl gv136 rfl) v0 rfl ?_
  obtain ⟨x139, i140, h141⟩ := bd_inv h138
  refine W.lo (gk rfl rfl gv136 rfl) rfl (Lo.callP (ps := []) (ps' := []) rfl (fn := Tryd.f50) (by kernel_rfl) rfl (mc rfl (mc rfl mn)) O97 (fun L' O' => g_slices_ContainsFunc_api_Rat_api_Rat_ok K v0 p0 (RT.mono _ (GM.le.trans s6 (GM.le.trans s20 (GM.le.trans s31 s98))) hp0) (.func (.func 51) #[] #[]) (fun x => g_law_RatLists_1 K x) ⟨51, _, _, Tryd.f51, rfl, by kernel_rfl, rfl, fun G1 H L vs x r hG O hA hF => by obtain rfl := hA; exact g_law_RatLists_1_ok K x O _ hF⟩ O' _ i140)) ?_
  rintro v148 H149 ⟨G142, O143, s144, sm147, rfl⟩
  replace O143 : Ow G142 H149 (L) := O143
  refine W.q5 (.bool x139) gv136 rfl (.nil ?_)
  obtain rfl := Option.some.inj h141
  exact ⟨x139, _, rfl, O143, s144, rfl⟩
 rintro σ151 H152 fr153 ⟨x150, G154, rfl, O155, s156, t158⟩
 have h159 := tu1_inv h134
 refine .cond (b := x150) rfl t158 (fun g160 => ?_) (fun g160 => ?_)
 ·have h161 := pos_inv g160 h159
  refine .seq (.region (W.q1 (.bool true) rfl (.nil (.ret ?_))))
  obtain rfl := Option.some.inj h161
  refine ret1R (P := Tryd.prog) (fn := Tryd.f12) (n := 127) (R := fun v H' => ∃ G', Ow G' H' (L) ∧ G.le G' ∧ v = .bool true) (v1 := (.bool true)) (by rfl) (rr_tmp (by rfl) (by exact rfl)) ?_
  exact ⟨_, O155, (GM.le.trans s6 (GM.le.trans s20 (GM.le.trans s31 (GM.le.trans s98 s156)))), rfl⟩
 have h162 := neg_b g160 h159
 refine .skip (.seq (.region (W.q2 v0 ((fr153 0 rfl).trans rfl) (W.pure (v := (.int .i64 (List.length p0 : Int))) rfl rfl (len_sl (oo rfl rfl) (sl_len (RT.mono _ (GM.le.trans s6 (GM.le.trans s20 (GM.le.trans s31 (GM.le.trans s98 s156)))) hp0)) (elemT_inv el41)) (W.q3 (.int .i64 (kwrap .i64 ((List.length p0 : Int) - 1))) rfl rfl (W.q1 (.string (⟨#[48]⟩ : ByteArray)) rfl ?_))))))
 refine W.q1 (.int .i64 (kwrap .i64 ((List.length p0 : Int) - 1))) rfl (.nil (.seq (.seq (.region (W.q2 v0 ((fr153 0 rfl).trans rfl) (W.pure (v := (.int .i64 (List.length p0 : Int))) rfl rfl (len_sl (oo rfl rfl) (sl_len (RT.mono _ (GM.le.trans s6 (GM.le.trans s20 (GM.le.trans s31 (GM.le.trans s98 s156)))) hp0)) (elemT_inv el41)) ?_))))))
 refine W.q3 (.int .i64 (kwrap .i64 ((List.length p0 : Int) - 1))) rfl rfl (W.q1 (.int .i64 (kwrap .i64 ((List.length p0 : Int) - 1))) rfl (.nil ?_))
 obtain ⟨q163, h164, h165⟩ := bd_inv h162
 refine AW.midT (fun σ' H' => ∃ (y1 : ByteArray) (y2 : Int) (G' : GM), (y1, y2) = q163 ∧ Ow G' H' (L) ∧ GM.le G154 G' ∧ σ' 8 = .string y1 ∧ σ' 9 = .int .i64 y2) ?_ ?_
 rotate_left
 ·rintro σ242 H243 fr244 ⟨x240, x241, G245, rfl, O246, s247, t249, t250⟩
  have h251 := tu2_inv h165
  refine .seq ?_
  obtain ⟨q252, h253, h254⟩ := bd_inv h251
  refine AW.midT (fun σ' H' => ∃ (y1 : Bool) (G' : GM), y1 = q252 ∧ Ow G' H' (L) ∧ GM.le G245 G' ∧ σ' 2 = .bool y1) ?_ ?_
  rotate_left
  ·rintro σ268 H269 fr270 ⟨x267, G271, rfl, O272, s273, t275⟩
   have h276 := tu1_inv h254
   refine .ret ?_
   obtain rfl := Option.some.inj h276
   refine ret1R (P := Tryd.prog) (fn := Tryd.f12) (n := 127) (R := fun v H' => ∃ G', Ow G' H' (L) ∧ G.le G' ∧ v = .bool x267) (v1 := (.bool x267)) (by rfl) (rr_tmp (by rfl) (by exact t275)) ?_
   exact ⟨_, O272, (GM.le.trans s6 (GM.le.trans s20 (GM.le.trans s31 (GM.le.trans s98 (GM.le.trans s156 (GM.le.trans s247 s273)))))), rfl⟩
  refine .region (W.q2 (.int .i64 x15.2) ((fr244 4 rfl).trans ((fr153 4 rfl).trans rfl)) (W.q3 (.bool (x15.2 == 0)) rfl rfl (W.q2 (.bool (x15.2 == 0)) rfl (W.splitAt (t := 113) (b := (x15.2 == 0)) rfl (fun g255 gv256 => ?_) (fun g255 gv256 => ?_)))))
  rotate_left
  ·have h266 := neg_b g255 h253
   refine W.q6 rfl gv256 (W.q6 rfl gv256 (W.q6 rfl gv256 (W.q5 (.bool false) gv256 rfl (W.q2 (.bool false) rfl (W.q6 rfl rfl (W.q6 rfl rfl ?_))))))
   refine W.q5 (.bool false) rfl rfl (W.q2 (.bool false) rfl (W.q6 rfl rfl (W.q6 rfl rfl (W.q6 rfl rfl (W.q5 (.bool false) rfl rfl (W.q1 (.bool false) rfl ?_))))))
   refine .nil ?_
   obtain rfl := Option.some.inj h266
   exact ⟨false, _, rfl, O246, (GM.le.refl _), rfl⟩
  have h257 := pos_inv g255 h253
  refine W.q2 (hg := gk rfl rfl gv256 rfl) (.string x15.1) ((fr244 3 rfl).trans ((fr153 3 rfl).trans rfl)) (W.q2 (hg := gk rfl rfl gv256 rfl) (.string x240) t249 (W.pure (v := (.bool (sEq x15.1 x240))) (gk rfl rfl gv256 rfl) rfl (vs_eql (oo rfl rfl) (oo rfl rfl)) (W.q4 (.bool (sEq x15.1 x240)) gv256 rfl (W.q2 (.bool (sEq x15.1 x240)) rfl (W.splitAt (t := 118) (b := sEq x15.1 x240) rfl (fun g258 gv259 => ?_) (fun g258 gv259 => ?_))))))
  rotate_left
  ·have h265 := neg_b g258 h257
   refine W.q6 rfl gv259 (W.q6 rfl gv259 (W.q5 (.bool false) gv259 rfl (W.q2 (.bool false) rfl (W.q6 rfl rfl (W.q6 rfl rfl (W.q6 rfl rfl ?_))))))
   refine W.q5 (.bool false) rfl rfl (W.q1 (.bool false) rfl (.nil ?_))
   obtain rfl := Option.some.inj h265
   exact ⟨false, _, rfl, O246, (GM.le.refl _), rfl⟩
  have h260 := pos_inv g258 h257
  refine W.q2 (hg := gk rfl rfl gv259 rfl) (.int .i64 x26.2) ((fr244 6 rfl).trans ((fr153 6 rfl).trans rfl)) (W.q3 (hg := gk rfl rfl gv259 rfl) (.bool (x26.2 == 0)) rfl rfl (W.q4 (.bool (x26.2 == 0)) gv259 rfl (W.q2 (.bool (x26.2 == 0)) rfl (W.splitAt (t := 122) (b := (x26.2 == 0)) rfl (fun g261 gv262 => ?_) (fun g261 gv262 => ?_)))))
  rotate_left
  ·have h264 := neg_b g261 h260
   refine W.q6 rfl gv262 (W.q6 rfl gv262 (W.q6 rfl gv262 (W.q5 (.bool false) gv262 rfl (W.q1 (.bool false) rfl (.nil ?_)))))
   obtain rfl := Option.some.inj h264
   exact ⟨false, _, rfl, O246, (GM.le.refl _), rfl⟩
  have h263 := pos_inv g261 h260
  refine W.q2 (hg := gk rfl rfl gv262 rfl) (.int .i64 x26.1) ((fr244 5 rfl).trans ((fr153 5 rfl).trans rfl)) (W.q2 (hg := gk rfl rfl gv262 rfl) (.int .i64 x241) t250 (W.q3 (hg := gk rfl rfl gv262 rfl) (.bool (x26.1 == x241)) rfl rfl (W.q4 (.bool (x26.1 == x241)) gv262 rfl (W.q1 (.bool (x26.1 == x241)) rfl (.nil ?_)))))
  obtain rfl := Option.some.inj h263
  exact ⟨(x26.1 == x241), _, rfl, O246, (GM.le.refl _), rfl⟩
 refine .block (AW.loop (α := Nat) (fun k' σ' H' => ∃ (y1 : ByteArray) (y2 : Int) (y3 : Int) (G' : GM), g_law_RatLists_l0 K p0 k' y1 y2 y3 = some q163 ∧ Ow G' H' (L) ∧ GM.le G154 G' ∧ σ' 8 = .string y1 ∧ σ' 9 = .int .i64 y2 ∧ σ' 10 = .int .i64 y3) (fun k' => k') K ⟨(⟨#[48]⟩ : ByteArray), kwrap .i64 ((List.length p0 : Int) - 1), kwrap .i64 ((List.length p0 : Int) - 1), _, h164, O155, (GM.le.refl _), rfl, rfl, rfl⟩ ?_)
 rintro k166
 rintro σ170 H171 fr172 ⟨x167, x168, x169, G173, h176, O174, s175, t177, t178, t179⟩
 rcases k166 with _ | k166
 ·exact none_absurd h176
 rw [g_law_RatLists_l0] at h176
 refine .seq (.seq (.region (W.q2 (.int .i64 x169) t179 (W.q3 (.bool (decide (x169 ≥ 0))) rfl rfl (.nil (.cond (b := decide (x169 ≥ 0)) rfl rfl (fun g180 => ?_) (fun g180 => ?_)))))))
 rotate_left
 ·have h239 := neg_b g180 h176
  refine .exit ?_
  obtain rfl := Option.some.inj h239
  exact ⟨x167, x168, _, rfl, O174, s175, t177, t178⟩
 have h181 := pos_inv g180 h176
 refine .skip (.seq ?_)
 obtain ⟨q182, h183, h184⟩ := bd_inv h181
 refine AW.midT (fun σ' H' => ∃ (y1 : ByteArray) (y2 : Int) (G' : GM), (y1, y2) = q182 ∧ Ow G' H' (L) ∧ GM.le G173 G' ∧ σ' 8 = .string y1 ∧ σ' 9 = .int .i64 y2) ?_ ?_
 rotate_left
 ·rintro σ229 H230 fr231 ⟨x227, x228, G232, rfl, O233, s234, t236, t237⟩
  have h238 := tu2_inv h184
  refine .region (W.q2 (.int .i64 x169) ((fr231 10 rfl).trans t179) (W.q3 (.int .i64 (kwrap .i64 (x169 - 1))) rfl rfl (W.q1 (.int .i64 (kwrap .i64 (x169 - 1))) rfl (.nil ?_))))
  exact ⟨k166, Nat.lt_succ_self _, ⟨x227, x228, kwrap .i64 (x169 - 1), _, h238, O233, (GM.le.trans s175 s234), t236, t237, rfl⟩⟩
 refine .block (.seq (.region (W.q2 v0 ((fr172 0 rfl).trans ((fr153 0 rfl).trans rfl)) (W.q2 (.int .i64 x169) t179 ?_))))
 obtain ⟨x185, i186, h187⟩ := bd_inv h183
 have j188 := idx_inv i186
 refine W.pure (v := (selem v0 (Int.toNat x169 * 1))) rfl rfl (v_idx el41 sz40 (oo rfl rfl) (oo rfl rfl) (sl_len (RT.mono _ (GM.le.trans s6 (GM.le.trans s20 (GM.le.trans s31 (GM.le.trans s98 (GM.le.trans s156 s175))))) hp0)) j188.1 j188.2.1) (W.load1 (v := (.string x185)) (r := []) rfl rfl ag40 (pt_px rfl (At.str (At.le (At.le (sl_idx hp0 j188.2.2) (GM.le.trans s6 (GM.le.trans s20 (GM.le.trans s31 (GM.le.trans s98 (GM.le.trans s156 s175))))) (GM.le.trans s6 (GM.le.trans s20 (GM.le.trans s31 (GM.le.trans s98 (GM.le.trans s156 s175)))))) (GM.le.refl _) O174.fro))) (W.q2 (.string x167) t177 ?_))
 obtain ⟨x189, i190, h191⟩ := bd_inv h187
 refine W.lo rfl rfl (Lo.callP (ps := []) (ps' := []) rfl (fn := Tryd.f42) (by kernel_rfl) rfl (mc rfl (mc rfl mn)) O174 (fun L' O' => g_R_RatAdd_ok K x185 x167 O' _ i190)) ?_
 rintro v198 H199 ⟨G192, O193, s194, sm197, rfl⟩
 replace O193 : Ow G192 H199 (L) := O193
 refine W.q1 (.string x189) rfl (.nil (.seq (.draw2 (M := [0, 0, 3, 7, 0, 0, 48, 112, 255, 511]) mixed (by kernel_rfl) (by kernel_rfl) fun H200 N204 x201 F203 => ?_)))
 have O202 := O193.ext x201
 refine D2.q2 v0 ((fr172 0 rfl).trans ((fr153 0 rfl).trans rfl)) (D2.q2 (.int .i64 x169) t179 ?_)
 obtain ⟨x205, i206, h207⟩ := bd_inv h191
 have j208 := idx_inv i206
 refine D2.pure (v := (selem v0 (Int.toNat x169 * 1))) rfl rfl (v_idx el41 sz40 (oo rfl rfl) (oo rfl rfl) (sl_len (RT.mono _ (GM.le.trans s6 (GM.le.trans s20 (GM.le.trans s31 (GM.le.trans s98 (GM.le.trans s156 (GM.le.trans s175 s194)))))) hp0)) j208.1 j208.2.1) (D2.load1' (v := (.string x205)) (r := []) rfl rfl ag40 (pt_px rfl (At.str (At.le (At.le (sl_idx hp0 j208.2.2) (GM.le.trans s6 (GM.le.trans s20 (GM.le.trans s31 (GM.le.trans s98 (GM.le.trans s156 (GM.le.trans s175 s194)))))) (GM.le.trans s6 (GM.le.trans s20 (GM.le.trans s31 (GM.le.trans s98 (GM.le.trans s156 (GM.le.trans s175 s194))))))) (GM.le.refl _) O202.fro))) fa_nil (D2.q2 v0 ((fr172 0 rfl).trans ((fr153 0 rfl).trans rfl)) (D2.q2 (.int .i64 x168) t178 ?_)))
 obtain ⟨x209, i210, h211⟩ := bd_inv h207
 have j212 := idx_inv i210
 refine D2.pure (v := (selem v0 (Int.toNat x168 * 1))) rfl rfl (v_idx el41 sz40 (oo rfl rfl) (oo rfl rfl) (sl_len (RT.mono _ (GM.le.trans s6 (GM.le.trans s20 (GM.le.trans s31 (GM.le.trans s98 (GM.le.trans s156 (GM.le.trans s175 s194)))))) hp0)) j212.1 j212.2.1) (D2.load1' (v := (.string x209)) (r := []) rfl rfl ag40 (pt_px rfl (At.str (At.le (At.le (sl_idx hp0 j212.2.2) (GM.le.trans s6 (GM.le.trans s20 (GM.le.trans s31 (GM.le.trans s98 (GM.le.trans s156 (GM.le.trans s175 s194)))))) (GM.le.trans s6 (GM.le.trans s20 (GM.le.trans s31 (GM.le.trans s98 (GM.le.trans s156 (GM.le.trans s175 s194))))))) (GM.le.refl _) O202.fro))) fa_nil ?_)
 obtain ⟨x213, i214, h215⟩ := bd_inv h211
 refine D2.lo rfl rfl (Lo.callP (ps := []) (ps' := []) rfl (fn := Tryd.f52) (by kernel_rfl) rfl (mc rfl (mc rfl mn)) O202 (fun L' O' => g_R_RatCmp_ok K x205 x209 O' _ i214)) ?_ fa_nil ?_ ?_
 ·rintro v222 H223 ⟨G216, O217, s218, sm221, rfl⟩; exact (faR1 (.inl (by decide)) (faR1 (.inl (by decide)) fa_nil))
 ·rintro v222 H223 ⟨G216, O217, s218, sm221, rfl⟩; exact fa_nil
 rintro v222 H223 ⟨G216, O217, s218, sm221, rfl⟩
 replace O217 : Ow G216 H223 (L) := O217
 refine D2.q3 (.bool (decide (x213 ≤ 0))) rfl rfl (.nil (.cond (b := decide (x213 ≤ 0)) rfl rfl (fun g224 => ?_) (fun g224 => ?_)))
 rotate_left
 ·have h226 := neg_b g224 h215
  refine .skip ?_
  obtain rfl := Option.some.inj h226
  exact ⟨x189, x168, _, rfl, O217, (GM.le.trans s194 s218), rfl, t178⟩
 have h225 := pos_inv g224 h215
 refine .region (W.q2 (.int .i64 x169) t179 (W.q1 (.int .i64 x169) rfl (.nil ?_)))
 obtain rfl := Option.some.inj h225
 exact ⟨x189, x169, _, rfl, O217, (GM.le.trans s194 s218), rfl, rfl⟩
end Go.Am.Tryd
/- Plain lemmas for typed functions: loops over lists, texts, whole numbers. -/
namespace Go.Am
open Go
set_option linter.unusedSimpArgs false
set_option linter.unusedVariables false

/-! ### Whole numbers -/
theorem kw {a : Int} (h1 : -9223372036854775808 ≤ a) (h2 : a ≤ 9223372036854775807) : kwrap .i64 a = a := kwrap_in (krange_i64 h1 h2)
theorem kw1 {i n : Nat} (h : i < n) (hn : n ≤ 4611686018427387904) : kwrap .i64 ((i : Int) + 1) = ((i + 1 : Nat) : Int) := by rw [kw (by omega) (by omega)]; omega
theorem idx_nat {α : Type} {xs : List α} {i : Nat} {x : α} (h : xs[i]? = some x) : idx xs (i : Int) = some x := by
  unfold idx
  rw [if_neg (by omega)]
  simpa using h
theorem lt_nat {i n : Nat} (h : i < n) : decide ((i : Int) < (n : Int)) = true := by simp; omega
theorem nlt_nat {i n : Nat} (h : n ≤ i) : decide ((i : Int) < (n : Int)) = false := by simp; omega

/-! ### Loops over a list that may end early -/
@[simp] theorem Sum.elim_ite {α β γ : Type} (f : α → γ) (g : β → γ) (c : Prop) [Decidable c] (x y : α ⊕ β) : Sum.elim f g (if c then x else y) = if c then Sum.elim f g x else Sum.elim f g y := by split <;> rfl
def runS {α S E : Type} (chk : α → S → E ⊕ S) : List α → S → E ⊕ S
  | [], s => .inr s
  | x :: xs, s => Sum.elim .inl (runS chk xs) (chk x s)
/-- A loop with a counter comes to what the list says. -/
theorem loop_sum {α S E : Type} (xs : List α) (l : Nat → S → Int → Option (E ⊕ S)) (chk : α → S → E ⊕ S) (I : S → Nat → Prop)
    (h : ∀ k s (i : Nat) x, xs[i]? = some x → I s i → l (k + 1) s i = Sum.elim (fun e => some (.inl e)) (fun s' => l k s' ((i + 1 : Nat) : Int)) (chk x s))
    (hI : ∀ s (i : Nat) x s', xs[i]? = some x → I s i → chk x s = .inr s' → I s' (i + 1))
    (h0 : ∀ k s (i : Nat), xs.length ≤ i → l (k + 1) s i = some (.inr s)) : ∀ d k s (i : Nat), xs.length - i = d → d < k → I s i → l k s i = some (runS chk (xs.drop i) s) := by
  intro d
  induction d with
  | zero =>
    intro k s i hd hk _
    obtain ⟨k, rfl⟩ : ∃ m, k = m + 1 := ⟨k - 1, by omega⟩
    rw [h0 k s i (by omega), List.drop_eq_nil_of_le (by omega)]; rfl
  | succ d ih =>
    intro k s i hd hk hi
    obtain ⟨k, rfl⟩ : ∃ m, k = m + 1 := ⟨k - 1, by omega⟩
    have hl : i < xs.length := by omega
    have hx : xs[i]? = some xs[i] := List.getElem?_eq_getElem hl
    rw [h k s i _ hx hi, List.drop_eq_getElem_cons hl, runS]
    cases hc : chk xs[i] s with
    | inl e => rfl
    | inr s' => exact ih k s' (i + 1) (by omega) (by omega) (hI s i _ s' hx hi hc)
theorem loop_sum0 {α S E : Type} (xs : List α) (l : Nat → S → Int → Option (E ⊕ S)) (chk : α → S → E ⊕ S) (I : S → Nat → Prop)
    (h : ∀ k s (i : Nat) x, xs[i]? = some x → I s i → l (k + 1) s i = Sum.elim (fun e => some (.inl e)) (fun s' => l k s' ((i + 1 : Nat) : Int)) (chk x s))
    (hI : ∀ s (i : Nat) x s', xs[i]? = some x → I s i → chk x s = .inr s' → I s' (i + 1))
    (h0 : ∀ k s (i : Nat), xs.length ≤ i → l (k + 1) s i = some (.inr s)) (k : Nat) (s : S) (hk : xs.length < k) (hi : I s 0) : l k s 0 = some (runS chk xs s) := by
  have := loop_sum xs l chk I h hI h0 xs.length k s 0 (by omega) hk hi
  simpa using this


/-! ### Texts -/
theorem sEq_iff {a b : ByteArray} : sEq a b = true ↔ a = b := by
  unfold sEq
  rw [beq_iff_eq, ByteArray.toList_eq, ByteArray.toList_eq]
  constructor
  · intro h
    cases a; cases b
    simp at h
    rw [h]
  · rintro rfl; rfl
theorem bytesOf_length (a : ByteArray) : (bytesOf a).length = a.size := by unfold bytesOf; rw [List.length_map, Array.length_toList]; rfl
theorem bidx_eq (a : ByteArray) (i : Int) : bidx a i = idx (bytesOf a) i := by
  unfold bidx idx
  by_cases h : 0 ≤ i
  · rw [if_pos h, if_neg (by omega)]
    unfold bytesOf
    rw [List.getElem?_map, Array.getElem?_toList]
    rfl
  · rw [if_neg h, if_pos (by omega)]
end Go.Am
/- Numbers: digits in a base, the least one first; decimal texts. Plain, no program. -/
namespace Go.Am
open Go
set_option linter.unusedSimpArgs false
set_option linter.unusedVariables false
/-! ### Digits, the least one first -/
def valB (B : Int) : List Int → Int
  | [] => 0
  | d :: l => d + B * valB B l
def DigB (B : Int) (l : List Int) : Prop := ∀ d ∈ l, 0 ≤ d ∧ d < B
theorem DigB.nil (B : Int) : DigB B [] := fun d h => by simp at h
theorem DigB.cons {B d : Int} {l : List Int} (h : DigB B (d :: l)) : (0 ≤ d ∧ d < B) ∧ DigB B l := ⟨h d (by simp), fun x hx => h x (by simp [hx])⟩
theorem DigB.app {B : Int} {l m : List Int} (h : DigB B l) (k : DigB B m) : DigB B (l ++ m) := fun d hd => by
  rcases List.mem_append.1 hd with hd | hd
  · exact h d hd
  · exact k d hd
theorem valB_app (B : Int) : ∀ (l m : List Int), valB B (l ++ m) = valB B l + B ^ l.length * valB B m
  | [], m => by simp [valB]
  | d :: l, m => by
    simp only [List.cons_append, valB, valB_app B l m, List.length_cons, Int.pow_succ]
    rw [Int.mul_add, ← Int.mul_assoc, Int.mul_comm B (B ^ l.length), Int.add_assoc]
theorem valB_nonneg {B : Int} (hB : 0 < B) : ∀ (l : List Int), DigB B l → 0 ≤ valB B l
  | [], _ => Int.le_refl _
  | d :: l, h => by
    have h1 := (h.cons).1
    have h2 := valB_nonneg hB l h.cons.2
    have := Int.mul_nonneg (Int.le_of_lt hB) h2
    simp only [valB]; omega
theorem valB_lt {B : Int} (hB : 0 < B) : ∀ (l : List Int), DigB B l → valB B l < B ^ l.length
  | [], _ => by simp [valB]
  | d :: l, h => by
    have h1 := (h.cons).1
    have h2 := valB_lt hB l h.cons.2
    have h3 : B * (valB B l + 1) ≤ B * B ^ l.length := Int.mul_le_mul_of_nonneg_left (by omega) (Int.le_of_lt hB)
    rw [Int.mul_add, Int.mul_one] at h3
    simp only [valB, List.length_cons, Int.pow_succ]
    rw [Int.mul_comm (B ^ l.length) B]
    omega
/-- Without a leading nought. -/
def CanB (B : Int) (l : List Int) : Prop := DigB B l ∧ l.getLast? ≠ some 0
theorem CanB.tail {B d : Int} {l : List Int} (h : CanB B (d :: l)) : CanB B l := by
  refine ⟨h.1.cons.2, fun e => h.2 ?_⟩
  cases l with
  | nil => simp at e
  | cons x l => rw [List.getLast?_cons_cons]; exact e
theorem valB_pos {B : Int} (hB : 1 < B) : ∀ (l : List Int), CanB B l → l ≠ [] → 0 < valB B l
  | [], _, h => absurd rfl h
  | d :: l, h, _ => by
    have h1 := h.1.cons.1
    cases l with
    | nil =>
      have : d ≠ 0 := fun e => h.2 (by simp [e])
      simp only [valB]; omega
    | cons x l =>
      have h2 := valB_pos hB (x :: l) h.tail (by simp)
      have h3 : B * 1 ≤ B * valB B (x :: l) := Int.mul_le_mul_of_nonneg_left (by omega) (by omega)
      simp only [valB] at h2 h3 ⊢; omega
theorem digit_eq {B d e x y : Int} (hd : 0 ≤ d ∧ d < B) (he : 0 ≤ e ∧ e < B) (h : d + B * x = e + B * y) : d = e ∧ x = y := by
  have h1 : x = y := by
    rcases Int.lt_trichotomy x y with h2 | h2 | h2
    · have : B * (x + 1) ≤ B * y := Int.mul_le_mul_of_nonneg_left (by omega) (by omega)
      rw [Int.mul_add, Int.mul_one] at this; omega
    · exact h2
    · have : B * (y + 1) ≤ B * x := Int.mul_le_mul_of_nonneg_left (by omega) (by omega)
      rw [Int.mul_add, Int.mul_one] at this; omega
  subst h1
  exact ⟨by omega, rfl⟩
/-- The digits of a number are given by it. -/
theorem can_eq {B : Int} (hB : 1 < B) : ∀ (l m : List Int), CanB B l → CanB B m → valB B l = valB B m → l = m
  | [], [], _, _, _ => rfl
  | [], e :: m, _, h2, h => by
    have := valB_pos hB (e :: m) h2 (by simp)
    rw [← h] at this; simp [valB] at this
  | d :: l, [], h1, _, h => by
    have := valB_pos hB (d :: l) h1 (by simp)
    rw [h] at this; simp [valB] at this
  | d :: l, e :: m, h1, h2, h => by
    obtain ⟨rfl, h3⟩ := digit_eq h1.1.cons.1 h2.1.cons.1 h
    rw [can_eq hB l m h1.tail h2.tail h3]
/-! ### Decimal texts -/
def digT (c : Int) : Bool := decide (48 ≤ c) && decide (c ≤ 57)
/-- The digits of a text, the least one first. -/
def digsT (s : ByteArray) : List Int := ((bytesOf s).map (· - 48)).reverse
def numT (s : ByteArray) : Int := valB 10 (digsT s)
/-- A text is a canonical number. -/
def CanT (s : ByteArray) : Prop := s.size ≠ 0 ∧ (bytesOf s).all digT = true ∧ ((bytesOf s).head? = some 48 → s.size = 1)
theorem bytesOf_inj {a b : ByteArray} (h : bytesOf a = bytesOf b) : a = b := by
  unfold bytesOf at h
  have h1 : a.data.toList = b.data.toList := by
    have : Function.Injective fun b : UInt8 => (b.toNat : Int) := fun x y h => by
      have : x.toNat = y.toNat := by have h' : (x.toNat : Int) = (y.toNat : Int) := h; omega
      exact UInt8.toNat_inj.1 this
    exact List.map_inj_right (fun x y h => this h) |>.1 h
  cases a; cases b
  congr 1
  exact Array.toList_inj.1 h1
theorem digsT_dig {s : ByteArray} (h : (bytesOf s).all digT = true) : DigB 10 (digsT s) := by
  intro d hd
  unfold digsT at hd
  rw [List.mem_reverse, List.mem_map] at hd
  obtain ⟨c, hc, rfl⟩ := hd
  have := List.all_eq_true.1 h c hc
  simp only [digT, Bool.and_eq_true, decide_eq_true_eq] at this
  omega
theorem digsT_len (s : ByteArray) : (digsT s).length = s.size := by
  unfold digsT
  rw [List.length_reverse, List.length_map, bytesOf_length]
theorem digsT_inj {a b : ByteArray} (h : digsT a = digsT b) : a = b := by
  unfold digsT at h
  have h1 := List.reverse_inj.1 h
  exact bytesOf_inj (List.map_inj_right (fun x y h => by omega) |>.1 h1)
theorem canT_nought {s : ByteArray} (h : CanT s) (h0 : (bytesOf s).head? = some 48) : digsT s = [0] := by
  have h1 := h.2.2 h0
  have hl := bytesOf_length s
  rw [h1] at hl
  match hb : bytesOf s, hl with
  | [c], _ => rw [hb] at h0; simp at h0; subst h0; simp [digsT, hb]
theorem canT_can {s : ByteArray} (h : CanT s) (h0 : (bytesOf s).head? ≠ some 48) : CanB 10 (digsT s) := by
  refine ⟨digsT_dig h.2.1, fun e => h0 ?_⟩
  unfold digsT at e
  rw [List.getLast?_reverse, List.head?_map] at e
  cases hb : (bytesOf s).head? with
  | none => rw [hb] at e; cases e
  | some c => rw [hb] at e; simp at e; congr 1; omega
/-- A number has one canonical text. -/
theorem numT_inj {a b : ByteArray} (ha : CanT a) (hb : CanT b) (h : numT a = numT b) : a = b := by
  have pos : ∀ s : ByteArray, CanT s → (bytesOf s).head? ≠ some 48 → 0 < numT s := fun s hs h0 => valB_pos (by omega) _ (canT_can hs h0) (fun e => by
    have := digsT_len s
    rw [e] at this
    exact hs.1 this.symm)
  by_cases h1 : (bytesOf a).head? = some 48 <;> by_cases h2 : (bytesOf b).head? = some 48
  · exact digsT_inj (by rw [canT_nought ha h1, canT_nought hb h2])
  · have := pos b hb h2
    unfold numT at h this
    rw [canT_nought ha h1] at h
    simp [valB] at h; omega
  · have := pos a ha h1
    unfold numT at h this
    rw [canT_nought hb h2] at h
    simp [valB] at h; omega
  · exact digsT_inj (can_eq (by omega) _ _ (canT_can ha h1) (canT_can hb h2) h)
/-! ### Parts of texts -/
theorem bytesOf_extract (a : ByteArray) (i j : Nat) : bytesOf (a.extract i j) = ((bytesOf a).drop i).take (j - i) := by
  unfold bytesOf
  rw [ByteArray.data_extract, Array.toList_extract]
  simp [List.extract, List.map_drop, List.map_take]
theorem bytesOf_append (a b : ByteArray) : bytesOf (a ++ b) = bytesOf a ++ bytesOf b := by
  unfold bytesOf
  rw [ByteArray.data_append, Array.toList_append, List.map_append]
theorem bytesOf_str (xs : List Int) (h : ∀ x ∈ xs, 0 ≤ x ∧ x ≤ 255) : bytesOf (strOfNums xs) = xs := by
  unfold bytesOf
  rw [strOfNums_data, List.map_map]
  conv => rhs; rw [← List.map_id xs]
  apply List.map_congr_left
  intro x hx
  have := h x hx
  show ((UInt8.ofNat x.toNat).toNat : Int) = x
  rw [UInt8.toNat_ofNat']
  omega
theorem ssl_tail {s : ByteArray} {c : Int} {l : List Int} (h : bytesOf s = c :: l) : ∃ t, ssl s 1 (s.size : Int) = some t ∧ bytesOf t = l ∧ t.size = l.length := by
  have hn := bytesOf_length s
  rw [h] at hn
  simp at hn
  refine ⟨s.extract 1 s.size, ?_, ?_, ?_⟩
  · unfold ssl
    rw [if_pos (by omega)]
    simp
  · rw [bytesOf_extract, h]
    simp
    exact List.take_of_length_le (by omega)
  · rw [← bytesOf_length, bytesOf_extract, h]
    simp
    omega
theorem numT_cons {s t : ByteArray} {c : Int} (h : bytesOf s = c :: bytesOf t) : numT s = numT t + 10 ^ t.size * (c - 48) := by
  unfold numT digsT
  rw [h, List.map_cons, List.reverse_cons, valB_app]
  simp [valB, bytesOf_length]
end Go.Am
/- Graphs: connected parts, their numbers, closure of a matrix, ways. Plain, no program. -/
namespace Go.Am
open Go
set_option linter.unusedVariables false
set_option linter.unusedSimpArgs false
def Edg (l : List (Int × Int)) (U : Nat → Bool) (a b : Nat) : Prop := ∃ k, k < l.length ∧ U k = true ∧ (l.getD k (0, 0) = ((a : Int), (b : Int)) ∨ l.getD k (0, 0) = ((b : Int), (a : Int)))
inductive Con (l : List (Int × Int)) (U : Nat → Bool) : Nat → Nat → Prop
  | refl (a : Nat) : Con l U a a
  | tail {a b c : Nat} : Con l U a b → Edg l U b c → Con l U a c
structure Outer (l : List (Int × Int)) (U : Nat → Bool) (n : Nat) (cs : List Int) (m s : Nat) : Prop where
  len : cs.length = n
  rng : ∀ i < n, -1 ≤ cs.getD i 0 ∧ cs.getD i 0 < m
  done : ∀ i < s, i < n → 0 ≤ cs.getD i 0
  cls : ∀ i j, i < n → j < n → 0 ≤ cs.getD i 0 → (cs.getD i 0 = cs.getD j 0 ↔ Con l U i j)
  last : 0 < m → ∃ j < s, j < n ∧ cs.getD j 0 = (m : Int) - 1
  rgs : ∀ i < n, 0 < cs.getD i 0 → ∃ j < i, cs.getD j 0 = cs.getD i 0 - 1
  few : m ≤ s
structure Mid (l : List (Int × Int)) (U : Nat → Bool) (n : Nat) (base : List Int) (m s : Nat) (cs : List Int) : Prop where
  len : cs.length = n
  own : ∀ i < n, (cs.getD i 0 = m ∧ base.getD i 0 = -1 ∧ Con l U s i) ∨ cs.getD i 0 = base.getD i 0
  start : cs.getD s 0 = m
theorem getD_set {cs : List Int} {i j : Nat} {v : Int} (hi : i < cs.length) : (cs.set i v).getD j 0 = if j = i then v else cs.getD j 0 := by
  rw [List.getD_eq_getElem?_getD, List.getElem?_set]
  by_cases h : i = j
  · subst h; simp [hi]
  · rw [if_neg h, if_neg (fun e => h e.symm), List.getD_eq_getElem?_getD]
theorem Edg.symm {l : List (Int × Int)} {U : Nat → Bool} {a b : Nat} (h : Edg l U a b) : Edg l U b a := by
  obtain ⟨k, h1, h2, h3⟩ := h
  exact ⟨k, h1, h2, h3.symm⟩
theorem Con.trans {l : List (Int × Int)} {U : Nat → Bool} {a b c : Nat} (h : Con l U a b) (k : Con l U b c) : Con l U a c := by
  induction k with
  | refl => exact h
  | tail _ e ih => exact .tail ih e
theorem Con.symm {l : List (Int × Int)} {U : Nat → Bool} {a b : Nat} (h : Con l U a b) : Con l U b a := by
  induction h with
  | refl => exact .refl _
  | tail _ e ih => exact (Con.tail (.refl _) e.symm).trans ih
structure EqvOn (M : Nat → Nat → Bool) (n : Nat) : Prop where
  refl : ∀ a < n, M a a = true
  symm : ∀ a b, a < n → b < n → M a b = true → M b a = true
  trans : ∀ a b c, a < n → b < n → c < n → M a b = true → M b c = true → M a c = true
structure NumOk (M : Nat → Nat → Bool) (cs : List Int) (m i : Nat) : Prop where
  len : cs.length = i
  rng : ∀ a < i, 0 ≤ cs.getD a 0 ∧ cs.getD a 0 < m
  cls : ∀ a b, a < i → b < i → (cs.getD a 0 = cs.getD b 0 ↔ M a b = true)
  last : 0 < m → ∃ a < i, cs.getD a 0 = (m : Int) - 1
  rgs : ∀ a < i, 0 < cs.getD a 0 → ∃ b < a, cs.getD b 0 = cs.getD a 0 - 1
  few : m ≤ i
structure WOk (l : List (Int × Int)) (U : Nat → Bool) (n : Nat) (M : Nat → Nat → Bool) (m : Nat) : Prop where
  sound : ∀ a b, a < n → b < n → M a b = true → Con l U a b
  refl : ∀ a < n, M a a = true
  edge : ∀ a b, a < n → b < n → Edg l U a b → M a b = true
  tr : ∀ c < m, ∀ a b, a < n → b < n → M a c = true → M c b = true → M a b = true
/-- There is a walk of exactly k used lines from v to 'to'. -/
def Wk (l : List (Int × Int)) (U : Nat → Bool) (to : Nat) : Nat → Nat → Prop
  | 0, v => v = to
  | k + 1, v => ∃ w, Edg l U v w ∧ Wk l U to k w
structure FarOk (l : List (Int × Int)) (U : Nat → Bool) (n to : Nat) (fs : List Int) (d : Nat) : Prop where
  len : fs.length = n
  rng : ∀ v < n, -1 ≤ fs.getD v 0
  fnd : ∀ v < n, ∀ k : Nat, fs.getD v 0 = k → k ≤ d ∧ Wk l U to k v ∧ ∀ j < k, ¬ Wk l U to j v
  nof : ∀ v < n, fs.getD v 0 = -1 → ∀ j ≤ d, ¬ Wk l U to j v
/-- In the midst of a round: 'fs' the distances at its start, 'gs' now. -/
structure Rnd (l : List (Int × Int)) (U : Nat → Bool) (n to : Nat) (fs gs : List Int) (d : Nat) : Prop where
  len : gs.length = n
  old : ∀ v < n, gs.getD v 0 = fs.getD v 0 ∨ (fs.getD v 0 = -1 ∧ gs.getD v 0 = (d : Int) + 1 ∧ Wk l U to (d + 1) v)
def neg (n : Nat) (fs : List Int) : Nat := ((List.range n).filter fun v => fs.getD v 0 == -1).length
/-! ### Loops -/
theorem loop_inv {S R : Type} (n : Nat) (l : Nat → S → Int → Option R) (I : S → Nat → Prop) (Q : R → Prop)
    (h : ∀ k s (i : Nat), i < n → I s i → (∃ r, l (k + 1) s (i : Int) = some r ∧ Q r) ∨ ∃ s', I s' (i + 1) ∧ l (k + 1) s (i : Int) = l k s' ((i + 1 : Nat) : Int))
    (h0 : ∀ k s (i : Nat), i = n → I s i → ∃ r, l (k + 1) s (i : Int) = some r ∧ Q r) : ∀ k s, n < k → I s 0 → ∃ r, l k s 0 = some r ∧ Q r := by
  have key : ∀ d k s (i : Nat), n - i = d → i ≤ n → d < k → I s i → ∃ r, l k s (i : Int) = some r ∧ Q r := by
    intro d
    induction d with
    | zero =>
      intro k s i hd hi hk hI
      obtain ⟨k, rfl⟩ : ∃ m, k = m + 1 := ⟨k - 1, by omega⟩
      exact h0 k s i (by omega) hI
    | succ d ih =>
      intro k s i hd hi hk hI
      obtain ⟨k, rfl⟩ : ∃ m, k = m + 1 := ⟨k - 1, by omega⟩
      rcases h k s i (by omega) hI with h1 | ⟨s', h1, h2⟩
      · exact h1
      · rw [h2]; exact ih k s' (i + 1) (by omega) (by omega) (by omega) h1
  intro k s hk hI
  exact key n k s 0 (by omega) (Nat.zero_le _) hk hI
theorem loop_wf {S R : Type} (l : Nat → S → Option R) (I : S → Prop) (mu : S → Nat) (Q : R → Prop)
    (h : ∀ k s, I s → (∃ r, l (k + 1) s = some r ∧ Q r) ∨ ∃ s', I s' ∧ mu s' < mu s ∧ l (k + 1) s = l k s') : ∀ k s, mu s < k → I s → ∃ r, l k s = some r ∧ Q r := by
  intro k
  induction k with
  | zero => intro s h1; omega
  | succ k ih =>
    intro s h1 hI
    rcases h k s hI with h2 | ⟨s', h2, h3, h4⟩
    · exact h2
    · rw [h4]; exact ih s' (by omega) h2
/-! ### Lines as rows of two numbers -/
def two (p : Int × Int) : List Int := [p.1, p.2]
theorem idx_getD {cs : List Int} {a : Nat} (h : a < cs.length) : idx cs (a : Int) = some (cs.getD a 0) := by
  apply idx_nat
  simp [h, List.getD_eq_getElem?_getD]
theorem w12 : kwrap .i64 (1 + 1) = 2 := by rw [kw (by omega) (by omega)]; rfl
/-! ### Ways, once more -/
end Go.Am
/- Plain lemmas: rules for typed functions over whole numbers; digits set in place; the guess of a digit of a quotient. -/
namespace Go.Am
open Go
set_option linter.unusedSimpArgs false
set_option linter.unusedVariables false
/-! ### Rules -/
theorem bsome {α β : Type} (a : α) (f : α → Option β) : Option.bind (some a) f = f a := (rfl)
theorem tu0a {β : Type} (g : Option β) (u : Unit) : tu0 g u = g := (rfl)
theorem tu1a {α β : Type} (g : α → Option β) (a : α) : tu1 g a = g a := (rfl)
theorem tu2a {α1 α2 β : Type} (g : α1 → α2 → Option β) (p : α1 × α2) : tu2 g p = g p.1 p.2 := (rfl)
theorem tu3a {α1 α2 α3 β : Type} (g : α1 → α2 → α3 → Option β) (p : α1 × α2 × α3) : tu3 g p = g p.1 p.2.1 p.2.2 := (rfl)
theorem tu4a {α1 α2 α3 α4 β : Type} (g : α1 → α2 → α3 → α4 → Option β) (p : α1 × α2 × α3 × α4) : tu4 g p = g p.1 p.2.1 p.2.2.1 p.2.2.2 := (rfl)
theorem tu5a {α1 α2 α3 α4 α5 β : Type} (g : α1 → α2 → α3 → α4 → α5 → Option β) (p : α1 × α2 × α3 × α4 × α5) : tu5 g p = g p.1 p.2.1 p.2.2.1 p.2.2.2.1 p.2.2.2.2 := (rfl)
theorem lta {α β : Type} (x : α) (f : α → Option β) : lt x f = f x := (rfl)
theorem bindSl {α β γ : Type} (a : α) (f : α → Option γ) (g : β → Option γ) : bindS (some (.inl a)) f g = f a := (rfl)
theorem bindSr {α β γ : Type} (b : β) (f : α → Option γ) (g : β → Option γ) : bindS (some (.inr b)) f g = g b := (rfl)
theorem outSl {α β γ : Type} (a : α) (f : α → Option γ) (g : β → Option γ) : outS (.inl a) f g = f a := (rfl)
theorem outSr {α β γ : Type} (b : β) (f : α → Option γ) (g : β → Option γ) : outS (.inr b) f g = g b := (rfl)
theorem beq_iff {α : Type} [BEq α] [LawfulBEq α] {a b : α} : ((a == b) = true) = (a = b) := propext beq_iff_eq
theorem bne_iff {a b : Int} : ((a != b) = true) = (a ≠ b) := by simp
theorem k64 {a : Int} (h1 : -9223372036854775808 ≤ a) (h2 : a ≤ 9223372036854775807) : kwrap .i64 a = a := kw h1 h2
theorem ku64 {a : Int} (h1 : 0 ≤ a) (h2 : a ≤ 18446744073709551615) : kwrap .u64 a = a := kwrap_in (by simp [krange]; omega)
theorem ku32 {a : Int} (h1 : 0 ≤ a) (h2 : a ≤ 4294967295) : kwrap .u32 a = a := kwrap_in (by simp [krange]; omega)
theorem ku8 {a : Int} (h1 : 0 ≤ a) (h2 : a ≤ 255) : kwrap .u8 a = a := kwrap_in (by simp [krange]; omega)
theorem i64w {a : Int} (h1 : -9223372036854775808 ≤ a) (h2 : a ≤ 9223372036854775807) : IntKind.wrap .i64 a = a := by rw [← kwrap_eq]; exact k64 h1 h2
theorem u64w {a : Int} (h1 : 0 ≤ a) (h2 : a ≤ 18446744073709551615) : IntKind.wrap .u64 a = a := by rw [← kwrap_eq]; exact ku64 h1 h2
theorem u32w {a : Int} (h1 : 0 ≤ a) (h2 : a ≤ 4294967295) : IntKind.wrap .u32 a = a := by rw [← kwrap_eq]; exact ku32 h1 h2
theorem u8w {a : Int} (h1 : 0 ≤ a) (h2 : a ≤ 255) : IntKind.wrap .u8 a = a := by rw [← kwrap_eq]; exact ku8 h1 h2
theorem idxI {xs : List Int} {j : Int} (h1 : 0 ≤ j) (h2 : j < (xs.length : Int)) : idx xs j = some (xs.getD j.toNat 0) := by
  unfold idx
  rw [if_neg (by omega), List.getD_eq_getElem?_getD, List.getElem?_eq_getElem (by omega)]
  rfl
theorem bidxI {s : ByteArray} {j : Int} (h1 : 0 ≤ j) (h2 : j < (s.size : Int)) : bidx s j = some ((bytesOf s).getD j.toNat 0) := by
  rw [bidx_eq]; exact idxI h1 (by rw [bytesOf_length]; exact h2)
theorem lslI {α : Type} {xs : List α} {l h : Int} (h1 : 0 ≤ l) (h2 : l ≤ h) (h3 : h ≤ (xs.length : Int)) : lsl xs l h = some ((xs.drop l.toNat).take (h.toNat - l.toNat)) := by unfold lsl; rw [if_pos ⟨h1, h2, h3⟩]
theorem sslI {s : ByteArray} {l h : Int} (h1 : 0 ≤ l) (h2 : l ≤ h) (h3 : h ≤ (s.size : Int)) : ssl s l h = some (s.extract l.toNat h.toNat) := by unfold ssl; rw [if_pos ⟨h1, h2, h3⟩]
theorem tdivI {a b : Int} (h : 0 ≤ a) : Int.tdiv a b = a / b := Int.tdiv_eq_ediv_of_nonneg h
theorem tmodI {a b : Int} (h : 0 ≤ a) : Int.tmod a b = a % b := Int.tmod_eq_emod_of_nonneg h
/-- A loop: it ends here with what is wanted, or one step keeps the invariant and comes nearer. -/
theorem loopW {S R : Type} (l : Nat → S → Option R) (I : S → Prop) (mu : S → Nat) (Q : R → Prop)
    (h : ∀ k s, I s → (∃ r, l (k + 1) s = some r ∧ Q r) ∨ ∃ s', l (k + 1) s = l k s' ∧ mu s' < mu s ∧ I s') {k : Nat} (s : S) (hk : mu s < k) (hI : I s) : ∃ r, l k s = some r ∧ Q r :=
  loop_wf l I mu Q (fun k s hs => (h k s hs).imp id fun ⟨s', a, b, c⟩ => ⟨s', c, b, a⟩) k s hk hI
/-! ### Digits set in place -/
theorem getD_dig {B : Int} (hB : 0 < B) {x : List Int} (h : DigB B x) (k : Nat) : 0 ≤ x.getD k 0 ∧ x.getD k 0 < B := by
  by_cases hk : k < x.length
  · rw [List.getD_eq_getElem?_getD, List.getElem?_eq_getElem hk]; exact h _ (List.getElem_mem hk)
  · rw [List.getD_eq_getElem?_getD, List.getElem?_eq_none (by omega)]; exact ⟨Int.le_refl _, hB⟩
theorem valB_set (B : Int) : ∀ (l : List Int) (p : Nat) (d : Int), p < l.length → valB B (l.set p d) = valB B l + B ^ p * (d - l.getD p 0)
  | [], p, d, h => by simp at h
  | x :: l, 0, d, _ => by simp [valB]; omega
  | x :: l, p + 1, d, h => by
    have := valB_set B l p d (by simpa using h)
    simp only [List.set_cons_succ, valB, this, List.getD_cons_succ, Int.pow_succ]
    grind
theorem DigB.set {B d : Int} {l : List Int} (h : DigB B l) (p : Nat) (hd : 0 ≤ d ∧ d < B) : DigB B (l.set p d) := fun x hx => by
  rcases List.mem_or_eq_of_mem_set hx with h1 | h1
  · exact h x h1
  · subst h1; exact hd
theorem DigB.take {B : Int} {l : List Int} (h : DigB B l) (k : Nat) : DigB B (l.take k) := fun x hx => h x (List.mem_of_mem_take hx)
theorem DigB.drop {B : Int} {l : List Int} (h : DigB B l) (k : Nat) : DigB B (l.drop k) := fun x hx => h x (List.mem_of_mem_drop hx)
theorem DigB.snoc {B d : Int} {l : List Int} (h : DigB B l) (hd : 0 ≤ d ∧ d < B) : DigB B (l ++ [d]) := h.app fun x hx => by simp at hx; omega
theorem valB_split (B : Int) (l : List Int) (k : Nat) (hk : k ≤ l.length) : valB B l = valB B (l.take k) + B ^ k * valB B (l.drop k) := by
  conv => lhs; rw [← List.take_append_drop k l]
  rw [valB_app, List.length_take, Nat.min_eq_left hk]
theorem valB_zeros (B : Int) (n : Nat) : valB B (List.replicate n 0) = 0 := by
  induction n with
  | zero => rfl
  | succ n ih => simp [List.replicate_succ, valB, ih]
theorem DigB.zeros {B : Int} (hB : 0 < B) (n : Nat) : DigB B (List.replicate n 0) := fun x hx => by
  rw [List.mem_replicate] at hx; omega
theorem valB_take (B : Int) (x : List Int) (k : Nat) : valB B (x.take (k + 1)) = valB B (x.take k) + B ^ k * x.getD k 0 := by
  by_cases h : k < x.length
  · have hx : x[k]? = some x[k] := List.getElem?_eq_getElem h
    rw [List.take_add_one, hx, valB_app, List.length_take, Nat.min_eq_left (by omega), List.getD_eq_getElem?_getD, hx]
    simp [valB]
  · rw [List.take_of_length_le (by omega), List.take_of_length_le (by omega), List.getD_eq_getElem?_getD, List.getElem?_eq_none (by omega)]
    simp
theorem valB_snoc (B : Int) (x : List Int) (d : Int) : valB B (x ++ [d]) = valB B x + B ^ x.length * d := by rw [valB_app]; simp [valB]
theorem last_split (l : List Int) (h : l ≠ []) : ∃ r d, l = r ++ [d] := by
  rcases List.eq_nil_or_concat l with rfl | ⟨r, d, rfl⟩
  · exact absurd rfl h
  · exact ⟨r, d, by simp⟩
theorem can_ge {B : Int} (hB : 1 < B) {l : List Int} (h : CanB B l) (h0 : l ≠ []) : B ^ (l.length - 1) ≤ valB B l := by
  obtain ⟨r, d, rfl⟩ := last_split l h0
  have hd : d ≠ 0 := fun e => h.2 (by simp [e])
  have hd2 := h.1 d (by simp)
  have hr := valB_nonneg (B := B) (by omega) r (fun x hx => h.1 x (by simp [hx]))
  have e : (r ++ [d]).length - 1 = r.length := by simp
  rw [valB_snoc, e]
  have h1 : B ^ r.length * 1 ≤ B ^ r.length * d := Int.mul_le_mul_of_nonneg_left (by omega) (Int.le_of_lt (Int.pow_pos (by omega)))
  omega
theorem ge_can {B : Int} (hB : 1 < B) {l : List Int} (h : DigB B l) (h0 : l ≠ []) (hv : B ^ (l.length - 1) ≤ valB B l) : CanB B l := by
  refine ⟨h, fun e => ?_⟩
  obtain ⟨r, d, rfl⟩ := last_split l h0
  have hd : d = 0 := by simpa using e
  have hr := valB_lt (B := B) (by omega) r (fun x hx => h x (by simp [hx]))
  have e : (r ++ [(0 : Int)]).length - 1 = r.length := by simp
  rw [valB_snoc, hd, e] at hv
  omega
theorem ipow_le {B : Int} (hB : 0 < B) {i j : Nat} (h : i ≤ j) : B ^ i ≤ B ^ j := by
  obtain ⟨m, rfl⟩ : ∃ m, j = i + m := ⟨j - i, by omega⟩
  rw [Int.pow_add]
  have p1 : 0 < B ^ m := Int.pow_pos hB
  have p2 : 0 < B ^ i := Int.pow_pos hB
  have := Int.mul_le_mul_of_nonneg_left (show 1 ≤ B ^ m by omega) (Int.le_of_lt p2)
  omega
/-- Fewer digits, a smaller number. -/
theorem can_len {B : Int} (hB : 1 < B) {l m : List Int} (h : DigB B l) (hm : CanB B m) (hl : l.length < m.length) : valB B l < valB B m := by
  have h1 := valB_lt (B := B) (by omega) l h
  have h2 := can_ge hB hm (by intro e; subst e; simp at hl)
  have h3 : B ^ l.length ≤ B ^ (m.length - 1) := by
    obtain ⟨j, hj⟩ : ∃ j, m.length - 1 = l.length + j := ⟨m.length - 1 - l.length, by omega⟩
    rw [hj, Int.pow_add]
    have p1 : 0 < B ^ j := Int.pow_pos (by omega)
    have p2 : 0 < B ^ l.length := Int.pow_pos (by omega)
    have := Int.mul_le_mul_of_nonneg_left (show 1 ≤ B ^ j by omega) (Int.le_of_lt p2)
    omega
  omega
/-- A number with as many digits at most. -/
theorem can_len_le {B : Int} (hB : 1 < B) {l m : List Int} (h : CanB B l) (hm : DigB B m) (hv : valB B l ≤ valB B m) : l.length ≤ m.length := by
  refine Nat.not_lt.1 fun hl => ?_
  have := can_len hB hm h hl
  omega
theorem mul_le {a b c : Int} (hc : 0 ≤ c) (h : a ≤ b) : c * a ≤ c * b := Int.mul_le_mul_of_nonneg_left h hc
theorem mul_nn {a b : Int} (ha : 0 ≤ a) (hb : 0 ≤ b) : 0 ≤ a * b := Int.mul_nonneg ha hb
/-! ### The guess of a digit of a quotient -/
/-- The leading digits of a divisor and of what is divided; q is the true digit. -/
structure Kn (B P v1 v2 vl top u3 ul q : Int) : Prop where
  B1 : 1 < B
  P0 : 0 < P
  v1p : 1 ≤ v1
  v2p : 0 ≤ v2
  v2b : v2 < B
  vlp : 0 ≤ vl
  vlb : vl < P
  tp : 0 ≤ top
  u3p : 0 ≤ u3
  u3b : u3 < B
  ulp : 0 ≤ ul
  ulb : ul < P
  q0 : 0 ≤ q
  qB : q < B
  lo : q * (P * (B * v1 + v2) + vl) ≤ P * (B * top + u3) + ul
  hi : P * (B * top + u3) + ul < (q + 1) * (P * (B * v1 + v2) + vl)
section
variable {B P v1 v2 vl top u3 ul q g r : Int}
theorem Kn.first (h : Kn B P v1 v2 vl top u3 ul q) : q ≤ top / v1 := by
  obtain ⟨B1, P0, v1p, v2p, v2b, vlp, vlb, tp, u3p, u3b, ulp, ulb, q0, qB, lo, hi⟩ := h
  rw [Int.le_ediv_iff_mul_le (by omega)]
  refine Int.le_of_lt_add_one (Int.not_le.1 fun hc => ?_)
  have a1 := mul_le (Int.le_of_lt (Int.mul_pos P0 (show 0 < B by omega))) hc
  have a2 := mul_nn (Int.le_of_lt P0) (mul_nn q0 v2p)
  have a3 := mul_nn q0 vlp
  have a4 := mul_le (Int.le_of_lt P0) (show u3 ≤ B - 1 by omega)
  grind
theorem Kn.down (h : Kn B P v1 v2 vl top u3 ul q) (hr : top = g * v1 + r) (hg : 0 ≤ g) (hc : g * v2 > r * B + u3) : q < g := by
  obtain ⟨B1, P0, v1p, v2p, v2b, vlp, vlb, tp, u3p, u3b, ulp, ulb, q0, qB, lo, hi⟩ := h
  refine Int.not_le.1 fun hq => ?_
  have hV : 0 ≤ P * (B * v1 + v2) + vl := by
    have := mul_nn (Int.le_of_lt P0) (show 0 ≤ B * v1 + v2 from by have := mul_nn (show 0 ≤ B by omega) (show 0 ≤ v1 by omega); omega)
    omega
  have a1 := mul_le hV hq
  have a2 := mul_le (Int.le_of_lt P0) (show r * B + u3 + 1 ≤ g * v2 by omega)
  have a3 := mul_nn hg vlp
  subst hr
  grind
theorem Kn.exitA (h : Kn B P v1 v2 vl top u3 ul q) (hr : top = g * v1 + r) (hg : 0 ≤ g) (hB : g < B) (hc : g * v2 ≤ r * B + u3) : g ≤ q + 1 := by
  obtain ⟨B1, P0, v1p, v2p, v2b, vlp, vlb, tp, u3p, u3b, ulp, ulb, q0, qB, lo, hi⟩ := h
  refine Int.not_lt.1 fun hq => ?_
  have hV : 0 ≤ P * (B * v1 + v2) + vl := by
    have := mul_nn (Int.le_of_lt P0) (show 0 ≤ B * v1 + v2 from by have := mul_nn (show 0 ≤ B by omega) (show 0 ≤ v1 by omega); omega)
    omega
  have a1 := mul_le hV (show q + 1 ≤ g - 1 by omega)
  have a2 := mul_le (Int.le_of_lt P0) hc
  have a3 := mul_le hg (show vl ≤ P - 1 by omega)
  have a4 := mul_le (Int.le_of_lt P0) (show g ≤ B - 1 by omega)
  have a5 := mul_le (Int.le_of_lt (Int.mul_pos P0 (show 0 < B by omega))) v1p
  have a6 := mul_nn (Int.le_of_lt P0) v2p
  subst hr
  grind
theorem Kn.exitB (h : Kn B P v1 v2 vl top u3 ul q) (hr : top = g * v1 + r) (hg : 0 ≤ g) (hB : g ≤ B) (hc : B ≤ r) : g ≤ q := by
  obtain ⟨B1, P0, v1p, v2p, v2b, vlp, vlb, tp, u3p, u3b, ulp, ulb, q0, qB, lo, hi⟩ := h
  refine Int.not_lt.1 fun hq => ?_
  have hV : 0 ≤ P * (B * v1 + v2) + vl := by
    have := mul_nn (Int.le_of_lt P0) (show 0 ≤ B * v1 + v2 from by have := mul_nn (show 0 ≤ B by omega) (show 0 ≤ v1 by omega); omega)
    omega
  have a1 := mul_le hV (show q + 1 ≤ g by omega)
  have hPg := mul_nn (Int.le_of_lt P0) hg
  have a2 := mul_le hPg (show v2 ≤ B - 1 by omega)
  have a3 := mul_le hg (show vl ≤ P - 1 by omega)
  have a4 := mul_le (Int.le_of_lt (Int.mul_pos P0 (show 0 < B by omega))) (show g ≤ r by omega)
  have a6 := mul_nn (Int.le_of_lt P0) u3p
  subst hr
  grind
end
end Go.Am
/- Plain law: the program's numbers: digits in the base 10^9. -/
namespace Go.Am.Tryd
open Go Go.Am Go.Proofs
set_option linter.unusedSimpArgs false
set_option linter.unusedVariables false
variable {K : Nat}
/-- A list of digits is a number of the program's. -/
def NumN (n : Int) (l : List Int) : Prop := CanB 1000000000 l ∧ valB 1000000000 l = n
theorem NumN.inj {n : Int} {l m : List Int} (h : NumN n l) (k : NumN n m) : l = m := can_eq (B := 1000000000) (by omega) l m h.1 k.1 (h.2.trans k.2.symm)
theorem NumN.nonneg {n : Int} {l : List Int} (h : NumN n l) : 0 ≤ n := by rw [← h.2]; exact valB_nonneg (by omega) l h.1.1
theorem NumN.nil : NumN 0 [] := ⟨⟨DigB.nil _, by simp⟩, rfl⟩
theorem NumN.pos {n : Int} {l : List Int} (h : NumN n l) (h0 : l ≠ []) : 0 < n := by rw [← h.2]; exact valB_pos (by omega) l h.1 h0
theorem NumN.nil_iff {n : Int} {l : List Int} (h : NumN n l) : l = [] ↔ n = 0 := by
  constructor
  · rintro rfl; exact h.2.symm
  · intro e; by_cases h0 : l = []
    · exact h0
    · have := h.pos h0; omega
theorem NumN.len0 {n : Int} {l : List Int} (h : NumN n l) : l.length = 0 ↔ n = 0 := by rw [← h.nil_iff, List.length_eq_zero_iff]
theorem NumN.one {n : Int} (h : 0 < n) (h2 : n < 1000000000) : NumN n [n] := ⟨⟨fun d hd => by simp at hd; omega, by simp; omega⟩, by simp [valB]⟩
theorem trim_loop {B : Int} : ∀ n k (l : List Int), l.length = n → n ≤ 8000000 → n < k → DigB B l → ∃ t, g_nat_N_trim_l0 K k l = some t ∧ CanB B t ∧ valB B t = valB B l ∧ t.length ≤ l.length := by
  intro n
  induction n with
  | zero =>
    intro k l hl _ hk hd
    obtain ⟨k, rfl⟩ : ∃ m, k = m + 1 := ⟨k - 1, by omega⟩
    have : l = [] := List.length_eq_zero_iff.1 hl
    subst this
    exact ⟨[], by rw [g_nat_N_trim_l0]; simp [tu1], ⟨hd, by simp⟩, rfl, Nat.le_refl _⟩
  | succ n ih =>
    intro k l hl hb hk hd
    obtain ⟨k, rfl⟩ : ∃ m, k = m + 1 := ⟨k - 1, by omega⟩
    obtain ⟨r, d, rfl⟩ : ∃ r d, l = r ++ [d] := last_split l (by intro e; subst e; simp at hl)
    have hr : r.length = n := by simpa using hl
    have e1 : kwrap .i64 (((r ++ [d]).length : Int) - 1) = (n : Int) := by rw [hl, kw (by omega) (by omega)]; omega
    have e2 : idx (r ++ [d]) (n : Int) = some d := idx_nat (by simp [← hr])
    have e3 : lsl (r ++ [d]) 0 (n : Int) = some r := by
      unfold lsl
      rw [if_pos (by rw [hl]; omega)]
      simp [← hr]
    have e4 : ((r ++ [d]).length : Int) > 0 := by rw [hl]; omega
    have dr : DigB B r := fun x hx => hd x (by simp [hx])
    rw [g_nat_N_trim_l0, e1, e2, e3, decide_eq_true e4]
    by_cases h0 : d = 0
    · obtain ⟨t, h1, h2, h3, h4⟩ := ih k r hr (by omega) (by omega) dr
      refine ⟨t, by simp [h0, tu1, h1], h2, ?_, by simp; omega⟩
      rw [h3, valB_app, h0]; simp [valB]
    · exact ⟨r ++ [d], by simp [h0, tu1], ⟨hd, by simpa using h0⟩, rfl, Nat.le_refl _⟩
theorem trim_ok {B : Int} {l : List Int} (hl : l.length ≤ 8000000) (hK : 2000000000 < K) (hd : DigB B l) : ∃ t, g_nat_N_trim K l = some t ∧ CanB B t ∧ valB B t = valB B l ∧ t.length ≤ l.length := by
  obtain ⟨t, h1, h2⟩ := trim_loop (K := K) l.length K l rfl hl (by omega) hd
  exact ⟨t, by unfold g_nat_N_trim; rw [h1]; rfl, h2⟩
theorem nadd_loop {x y : List Int} (hlen : y.length ≤ x.length) (hx : x.length ≤ 4000000) (hK : 2000000000 < K) (dx : DigB 1000000000 x) (dy : DigB 1000000000 y) :
    ∃ r : List Int × Int, g_nat_N_Add_l0 K x y K [] 0 0 = some r ∧ r.1.length = x.length ∧ DigB 1000000000 r.1 ∧ (0 ≤ r.2 ∧ r.2 ≤ 1) ∧ valB 1000000000 r.1 + 1000000000 ^ x.length * r.2 = valB 1000000000 x + valB 1000000000 y := by
  refine loopW (fun k (s : List Int × Int × Int) => g_nat_N_Add_l0 K x y k s.1 s.2.1 s.2.2) (fun s => ∃ i : Nat, s.2.2 = i ∧ i ≤ x.length ∧ s.1.length = i ∧ DigB 1000000000 s.1 ∧ (0 ≤ s.2.1 ∧ s.2.1 ≤ 1) ∧ valB 1000000000 s.1 + 1000000000 ^ i * s.2.1 = valB 1000000000 (x.take i) + valB 1000000000 (y.take i)) (fun s => x.length - s.1.length) _ ?_ (([], 0, 0) : List Int × Int × Int) (by simp; omega) ⟨0, rfl, by omega, rfl, DigB.nil _, ⟨by simp, by simp⟩, by simp [valB]⟩
  rintro k ⟨out, c, _⟩ ⟨i, rfl, h0, h1, h2, h3, h4⟩
  dsimp only at h1 h2 h3 h4 ⊢
  by_cases hi : i < x.length
  · right
    have ex := getD_dig (by omega) dx i
    have ey := getD_dig (by omega) dy i
    have tx := valB_take 1000000000 x i
    have ty := valB_take 1000000000 y i
    have hy : ¬ i < y.length → y.getD i 0 = 0 := fun h => by rw [List.getD_eq_getElem?_getD, List.getElem?_eq_none (by omega)]; rfl
    refine ⟨(out ++ [(x.getD i 0 + c + y.getD i 0) % 1000000000], (x.getD i 0 + c + y.getD i 0) / 1000000000, (i : Int) + 1), ?_, by simp; omega, i + 1, rfl, by omega, by simp [h1], h2.snoc (by omega), by dsimp only; omega, ?_⟩
    · rw [g_nat_N_Add_l0]
      by_cases h : i < y.length
      · simp (discharger := omega) only [decide_eq_true_eq, if_pos, if_neg, if_true, if_false, bsome, beq_iff, bne_iff, idxI, bidxI, sslI, lslI, k64, ku64, ku32, ku8, i64w, u64w, u32w, u8w, tdivI, tmodI, tu0a, tu1a, tu2a, tu3a, tu4a, tu5a, lta, bindSl, bindSr, outSl, outSr, Int.toNat_natCast, List.length_cons, List.length_nil, List.length_set, Int.toNat_zero, List.replicate_zero]
      · have e := hy h
        simp (discharger := omega) only [decide_eq_true_eq, if_pos, if_neg, if_true, if_false, bsome, beq_iff, bne_iff, idxI, bidxI, sslI, lslI, k64, ku64, ku32, ku8, i64w, u64w, u32w, u8w, tdivI, tmodI, tu0a, tu1a, tu2a, tu3a, tu4a, tu5a, lta, bindSl, bindSr, outSl, outSr, Int.toNat_natCast, List.length_cons, List.length_nil, List.length_set, Int.toNat_zero, List.replicate_zero, e, Int.add_zero]
    · have hm := Int.emod_add_mul_ediv (x.getD i 0 + c + y.getD i 0) 1000000000
      dsimp only
      rw [valB_snoc, h1, tx, ty, Int.pow_succ]
      grind
  · left
    refine ⟨(out, c), ?_, by dsimp only; omega, h2, h3, ?_⟩
    · rw [g_nat_N_Add_l0]; simp [hi]
    · have : i = x.length := by omega
      subst this
      rwa [List.take_of_length_le (Nat.le_refl _), List.take_of_length_le hlen] at h4
theorem nadd_fin {x y : List Int} {a b : Int} (hlen : y.length ≤ x.length) (hx : x.length ≤ 4000000) (hK : 2000000000 < K) (nx : NumN a x) (ny : NumN b y) :
    ∃ r : List Int × Int, g_nat_N_Add_l0 K x y K [] 0 0 = some r ∧ r.1.length = x.length ∧ NumN (a + b) (if r.2 > 0 then r.1 ++ [r.2] else r.1) := by
  obtain ⟨⟨r, c⟩, h1, h2, h3, h4, h5⟩ := nadd_loop hlen hx hK nx.1.1 ny.1.1
  dsimp only at h2 h3 h4 h5
  rw [nx.2, ny.2] at h5
  refine ⟨_, h1, h2, ?_⟩
  dsimp only
  by_cases hc : c > 0
  · rw [if_pos hc]
    have e : c = 1 := by omega
    subst e
    refine ⟨⟨h3.snoc (by omega), by simp⟩, ?_⟩
    rw [valB_snoc, h2]
    exact h5
  · rw [if_neg hc]
    have e : c = 0 := by omega
    subst e
    rw [Int.mul_zero, Int.add_zero] at h5
    refine ⟨?_, h5⟩
    by_cases h0 : r = []
    · subst h0; exact ⟨h3, by simp⟩
    · refine ge_can (by omega) h3 h0 ?_
      have h6 := can_ge (B := 1000000000) (by omega) nx.1 (by rintro rfl; exact h0 (List.length_eq_zero_iff.1 h2))
      have h7 := ny.nonneg
      rw [nx.2] at h6
      rw [h2, h5]
      omega
theorem nadd_ok {x y : List Int} {a b : Int} (hx : x.length ≤ 4000000) (hy : y.length ≤ 4000000) (hK : 2000000000 < K) (nx : NumN a x) (ny : NumN b y) : ∃ z, g_nat_N_Add K x y = some z ∧ NumN (a + b) z ∧ z.length ≤ max x.length y.length + 1 := by
  unfold g_nat_N_Add
  by_cases h : x.length < y.length
  · obtain ⟨⟨r, c⟩, h1, h2, h3⟩ := nadd_fin (K := K) (x := y) (y := x) (by omega) hy (by omega) ny nx
    dsimp only at h2 h3
    rw [Int.add_comm b a] at h3
    by_cases hc : c > 0
    · rw [if_pos hc] at h3
      exact ⟨r ++ [c], by simp (discharger := omega) only [decide_eq_true_eq, if_pos, if_neg, if_true, if_false, bsome, beq_iff, bne_iff, idxI, bidxI, sslI, lslI, k64, ku64, ku32, ku8, i64w, u64w, u32w, u8w, tdivI, tmodI, tu0a, tu1a, tu2a, tu3a, tu4a, tu5a, lta, bindSl, bindSr, outSl, outSr, Int.toNat_natCast, List.length_cons, List.length_nil, List.length_set, Int.toNat_zero, List.replicate_zero, h1], h3, by simp; omega⟩
    · rw [if_neg hc] at h3
      exact ⟨r, by simp (discharger := omega) only [decide_eq_true_eq, if_pos, if_neg, if_true, if_false, bsome, beq_iff, bne_iff, idxI, bidxI, sslI, lslI, k64, ku64, ku32, ku8, i64w, u64w, u32w, u8w, tdivI, tmodI, tu0a, tu1a, tu2a, tu3a, tu4a, tu5a, lta, bindSl, bindSr, outSl, outSr, Int.toNat_natCast, List.length_cons, List.length_nil, List.length_set, Int.toNat_zero, List.replicate_zero, h1], h3, by omega⟩
  · obtain ⟨⟨r, c⟩, h1, h2, h3⟩ := nadd_fin (K := K) (x := x) (y := y) (by omega) hx (by omega) nx ny
    dsimp only at h2 h3
    by_cases hc : c > 0
    · rw [if_pos hc] at h3
      exact ⟨r ++ [c], by simp (discharger := omega) only [decide_eq_true_eq, if_pos, if_neg, if_true, if_false, bsome, beq_iff, bne_iff, idxI, bidxI, sslI, lslI, k64, ku64, ku32, ku8, i64w, u64w, u32w, u8w, tdivI, tmodI, tu0a, tu1a, tu2a, tu3a, tu4a, tu5a, lta, bindSl, bindSr, outSl, outSr, Int.toNat_natCast, List.length_cons, List.length_nil, List.length_set, Int.toNat_zero, List.replicate_zero, h1], h3, by simp; omega⟩
    · rw [if_neg hc] at h3
      exact ⟨r, by simp (discharger := omega) only [decide_eq_true_eq, if_pos, if_neg, if_true, if_false, bsome, beq_iff, bne_iff, idxI, bidxI, sslI, lslI, k64, ku64, ku32, ku8, i64w, u64w, u32w, u8w, tdivI, tmodI, tu0a, tu1a, tu2a, tu3a, tu4a, tu5a, lta, bindSl, bindSr, outSl, outSr, Int.toNat_natCast, List.length_cons, List.length_nil, List.length_set, Int.toNat_zero, List.replicate_zero, h1], h3, by omega⟩
theorem nsub_loop {x y : List Int} (hx : x.length ≤ 4000000) (hK : 2000000000 < K) (dx : DigB 1000000000 x) (dy : DigB 1000000000 y) :
    ∃ r : List Int, g_nat_N_Sub_l0 K x y K (List.replicate x.length 0) 0 0 = some r ∧ r.length = x.length ∧ DigB 1000000000 r ∧ ∃ c : Int, (0 ≤ c ∧ c ≤ 1) ∧ valB 1000000000 r + valB 1000000000 (y.take x.length) = valB 1000000000 x + 1000000000 ^ x.length * c := by
  refine loopW (fun k (s : List Int × Int × Int) => g_nat_N_Sub_l0 K x y k s.1 s.2.1 s.2.2) (fun s => ∃ i : Nat, s.2.2 = i ∧ i ≤ x.length ∧ s.1.length = x.length ∧ DigB 1000000000 s.1 ∧ (∀ j, i ≤ j → s.1.getD j 0 = 0) ∧ (0 ≤ s.2.1 ∧ s.2.1 ≤ 1) ∧ valB 1000000000 s.1 + valB 1000000000 (y.take i) = valB 1000000000 (x.take i) + 1000000000 ^ i * s.2.1) (fun s => (x.length - s.2.2 : Int).toNat) _ ?_ ((List.replicate x.length 0, 0, 0) : List Int × Int × Int) (by simp; omega) ⟨0, rfl, by omega, by simp, .zeros (by omega) _, fun j _ => by simp [List.getD_eq_getElem?_getD, List.getElem?_replicate]; split <;> rfl, ⟨by simp, by simp⟩, by simp [valB, valB_zeros]⟩
  rintro k ⟨out, c, _⟩ ⟨i, rfl, h0, h1, h2, hz, h3, h4⟩
  dsimp only at h1 h2 h3 h4 hz ⊢
  by_cases hi : i < x.length
  · right
    have ex := getD_dig (by omega) dx i
    have ey := getD_dig (by omega) dy i
    have tx := valB_take 1000000000 x i
    have ty := valB_take 1000000000 y i
    have hy : ¬ i < y.length → y.getD i 0 = 0 := fun h => by rw [List.getD_eq_getElem?_getD, List.getElem?_eq_none (by omega)]; rfl
    have hset := fun d => valB_set 1000000000 out i d (by omega)
    have hgs := fun d j => getD_set (cs := out) (i := i) (j := j) (v := d) (by omega)
    have hz0 := hz i (Nat.le_refl _)
    by_cases hn : x.getD i 0 - c - y.getD i 0 < 0
    · refine ⟨(out.set i (x.getD i 0 - c - y.getD i 0 + 1000000000), 1, (i : Int) + 1), ?_, by dsimp only; omega, i + 1, rfl, by omega, by simp [h1], h2.set _ (by omega), fun j hj => by rw [hgs, if_neg (by omega)]; exact hz j (by omega), by simp, ?_⟩
      · rw [g_nat_N_Sub_l0]
        by_cases h : i < y.length
        · simp (discharger := omega) only [decide_eq_true_eq, if_pos, if_neg, if_true, if_false, bsome, beq_iff, bne_iff, idxI, bidxI, sslI, lslI, k64, ku64, ku32, ku8, i64w, u64w, u32w, u8w, tdivI, tmodI, tu0a, tu1a, tu2a, tu3a, tu4a, tu5a, lta, bindSl, bindSr, outSl, outSr, Int.toNat_natCast, List.length_cons, List.length_nil, List.length_set, Int.toNat_zero, List.replicate_zero]
        · have e := hy h
          rw [e, Int.sub_zero] at hn
          simp (discharger := omega) only [decide_eq_true_eq, if_pos, if_neg, if_true, if_false, bsome, beq_iff, bne_iff, idxI, bidxI, sslI, lslI, k64, ku64, ku32, ku8, i64w, u64w, u32w, u8w, tdivI, tmodI, tu0a, tu1a, tu2a, tu3a, tu4a, tu5a, lta, bindSl, bindSr, outSl, outSr, Int.toNat_natCast, List.length_cons, List.length_nil, List.length_set, Int.toNat_zero, List.replicate_zero, e, Int.sub_zero]
      · dsimp only
        rw [hset, hz0, tx, ty, Int.pow_succ]
        grind
    · refine ⟨(out.set i (x.getD i 0 - c - y.getD i 0), 0, (i : Int) + 1), ?_, by dsimp only; omega, i + 1, rfl, by omega, by simp [h1], h2.set _ (by omega), fun j hj => by rw [hgs, if_neg (by omega)]; exact hz j (by omega), by simp, ?_⟩
      · rw [g_nat_N_Sub_l0]
        by_cases h : i < y.length
        · simp (discharger := omega) only [decide_eq_true_eq, if_pos, if_neg, if_true, if_false, bsome, beq_iff, bne_iff, idxI, bidxI, sslI, lslI, k64, ku64, ku32, ku8, i64w, u64w, u32w, u8w, tdivI, tmodI, tu0a, tu1a, tu2a, tu3a, tu4a, tu5a, lta, bindSl, bindSr, outSl, outSr, Int.toNat_natCast, List.length_cons, List.length_nil, List.length_set, Int.toNat_zero, List.replicate_zero]
        · have e := hy h
          rw [e, Int.sub_zero] at hn
          simp (discharger := omega) only [decide_eq_true_eq, if_pos, if_neg, if_true, if_false, bsome, beq_iff, bne_iff, idxI, bidxI, sslI, lslI, k64, ku64, ku32, ku8, i64w, u64w, u32w, u8w, tdivI, tmodI, tu0a, tu1a, tu2a, tu3a, tu4a, tu5a, lta, bindSl, bindSr, outSl, outSr, Int.toNat_natCast, List.length_cons, List.length_nil, List.length_set, Int.toNat_zero, List.replicate_zero, e, Int.sub_zero]
      · dsimp only
        rw [hset, hz0, tx, ty, Int.pow_succ]
        grind
  · left
    have : i = x.length := by omega
    subst this
    rw [List.take_of_length_le (i := x.length) (l := x) (Nat.le_refl _)] at h4
    exact ⟨out, by rw [g_nat_N_Sub_l0]; simp (discharger := omega) only [decide_eq_true_eq, if_pos, if_neg, if_true, if_false, bsome, beq_iff, bne_iff, idxI, bidxI, sslI, lslI, k64, ku64, ku32, ku8, i64w, u64w, u32w, u8w, tdivI, tmodI, tu0a, tu1a, tu2a, tu3a, tu4a, tu5a, lta, bindSl, bindSr, outSl, outSr, Int.toNat_natCast, List.length_cons, List.length_nil, List.length_set, Int.toNat_zero, List.replicate_zero], h1, h2, c, h3, h4⟩
theorem nsub_ok {x y : List Int} {a b : Int} (hx : x.length ≤ 4000000) (hK : 2000000000 < K) (nx : NumN a x) (ny : NumN b y) (hab : b ≤ a) : ∃ z, g_nat_N_Sub K x y = some z ∧ NumN (a - b) z ∧ z.length ≤ x.length := by
  obtain ⟨r, h1, h2, h3, c, h4, h5⟩ := nsub_loop hx hK nx.1.1 ny.1.1
  have hl : y.length ≤ x.length := can_len_le (B := 1000000000) (by omega) ny.1 nx.1.1 (by rw [nx.2, ny.2]; exact hab)
  rw [List.take_of_length_le hl, nx.2, ny.2] at h5
  have hv := valB_lt (B := 1000000000) (by omega) r h3
  rw [h2] at hv
  have hc : c = 0 := by
    by_cases e : c = 0
    · exact e
    · have : c = 1 := by omega
      subst this; omega
  subst hc
  obtain ⟨t, t1, t2, t3, t4⟩ := trim_ok (K := K) (B := 1000000000) (l := r) (by omega) hK h3
  refine ⟨t, ?_, ⟨t2, by rw [t3]; omega⟩, by omega⟩
  unfold g_nat_N_Sub
  simp (discharger := omega) only [decide_eq_true_eq, if_pos, if_neg, if_true, if_false, bsome, beq_iff, bne_iff, idxI, bidxI, sslI, lslI, k64, ku64, ku32, ku8, i64w, u64w, u32w, u8w, tdivI, tmodI, tu0a, tu1a, tu2a, tu3a, tu4a, tu5a, lta, bindSl, bindSr, outSl, outSr, Int.toNat_natCast, List.length_cons, List.length_nil, List.length_set, Int.toNat_zero, List.replicate_zero, h1, t1]
theorem ncmp_loop {x y : List Int} (hl : x.length = y.length) (hx : x.length ≤ 4000000) (hK : 2000000000 < K) (dx : DigB 1000000000 x) (dy : DigB 1000000000 y) :
    ∃ r : Int ⊕ Unit, g_nat_N_Cmp_l0 K x y K ((x.length : Int) - 1) = some r ∧ r = (if valB 1000000000 x < valB 1000000000 y then .inl (-1) else if valB 1000000000 x = valB 1000000000 y then .inr () else .inl 1) := by
  have hdrop : ∀ (l : List Int) j, valB 1000000000 (l.drop j) = l.getD j 0 + 1000000000 * valB 1000000000 (l.drop (j + 1)) := fun l j => by
    by_cases h : j < l.length
    · rw [List.drop_eq_getElem_cons h, List.getD_eq_getElem?_getD, List.getElem?_eq_getElem h]; rfl
    · rw [List.drop_eq_nil_of_le (by omega), List.drop_eq_nil_of_le (by omega), List.getD_eq_getElem?_getD, List.getElem?_eq_none (by omega)]; rfl
  refine loopW (fun k (s : Int) => g_nat_N_Cmp_l0 K x y k s) (fun s => ∃ j : Nat, s = (j : Int) - 1 ∧ j ≤ x.length ∧ valB 1000000000 (x.drop j) = valB 1000000000 (y.drop j)) (fun s => (s + 1).toNat) _ ?_ ((x.length : Int) - 1) (by omega) ⟨x.length, rfl, Nat.le_refl _, by rw [List.drop_eq_nil_of_le (Nat.le_refl _), List.drop_eq_nil_of_le (by omega)]⟩
  rintro k _ ⟨j, rfl, hj, he⟩
  by_cases h0 : j = 0
  · subst h0
    left
    rw [List.drop_zero, List.drop_zero] at he
    rw [g_nat_N_Cmp_l0]
    refine ⟨.inr (), by simp (discharger := omega) only [decide_eq_true_eq, if_pos, if_neg, if_true, if_false, bsome, beq_iff, bne_iff, idxI, bidxI, sslI, lslI, k64, ku64, ku32, ku8, i64w, u64w, u32w, u8w, tdivI, tmodI, tu0a, tu1a, tu2a, tu3a, tu4a, tu5a, lta, bindSl, bindSr, outSl, outSr, Int.toNat_natCast, List.length_cons, List.length_nil, List.length_set, Int.toNat_zero, List.replicate_zero], ?_⟩
    rw [if_neg (by omega), if_pos he]
  · obtain ⟨i, rfl⟩ : ∃ i, j = i + 1 := ⟨j - 1, by omega⟩
    have e1 : ((i + 1 : Nat) : Int) - 1 = i := by omega
    rw [e1]
    have ex := getD_dig (by omega) dx i
    have ey := getD_dig (by omega) dy i
    have sx := valB_split 1000000000 x i (by omega)
    have sy := valB_split 1000000000 y i (by omega)
    have ax := hdrop x i
    have ay := hdrop y i
    have bx := valB_lt (B := 1000000000) (by omega) _ (dx.take i)
    have by' := valB_lt (B := 1000000000) (by omega) _ (dy.take i)
    have cx := valB_nonneg (B := 1000000000) (by omega) _ (dx.take i)
    have cy := valB_nonneg (B := 1000000000) (by omega) _ (dy.take i)
    rw [List.length_take, Nat.min_eq_left (by omega)] at bx by'
    have p0 : 0 < (1000000000 : Int) ^ i := Int.pow_pos (by omega)
    rw [ax, he] at sx
    rw [ay] at sy
    by_cases h1 : x.getD i 0 < y.getD i 0
    · left
      refine ⟨.inl (-1), by rw [g_nat_N_Cmp_l0]; simp (discharger := omega) only [decide_eq_true_eq, if_pos, if_neg, if_true, if_false, bsome, beq_iff, bne_iff, idxI, bidxI, sslI, lslI, k64, ku64, ku32, ku8, i64w, u64w, u32w, u8w, tdivI, tmodI, tu0a, tu1a, tu2a, tu3a, tu4a, tu5a, lta, bindSl, bindSr, outSl, outSr, Int.toNat_natCast, List.length_cons, List.length_nil, List.length_set, Int.toNat_zero, List.replicate_zero], ?_⟩
      have := mul_le (Int.le_of_lt p0) (show x.getD i 0 + 1 ≤ y.getD i 0 by omega)
      rw [if_pos (by grind)]
    · by_cases h2 : x.getD i 0 > y.getD i 0
      · left
        refine ⟨.inl 1, by rw [g_nat_N_Cmp_l0]; simp (discharger := omega) only [decide_eq_true_eq, if_pos, if_neg, if_true, if_false, bsome, beq_iff, bne_iff, idxI, bidxI, sslI, lslI, k64, ku64, ku32, ku8, i64w, u64w, u32w, u8w, tdivI, tmodI, tu0a, tu1a, tu2a, tu3a, tu4a, tu5a, lta, bindSl, bindSr, outSl, outSr, Int.toNat_natCast, List.length_cons, List.length_nil, List.length_set, Int.toNat_zero, List.replicate_zero], ?_⟩
        have := mul_le (Int.le_of_lt p0) (show y.getD i 0 + 1 ≤ x.getD i 0 by omega)
        rw [if_neg (by grind), if_neg (by grind)]
      · right
        refine ⟨(i : Int) - 1, by rw [g_nat_N_Cmp_l0]; simp (discharger := omega) only [decide_eq_true_eq, if_pos, if_neg, if_true, if_false, bsome, beq_iff, bne_iff, idxI, bidxI, sslI, lslI, k64, ku64, ku32, ku8, i64w, u64w, u32w, u8w, tdivI, tmodI, tu0a, tu1a, tu2a, tu3a, tu4a, tu5a, lta, bindSl, bindSr, outSl, outSr, Int.toNat_natCast, List.length_cons, List.length_nil, List.length_set, Int.toNat_zero, List.replicate_zero], by omega, i, rfl, by omega, ?_⟩
        rw [ax, ay, he]
        omega
theorem ncmp_ok {x y : List Int} {a b : Int} (hx : x.length ≤ 4000000) (hy : y.length ≤ 4000000) (hK : 2000000000 < K) (nx : NumN a x) (ny : NumN b y) : g_nat_N_Cmp K x y = some (if a < b then -1 else if a = b then 0 else 1) := by
  unfold g_nat_N_Cmp
  by_cases h : x.length = y.length
  · obtain ⟨r, h1, h2⟩ := ncmp_loop (K := K) h hx hK nx.1.1 ny.1.1
    rw [nx.2, ny.2] at h2
    have e : ((x.length : Int) != (y.length : Int)) = false := by simp; omega
    rw [e]
    rw [k64 (by omega) (by omega), h1, h2]
    simp only [Bool.false_eq_true, if_false, bindS, Option.bind_some]
    by_cases c1 : a < b
    · simp [c1, tu1]
    · by_cases c2 : a = b
      · subst c2; simp [tu0]
      · simp [c1, c2, tu1]
  · have e : ((x.length : Int) != (y.length : Int)) = true := by simp; omega
    rw [e, if_pos rfl]
    by_cases h1 : x.length < y.length
    · have := can_len (B := 1000000000) (by omega) nx.1.1 ny.1 h1
      rw [nx.2, ny.2] at this
      simp (discharger := omega) only [decide_eq_true_eq, if_pos, if_neg, if_true, if_false, bsome, beq_iff, bne_iff, idxI, bidxI, sslI, lslI, k64, ku64, ku32, ku8, i64w, u64w, u32w, u8w, tdivI, tmodI, tu0a, tu1a, tu2a, tu3a, tu4a, tu5a, lta, bindSl, bindSr, outSl, outSr, Int.toNat_natCast, List.length_cons, List.length_nil, List.length_set, Int.toNat_zero, List.replicate_zero]
    · have := can_len (B := 1000000000) (by omega) ny.1.1 nx.1 (by omega)
      rw [nx.2, ny.2] at this
      simp (discharger := omega) only [decide_eq_true_eq, if_pos, if_neg, if_true, if_false, bsome, beq_iff, bne_iff, idxI, bidxI, sslI, lslI, k64, ku64, ku32, ku8, i64w, u64w, u32w, u8w, tdivI, tmodI, tu0a, tu1a, tu2a, tu3a, tu4a, tu5a, lta, bindSl, bindSr, outSl, outSr, Int.toNat_natCast, List.length_cons, List.length_nil, List.length_set, Int.toNat_zero, List.replicate_zero]
end Go.Am.Tryd
/- Plain law: products of the program's numbers; division by one digit. -/
namespace Go.Am.Tryd
open Go Go.Am Go.Proofs
set_option linter.unusedSimpArgs false
set_option linter.unusedVariables false
variable {K : Nat}
theorem dig_mul {a b : Int} (ha : 0 ≤ a ∧ a < 1000000000) (hb : 0 ≤ b ∧ b < 1000000000) : 0 ≤ a * b ∧ a * b ≤ 999999998000000001 := by
  refine ⟨Int.mul_nonneg ha.1 hb.1, ?_⟩
  have h1 := mul_le ha.1 (show b ≤ 999999999 by omega)
  omega
theorem nmul_in {y out : List Int} {u : Int} {i : Nat} (hl : i + y.length ≤ out.length) (ho : out.length ≤ 8000000) (hK : 2000000000 < K) (hu : 0 ≤ u ∧ u < 1000000000) (dy : DigB 1000000000 y) (d0 : DigB 1000000000 out) :
    ∃ r : List Int × Int, g_nat_N_Mul_l2 K y (i : Int) u K out 0 0 = some r ∧ r.1.length = out.length ∧ DigB 1000000000 r.1 ∧ (0 ≤ r.2 ∧ r.2 < 1000000000) ∧ (∀ j, i + y.length ≤ j → r.1.getD j 0 = out.getD j 0) ∧
      valB 1000000000 r.1 + 1000000000 ^ (i + y.length) * r.2 = valB 1000000000 out + 1000000000 ^ i * (u * valB 1000000000 y) := by
  refine loopW (fun k (s : List Int × Int × Int) => g_nat_N_Mul_l2 K y (i : Int) u k s.1 s.2.1 s.2.2) (fun s => ∃ q : Nat, s.2.2 = q ∧ q ≤ y.length ∧ s.1.length = out.length ∧ DigB 1000000000 s.1 ∧ (0 ≤ s.2.1 ∧ s.2.1 < 1000000000) ∧ (∀ j, i + q ≤ j → s.1.getD j 0 = out.getD j 0) ∧
      valB 1000000000 s.1 + 1000000000 ^ (i + q) * s.2.1 = valB 1000000000 out + 1000000000 ^ i * (u * valB 1000000000 (y.take q))) (fun s => (y.length - s.2.2 : Int).toNat) _ ?_ ((out, 0, 0) : List Int × Int × Int) (by simp; omega) ⟨0, rfl, by omega, rfl, d0, by simp, fun _ _ => rfl, by simp [valB]⟩
  rintro k ⟨o, c, _⟩ ⟨q, rfl, h0, h1, h2, h3, hz, h4⟩
  dsimp only at h1 h2 h3 h4 hz ⊢
  by_cases hq : q < y.length
  · right
    have ey := getD_dig (by omega) dy q
    have eo := getD_dig (by omega) h2 (i + q)
    have ty := valB_take 1000000000 y q
    have hm := dig_mul hu ey
    have hset := fun d => valB_set 1000000000 o (i + q) d (by omega)
    have hgs := fun d j => getD_set (cs := o) (i := i + q) (j := j) (v := d) (by omega)
    have e1 : ((i : Int) + (q : Int)) = ((i + q : Nat) : Int) := by omega
    generalize hw : u * y.getD q 0 = w at hm
    generalize ho : o.getD (i + q) 0 = z at eo hset
    have hdm := Int.emod_add_mul_ediv (w + z + c) 1000000000
    refine ⟨(o.set (i + q) ((w + z + c) % 1000000000), (w + z + c) / 1000000000, (q : Int) + 1), ?_, by dsimp only; omega, q + 1, rfl, by omega, by simp [h1], h2.set _ (by omega), by dsimp only; omega, fun j hj => by rw [hgs, if_neg (by omega)]; exact hz j (by omega), ?_⟩
    · rw [g_nat_N_Mul_l2]
      simp (discharger := omega) only [decide_eq_true_eq, if_pos, if_neg, if_true, if_false, bsome, beq_iff, bne_iff, idxI, bidxI, sslI, lslI, k64, ku64, ku32, ku8, i64w, u64w, u32w, u8w, tdivI, tmodI, tu0a, tu1a, tu2a, tu3a, tu4a, tu5a, lta, bindSl, bindSr, outSl, outSr, Int.toNat_natCast, List.length_cons, List.length_nil, List.length_set, Int.toNat_zero, List.replicate_zero, e1, hw, ho]
    · dsimp only
      rw [hset, ty]
      have e2 : (1000000000 : Int) ^ (i + (q + 1)) = 1000000000 ^ i * 1000000000 ^ q * 1000000000 := by rw [← Nat.add_assoc, Int.pow_succ, Int.pow_add]
      rw [e2]
      rw [Int.pow_add] at h4 ⊢
      subst hw
      generalize (u * y.getD q 0 + z + c) / 1000000000 = Q at *
      generalize (u * y.getD q 0 + z + c) % 1000000000 = R at *
      grind
  · left
    have : q = y.length := by omega
    subst this
    rw [List.take_of_length_le (Nat.le_refl _)] at h4
    exact ⟨(o, c), by rw [g_nat_N_Mul_l2]; simp (discharger := omega) only [decide_eq_true_eq, if_pos, if_neg, if_true, if_false, bsome, beq_iff, bne_iff, idxI, bidxI, sslI, lslI, k64, ku64, ku32, ku8, i64w, u64w, u32w, u8w, tdivI, tmodI, tu0a, tu1a, tu2a, tu3a, tu4a, tu5a, lta, bindSl, bindSr, outSl, outSr, Int.toNat_natCast, List.length_cons, List.length_nil, List.length_set, Int.toNat_zero, List.replicate_zero], h1, h2, h3, hz, h4⟩
theorem nmul_loop {x y : List Int} (hl : x.length + y.length ≤ 8000000) (hK : 2000000000 < K) (dx : DigB 1000000000 x) (dy : DigB 1000000000 y) :
    ∃ r : List Int, g_nat_N_Mul_l0 K x y K (List.replicate (x.length + y.length) 0) 0 = some r ∧ r.length = x.length + y.length ∧ DigB 1000000000 r ∧ valB 1000000000 r = valB 1000000000 x * valB 1000000000 y := by
  refine loopW (fun k (s : List Int × Int) => g_nat_N_Mul_l0 K x y k s.1 s.2) (fun s => ∃ i : Nat, s.2 = i ∧ i ≤ x.length ∧ s.1.length = x.length + y.length ∧ DigB 1000000000 s.1 ∧ (∀ j, i + y.length ≤ j → s.1.getD j 0 = 0) ∧ valB 1000000000 s.1 = valB 1000000000 (x.take i) * valB 1000000000 y) (fun s => (x.length - s.2 : Int).toNat) _ ?_ ((List.replicate (x.length + y.length) 0, 0) : List Int × Int) (by simp; omega) ⟨0, rfl, by omega, by simp, .zeros (by omega) _, fun j _ => by simp [List.getD_eq_getElem?_getD, List.getElem?_replicate]; split <;> rfl, by simp [valB, valB_zeros]⟩
  rintro k ⟨out, _⟩ ⟨i, rfl, h0, h1, h2, hz, h4⟩
  dsimp only at h1 h2 h4 hz ⊢
  by_cases hi : i < x.length
  · right
    have ex := getD_dig (by omega) dx i
    have tx := valB_take 1000000000 x i
    obtain ⟨⟨r, c⟩, r1, r2, r3, r4, r5, r6⟩ := nmul_in (K := K) (y := y) (out := out) (u := x.getD i 0) (i := i) (by omega) (by omega) hK ex dy h2
    dsimp only at r2 r3 r4 r5 r6
    have hz0 := r5 (i + y.length) (Nat.le_refl _)
    rw [hz _ (Nat.le_refl _)] at hz0
    have hset := valB_set 1000000000 r (i + y.length) c (by omega)
    have hgs := fun d j => getD_set (cs := r) (i := i + y.length) (j := j) (v := d) (by omega)
    have e1 : ((i : Int) + (y.length : Int)) = ((i + y.length : Nat) : Int) := by omega
    refine ⟨(r.set (i + y.length) c, (i : Int) + 1), ?_, by dsimp only; omega, i + 1, rfl, by omega, by simp [r2, h1], r3.set _ r4, fun j hj => by rw [hgs, if_neg (by omega), r5 j (by omega)]; exact hz j (by omega), ?_⟩
    · rw [g_nat_N_Mul_l0]
      simp (discharger := omega) only [decide_eq_true_eq, if_pos, if_neg, if_true, if_false, bsome, beq_iff, bne_iff, idxI, bidxI, sslI, lslI, k64, ku64, ku32, ku8, i64w, u64w, u32w, u8w, tdivI, tmodI, tu0a, tu1a, tu2a, tu3a, tu4a, tu5a, lta, bindSl, bindSr, outSl, outSr, Int.toNat_natCast, List.length_cons, List.length_nil, List.length_set, Int.toNat_zero, List.replicate_zero, r1, e1]
    · dsimp only
      rw [hset, hz0, tx]
      grind
  · left
    have : i = x.length := by omega
    subst this
    rw [List.take_of_length_le (Nat.le_refl _)] at h4
    exact ⟨out, by rw [g_nat_N_Mul_l0]; simp (discharger := omega) only [decide_eq_true_eq, if_pos, if_neg, if_true, if_false, bsome, beq_iff, bne_iff, idxI, bidxI, sslI, lslI, k64, ku64, ku32, ku8, i64w, u64w, u32w, u8w, tdivI, tmodI, tu0a, tu1a, tu2a, tu3a, tu4a, tu5a, lta, bindSl, bindSr, outSl, outSr, Int.toNat_natCast, List.length_cons, List.length_nil, List.length_set, Int.toNat_zero, List.replicate_zero], h1, h2, h4⟩
theorem nmul_ok {x y : List Int} {a b : Int} (hl : x.length + y.length ≤ 8000000) (hK : 2000000000 < K) (nx : NumN a x) (ny : NumN b y) : ∃ z, g_nat_N_Mul K x y = some z ∧ NumN (a * b) z ∧ z.length ≤ x.length + y.length := by
  obtain ⟨r, h1, h2, h3, h4⟩ := nmul_loop hl hK nx.1.1 ny.1.1
  rw [nx.2, ny.2] at h4
  obtain ⟨t, t1, t2, t3, t4⟩ := trim_ok (K := K) (B := 1000000000) (l := r) (by omega) hK h3
  refine ⟨t, ?_, ⟨t2, by rw [t3, h4]⟩, by omega⟩
  unfold g_nat_N_Mul
  have e1 : ((x.length : Int) + (y.length : Int)) = ((x.length + y.length : Nat) : Int) := by omega
  simp (discharger := omega) only [decide_eq_true_eq, if_pos, if_neg, if_true, if_false, bsome, beq_iff, bne_iff, idxI, bidxI, sslI, lslI, k64, ku64, ku32, ku8, i64w, u64w, u32w, u8w, tdivI, tmodI, tu0a, tu1a, tu2a, tu3a, tu4a, tu5a, lta, bindSl, bindSr, outSl, outSr, Int.toNat_natCast, List.length_cons, List.length_nil, List.length_set, Int.toNat_zero, List.replicate_zero, h1, t1, e1]
theorem drop_val (l : List Int) (j : Nat) : valB 1000000000 (l.drop j) = l.getD j 0 + 1000000000 * valB 1000000000 (l.drop (j + 1)) := by
  by_cases h : j < l.length
  · rw [List.drop_eq_getElem_cons h, List.getD_eq_getElem?_getD, List.getElem?_eq_getElem h]; rfl
  · rw [List.drop_eq_nil_of_le (by omega), List.drop_eq_nil_of_le (by omega), List.getD_eq_getElem?_getD, List.getElem?_eq_none (by omega)]; rfl
theorem nshort_loop {x : List Int} {d : Int} (hl : x.length ≤ 8000000) (hK : 2000000000 < K) (dx : DigB 1000000000 x) (hd : 1 ≤ d ∧ d ≤ 1000000000) :
    ∃ r : List Int × Int, g_nat_N_short_l0 K x d K (List.replicate x.length 0) 0 ((x.length : Int) - 1) = some r ∧ r.1.length = x.length ∧ DigB 1000000000 r.1 ∧ (0 ≤ r.2 ∧ r.2 < d) ∧ valB 1000000000 x = d * valB 1000000000 r.1 + r.2 := by
  refine loopW (fun k (s : List Int × Int × Int) => g_nat_N_short_l0 K x d k s.1 s.2.1 s.2.2) (fun s => ∃ j : Nat, s.2.2 = (j : Int) - 1 ∧ j ≤ x.length ∧ s.1.length = x.length ∧ DigB 1000000000 s.1 ∧ (0 ≤ s.2.1 ∧ s.2.1 < d) ∧ valB 1000000000 (x.drop j) = d * valB 1000000000 (s.1.drop j) + s.2.1) (fun s => (s.2.2 + 1).toNat) _ ?_ ((List.replicate x.length 0, 0, (x.length : Int) - 1) : List Int × Int × Int) (by dsimp only; omega) ⟨x.length, rfl, Nat.le_refl _, by simp, .zeros (by omega) _, by dsimp only; omega, by simp [valB]⟩
  rintro k ⟨out, c, _⟩ ⟨j, rfl, hj, h1, h2, h3, h4⟩
  dsimp only at h1 h2 h3 h4 ⊢
  by_cases h0 : j = 0
  · left
    subst h0
    rw [List.drop_zero, List.drop_zero] at h4
    exact ⟨(out, c), by rw [g_nat_N_short_l0]; simp (discharger := omega) only [decide_eq_true_eq, if_pos, if_neg, if_true, if_false, bsome, beq_iff, bne_iff, idxI, bidxI, sslI, lslI, k64, ku64, ku32, ku8, i64w, u64w, u32w, u8w, tdivI, tmodI, tu0a, tu1a, tu2a, tu3a, tu4a, tu5a, lta, bindSl, bindSr, outSl, outSr, Int.toNat_natCast, List.length_cons, List.length_nil, List.length_set, Int.toNat_zero, List.replicate_zero], h1, h2, h3, h4⟩
  · right
    obtain ⟨i, rfl⟩ : ∃ i, j = i + 1 := ⟨j - 1, by omega⟩
    have e1 : ((i + 1 : Nat) : Int) - 1 = i := by omega
    rw [e1]
    have ex := getD_dig (by omega) dx i
    have ax := drop_val x i
    generalize hu : x.getD i 0 = u at ex ax
    have hq0 : 0 ≤ (c * 1000000000 + u) / d := Int.ediv_nonneg (by omega) (by omega)
    have hqB : (c * 1000000000 + u) / d < 1000000000 := Int.ediv_lt_of_lt_mul (by omega) (by omega)
    have hr0 : 0 ≤ (c * 1000000000 + u) % d := Int.emod_nonneg _ (by omega)
    have hrd : (c * 1000000000 + u) % d < d := Int.emod_lt_of_pos _ (by omega)
    have hdm := Int.emod_add_mul_ediv (c * 1000000000 + u) d
    refine ⟨(out.set i ((c * 1000000000 + u) / d), (c * 1000000000 + u) % d, (i : Int) - 1), ?_, by dsimp only; omega, i, rfl, by omega, by simp [h1], h2.set _ ⟨hq0, hqB⟩, ⟨hr0, hrd⟩, ?_⟩
    · rw [g_nat_N_short_l0]
      have hd' : d ≠ 0 := by omega
      simp (discharger := omega) only [decide_eq_true_eq, if_pos, if_neg, if_true, if_false, bsome, beq_iff, bne_iff, idxI, bidxI, sslI, lslI, k64, ku64, ku32, ku8, i64w, u64w, u32w, u8w, tdivI, tmodI, tu0a, tu1a, tu2a, tu3a, tu4a, tu5a, lta, bindSl, bindSr, outSl, outSr, Int.toNat_natCast, List.length_cons, List.length_nil, List.length_set, Int.toNat_zero, List.replicate_zero, hu]
    · dsimp only
      rw [drop_val (out.set i _) i, List.drop_set_of_lt (by omega), getD_set (by omega), if_pos rfl, ax, h4]
      generalize (c * 1000000000 + u) / d = Q at *
      generalize (c * 1000000000 + u) % d = R at *
      grind
theorem digit_num {d : Int} (hd : 0 ≤ d ∧ d < 1000000000) (hK : 2000000000 < K) : ∃ z, g_nat_N_trim K [d] = some z ∧ NumN d z ∧ z.length ≤ 1 := by
  obtain ⟨t, t1, t2, t3, t4⟩ := trim_ok (K := K) (B := 1000000000) (l := [d]) (by simp) hK (fun x hx => by simp at hx; omega)
  exact ⟨t, t1, ⟨t2, by rw [t3]; simp [valB]⟩, by simpa using t4⟩
theorem div_mod_of {n d q r : Int} (hd : 0 < d) (h : n = d * q + r) (h0 : 0 ≤ r) (h1 : r < d) : q = n / d ∧ r = n % d := by
  have e1 : n / d = q := by
    rw [h, Int.add_comm, Int.add_mul_ediv_left _ _ (by omega), Int.ediv_eq_zero_of_lt h0 h1]; omega
  refine ⟨e1.symm, ?_⟩
  have := Int.emod_add_mul_ediv n d
  rw [e1] at this
  omega
theorem nshort_ok {x : List Int} {a d : Int} (hl : x.length ≤ 8000000) (hK : 2000000000 < K) (nx : NumN a x) (hd : 1 ≤ d ∧ d ≤ 1000000000) : ∃ q r, g_nat_N_short K x d = some (q, r) ∧ NumN (a / d) q ∧ NumN (a % d) r ∧ q.length ≤ x.length ∧ r.length ≤ 1 := by
  obtain ⟨⟨o, c⟩, h1, h2, h3, h4, h5⟩ := nshort_loop hl hK nx.1.1 hd
  dsimp only at h2 h3 h4 h5
  rw [nx.2] at h5
  obtain ⟨e1, e2⟩ := div_mod_of (by omega) h5 h4.1 h4.2
  obtain ⟨t, t1, t2, t3, t4⟩ := trim_ok (K := K) (B := 1000000000) (l := o) (by omega) hK h3
  obtain ⟨z, z1, z2, z3⟩ := digit_num (K := K) (d := c) (by omega) hK
  refine ⟨t, z, ?_, ⟨t2, by rw [t3, e1]⟩, by rw [← e2]; exact z2, by omega, z3⟩
  unfold g_nat_N_short
  simp (discharger := omega) only [decide_eq_true_eq, if_pos, if_neg, if_true, if_false, bsome, beq_iff, bne_iff, idxI, bidxI, sslI, lslI, k64, ku64, ku32, ku8, i64w, u64w, u32w, u8w, tdivI, tmodI, tu0a, tu1a, tu2a, tu3a, tu4a, tu5a, lta, bindSl, bindSr, outSl, outSr, Int.toNat_natCast, List.length_cons, List.length_nil, List.length_set, Int.toNat_zero, List.replicate_zero, h1, t1, z1]
end Go.Am.Tryd
/- Plain law: texts and the program's numbers: Read and Text. -/
namespace Go.Am.Tryd
open Go Go.Am Go.Proofs
set_option linter.unusedSimpArgs false
set_option linter.unusedVariables false
variable {K : Nat}
/-- The number of decimal digits given as bytes. -/
def numB (l : List Int) : Int := valB 10 ((l.map (· - 48)).reverse)
theorem numT_B (s : ByteArray) : numT s = numB (bytesOf s) := rfl
theorem numB_nil : numB [] = 0 := rfl
theorem numB_snoc (l : List Int) (c : Int) : numB (l ++ [c]) = numB l * 10 + (c - 48) := by
  unfold numB
  simp [valB]
  omega
theorem numB_app (l m : List Int) : numB (l ++ m) = numB m + 10 ^ m.length * numB l := by
  unfold numB
  rw [List.map_append, List.reverse_append, valB_app]
  simp
theorem numB_cons (c : Int) (l : List Int) : numB (c :: l) = numB l + 10 ^ l.length * (c - 48) := by
  have := numB_app [c] l
  simpa [numB, valB] using this
theorem numB_dig {l : List Int} (h : l.all digT = true) : DigB 10 ((l.map (· - 48)).reverse) := by
  intro d hd
  rw [List.mem_reverse, List.mem_map] at hd
  obtain ⟨c, hc, rfl⟩ := hd
  have := List.all_eq_true.1 h c hc
  simp only [digT, Bool.and_eq_true, decide_eq_true_eq] at this
  omega
theorem numB_nonneg {l : List Int} (h : l.all digT = true) : 0 ≤ numB l := valB_nonneg (by omega) _ (numB_dig h)
theorem numB_lt {l : List Int} (h : l.all digT = true) : numB l < 10 ^ l.length := by
  have := valB_lt (B := 10) (by omega) _ (numB_dig h)
  simpa [numB] using this
theorem digT_iff {c : Int} : digT c = true ↔ 48 ≤ c ∧ c ≤ 57 := by simp [digT]
theorem all_take {l : List Int} (h : l.all digT = true) (k : Nat) : (l.take k).all digT = true := List.all_eq_true.2 fun x hx => List.all_eq_true.1 h x (List.mem_of_mem_take hx)
theorem all_drop {l : List Int} (h : l.all digT = true) (k : Nat) : (l.drop k).all digT = true := List.all_eq_true.2 fun x hx => List.all_eq_true.1 h x (List.mem_of_mem_drop hx)
theorem take_snoc {l : List Int} {i : Nat} (h : i < l.length) : l.take (i + 1) = l.take i ++ [l.getD i 0] := by
  rw [List.take_add_one, List.getElem?_eq_getElem h, List.getD_eq_getElem?_getD, List.getElem?_eq_getElem h]; rfl
theorem getD_digT {l : List Int} (h : l.all digT = true) {i : Nat} (hi : i < l.length) : 48 ≤ l.getD i 0 ∧ l.getD i 0 ≤ 57 := by
  rw [List.getD_eq_getElem?_getD, List.getElem?_eq_getElem hi]
  exact digT_iff.1 (List.all_eq_true.1 h _ (List.getElem_mem hi))
theorem read_part {t : ByteArray} (ht : t.size ≤ 9) (hK : 2000000000 < K) (hd : (bytesOf t).all digT = true) : g_nat_Read_l2 K t K 0 0 = some (numT t) := by
  suffices h : ∃ r, g_nat_Read_l2 K t K 0 0 = some r ∧ r = numT t by obtain ⟨r, h1, rfl⟩ := h; exact h1
  have hn := bytesOf_length t
  refine loopW (fun k (s : Int × Int) => g_nat_Read_l2 K t k s.1 s.2) (fun s => ∃ i : Nat, s.2 = i ∧ i ≤ t.size ∧ s.1 = numB ((bytesOf t).take i)) (fun s => (t.size - s.2 : Int).toNat) _ ?_ ((0, 0) : Int × Int) (by simp; omega) ⟨0, rfl, by omega, by simp [numB_nil]⟩
  rintro k ⟨_, _⟩ ⟨i, rfl, h0, rfl⟩
  dsimp only
  by_cases hi : i < t.size
  · right
    have b1 := numB_nonneg (all_take hd i)
    have b2 := numB_lt (all_take hd i)
    have b3 : (10 : Int) ^ (List.take i (bytesOf t)).length ≤ 10 ^ 8 := by
      rw [List.length_take, hn, Nat.min_eq_left (by omega)]
      exact ipow_le (by omega) (by omega)
    have hc := getD_digT hd (i := i) (by omega)
    have hs := take_snoc (l := bytesOf t) (i := i) (by omega)
    have b4 : (10 : Int) ^ 8 = 100000000 := by decide
    refine ⟨(numB ((bytesOf t).take (i + 1)), (i : Int) + 1), ?_, by dsimp only; omega, i + 1, rfl, by omega, rfl⟩
    rw [g_nat_Read_l2, hs, numB_snoc]
    generalize numB ((bytesOf t).take i) = d at *
    rw [hn]
    have hi' : (i : Int) < ((bytesOf t).length : Int) := by omega
    simp (discharger := omega) only [decide_eq_true_eq, if_pos, if_neg, if_true, if_false, bsome, beq_iff, bne_iff, idxI, bidxI, sslI, lslI, k64, ku64, ku32, ku8, i64w, u64w, u32w, u8w, tdivI, tmodI, tu0a, tu1a, tu2a, tu3a, tu4a, tu5a, lta, bindSl, bindSr, outSl, outSr, Int.toNat_natCast, List.length_cons, List.length_nil, List.length_set, Int.toNat_zero, List.replicate_zero]
  · left
    have : i = t.size := by omega
    subst this
    refine ⟨numB ((bytesOf t).take t.size), by rw [g_nat_Read_l2, hn]; simp (discharger := omega) only [decide_eq_true_eq, if_pos, if_neg, if_true, if_false, bsome, beq_iff, bne_iff, idxI, bidxI, sslI, lslI, k64, ku64, ku32, ku8, i64w, u64w, u32w, u8w, tdivI, tmodI, tu0a, tu1a, tu2a, tu3a, tu4a, tu5a, lta, bindSl, bindSr, outSl, outSr, Int.toNat_natCast, List.length_cons, List.length_nil, List.length_set, Int.toNat_zero, List.replicate_zero], ?_⟩
    rw [List.take_of_length_le (by omega)]
    rfl
theorem read_loop {s : ByteArray} (hs : s.size ≤ 8000000) (hK : 2000000000 < K) (hd : (bytesOf s).all digT = true) :
    ∃ r : List Int, g_nat_Read_l0 K s K [] (s.size : Int) = some r ∧ 9 * r.length < s.size + 9 ∧ DigB 1000000000 r ∧ valB 1000000000 r = numT s := by
  have hn := bytesOf_length s
  refine loopW (fun k (q : List Int × Int) => g_nat_Read_l0 K s k q.1 q.2) (fun q => q.2 = (s.size : Int) - 9 * q.1.length ∧ 9 * q.1.length < s.size + 9 ∧ DigB 1000000000 q.1 ∧ valB 1000000000 q.1 + 1000000000 ^ q.1.length * numB ((bytesOf s).take q.2.toNat) = numT s) (fun q => (q.2 + 9).toNat) _ ?_ (([], (s.size : Int)) : List Int × Int) (by dsimp only; omega) ⟨by simp, by simp, .nil _, by simp [valB]; rw [List.take_of_length_le (by omega)]; rfl⟩
  rintro k ⟨out, e⟩ ⟨h1, h2, h3, h4⟩
  dsimp only at h1 h2 h3 h4 ⊢
  by_cases he : e > 0
  · right
    obtain ⟨lo, hlo, hm⟩ : ∃ lo : Nat, imax 0 (kwrap .i64 (e - 9)) = lo ∧ ((lo : Int) = e - 9 ∨ ((lo = 0) ∧ e < 9)) := by
      rw [k64 (by omega) (by omega)]
      unfold imax
      by_cases h9 : e - 9 > 0
      · exact ⟨(e - 9).toNat, by rw [if_pos h9]; omega, .inl (by omega)⟩
      · exact ⟨0, by rw [if_neg h9]; rfl, by omega⟩
    have hb : bytesOf (s.extract lo e.toNat) = ((bytesOf s).drop lo).take (e.toNat - lo) := bytesOf_extract _ _ _
    have hsz : (s.extract lo e.toNat).size = e.toNat - lo := by rw [← bytesOf_length, hb, List.length_take, List.length_drop]; omega
    have hdp : (bytesOf (s.extract lo e.toNat)).all digT = true := by rw [hb]; exact all_take (all_drop hd _) _
    have hp := read_part (K := K) (t := s.extract lo e.toNat) (by omega) hK hdp
    have hv0 := numB_nonneg hdp
    have hv1 := numB_lt hdp
    have hsplit : (bytesOf s).take e.toNat = (bytesOf s).take lo ++ bytesOf (s.extract lo e.toNat) := by
      rw [hb, show e.toNat = lo + (e.toNat - lo) by omega, List.take_add]; simp
    have hlen : (bytesOf (s.extract lo e.toNat)).length = e.toNat - lo := by rw [bytesOf_length]; exact hsz
    have hBv : numB (bytesOf (s.extract lo e.toNat)) < 1000000000 := by
      have : (10 : Int) ^ (bytesOf (s.extract lo e.toNat)).length ≤ 10 ^ 9 := ipow_le (by omega) (by omega)
      have e9 : (10 : Int) ^ 9 = 1000000000 := by decide
      omega
    refine ⟨(out ++ [numT (s.extract lo e.toNat)], e - 9), ?_, by dsimp only; omega, by simp; omega, by simp; omega, h3.snoc ⟨hv0, hBv⟩, ?_⟩
    · rw [g_nat_Read_l0, hlo]
      simp (discharger := omega) only [decide_eq_true_eq, if_pos, if_neg, if_true, if_false, bsome, beq_iff, bne_iff, idxI, bidxI, sslI, lslI, k64, ku64, ku32, ku8, i64w, u64w, u32w, u8w, tdivI, tmodI, tu0a, tu1a, tu2a, tu3a, tu4a, tu5a, lta, bindSl, bindSr, outSl, outSr, Int.toNat_natCast, List.length_cons, List.length_nil, List.length_set, Int.toNat_zero, List.replicate_zero, hp]
    · dsimp only
      rw [valB_snoc, List.length_append, List.length_singleton, Int.pow_succ, numT_B]
      rw [hsplit, numB_app, hlen] at h4
      rcases hm with hm | ⟨hm, h9⟩
      · have e9 : e.toNat - lo = 9 := by omega
        have e10 : (10 : Int) ^ 9 = 1000000000 := by decide
        have el : (e - 9).toNat = lo := by omega
        rw [e9, e10] at h4
        rw [el]
        grind
      · subst hm
        have el : (e - 9).toNat = 0 := by omega
        rw [el, List.take_zero, numB_nil] at *
        grind
  · left
    have el : e.toNat = 0 := by omega
    rw [el, List.take_zero, numB_nil] at h4
    exact ⟨out, by rw [g_nat_Read_l0]; simp (discharger := omega) only [decide_eq_true_eq, if_pos, if_neg, if_true, if_false, bsome, beq_iff, bne_iff, idxI, bidxI, sslI, lslI, k64, ku64, ku32, ku8, i64w, u64w, u32w, u8w, tdivI, tmodI, tu0a, tu1a, tu2a, tu3a, tu4a, tu5a, lta, bindSl, bindSr, outSl, outSr, Int.toNat_natCast, List.length_cons, List.length_nil, List.length_set, Int.toNat_zero, List.replicate_zero], h2, h3, by omega⟩
theorem read_ok {s : ByteArray} (hs : s.size ≤ 8000000) (hK : 2000000000 < K) (hd : (bytesOf s).all digT = true) : ∃ z, g_nat_Read K s = some z ∧ NumN (numT s) z ∧ 9 * z.length < s.size + 9 := by
  obtain ⟨r, h1, h2, h3, h4⟩ := read_loop hs hK hd
  obtain ⟨t, t1, t2, t3, t4⟩ := trim_ok (K := K) (B := 1000000000) (l := r) (by omega) hK h3
  exact ⟨t, by unfold g_nat_Read; simp (discharger := omega) only [decide_eq_true_eq, if_pos, if_neg, if_true, if_false, bsome, beq_iff, bne_iff, idxI, bidxI, sslI, lslI, k64, ku64, ku32, ku8, i64w, u64w, u32w, u8w, tdivI, tmodI, tu0a, tu1a, tu2a, tu3a, tu4a, tu5a, lta, bindSl, bindSr, outSl, outSr, Int.toNat_natCast, List.length_cons, List.length_nil, List.length_set, Int.toNat_zero, List.replicate_zero, h1, t1], ⟨t2, by rw [t3, h4]⟩, by omega⟩
theorem text_part {d : Int} (hd : 0 ≤ d ∧ d < 1000000000) (hK : 2000000000 < K) : ∃ p, g_nat_N_Text_l2 K K (List.replicate 9 0) d 8 = some p ∧ p.length = 9 ∧ p.all digT = true ∧ numB p = d := by
  refine loopW (fun k (s : List Int × Int × Int) => g_nat_N_Text_l2 K k s.1 s.2.1 s.2.2) (fun s => ∃ j : Nat, s.2.2 = (j : Int) - 1 ∧ j ≤ 9 ∧ s.1.length = 9 ∧ (s.1.drop j).all digT = true ∧ (0 ≤ s.2.1 ∧ s.2.1 ≤ d) ∧ d = s.2.1 * 10 ^ (9 - j) + numB (s.1.drop j)) (fun s => (s.2.2 + 1).toNat) _ ?_ ((List.replicate 9 0, d, 8) : List Int × Int × Int) (by simp; omega) ⟨9, rfl, by omega, by simp, by simp, by dsimp only; omega, by simp [numB_nil]⟩
  rintro k ⟨p, c, _⟩ ⟨j, rfl, hj, h1, h2, h3, h4⟩
  dsimp only at h1 h2 h3 h4 ⊢
  by_cases h0 : j = 0
  · subst h0
    left
    rw [List.drop_zero] at h2 h4
    have e9 : (10 : Int) ^ (9 - 0) = 1000000000 := by decide
    have := numB_nonneg h2
    rw [e9] at h4
    exact ⟨p, by rw [g_nat_N_Text_l2]; simp (discharger := omega) only [decide_eq_true_eq, if_pos, if_neg, if_true, if_false, bsome, beq_iff, bne_iff, idxI, bidxI, sslI, lslI, k64, ku64, ku32, ku8, i64w, u64w, u32w, u8w, tdivI, tmodI, tu0a, tu1a, tu2a, tu3a, tu4a, tu5a, lta, bindSl, bindSr, outSl, outSr, Int.toNat_natCast, List.length_cons, List.length_nil, List.length_set, Int.toNat_zero, List.replicate_zero], h1, h2, by omega⟩
  · right
    obtain ⟨i, rfl⟩ : ∃ i, j = i + 1 := ⟨j - 1, by omega⟩
    have e1 : ((i + 1 : Nat) : Int) - 1 = i := by omega
    rw [e1]
    have hx : (p.set i (48 + c % 10)).drop i = (48 + c % 10) :: p.drop (i + 1) := by
      rw [List.drop_eq_getElem_cons (by simp; omega), List.drop_set_of_lt (by omega)]
      simp
    have e2 : (10 : Int) ^ (9 - i) = 10 ^ (9 - (i + 1)) * 10 := by rw [← Int.pow_succ]; congr 1; omega
    have e3 : (p.drop (i + 1)).length = 9 - (i + 1) := by rw [List.length_drop, h1]
    have hdm := Int.emod_add_mul_ediv c 10
    refine ⟨(p.set i (48 + c % 10), c / 10, (i : Int) - 1), ?_, by dsimp only; omega, i, rfl, by omega, by simp [h1], ?_, by dsimp only; omega, ?_⟩
    · rw [g_nat_N_Text_l2]
      simp (discharger := omega) only [decide_eq_true_eq, if_pos, if_neg, if_true, if_false, bsome, beq_iff, bne_iff, idxI, bidxI, sslI, lslI, k64, ku64, ku32, ku8, i64w, u64w, u32w, u8w, tdivI, tmodI, tu0a, tu1a, tu2a, tu3a, tu4a, tu5a, lta, bindSl, bindSr, outSl, outSr, Int.toNat_natCast, List.length_cons, List.length_nil, List.length_set, Int.toNat_zero, List.replicate_zero]
    · dsimp only
      rw [hx, List.all_cons, h2, Bool.and_true]
      exact digT_iff.2 (by omega)
    · dsimp only
      rw [hx, numB_cons, e2, e3]
      generalize (10 : Int) ^ (9 - (i + 1)) = P at *
      grind
theorem text_loop' {x : List Int} (hx : x.length ≤ 1000000) (hK : 2000000000 < K) (dx : DigB 1000000000 x) : ∃ b, g_nat_N_Text_l0 K x K [] ((x.length : Int) - 1) = some b ∧ b.length = 9 * x.length ∧ b.all digT = true ∧ numB b = valB 1000000000 x := by
  refine loopW (fun k (s : List Int × Int) => g_nat_N_Text_l0 K x k s.1 s.2) (fun s => ∃ j : Nat, s.2 = (j : Int) - 1 ∧ j ≤ x.length ∧ s.1.length = 9 * (x.length - j) ∧ s.1.all digT = true ∧ numB s.1 = valB 1000000000 (x.drop j)) (fun s => (s.2 + 1).toNat) _ ?_ (([], (x.length : Int) - 1) : List Int × Int) (by dsimp only; omega) ⟨x.length, rfl, Nat.le_refl _, by simp, by simp, by simp [valB, numB_nil]⟩
  rintro k ⟨b, _⟩ ⟨j, rfl, hj, h1, h2, h4⟩
  dsimp only at h1 h2 h4 ⊢
  by_cases h0 : j = 0
  · subst h0
    left
    exact ⟨b, by rw [g_nat_N_Text_l0]; simp (discharger := omega) only [decide_eq_true_eq, if_pos, if_neg, if_true, if_false, bsome, beq_iff, bne_iff, idxI, bidxI, sslI, lslI, k64, ku64, ku32, ku8, i64w, u64w, u32w, u8w, tdivI, tmodI, tu0a, tu1a, tu2a, tu3a, tu4a, tu5a, lta, bindSl, bindSr, outSl, outSr, Int.toNat_natCast, List.length_cons, List.length_nil, List.length_set, Int.toNat_zero, List.replicate_zero], h1, h2, h4⟩
  · right
    obtain ⟨i, rfl⟩ : ∃ i, j = i + 1 := ⟨j - 1, by omega⟩
    have e1 : ((i + 1 : Nat) : Int) - 1 = i := by omega
    rw [e1]
    have ex := getD_dig (by omega) dx i
    obtain ⟨p, p1, p2, p3, p4⟩ := text_part (K := K) (d := x.getD i 0) ex hK
    have e9 : (10 : Int) ^ 9 = 1000000000 := by decide
    refine ⟨(b ++ p, (i : Int) - 1), ?_, by dsimp only; omega, i, rfl, by omega, by simp; omega, ?_, ?_⟩
    · rw [g_nat_N_Text_l0]
      simp (discharger := omega) only [decide_eq_true_eq, if_pos, if_neg, if_true, if_false, bsome, beq_iff, bne_iff, idxI, bidxI, sslI, lslI, k64, ku64, ku32, ku8, i64w, u64w, u32w, u8w, tdivI, tmodI, tu0a, tu1a, tu2a, tu3a, tu4a, tu5a, lta, bindSl, bindSr, outSl, outSr, Int.toNat_natCast, List.length_cons, List.length_nil, List.length_set, Int.toNat_zero, List.replicate_zero, p1]
    · dsimp only
      rw [List.all_append, h2, p3]; rfl
    · dsimp only
      rw [numB_app, p2, p4, h4, drop_val x i, e9]
theorem trimLeft_loop {n : Int} : ∀ k (s : ByteArray), s.size < k → s.size ≤ 16777216 → (bytesOf s).all digT = true → numT s = n → ∃ t, g_strings_trimLeftByte_l0 K 48 k s = some t ∧ (bytesOf t).all digT = true ∧ numT t = n ∧ (bytesOf t).head? ≠ some 48 ∧ t.size ≤ s.size := by
  intro k
  induction k with
  | zero => intro s h; omega
  | succ k ih =>
    intro s hk hb hd hn
    have hl := bytesOf_length s
    by_cases h0 : s.size > 0
    · cases hc : bytesOf s with
      | nil => rw [hc] at hl; simp at hl; omega
      | cons c l =>
        obtain ⟨t, t1, t2, t3⟩ := ssl_tail hc
        rw [hc] at hd hl
        simp only [List.all_cons, Bool.and_eq_true, List.length_cons] at hd hl
        have hcc : bidx s 0 = some c := by rw [bidx_eq, hc]; rfl
        by_cases h1 : c = 48
        · subst h1
          obtain ⟨r, r1, r2, r3, r4, r5⟩ := ih t (by omega) (by omega) (by rw [t2]; exact hd.2) (by rw [← hn, numT_B, numT_B, t2, hc, numB_cons]; simp)
          refine ⟨r, ?_, r2, r3, r4, by omega⟩
          rw [g_strings_trimLeftByte_l0, hcc, t1]
          simp (discharger := omega) only [decide_eq_true_eq, if_pos, if_neg, if_true, if_false, bsome, beq_iff, bne_iff, idxI, bidxI, sslI, lslI, k64, ku64, ku32, ku8, i64w, u64w, u32w, u8w, tdivI, tmodI, tu0a, tu1a, tu2a, tu3a, tu4a, tu5a, lta, bindSl, bindSr, outSl, outSr, Int.toNat_natCast, List.length_cons, List.length_nil, List.length_set, Int.toNat_zero, List.replicate_zero, r1]
        · refine ⟨s, ?_, by rw [hc]; simp [hd], hn, by rw [hc]; simp; omega, Nat.le_refl _⟩
          rw [g_strings_trimLeftByte_l0, hcc]
          simp (discharger := omega) only [decide_eq_true_eq, if_pos, if_neg, if_true, if_false, bsome, beq_iff, bne_iff, idxI, bidxI, sslI, lslI, k64, ku64, ku32, ku8, i64w, u64w, u32w, u8w, tdivI, tmodI, tu0a, tu1a, tu2a, tu3a, tu4a, tu5a, lta, bindSl, bindSr, outSl, outSr, Int.toNat_natCast, List.length_cons, List.length_nil, List.length_set, Int.toNat_zero, List.replicate_zero]
    · refine ⟨s, ?_, hd, hn, ?_, Nat.le_refl _⟩
      · rw [g_strings_trimLeftByte_l0]
        have e : (decide ((s.size : Int) > 0)) = false := decide_eq_false (by omega)
        rw [e]
        simp (discharger := omega) only [decide_eq_true_eq, if_pos, if_neg, if_true, if_false, bsome, beq_iff, bne_iff, idxI, bidxI, sslI, lslI, k64, ku64, ku32, ku8, i64w, u64w, u32w, u8w, tdivI, tmodI, tu0a, tu1a, tu2a, tu3a, tu4a, tu5a, lta, bindSl, bindSr, outSl, outSr, Int.toNat_natCast, List.length_cons, List.length_nil, List.length_set, Int.toNat_zero, List.replicate_zero, Bool.false_eq_true]
      · have : bytesOf s = [] := List.length_eq_zero_iff.1 (by omega)
        rw [this]; simp
theorem sEq_ne {s t : ByteArray} (h : s.size ≠ t.size) : sEq s t = false := by
  cases e : sEq s t with
  | false => rfl
  | true => rw [sEq_iff] at e; subst e; exact absurd rfl h
theorem trimLeft_ok {s : ByteArray} (hs : s.size ≤ 16777216) (hK : 2000000000 < K) (hp : 0 < numT s) (hd : (bytesOf s).all digT = true) : ∃ t, g_strings_TrimLeft K s ⟨#[48]⟩ = some t ∧ CanT t ∧ numT t = numT s ∧ t.size ≤ s.size := by
  obtain ⟨t, t1, t2, t3, t4, t5⟩ := trimLeft_loop (K := K) K s (by omega) hs hd rfl
  have ne : ∀ u : ByteArray, 0 < numT u → u.size ≠ 0 := fun u hu e => by
    have : bytesOf u = [] := List.length_eq_zero_iff.1 (by rw [bytesOf_length]; exact e)
    rw [numT_B, this, numB_nil] at hu; omega
  refine ⟨t, ?_, ⟨ne t (by omega), t2, fun h => absurd h t4⟩, t3, t5⟩
  unfold g_strings_TrimLeft g_strings_trimLeftByte
  have e1 : sEq s ⟨#[]⟩ = false := sEq_ne (ne s hp)
  have e2 : sEq ⟨#[48]⟩ ⟨#[]⟩ = false := sEq_ne (by decide)
  have e3 : bidx (⟨#[48]⟩ : ByteArray) 0 = some 48 := rfl
  have e4 : (((⟨#[48]⟩ : ByteArray).size : Int) == 1) = true := rfl
  rw [e1, e2, e3, e4]
  simp (discharger := omega) only [decide_eq_true_eq, if_pos, if_neg, if_true, if_false, bsome, beq_iff, bne_iff, idxI, bidxI, sslI, lslI, k64, ku64, ku32, ku8, i64w, u64w, u32w, u8w, tdivI, tmodI, tu0a, tu1a, tu2a, tu3a, tu4a, tu5a, lta, bindSl, bindSr, outSl, outSr, Int.toNat_natCast, List.length_cons, List.length_nil, List.length_set, Int.toNat_zero, List.replicate_zero, Bool.false_eq_true, t1]
theorem text_ok {x : List Int} {n : Int} (hx : x.length ≤ 1000000) (hK : 2000000000 < K) (nx : NumN n x) : ∃ t, g_nat_N_Text K x = some t ∧ CanT t ∧ numT t = n ∧ t.size ≤ 9 * x.length + 1 := by
  unfold g_nat_N_Text
  by_cases h0 : x = []
  · subst h0
    have e : n = 0 := nx.nil_iff.1 rfl
    subst e
    exact ⟨⟨#[48]⟩, rfl, ⟨by decide, rfl, fun _ => rfl⟩, rfl, by decide⟩
  · have hl : x.length ≠ 0 := fun e => h0 (List.length_eq_zero_iff.1 e)
    obtain ⟨b, b1, b2, b3, b4⟩ := text_loop' hx hK nx.1.1
    rw [nx.2] at b4
    have hr : ∀ c ∈ b, 0 ≤ c ∧ c ≤ 255 := fun c hc => by have := digT_iff.1 (List.all_eq_true.1 b3 c hc); omega
    have hb := bytesOf_str b hr
    have hsz : (strOfNums b).size = b.length := by rw [← bytesOf_length, hb]
    obtain ⟨t, t1, t2, t3, t4⟩ := trimLeft_ok (K := K) (s := strOfNums b) (by omega) hK (by rw [numT_B, hb, b4]; exact nx.pos h0) (by rw [hb]; exact b3)
    refine ⟨t, ?_, t2, by rw [t3, numT_B, hb, b4], by omega⟩
    have e : ((x.length : Int) == 0) = false := by simp; omega
    rw [e]
    simp (discharger := omega) only [decide_eq_true_eq, if_pos, if_neg, if_true, if_false, bsome, beq_iff, bne_iff, idxI, bidxI, sslI, lslI, k64, ku64, ku32, ku8, i64w, u64w, u32w, u8w, tdivI, tmodI, tu0a, tu1a, tu2a, tu3a, tu4a, tu5a, lta, bindSl, bindSr, outSl, outSr, Int.toNat_natCast, List.length_cons, List.length_nil, List.length_set, Int.toNat_zero, List.replicate_zero, Bool.false_eq_true, b1, t1]
end Go.Am.Tryd
