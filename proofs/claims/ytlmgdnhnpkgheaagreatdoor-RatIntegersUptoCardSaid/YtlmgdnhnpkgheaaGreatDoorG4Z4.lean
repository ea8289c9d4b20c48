/- Typed functions with the same answers as the program's, and the walks that show it. -/
import Derived.Test.YtlmgdnhnpkgheaaGreatDoorG2Z4
import Derived.Test.YtlmgdnhnpkgheaaGreatDoorG3Z4
namespace Go.Am.Tryz
open Go Go.Am Go.Proofs
set_option linter.unusedVariables false
set_option linter.unusedSimpArgs false
set_option maxRecDepth 10000

def g_rat_Integer_l0 (K : Nat) (x15 : Q) : Nat → Int → Int → Option (Int)
  | 0, _, _ => none
  | k + 1, x203, x204 => (if (decide (x204 ≥ 0)) = true then ((idx x15.num x204).bind fun x219 => (lt (kwrap .i64 ((kwrap .i64 (x203 * 1000000000)) + (IntKind.wrap .i64 x219))) fun x223 => g_rat_Integer_l0 K x15 k x223 (kwrap .i64 (x204 - 1)))) else some x203)
def g_rat_Integer (K : Nat) (p0 : ByteArray) : Option (Int × Int) := ((g_rat_Check K p0).bind fun x1 => (if (x1 != 0) = true then some (0, x1) else ((g_rat_In K p0).bind fun x15 => ((g_rat_Q_whole K x15).bind fun x40 => ((g_nat_Of K 1).bind fun x53 => ((g_nat_N_Cmp K x40 x53).bind fun x66 => (if (x66 != 0) = true then some (0, 3) else ((g_nat_Of K 9223372036854775807).bind fun x82 => (Option.bind ((if x15.neg = true then ((g_nat_Of K 1).bind fun x109 => ((g_nat_N_Add K x82 x109).bind fun x130 => ((g_nat_N_Cmp K x15.num x130).bind fun x143 => some (x82, (x143 == 0))))) else some (x82, false))) (tu2 fun x160 x161 => (if x161 = true then some ((-9223372036854775808), 0) else ((g_nat_N_Cmp K x15.num x160).bind fun x180 => (if (decide (x180 > 0)) = true then some (0, 4) else (Option.bind (g_rat_Integer_l0 K x15 K 0 (kwrap .i64 ((List.length x15.num : Int) - 1))) (tu1 fun x227 => (Option.bind ((if x15.neg = true then some (kwrap .i64 (-x227)) else some x227)) (tu1 fun x243 => some (x243, 0))))))))))))))))))
set_option maxHeartbeats 4000000 in
theorem g_rat_Integer_ok (K : Nat) {G : GM} {H : AH} {L : List Pc} (p0 : ByteArray) (O : Ow G H (L)) (r : Int × Int) (h : g_rat_Integer K p0 = some r) :
    CR Tryz.prog 13 [(.string p0)] G H (L) (fun v G' _ => v = .tuple #[.int .i64 r.1, .int .i64 r.2]) := by
 unfold g_rat_Integer at h
 refine CR.of (calls_of_AW (n := 60) (fn := Tryz.f13) (R := fun v H' => ∃ G', Ow G' H' (L) ∧ G.le G' ∧ v = .tuple #[.int .i64 r.1, .int .i64 r.2]) (by kernel_rfl) rfl rfl ?_)
 refine .seq (.region (W.q1 (.int .i64 0) rfl (W.q1 (.int .i64 0) rfl (.nil (.seq (.seq ?_))))))
 refine .region (W.q2 (.string p0) rfl ?_)
 obtain ⟨x1, i2, h3⟩ := bd_inv h
 refine W.lo rfl rfl (Lo.callP (ps := []) (ps' := []) rfl (fn := Tryz.f28) (by kernel_rfl) rfl (mc rfl mn) O (fun L' O' => g_rat_Check_ok K p0 O' _ i2)) ?_
 rintro v10 H11 ⟨G4, O5, s6, sm9, rfl⟩
 replace O5 : Ow G4 H11 (L) := O5
 refine W.q1 (.int .i64 x1) rfl (.nil (.seq (.region (W.q2 (.int .i64 x1) rfl (W.q3 (.bool (x1 != 0)) rfl rfl (.nil ?_))))))
 refine .cond (b := (x1 != 0)) rfl rfl (fun g12 => ?_) (fun g12 => ?_)
 ·have h13 := pos_inv g12 h3
  refine .seq (.region (W.q2 (.int .i64 x1) rfl (W.q1 (.int .i64 0) rfl (W.q1 (.int .i64 x1) rfl (.nil (.ret ?_))))))
  obtain rfl := Option.some.inj h13
  refine ret2R (P := Tryz.prog) (fn := Tryz.f13) (n := 60) (R := fun v H' => ∃ G', Ow G' H' (L) ∧ G.le G' ∧ v = .tuple #[.int .i64 (0, x1).1, .int .i64 (0, x1).2]) (v1 := (.int .i64 0)) (v2 := (.int .i64 x1)) (by rfl) (rr_tmp (by rfl) (by exact rfl)) (rr_tmp (by rfl) (by exact rfl)) ?_
  exact ⟨_, O5, s6, rfl⟩
 have h14 := neg_b g12 h3
 refine .skip (.seq (.region (W.q2 (.string p0) rfl ?_)))
 obtain ⟨x15, i16, h17⟩ := bd_inv h14
 refine W.lo rfl rfl (Lo.callP (ps := []) (ps' := []) rfl (fn := Tryz.f30) (by kernel_rfl) rfl (mc rfl mn) O5 (fun L' O' => g_rat_In_ok K p0 O' _ i16)) ?_
 rintro v26 H27 ⟨G18, O19, s20, sm25, ⟨c22, rfl, f23⟩⟩
 replace O19 : Ow G18 H27 (L) := O19
 refine W.lo rfl rfl (Lo.alloc (r := T_Q) (x0 := (Q.mk false ([] : List Int) ([] : List Int))) ze48 (by kernel_rfl) z_Q O19) ?_
 rintro v31 H32 ⟨b29, rfl, O28, sm30⟩
 refine W.lo rfl rfl (Lo.storeVar (j := 0) (s := T_Q) (y0 := x15) (v := (.agg (List.toArray c22))) (o := 0) rfl ((Put.at (Put.self _) _ _)) rfl sz48 rfl (by omega) rfl f23 O28) ?_
 rintro v35 H36 ⟨O33, sm34⟩
 replace O33 : Ow G18 H36 (eVar b29 48 T_Q x15 :: L) := O33
 refine .nil (.seq (.seq (.region ?_)))
 obtain ⟨c37, p38, f39⟩ := (O33.atVar (j := 0) rfl)
 refine W.loadA (cs := c37) rfl rfl ag48 sz48 (pt_px rfl p38) (RT.len _ f39) ?_
 obtain ⟨x40, i41, h42⟩ := bd_inv h17
 refine W.lo rfl rfl (Lo.callP (ps := []) (ps' := []) rfl (fn := Tryz.f39) (by kernel_rfl) rfl (mc rfl mn) O33 (fun L' O' => g_rat_Q_whole_ok K c37 x15 f39 O' _ i41)) ?_
 rintro v51 H52 ⟨G43, O44, s45, sm50, ⟨w47, rfl, f48⟩⟩
 replace O44 : Ow G43 H52 (eVar b29 48 T_Q x15 :: L) := O44
 obtain ⟨x53, i54, h55⟩ := bd_inv h42
 refine W.lo rfl rfl (Lo.callPF (ps := []) (pw := fun w => [eSl w 64 (rI .u32) x53]) rfl (fn := Tryz.f41) (by kernel_rfl) rfl (mc rfl mn) O44 (fun L' O' => g_nat_Of_ok K 1 O' _ i54)) ?_
 rintro v64 H65 ⟨w61, G56, O57, s58, sm63, rfl⟩
 replace O57 : Ow G56 H65 (eSl w61 64 (rI .u32) x53 :: eVar b29 48 T_Q x15 :: L) := O57
 obtain ⟨x66, i67, h68⟩ := bd_inv h55
 refine W.lo rfl rfl (Lo.callB (j := 0) rfl rfl (fn := Tryz.f40) (by kernel_rfl) rfl (mc rfl (mc rfl mn)) O57 (fun G' L' hG O' hB => g_nat_N_Cmp_ok K w47 x40 (RT.mono _ hG (RT.mono _ s58 f48)) w61 x53 hB O' _ i67)) ?_
 rintro v75 H76 ⟨G69, O70, s71, sm74, rfl⟩
 replace O70 : Ow G69 H76 (eSl w61 64 (rI .u32) x53 :: eVar b29 48 T_Q x15 :: L) := O70
 refine W.q3 (.bool (x66 != 0)) rfl rfl (.nil (.cond (b := (x66 != 0)) rfl rfl (fun g77 => ?_) (fun g77 => ?_)))
 ·have h78 := pos_inv g77 h68
  refine .seq (.region (W.q1 (.int .i64 0) rfl (W.q1 (.int .i64 3) rfl (.nil (.ret ?_)))))
  have O79 : Ow G69 H76 (eVar b29 48 T_Q x15 :: L) := O70.drop 0
  have O80 : Ow G69 H76 (L) := O79.drop 0
  obtain rfl := Option.some.inj h78
  refine ret2R (P := Tryz.prog) (fn := Tryz.f13) (n := 60) (R := fun v H' => ∃ G', Ow G' H' (L) ∧ G.le G' ∧ v = .tuple #[.int .i64 (0, 3).1, .int .i64 (0, 3).2]) (v1 := (.int .i64 0)) (v2 := (.int .i64 3)) (by rfl) (rr_tmp (by rfl) (by exact rfl)) (rr_tmp (by rfl) (by exact rfl)) ?_
  exact ⟨_, O80, (GM.le.trans s6 (GM.le.trans s20 (GM.le.trans s45 (GM.le.trans s58 s71)))), rfl⟩
 have h81 := neg_b g77 h68
 refine .skip (.seq (.region ?_))
 obtain ⟨x82, i83, h84⟩ := bd_inv h81
 refine W.lo rfl rfl (Lo.callPF (ps := []) (pw := fun w => [eSl w 64 (rI .u32) x82]) rfl (fn := Tryz.f41) (by kernel_rfl) rfl (mc rfl mn) O70 (fun L' O' => g_nat_Of_ok K 9223372036854775807 O' _ i83)) ?_
 rintro v93 H94 ⟨w90, G85, O86, s87, sm92, rfl⟩
 replace O86 : Ow G85 H94 (eSl w90 64 (rI .u32) x82 :: eSl w61 64 (rI .u32) x53 :: eVar b29 48 T_Q x15 :: L) := O86
 refine W.q1 w90 rfl (.nil (.seq (.seq ?_)))
 obtain ⟨q95, h96, h97⟩ := bd_inv h84
 refine AW.midT (fun σ' H' => ∃ (y1 : List Int) (y2 : Bool) (G' : GM), (y1, y2) = q95 ∧ Ow G' H' (eSl w61 64 (rI .u32) x53 :: eVar b29 48 T_Q x15 :: L) ∧ GM.le G85 G' ∧ (rSl (rI .u32)).rep G' [σ' 6] y1 ∧ σ' 32 = .bool y2) ?_ ?_
 ·refine .draw2 (M := [0, 1, 3, 7, 15, 7, 7, 103, 255, 511, 1023]) mixed (by kernel_rfl) (by kernel_rfl) fun H98 N102 x99 F101 => ?_
  have O100 := O86.ext x99
  refine D2.pure (v := (padd (.pointer (some ⟨b29, 0, none⟩)) 0)) rfl rfl (v_fldA fl48_0 (oo rfl rfl) (O100.atVar (j := 2) rfl)) (D2.load1' (v := (.bool x15.neg)) (r := []) rfl rfl ag4 (pt_px rfl (At.bool (At.proj (O100.atVar (j := 2) rfl) p_Q_neg))) fa_nil (D2.q2 (.bool x15.neg) rfl (D2.splitAt (t := 24) (b := x15.neg) rfl (fun g103 gv104 => ?_) (fun g103 gv104 => ?_))))
  rotate_left
  ·have h155 := neg_b g103 h96
   refine D2.skip (gk rfl rfl gv104 rfl) rfl (D2.skip (gk rfl rfl gv104 rfl) rfl (D2.skip (gk rfl rfl gv104 rfl) rfl (D2.skip (gk rfl rfl gv104 rfl) rfl (D2.skip (gk rfl rfl gv104 rfl) rfl (D2.skip (gk rfl rfl gv104 rfl) rfl (D2.skip (gk rfl rfl gv104 rfl) rfl ?_))))))
   refine D2.pure (v := (.bool false)) rfl rfl (v_pickF (oo rfl gv104) (oo rfl rfl)) (.nil ?_)
   obtain ⟨G156, O157, s158, f159⟩ := O100.frzSl (j := 0) rfl
   replace O157 : Ow G156 H98 (eSl w61 64 (rI .u32) x53 :: eVar b29 48 T_Q x15 :: L) := O157
   obtain rfl := Option.some.inj h155
   exact ⟨x82, false, _, rfl, O157, s158, f159, rfl⟩
  have h105 := pos_inv g103 h96
  refine D2.pure (v := (padd (.pointer (some ⟨b29, 0, none⟩)) 1)) (gk rfl rfl gv104 rfl) rfl (v_fldA fl48_1 (oo rfl rfl) (O100.atVar (j := 2) rfl)) ?_
  obtain ⟨w106, p107, f108⟩ := At.sl (At.proj (O100.atVar (j := 2) rfl) p_Q_num)
  refine D2.load1' (v := w106) (r := []) (gk rfl rfl gv104 rfl) rfl ag46 (pt_px rfl p107) fa_nil (D2.q2 (hg := gk rfl rfl gv104 rfl) w90 rfl ?_)
  obtain ⟨x109, i110, h111⟩ := bd_inv h105
  refine D2.lo (gk rfl rfl gv104 rfl) rfl (Lo.callPF (ps := []) (pw := fun w => [eSl w 64 (rI .u32) x109]) rfl (fn := Tryz.f41) (by kernel_rfl) rfl (mc rfl mn) O100 (fun L' O' => g_nat_Of_ok K 1 O' _ i110)) ?_ fa_nil ?_ ?_
  ·rintro v120 H121 ⟨w117, G112, O113, s114, sm119, rfl⟩; exact (faR1 (.inr (sm119 _ (Or.inr ⟨2, _, rfl, List.mem_singleton.2 rfl⟩))) (faR1 (.inl (by decide)) fa_nil))
  ·rintro v120 H121 ⟨w117, G112, O113, s114, sm119, rfl⟩; exact fa_nil
  rintro v120 H121 ⟨w117, G112, O113, s114, sm119, rfl⟩
  replace O113 : Ow G112 H121 (eSl w117 64 (rI .u32) x109 :: eSl w90 64 (rI .u32) x82 :: eSl w61 64 (rI .u32) x53 :: eVar b29 48 T_Q x15 :: L) := O113
  obtain ⟨G122, O123, s124, f125⟩ := O113.frzSl (j := 1) rfl
  replace O123 : Ow G122 H121 (eSl w117 64 (rI .u32) x109 :: eSl w61 64 (rI .u32) x53 :: eVar b29 48 T_Q x15 :: L) := O123
  obtain ⟨G126, O127, s128, f129⟩ := O123.frzSl (j := 0) rfl
  replace O127 : Ow G126 H121 (eSl w61 64 (rI .u32) x53 :: eVar b29 48 T_Q x15 :: L) := O127
  obtain ⟨x130, i131, h132⟩ := bd_inv h111
  refine D2.lo (gk rfl rfl gv104 rfl) rfl (Lo.callPF (ps := []) (pw := fun w => [eSl w 64 (rI .u32) x130]) rfl (fn := Tryz.f42) (by kernel_rfl) rfl (mc rfl (mc rfl mn)) O127 (fun L' O' => g_nat_N_Add_ok K w90 x82 (RT.mono _ s128 f125) w117 x109 f129 O' _ i131)) ?_ (faL_bit (by decide) fa_nil) ?_ ?_
  ·rintro v141 H142 ⟨w138, G133, O134, s135, sm140, rfl⟩; exact (faR1 (.inr (sm140 _ (Or.inr ⟨1, _, rfl, List.mem_singleton.2 rfl⟩))) (faR1 (.inl (by decide)) fa_nil))
  ·rintro v141 H142 ⟨w138, G133, O134, s135, sm140, rfl⟩; exact fa_nil
  rintro v141 H142 ⟨w138, G133, O134, s135, sm140, rfl⟩
  replace O134 : Ow G133 H142 (eSl w138 64 (rI .u32) x130 :: eSl w61 64 (rI .u32) x53 :: eVar b29 48 T_Q x15 :: L) := O134
  obtain ⟨x143, i144, h145⟩ := bd_inv h132
  refine D2.lo (gk rfl rfl gv104 rfl) rfl (Lo.callB (j := 0) rfl rfl (fn := Tryz.f40) (by kernel_rfl) rfl (mc rfl (mc rfl mn)) O134 (fun G' L' hG O' hB => g_nat_N_Cmp_ok K w106 x15.num (RT.mono _ hG (RT.mono _ (GM.le.trans s114 (GM.le.trans s124 (GM.le.trans s128 s135))) f108)) w138 x130 hB O' _ i144)) ?_ (faL_bit (by decide) (faL_bit (by decide) fa_nil)) ?_ ?_
  ·rintro v152 H153 ⟨G146, O147, s148, sm151, rfl⟩; exact (faR1 (.inl (by decide)) (faR1 (.inl (by decide)) fa_nil))
  ·rintro v152 H153 ⟨G146, O147, s148, sm151, rfl⟩; exact fa_nil
  rintro v152 H153 ⟨G146, O147, s148, sm151, rfl⟩
  replace O147 : Ow G146 H153 (eSl w138 64 (rI .u32) x130 :: eSl w61 64 (rI .u32) x53 :: eVar b29 48 T_Q x15 :: L) := O147
  refine D2.q3 (hg := gk rfl rfl gv104 rfl) (.bool (x143 == 0)) rfl rfl (D2.pure (v := (.bool (x143 == 0))) rfl rfl (v_pickT (oo rfl gv104) (oo rfl rfl)) (.nil ?_))
  have O154 : Ow G146 H153 (eSl w61 64 (rI .u32) x53 :: eVar b29 48 T_Q x15 :: L) := O147.drop 0
  obtain rfl := Option.some.inj h145
  exact ⟨x82, (x143 == 0), _, rfl, O154, (GM.le.trans s114 (GM.le.trans s124 (GM.le.trans s128 (GM.le.trans s135 s148)))), (RT.mono _ (GM.le.trans s128 (GM.le.trans s135 s148)) f125), rfl⟩
 rintro σ162 H163 fr164 ⟨x160, x161, G165, rfl, O166, s167, f169, t170⟩
 have h171 := tu2_inv h97
 refine .cond (b := x161) rfl t170 (fun g172 => ?_) (fun g172 => ?_)
 ·have h173 := pos_inv g172 h171
  refine .seq (.region (W.q1 (.int .i64 (-9223372036854775808)) rfl (W.q1 (.int .i64 0) rfl (.nil (.ret ?_)))))
  have O174 : Ow G165 H163 (eVar b29 48 T_Q x15 :: L) := O166.drop 0
  have O175 : Ow G165 H163 (L) := O174.drop 0
  obtain rfl := Option.some.inj h173
  refine ret2R (P := Tryz.prog) (fn := Tryz.f13) (n := 60) (R := fun v H' => ∃ G', Ow G' H' (L) ∧ G.le G' ∧ v = .tuple #[.int .i64 ((-9223372036854775808), 0).1, .int .i64 ((-9223372036854775808), 0).2]) (v1 := (.int .i64 (-9223372036854775808))) (v2 := (.int .i64 0)) (by rfl) (rr_tmp (by rfl) (by exact rfl)) (rr_tmp (by rfl) (by exact rfl)) ?_
  exact ⟨_, O175, (GM.le.trans s6 (GM.le.trans s20 (GM.le.trans s45 (GM.le.trans s58 (GM.le.trans s71 (GM.le.trans s87 s167)))))), rfl⟩
 have h176 := neg_b g172 h171
 refine .skip (.seq (.seq (.region (W.pure (v := (padd (.pointer (some ⟨b29, 0, none⟩)) 1)) rfl rfl (v_fldA fl48_1 (oo rfl ((fr164 5 rfl).trans rfl)) (O166.atVar (j := 1) rfl)) ?_))))
 obtain ⟨w177, p178, f179⟩ := At.sl (At.proj (O166.atVar (j := 1) rfl) p_Q_num)
 refine W.load1 (v := w177) (r := []) rfl rfl ag46 (pt_px rfl p178) (W.q2 (σ162 6) rfl ?_)
 obtain ⟨x180, i181, h182⟩ := bd_inv h176
 refine W.lo rfl rfl (Lo.callP (ps := []) (ps' := []) rfl (fn := Tryz.f40) (by kernel_rfl) rfl (mc rfl (mc rfl mn)) O166 (fun L' O' => g_nat_N_Cmp_ok K w177 x15.num f179 (σ162 6) x160 f169 O' _ i181)) ?_
 rintro v189 H190 ⟨G183, O184, s185, sm188, rfl⟩
 replace O184 : Ow G183 H190 (eSl w61 64 (rI .u32) x53 :: eVar b29 48 T_Q x15 :: L) := O184
 refine W.q3 (.bool (decide (x180 > 0))) rfl rfl (.nil (.cond (b := decide (x180 > 0)) rfl rfl (fun g191 => ?_) (fun g191 => ?_)))
 ·have h192 := pos_inv g191 h182
  refine .seq (.region (W.q1 (.int .i64 0) rfl (W.q1 (.int .i64 4) rfl (.nil (.ret ?_)))))
  have O193 : Ow G183 H190 (eVar b29 48 T_Q x15 :: L) := O184.drop 0
  have O194 : Ow G183 H190 (L) := O193.drop 0
  obtain rfl := Option.some.inj h192
  refine ret2R (P := Tryz.prog) (fn := Tryz.f13) (n := 60) (R := fun v H' => ∃ G', Ow G' H' (L) ∧ G.le G' ∧ v = .tuple #[.int .i64 (0, 4).1, .int .i64 (0, 4).2]) (v1 := (.int .i64 0)) (v2 := (.int .i64 4)) (by rfl) (rr_tmp (by rfl) (by exact rfl)) (rr_tmp (by rfl) (by exact rfl)) ?_
  exact ⟨_, O194, (GM.le.trans s6 (GM.le.trans s20 (GM.le.trans s45 (GM.le.trans s58 (GM.le.trans s71 (GM.le.trans s87 (GM.le.trans s167 s185))))))), rfl⟩
 have h195 := neg_b g191 h182
 refine .skip (.seq (.region (W.q1 (.int .i64 0) rfl (.nil (.seq (.seq ?_))))))
 refine .region (W.pure (v := (padd (.pointer (some ⟨b29, 0, none⟩)) 1)) rfl rfl (v_fldA fl48_1 (oo rfl ((fr164 5 rfl).trans rfl)) (O184.atVar (j := 1) rfl)) ?_)
 obtain ⟨w196, p197, f198⟩ := At.sl (At.proj (O184.atVar (j := 1) rfl) p_Q_num)
 refine W.load1 (v := w196) (r := []) rfl rfl ag46 (pt_px rfl p197) (W.pure (v := (.int .i64 (List.length x15.num : Int))) rfl rfl (len_sl (oo rfl rfl) (sl_len f198) (elemT_inv el46)) (W.q3 (.int .i64 (kwrap .i64 ((List.length x15.num : Int) - 1))) rfl rfl (W.q1 (.int .i64 (kwrap .i64 ((List.length x15.num : Int) - 1))) rfl (.nil ?_))))
 obtain ⟨q199, h200, h201⟩ := bd_inv h195
 refine AW.midT (fun σ' H' => ∃ (y1 : Int) (G' : GM), y1 = q199 ∧ Ow G' H' (eSl w61 64 (rI .u32) x53 :: eVar b29 48 T_Q x15 :: L) ∧ GM.le G183 G' ∧ σ' 7 = .int .i64 y1) ?_ ?_
 rotate_left
 ·rintro σ228 H229 fr230 ⟨x227, G231, rfl, O232, s233, t235⟩
  have h236 := tu1_inv h201
  refine .seq (.seq (.region (W.pure (v := (padd (.pointer (some ⟨b29, 0, none⟩)) 0)) rfl rfl (v_fldA fl48_0 (oo rfl ((fr230 5 rfl).trans ((fr164 5 rfl).trans rfl))) (O232.atVar (j := 1) rfl)) (W.load1 (v := (.bool x15.neg)) (r := []) rfl rfl ag4 (pt_px rfl (At.bool (At.proj (O232.atVar (j := 1) rfl) p_Q_neg))) (.nil ?_)))))
  obtain ⟨q237, h238, h239⟩ := bd_inv h236
  refine AW.midT (fun σ' H' => ∃ (y1 : Int) (G' : GM), y1 = q237 ∧ Ow G' H' (eSl w61 64 (rI .u32) x53 :: eVar b29 48 T_Q x15 :: L) ∧ GM.le G231 G' ∧ σ' 7 = .int .i64 y1) ?_ ?_
  ·refine .cond (b := x15.neg) rfl rfl (fun g240 => ?_) (fun g240 => ?_)
   rotate_left
   ·have h242 := neg_b g240 h238
    refine .skip ?_
    obtain rfl := Option.some.inj h242
    exact ⟨x227, _, rfl, O232, (GM.le.refl _), t235⟩
   have h241 := pos_inv g240 h238
   refine .region (W.q2 (.int .i64 x227) t235 (W.pure (v := (.int .i64 (kwrap .i64 (-x227)))) rfl rfl (v_neg (oo rfl rfl)) (W.q1 (.int .i64 (kwrap .i64 (-x227))) rfl (.nil ?_))))
   obtain rfl := Option.some.inj h241
   exact ⟨kwrap .i64 (-x227), _, rfl, O232, (GM.le.refl _), rfl⟩
  rintro σ244 H245 fr246 ⟨x243, G247, rfl, O248, s249, t251⟩
  have h252 := tu1_inv h239
  refine .seq (.region (W.q2 (.int .i64 x243) t251 (W.q1 (.int .i64 x243) rfl (W.q1 (.int .i64 0) rfl (.nil (.ret ?_))))))
  have O253 : Ow G247 H245 (eVar b29 48 T_Q x15 :: L) := O248.drop 0
  have O254 : Ow G247 H245 (L) := O253.drop 0
  obtain rfl := Option.some.inj h252
  refine ret2R (P := Tryz.prog) (fn := Tryz.f13) (n := 60) (R := fun v H' => ∃ G', Ow G' H' (L) ∧ G.le G' ∧ v = .tuple #[.int .i64 (x243, 0).1, .int .i64 (x243, 0).2]) (v1 := (.int .i64 x243)) (v2 := (.int .i64 0)) (by rfl) (rr_tmp (by rfl) (by exact rfl)) (rr_tmp (by rfl) (by exact rfl)) ?_
  exact ⟨_, O254, (GM.le.trans s6 (GM.le.trans s20 (GM.le.trans s45 (GM.le.trans s58 (GM.le.trans s71 (GM.le.trans s87 (GM.le.trans s167 (GM.le.trans s185 (GM.le.trans s233 s249))))))))), rfl⟩
 refine .block (AW.loop (α := Nat) (fun k' σ' H' => ∃ (y1 : Int) (y2 : Int) (G' : GM), g_rat_Integer_l0 K x15 k' y1 y2 = some q199 ∧ Ow G' H' (eSl w61 64 (rI .u32) x53 :: eVar b29 48 T_Q x15 :: L) ∧ GM.le G183 G' ∧ σ' 7 = .int .i64 y1 ∧ σ' 8 = .int .i64 y2) (fun k' => k') K ⟨0, kwrap .i64 ((List.length x15.num : Int) - 1), _, h200, O184, (GM.le.refl _), rfl, rfl⟩ ?_)
 rintro k202
 rintro σ205 H206 fr207 ⟨x203, x204, G208, h211, O209, s210, t212, t213⟩
 rcases k202 with _ | k202
 ·exact none_absurd h211
 rw [g_rat_Integer_l0] at h211
 refine .seq (.seq (.region (W.q2 (.int .i64 x204) t213 (W.q3 (.bool (decide (x204 ≥ 0))) rfl rfl (.nil (.cond (b := decide (x204 ≥ 0)) rfl rfl (fun g214 => ?_) (fun g214 => ?_)))))))
 rotate_left
 ·have h226 := neg_b g214 h211
  refine .exit ?_
  obtain rfl := Option.some.inj h226
  exact ⟨x203, _, rfl, O209, s210, t212⟩
 have h215 := pos_inv g214 h211
 refine .skip (.seq (.block (.region (W.q2 (.int .i64 x203) t212 (W.q3 (.int .i64 (kwrap .i64 (x203 * 1000000000))) rfl rfl (W.pure (v := (padd (.pointer (some ⟨b29, 0, none⟩)) 1)) rfl rfl (v_fldA fl48_1 (oo rfl ((fr207 5 rfl).trans ((fr164 5 rfl).trans rfl))) (O209.atVar (j := 1) rfl)) ?_))))))
 obtain ⟨w216, p217, f218⟩ := At.sl (At.proj (O209.atVar (j := 1) rfl) p_Q_num)
 refine W.load1 (v := w216) (r := []) rfl rfl ag46 (pt_px rfl p217) (W.q2 (.int .i64 x204) t213 ?_)
 obtain ⟨x219, i220, h221⟩ := bd_inv h215
 have j222 := idx_inv i220
 refine W.pure (v := (selem w216 (Int.toNat x204 * 1))) rfl rfl (v_idx el46 sz64 (oo rfl rfl) (oo rfl rfl) (sl_len f218) j222.1 j222.2.1) (W.load1 (v := (.int .u32 x219)) (r := []) rfl rfl ag64 (pt_px rfl (At.int (At.le (sl_idx f218 j222.2.2) (GM.le.refl _) O209.fro))) (W.pure (v := (.int .i64 (IntKind.wrap .i64 x219))) rfl rfl (v_conv in64 in3 (oo rfl rfl)) (W.q3 (.int .i64 (kwrap .i64 ((kwrap .i64 (x203 * 1000000000)) + (IntKind.wrap .i64 x219)))) rfl rfl ?_)))
 obtain ⟨x223, e224, h225⟩ := lt_inv h221
 refine W.q1 (.int .i64 x223) (congrArg (Value.int .i64) e224) (.nil (.region (W.q2 (.int .i64 x204) t213 (W.q3 (.int .i64 (kwrap .i64 (x204 - 1))) rfl rfl (W.q1 (.int .i64 (kwrap .i64 (x204 - 1))) rfl (.nil ?_))))))
 exact ⟨k202, Nat.lt_succ_self _, ⟨x223, kwrap .i64 (x204 - 1), _, h225, O209, s210, rfl, rfl⟩⟩
def g_rat_Sum_l0 (K : Nat) (p0 : List ByteArray) : Nat → Q → Int → Option ((ByteArray × Int) ⊕ Q)
  | 0, _, _ => none
  | k + 1, x27, x28 => (if (decide (x28 < (List.length p0 : Int))) = true then ((idx p0 x28).bind fun x39 => ((g_rat_In K x39).bind fun x51 => ((g_rat_Q_Add K x27 x51).bind fun x64 => ((g_rat_Fits K x64).bind fun x84 => (if (x84 != 0) = true then some (.inl ((⟨#[]⟩ : ByteArray), 2)) else g_rat_Sum_l0 K p0 k x64 (kwrap .i64 (x28 + 1))))))) else some (.inr x27))
def g_rat_Sum (K : Nat) (p0 : List ByteArray) : Option (ByteArray × Int) := (if (decide ((List.length p0 : Int) > 256)) = true then some ((⟨#[]⟩ : ByteArray), 2) else ((g_rat_CheckAll K p0).bind fun x4 => (if (x4 != 0) = true then some ((⟨#[]⟩ : ByteArray), x4) else (bindS (g_rat_Sum_l0 K p0 K (Q.mk false ([] : List Int) ([] : List Int)) 0) (tu2 fun a125 a126 => some (a125, a126)) (tu1 fun x101 => ((g_rat_told K x101).bind fun x113 => some (x113.1, x113.2)))))))
set_option maxHeartbeats 4000000 in
theorem g_rat_Sum_ok (K : Nat) {G : GM} {H : AH} {L : List Pc} (v0 : Value) (p0 : List ByteArray) (hp0 : (rSl rS).rep G [v0] p0) (O : Ow G H (L)) (r : ByteArray × Int) (h : g_rat_Sum K p0 = some r) :
    CR Tryz.prog 25 [v0] G H (L) (fun v G' _ => v = .tuple #[.string r.1, .int .i64 r.2]) := by
 unfold g_rat_Sum at h
 refine CR.of (calls_of_AW (n := 34) (fn := Tryz.f25) (R := fun v H' => ∃ G', Ow G' H' (L) ∧ G.le G' ∧ v = .tuple #[.string r.1, .int .i64 r.2]) (by kernel_rfl) rfl rfl ?_)
 refine .seq (.region (W.q1 (.string (⟨#[]⟩ : ByteArray)) rfl (W.q1 (.int .i64 0) rfl (.nil (.seq (.seq ?_))))))
 refine .region (W.q2 v0 rfl (W.pure (v := (.int .i64 (List.length p0 : Int))) rfl rfl (len_sl (oo rfl rfl) (sl_len hp0) (elemT_inv el31)) (W.q3 (.bool (decide ((List.length p0 : Int) > 256))) rfl rfl (.nil (.cond (b := decide ((List.length p0 : Int) > 256)) rfl rfl (fun g1 => ?_) (fun g1 => ?_))))))
 ·have h2 := pos_inv g1 h
  refine .seq (.region (W.q1 (.string (⟨#[]⟩ : ByteArray)) rfl (W.q1 (.int .i64 2) rfl (.nil (.ret ?_)))))
  obtain rfl := Option.some.inj h2
  refine ret2R (P := Tryz.prog) (fn := Tryz.f25) (n := 34) (R := fun v H' => ∃ G', Ow G' H' (L) ∧ G.le G' ∧ v = .tuple #[.string ((⟨#[]⟩ : ByteArray), 2).1, .int .i64 ((⟨#[]⟩ : ByteArray), 2).2]) (v1 := (.string (⟨#[]⟩ : ByteArray))) (v2 := (.int .i64 2)) (by rfl) (rr_tmp (by rfl) (by exact rfl)) (rr_tmp (by rfl) (by exact rfl)) ?_
  exact ⟨_, O, (GM.le.refl _), rfl⟩
 have h3 := neg_b g1 h
 refine .skip (.seq (.seq (.region (W.q2 v0 rfl ?_))))
 obtain ⟨x4, i5, h6⟩ := bd_inv h3
 refine W.lo rfl rfl (Lo.callP (ps := []) (ps' := []) rfl (fn := Tryz.f29) (by kernel_rfl) rfl (mc rfl mn) O (fun L' O' => g_rat_CheckAll_ok K v0 p0 hp0 O' _ i5)) ?_
 rintro v13 H14 ⟨G7, O8, s9, sm12, rfl⟩
 replace O8 : Ow G7 H14 (L) := O8
 refine W.q1 (.int .i64 x4) rfl (.nil (.seq (.region (W.q2 (.int .i64 x4) rfl (W.q3 (.bool (x4 != 0)) rfl rfl (.nil ?_))))))
 refine .cond (b := (x4 != 0)) rfl rfl (fun g15 => ?_) (fun g15 => ?_)
 ·have h16 := pos_inv g15 h6
  refine .seq (.region (W.q2 (.int .i64 x4) rfl (W.q1 (.string (⟨#[]⟩ : ByteArray)) rfl (W.q1 (.int .i64 x4) rfl (.nil (.ret ?_))))))
  obtain rfl := Option.some.inj h16
  refine ret2R (P := Tryz.prog) (fn := Tryz.f25) (n := 34) (R := fun v H' => ∃ G', Ow G' H' (L) ∧ G.le G' ∧ v = .tuple #[.string ((⟨#[]⟩ : ByteArray), x4).1, .int .i64 ((⟨#[]⟩ : ByteArray), x4).2]) (v1 := (.string (⟨#[]⟩ : ByteArray))) (v2 := (.int .i64 x4)) (by rfl) (rr_tmp (by rfl) (by exact rfl)) (rr_tmp (by rfl) (by exact rfl)) ?_
  exact ⟨_, O8, s9, rfl⟩
 have h17 := neg_b g15 h6
 refine .skip (.seq (.region (W.lo rfl rfl (Lo.alloc (r := T_Q) (x0 := (Q.mk false ([] : List Int) ([] : List Int))) ze48 (by kernel_rfl) z_Q O8) ?_)))
 rintro v21 H22 ⟨b19, rfl, O18, sm20⟩
 refine .nil (.seq (.seq (.region (W.q2 v0 rfl (W.pure (v := (.int .i64 (List.length p0 : Int))) rfl rfl (len_sl (oo rfl rfl) (sl_len (RT.mono _ s9 hp0)) (elemT_inv el31)) (W.q2 (.int .i64 0) rfl ?_))))))
 refine .nil ?_
 obtain ⟨q23, h24, h25⟩ := bindS_inv h17
 refine AW.midT (fun σ' H' => ∃ (y1 : Q) (G' : GM), (.inr y1) = q23 ∧ Ow G' H' (eVar b19 48 T_Q y1 :: L) ∧ GM.le G7 G') ?_ ?_
 rotate_left
 ·rintro σ102 H103 fr104 ⟨x101, G105, rfl, O106, s107⟩
  have h109 := tu1_inv (outS_r h25)
  refine .seq (.region ?_)
  obtain ⟨c110, p111, f112⟩ := (O106.atVar (j := 0) rfl)
  refine W.loadA (cs := c110) rfl rfl ag48 sz48 (pt_px ((fr104 5 rfl).trans rfl) p111) (RT.len _ f112) ?_
  obtain ⟨x113, i114, h115⟩ := bd_inv h109
  refine W.lo rfl rfl (Lo.callP (ps := []) (ps' := []) rfl (fn := Tryz.f46) (by kernel_rfl) rfl (mc rfl mn) O106 (fun L' O' => g_rat_told_ok K c110 x101 f112 O' _ i114)) ?_
  rintro v122 H123 ⟨G116, O117, s118, sm121, rfl⟩
  replace O117 : Ow G116 H123 (eVar b19 48 T_Q x101 :: L) := O117
  refine W.pure (v := (.string x113.1)) rfl rfl (v_extract (oo rfl rfl) rfl) (W.pure (v := (.int .i64 x113.2)) rfl rfl (v_extract (oo rfl rfl) rfl) (W.q1 (.string x113.1) rfl (W.q1 (.int .i64 x113.2) rfl (.nil (.ret ?_)))))
  have O124 : Ow G116 H123 (L) := O117.drop 0
  obtain rfl := Option.some.inj h115
  refine ret2R (P := Tryz.prog) (fn := Tryz.f25) (n := 34) (R := fun v H' => ∃ G', Ow G' H' (L) ∧ G.le G' ∧ v = .tuple #[.string (x113.1, x113.2).1, .int .i64 (x113.1, x113.2).2]) (v1 := (.string x113.1)) (v2 := (.int .i64 x113.2)) (by rfl) (rr_tmp (by rfl) (by exact rfl)) (rr_tmp (by rfl) (by exact rfl)) ?_
  exact ⟨_, O124, (GM.le.trans s9 (GM.le.trans s107 s118)), rfl⟩
 refine .block (AW.loop (α := Nat) (fun k' σ' H' => ∃ (y1 : Q) (y2 : Int) (G' : GM), g_rat_Sum_l0 K p0 k' y1 y2 = some q23 ∧ Ow G' H' (eVar b19 48 T_Q y1 :: L) ∧ GM.le G7 G' ∧ σ' 18 = .int .i64 y2) (fun k' => k') K ⟨(Q.mk false ([] : List Int) ([] : List Int)), 0, _, h24, O18, (GM.le.refl _), rfl⟩ ?_)
 rintro k26
 rintro σ29 H30 fr31 ⟨x27, x28, G32, h35, O33, s34, t36⟩
 rcases k26 with _ | k26
 ·exact none_absurd h35
 rw [g_rat_Sum_l0] at h35
 refine .seq (.region (W.q3 (.bool (decide (x28 < (List.length p0 : Int)))) t36 ((fr31 17 rfl).trans rfl) (.nil (.seq (.cond (b := decide (x28 < (List.length p0 : Int))) rfl rfl (fun g37 => ?_) (fun g37 => ?_))))))
 rotate_left
 ·have h100 := neg_b g37 h35
  refine .exit ?_
  obtain rfl := Option.some.inj h100
  exact ⟨x27, _, rfl, O33, s34⟩
 have h38 := pos_inv g37 h35
 refine .skip (.seq (.block (.seq (.region ?_))))
 obtain ⟨x39, i40, h41⟩ := bd_inv h38
 have j42 := idx_inv i40
 refine W.pure (v := (selem v0 (Int.toNat x28 * 1))) rfl rfl (v_idx el31 sz22 (oo rfl ((fr31 16 rfl).trans rfl)) (oo rfl t36) (sl_len (RT.mono _ (GM.le.trans s9 s34) hp0)) j42.1 j42.2.1) (W.load1 (v := (.string x39)) (r := []) rfl rfl ag22 (pt_px rfl (At.str (At.le (At.le (sl_idx hp0 j42.2.2) (GM.le.trans s9 s34) (GM.le.trans s9 s34)) (GM.le.refl _) O33.fro))) (W.q1 (.string x39) rfl (.nil (.seq (.draw2 (M := [0, 0, 2, 7, 15]) mixed (by kernel_rfl) (by kernel_rfl) fun H43 N47 x44 F46 => ?_)))))
 have O45 := O33.ext x44
 obtain ⟨c48, p49, f50⟩ := (O45.atVar (j := 0) rfl)
 refine D2.loadA' (cs := c48) rfl rfl ag48 sz48 (pt_px ((fr31 5 rfl).trans rfl) p49) (RT.len _ f50) fa_nil (D2.q2 (.string x39) rfl ?_)
 obtain ⟨x51, i52, h53⟩ := bd_inv h41
 refine D2.lo rfl rfl (Lo.callP (ps := []) (ps' := []) rfl (fn := Tryz.f30) (by kernel_rfl) rfl (mc rfl mn) O45 (fun L' O' => g_rat_In_ok K x39 O' _ i52)) ?_ fa_nil ?_ ?_
 ·rintro v62 H63 ⟨G54, O55, s56, sm61, ⟨c58, rfl, f59⟩⟩; exact (faR1 (.inr (fa_px ((fr31 5 rfl).trans rfl) (sm61 _ (Or.inr ⟨0, _, rfl, List.mem_singleton.2 rfl⟩)))) fa_nil)
 ·rintro v62 H63 ⟨G54, O55, s56, sm61, ⟨c58, rfl, f59⟩⟩; exact fa_nil
 rintro v62 H63 ⟨G54, O55, s56, sm61, ⟨c58, rfl, f59⟩⟩
 replace O55 : Ow G54 H63 (eVar b19 48 T_Q x27 :: L) := O55
 obtain ⟨x64, i65, h66⟩ := bd_inv h53
 refine D2.lo rfl rfl (Lo.callP (ps := []) (ps' := []) rfl (fn := Tryz.f50) (by kernel_rfl) rfl (mc rfl (mc rfl mn)) O55 (fun L' O' => g_rat_Q_Add_ok K c48 x27 (RT.mono _ s56 f50) c58 x51 f59 O' _ i65)) ?_ (faL_bit (by decide) fa_nil) ?_ ?_
 ·rintro v75 H76 ⟨G67, O68, s69, sm74, ⟨c71, rfl, f72⟩⟩; exact (faR1 (.inl (by decide)) fa_nil)
 ·rintro v75 H76 ⟨G67, O68, s69, sm74, ⟨c71, rfl, f72⟩⟩; exact fa_nil
 rintro v75 H76 ⟨G67, O68, s69, sm74, ⟨c71, rfl, f72⟩⟩
 replace O68 : Ow G67 H76 (eVar b19 48 T_Q x27 :: L) := O68
 refine D2.lo rfl rfl (Lo.storeVar (j := 0) (s := T_Q) (y0 := x64) (v := (.agg (List.toArray c71))) (o := 0) rfl ((Put.at (Put.self _) _ _)) rfl sz48 ((fr31 5 rfl).trans rfl) (by omega) rfl f72 O68) ?_ (faL_bit (by decide) (faL_bit (by decide) fa_nil)) ?_ ?_
 ·rintro v79 H80 ⟨O77, sm78⟩; exact (faR1 (.inl (by decide)) fa_nil)
 ·rintro v79 H80 ⟨O77, sm78⟩; exact fa_nil
 rintro v79 H80 ⟨O77, sm78⟩
 replace O77 : Ow G67 H80 (eVar b19 48 T_Q x64 :: L) := O77
 refine .nil (.seq (.region ?_))
 obtain ⟨c81, p82, f83⟩ := (O77.atVar (j := 0) rfl)
 refine W.loadA (cs := c81) rfl rfl ag48 sz48 (pt_px ((fr31 5 rfl).trans rfl) p82) (RT.len _ f83) ?_
 obtain ⟨x84, i85, h86⟩ := bd_inv h66
 refine W.lo rfl rfl (Lo.callP (ps := []) (ps' := []) rfl (fn := Tryz.f59) (by kernel_rfl) rfl (mc rfl mn) O77 (fun L' O' => g_rat_Fits_ok K c81 x64 f83 O' _ i85)) ?_
 rintro v93 H94 ⟨G87, O88, s89, sm92, rfl⟩
 replace O88 : Ow G87 H94 (eVar b19 48 T_Q x64 :: L) := O88
 refine W.q3 (.bool (x84 != 0)) rfl rfl (.nil (.cond (b := (x84 != 0)) rfl rfl (fun g95 => ?_) (fun g95 => ?_)))
 rotate_left
 ·have h99 := neg_b g95 h86
  refine .skip (.region (W.q3 (.int .i64 (kwrap .i64 (x28 + 1))) t36 rfl (W.q2 (.int .i64 (kwrap .i64 (x28 + 1))) rfl (.nil ?_))))
  exact ⟨k26, Nat.lt_succ_self _, ⟨x64, kwrap .i64 (x28 + 1), _, h99, O88, (GM.le.trans s34 (GM.le.trans s56 (GM.le.trans s69 s89))), rfl⟩⟩
 have h96 := pos_inv g95 h86
 refine .seq (.region (W.q1 (.string (⟨#[]⟩ : ByteArray)) rfl (W.q1 (.int .i64 2) rfl (.nil (.ret ?_)))))
 have O97 : Ow G87 H94 (L) := O88.drop 0
 obtain rfl := Option.some.inj h96
 have h98 := tu2_inv (outS_l h25)
 obtain rfl := Option.some.inj h98
 refine ret2R (P := Tryz.prog) (fn := Tryz.f25) (n := 34) (R := fun v H' => ∃ G', Ow G' H' (L) ∧ G.le G' ∧ v = .tuple #[.string ((⟨#[]⟩ : ByteArray), 2).1, .int .i64 ((⟨#[]⟩ : ByteArray), 2).2]) (v1 := (.string (⟨#[]⟩ : ByteArray))) (v2 := (.int .i64 2)) (by rfl) (rr_tmp (by rfl) (by exact rfl)) (rr_tmp (by rfl) (by exact rfl)) ?_
 exact ⟨_, O97, (GM.le.trans s9 (GM.le.trans s34 (GM.le.trans s56 (GM.le.trans s69 s89)))), rfl⟩
def g_rat_Least_l0 (K : Nat) (p0 : List ByteArray) : Nat → Int → Int → Option (Int)
  | 0, _, _ => none
  | k + 1, x25, x26 => (if (decide (x26 < (List.length p0 : Int))) = true then (Option.bind (((idx p0 x26).bind fun x41 => ((g_rat_In K x41).bind fun x50 => ((idx p0 x25).bind fun x63 => ((g_rat_In K x63).bind fun x67 => ((g_rat_Q_Cmp K x50 x67).bind fun x80 => (if (decide (x80 < 0)) = true then some x26 else some x25))))))) (tu1 fun x94 => g_rat_Least_l0 K p0 k x94 (kwrap .i64 (x26 + 1)))) else some x25)
def g_rat_Least (K : Nat) (p0 : List ByteArray) : Option (Int × Int) := (if (decide ((List.length p0 : Int) > 256)) = true then some (0, 2) else (if ((List.length p0 : Int) == 0) = true then some (0, 8) else ((g_rat_CheckAll K p0).bind fun x7 => (if (x7 != 0) = true then some (0, x7) else (Option.bind (g_rat_Least_l0 K p0 K 0 0) (tu1 fun x105 => some (x105, 0)))))))
set_option maxHeartbeats 4000000 in
theorem g_rat_Least_ok (K : Nat) {G : GM} {H : AH} {L : List Pc} (v0 : Value) (p0 : List ByteArray) (hp0 : (rSl rS).rep G [v0] p0) (O : Ow G H (L)) (r : Int × Int) (h : g_rat_Least K p0 = some r) :
    CR Tryz.prog 26 [v0] G H (L) (fun v G' _ => v = .tuple #[.int .i64 r.1, .int .i64 r.2]) := by
 unfold g_rat_Least at h
 refine CR.of (calls_of_AW (n := 38) (fn := Tryz.f26) (R := fun v H' => ∃ G', Ow G' H' (L) ∧ G.le G' ∧ v = .tuple #[.int .i64 r.1, .int .i64 r.2]) (by kernel_rfl) rfl rfl ?_)
 refine .seq (.region (W.q1 (.int .i64 0) rfl (W.q1 (.int .i64 0) rfl (.nil (.seq (.seq ?_))))))
 refine .region (W.q2 v0 rfl (W.pure (v := (.int .i64 (List.length p0 : Int))) rfl rfl (len_sl (oo rfl rfl) (sl_len hp0) (elemT_inv el31)) (W.q3 (.bool (decide ((List.length p0 : Int) > 256))) rfl rfl (.nil (.cond (b := decide ((List.length p0 : Int) > 256)) rfl rfl (fun g1 => ?_) (fun g1 => ?_))))))
 ·have h2 := pos_inv g1 h
  refine .seq (.region (W.q1 (.int .i64 0) rfl (W.q1 (.int .i64 2) rfl (.nil (.ret ?_)))))
  obtain rfl := Option.some.inj h2
  refine ret2R (P := Tryz.prog) (fn := Tryz.f26) (n := 38) (R := fun v H' => ∃ G', Ow G' H' (L) ∧ G.le G' ∧ v = .tuple #[.int .i64 (0, 2).1, .int .i64 (0, 2).2]) (v1 := (.int .i64 0)) (v2 := (.int .i64 2)) (by rfl) (rr_tmp (by rfl) (by exact rfl)) (rr_tmp (by rfl) (by exact rfl)) ?_
  exact ⟨_, O, (GM.le.refl _), rfl⟩
 have h3 := neg_b g1 h
 refine .skip (.seq (.seq (.region (W.q2 v0 rfl (W.pure (v := (.int .i64 (List.length p0 : Int))) rfl rfl (len_sl (oo rfl rfl) (sl_len hp0) (elemT_inv el31)) (W.q3 (.bool ((List.length p0 : Int) == 0)) rfl rfl ?_))))))
 refine .nil (.cond (b := ((List.length p0 : Int) == 0)) rfl rfl (fun g4 => ?_) (fun g4 => ?_))
 ·have h5 := pos_inv g4 h3
  refine .seq (.region (W.q1 (.int .i64 0) rfl (W.q1 (.int .i64 8) rfl (.nil (.ret ?_)))))
  obtain rfl := Option.some.inj h5
  refine ret2R (P := Tryz.prog) (fn := Tryz.f26) (n := 38) (R := fun v H' => ∃ G', Ow G' H' (L) ∧ G.le G' ∧ v = .tuple #[.int .i64 (0, 8).1, .int .i64 (0, 8).2]) (v1 := (.int .i64 0)) (v2 := (.int .i64 8)) (by rfl) (rr_tmp (by rfl) (by exact rfl)) (rr_tmp (by rfl) (by exact rfl)) ?_
  exact ⟨_, O, (GM.le.refl _), rfl⟩
 have h6 := neg_b g4 h3
 refine .skip (.seq (.seq (.region (W.q2 v0 rfl ?_))))
 obtain ⟨x7, i8, h9⟩ := bd_inv h6
 refine W.lo rfl rfl (Lo.callP (ps := []) (ps' := []) rfl (fn := Tryz.f29) (by kernel_rfl) rfl (mc rfl mn) O (fun L' O' => g_rat_CheckAll_ok K v0 p0 hp0 O' _ i8)) ?_
 rintro v16 H17 ⟨G10, O11, s12, sm15, rfl⟩
 replace O11 : Ow G10 H17 (L) := O11
 refine W.q1 (.int .i64 x7) rfl (.nil (.seq (.region (W.q2 (.int .i64 x7) rfl (W.q3 (.bool (x7 != 0)) rfl rfl (.nil ?_))))))
 refine .cond (b := (x7 != 0)) rfl rfl (fun g18 => ?_) (fun g18 => ?_)
 ·have h19 := pos_inv g18 h9
  refine .seq (.region (W.q2 (.int .i64 x7) rfl (W.q1 (.int .i64 0) rfl (W.q1 (.int .i64 x7) rfl (.nil (.ret ?_))))))
  obtain rfl := Option.some.inj h19
  refine ret2R (P := Tryz.prog) (fn := Tryz.f26) (n := 38) (R := fun v H' => ∃ G', Ow G' H' (L) ∧ G.le G' ∧ v = .tuple #[.int .i64 (0, x7).1, .int .i64 (0, x7).2]) (v1 := (.int .i64 0)) (v2 := (.int .i64 x7)) (by rfl) (rr_tmp (by rfl) (by exact rfl)) (rr_tmp (by rfl) (by exact rfl)) ?_
  exact ⟨_, O11, s12, rfl⟩
 have h20 := neg_b g18 h9
 refine .skip (.seq (.region (W.q1 (.int .i64 0) rfl (.nil (.seq (.seq ?_))))))
 refine .region (W.q2 v0 rfl (W.pure (v := (.int .i64 (List.length p0 : Int))) rfl rfl (len_sl (oo rfl rfl) (sl_len (RT.mono _ s12 hp0)) (elemT_inv el31)) (W.q2 (.int .i64 0) rfl (.nil ?_))))
 obtain ⟨q21, h22, h23⟩ := bd_inv h20
 refine AW.midT (fun σ' H' => ∃ (y1 : Int) (G' : GM), y1 = q21 ∧ Ow G' H' (L) ∧ GM.le G10 G' ∧ σ' 5 = .int .i64 y1) ?_ ?_
 rotate_left
 ·rintro σ106 H107 fr108 ⟨x105, G109, rfl, O110, s111, t113⟩
  have h114 := tu1_inv h23
  refine .seq (.region (W.q2 (.int .i64 x105) t113 (W.q1 (.int .i64 x105) rfl (W.q1 (.int .i64 0) rfl (.nil (.ret ?_))))))
  obtain rfl := Option.some.inj h114
  refine ret2R (P := Tryz.prog) (fn := Tryz.f26) (n := 38) (R := fun v H' => ∃ G', Ow G' H' (L) ∧ G.le G' ∧ v = .tuple #[.int .i64 (x105, 0).1, .int .i64 (x105, 0).2]) (v1 := (.int .i64 x105)) (v2 := (.int .i64 0)) (by rfl) (rr_tmp (by rfl) (by exact rfl)) (rr_tmp (by rfl) (by exact rfl)) ?_
  exact ⟨_, O110, (GM.le.trans s12 s111), rfl⟩
 refine .block (AW.loop (α := Nat) (fun k' σ' H' => ∃ (y1 : Int) (y2 : Int) (G' : GM), g_rat_Least_l0 K p0 k' y1 y2 = some q21 ∧ Ow G' H' (L) ∧ GM.le G10 G' ∧ σ' 5 = .int .i64 y1 ∧ σ' 21 = .int .i64 y2) (fun k' => k') K ⟨0, 0, _, h22, O11, (GM.le.refl _), rfl, rfl⟩ ?_)
 rintro k24
 rintro σ27 H28 fr29 ⟨x25, x26, G30, h33, O31, s32, t34, t35⟩
 rcases k24 with _ | k24
 ·exact none_absurd h33
 rw [g_rat_Least_l0] at h33
 refine .seq (.region (W.q3 (.bool (decide (x26 < (List.length p0 : Int)))) t35 ((fr29 20 rfl).trans rfl) (.nil (.seq (.cond (b := decide (x26 < (List.length p0 : Int))) rfl rfl (fun g36 => ?_) (fun g36 => ?_))))))
 rotate_left
 ·have h104 := neg_b g36 h33
  refine .exit ?_
  obtain rfl := Option.some.inj h104
  exact ⟨x25, _, rfl, O31, s32, t34⟩
 have h37 := pos_inv g36 h33
 refine .skip (.seq ?_)
 obtain ⟨q38, h39, h40⟩ := bd_inv h37
 refine AW.midT (fun σ' H' => ∃ (y1 : Int) (G' : GM), y1 = q38 ∧ Ow G' H' (L) ∧ GM.le G30 G' ∧ σ' 5 = .int .i64 y1) ?_ ?_
 rotate_left
 ·rintro σ95 H96 fr97 ⟨x94, G98, rfl, O99, s100, t102⟩
  have h103 := tu1_inv h40
  refine .region (W.q3 (.int .i64 (kwrap .i64 (x26 + 1))) ((fr97 21 rfl).trans t35) rfl (W.q2 (.int .i64 (kwrap .i64 (x26 + 1))) rfl (.nil ?_)))
  exact ⟨k24, Nat.lt_succ_self _, ⟨x94, kwrap .i64 (x26 + 1), _, h103, O99, (GM.le.trans s32 s100), t102, rfl⟩⟩
 refine .block (.seq (.region (W.q2 (.int .i64 x26) t35 ?_)))
 obtain ⟨x41, i42, h43⟩ := bd_inv h39
 have j44 := idx_inv i42
 refine W.pure (v := (selem v0 (Int.toNat x26 * 1))) rfl rfl (v_idx el31 sz22 (oo rfl ((fr29 19 rfl).trans rfl)) (oo rfl t35) (sl_len (RT.mono _ (GM.le.trans s12 s32) hp0)) j44.1 j44.2.1) (W.load1 (v := (.string x41)) (r := []) rfl rfl ag22 (pt_px rfl (At.str (At.le (At.le (sl_idx hp0 j44.2.2) (GM.le.trans s12 s32) (GM.le.trans s12 s32)) (GM.le.refl _) O31.fro))) (W.q1 (.int .i64 x26) rfl (W.q1 (.string x41) rfl (.nil (.seq (.draw2 (M := [0, 1, 0, 0, 12, 28, 63, 127, 255]) mixed (by kernel_rfl) (by kernel_rfl) fun H45 N49 x46 F48 => ?_))))))
 have O47 := O31.ext x46
 refine D2.q2 (.string x41) rfl ?_
 obtain ⟨x50, i51, h52⟩ := bd_inv h43
 refine D2.lo rfl rfl (Lo.callP (ps := []) (ps' := []) rfl (fn := Tryz.f30) (by kernel_rfl) rfl (mc rfl mn) O47 (fun L' O' => g_rat_In_ok K x41 O' _ i51)) ?_ fa_nil ?_ ?_
 ·rintro v61 H62 ⟨G53, O54, s55, sm60, ⟨c57, rfl, f58⟩⟩; exact fa_nil
 ·rintro v61 H62 ⟨G53, O54, s55, sm60, ⟨c57, rfl, f58⟩⟩; exact fa_nil
 rintro v61 H62 ⟨G53, O54, s55, sm60, ⟨c57, rfl, f58⟩⟩
 replace O54 : Ow G53 H62 (L) := O54
 refine D2.q2 v0 ((fr29 0 rfl).trans rfl) (D2.q2 (.int .i64 x25) t34 ?_)
 obtain ⟨x63, i64, h65⟩ := bd_inv h52
 have j66 := idx_inv i64
 refine D2.pure (v := (selem v0 (Int.toNat x25 * 1))) rfl rfl (v_idx el31 sz22 (oo rfl rfl) (oo rfl rfl) (sl_len (RT.mono _ (GM.le.trans s12 (GM.le.trans s32 s55)) hp0)) j66.1 j66.2.1) (D2.load1' (v := (.string x63)) (r := []) rfl rfl ag22 (pt_px rfl (At.str (At.le (At.le (sl_idx hp0 j66.2.2) (GM.le.trans s12 (GM.le.trans s32 s55)) (GM.le.trans s12 (GM.le.trans s32 s55))) (GM.le.refl _) O54.fro))) (faQ_eq (sm60 _ (vis_at (M := G30) (At.le (sl_idx hp0 j66.2.2) (GM.le.trans s12 s32) (GM.le.trans s12 s32)) rfl)) fa_nil) ?_)
 obtain ⟨x67, i68, h69⟩ := bd_inv h65
 refine D2.lo rfl rfl (Lo.callP (ps := []) (ps' := []) rfl (fn := Tryz.f30) (by kernel_rfl) rfl (mc rfl mn) O54 (fun L' O' => g_rat_In_ok K x63 O' _ i68)) ?_ (faL_bit (by decide) fa_nil) ?_ ?_
 ·rintro v78 H79 ⟨G70, O71, s72, sm77, ⟨c74, rfl, f75⟩⟩; exact (faR1 (.inl (by decide)) fa_nil)
 ·rintro v78 H79 ⟨G70, O71, s72, sm77, ⟨c74, rfl, f75⟩⟩; exact fa_nil
 rintro v78 H79 ⟨G70, O71, s72, sm77, ⟨c74, rfl, f75⟩⟩
 replace O71 : Ow G70 H79 (L) := O71
 obtain ⟨x80, i81, h82⟩ := bd_inv h69
 refine D2.lo rfl rfl (Lo.callP (ps := []) (ps' := []) rfl (fn := Tryz.f31) (by kernel_rfl) rfl (mc rfl (mc rfl mn)) O71 (fun L' O' => g_rat_Q_Cmp_ok K c57 x50 (RT.mono _ s72 f58) c74 x67 f75 O' _ i81)) ?_ (faL_bit (by decide) (faL_bit (by decide) fa_nil)) ?_ ?_
 ·rintro v89 H90 ⟨G83, O84, s85, sm88, rfl⟩; exact (faR1 (.inl (by decide)) fa_nil)
 ·rintro v89 H90 ⟨G83, O84, s85, sm88, rfl⟩; exact fa_nil
 rintro v89 H90 ⟨G83, O84, s85, sm88, rfl⟩
 replace O84 : Ow G83 H90 (L) := O84
 refine D2.q3 (.bool (decide (x80 < 0))) rfl rfl (.nil (.cond (b := decide (x80 < 0)) rfl rfl (fun g91 => ?_) (fun g91 => ?_)))
 rotate_left
 ·have h93 := neg_b g91 h82
  refine .skip ?_
  obtain rfl := Option.some.inj h93
  exact ⟨x25, _, rfl, O84, (GM.le.trans s55 (GM.le.trans s72 s85)), t34⟩
 have h92 := pos_inv g91 h82
 refine .region (W.q2 (.int .i64 x26) rfl (W.q1 (.int .i64 x26) rfl (.nil ?_)))
 obtain rfl := Option.some.inj h92
 exact ⟨x26, _, rfl, O84, (GM.le.trans s55 (GM.le.trans s72 s85)), rfl⟩
def g_slices_IndexFunc_api_Errno_api_Errno_l0 (K : Nat) (p0 : List Int) (p1 : Int → Option Bool) : Nat → Int → Option (Int ⊕ Unit)
  | 0, _ => none
  | k + 1, x5 => (if (decide (x5 < (List.length p0 : Int))) = true then ((idx p0 x5).bind fun x16 => ((p1 x16).bind fun x20 => (if x20 = true then some (.inl x5) else g_slices_IndexFunc_api_Errno_api_Errno_l0 K p0 p1 k (kwrap .i64 (x5 + 1))))) else some (.inr ()))
def g_slices_IndexFunc_api_Errno_api_Errno (K : Nat) (p0 : List Int) (p1 : Int → Option Bool) : Option Int := (bindS (g_slices_IndexFunc_api_Errno_api_Errno_l0 K p0 p1 K 0) (tu1 fun a42 => some a42) (tu0 (some (-1))))
set_option maxHeartbeats 4000000 in
theorem g_slices_IndexFunc_api_Errno_api_Errno_ok (K : Nat) {G : GM} {H : AH} {L : List Pc} (v0 : Value) (p0 : List Int) (hp0 : (rSl (rI .i64)).rep G [v0] p0) (v1 : Value) (p1 : Int → Option Bool) (hp1 : FnOk Tryz.prog G v1 (fun _ vs (x : (Int)) => vs = [.int .i64 x]) (fun _ v (rr : (Bool)) => v = .bool rr) p1) (O : Ow G H (L)) (r : Int) (h : g_slices_IndexFunc_api_Errno_api_Errno K p0 p1 = some r) :
    CR Tryz.prog 83 [v0, v1] G H (L) (fun v G' _ => v = .int .i64 r) := by
 unfold g_slices_IndexFunc_api_Errno_api_Errno at h
 refine CR.of (calls_of_AW (n := 19) (fn := Tryz.f83) (R := fun v H' => ∃ G', Ow G' H' (L) ∧ G.le G' ∧ v = .int .i64 r) (by kernel_rfl) rfl rfl ?_)
 refine .seq (.region (W.q1 (.int .i64 0) rfl (.nil (.seq (.seq (.region ?_))))))
 refine W.q2 v0 rfl (W.pure (v := (.int .i64 (List.length p0 : Int))) rfl rfl (len_sl (oo rfl rfl) (sl_len hp0) (elemT_inv el79)) (W.q2 (.int .i64 0) rfl (.nil ?_)))
 obtain ⟨q1, h2, h3⟩ := bindS_inv h
 refine AW.midT (fun σ' H' => ∃  (G' : GM), (.inr ()) = q1 ∧ Ow G' H' (L) ∧ GM.le G G') ?_ ?_
 rotate_left
 ·rintro σ34 H35 fr36 ⟨G37, rfl, O38, s39⟩
  have h41 := tu0_inv (outS_r h3)
  refine .seq (.region (W.q1 (.int .i64 (-1)) rfl (.nil (.ret ?_))))
  obtain rfl := Option.some.inj h41
  refine ret1R (P := Tryz.prog) (fn := Tryz.f83) (n := 19) (R := fun v H' => ∃ G', Ow G' H' (L) ∧ G.le G' ∧ v = .int .i64 (-1)) (v1 := (.int .i64 (-1))) (by rfl) (rr_tmp (by rfl) (by exact rfl)) ?_
  exact ⟨_, O38, s39, rfl⟩
 refine .block (AW.loop (α := Nat) (fun k' σ' H' => ∃ (y1 : Int) (G' : GM), g_slices_IndexFunc_api_Errno_api_Errno_l0 K p0 p1 k' y1 = some q1 ∧ Ow G' H' (L) ∧ GM.le G G' ∧ σ' 8 = .int .i64 y1) (fun k' => k') K ⟨0, _, h2, O, (GM.le.refl _), rfl⟩ ?_)
 rintro k4
 rintro σ6 H7 fr8 ⟨x5, G9, h12, O10, s11, t13⟩
 rcases k4 with _ | k4
 ·exact none_absurd h12
 rw [g_slices_IndexFunc_api_Errno_api_Errno_l0] at h12
 refine .seq (.region (W.q3 (.bool (decide (x5 < (List.length p0 : Int)))) t13 ((fr8 7 rfl).trans rfl) (.nil (.seq (.cond (b := decide (x5 < (List.length p0 : Int))) rfl rfl (fun g14 => ?_) (fun g14 => ?_))))))
 rotate_left
 ·have h33 := neg_b g14 h12
  refine .exit ?_
  obtain rfl := Option.some.inj h33
  exact ⟨_, rfl, O10, s11⟩
 have h15 := pos_inv g14 h12
 refine .skip (.seq (.block (.seq (.region (W.q2 (.int .i64 x5) t13 (W.q1 (.int .i64 x5) rfl ?_))))))
 refine .nil (.seq (.region (W.q2 v1 ((fr8 1 rfl).trans rfl) (W.q2 v0 ((fr8 0 rfl).trans rfl) (W.q2 (.int .i64 x5) rfl ?_)))))
 obtain ⟨x16, i17, h18⟩ := bd_inv h15
 have j19 := idx_inv i17
 refine W.pure (v := (selem v0 (Int.toNat x5 * 1))) rfl rfl (v_idx el79 sz24 (oo rfl rfl) (oo rfl rfl) (sl_len (RT.mono _ s11 hp0)) j19.1 j19.2.1) (W.load1 (v := (.int .i64 x16)) (r := []) rfl rfl ag24 (pt_px rfl (At.int (At.le (At.le (sl_idx hp0 j19.2.2) s11 s11) (GM.le.refl _) O10.fro))) ?_)
 obtain ⟨x20, i21, h22⟩ := bd_inv h18
 refine W.lo rfl rfl (Lo.callF (x0 := x16) rfl rfl (FnOk.le hp1 s11) (mc rfl mn) rfl i21 O10) ?_
 rintro v27 H28 ⟨G23, O24, s25, sm26, rfl⟩
 refine .nil (.cond (b := x20) rfl rfl (fun g29 => ?_) (fun g29 => ?_))
 rotate_left
 ·have h32 := neg_b g29 h22
  refine .skip (.region (W.q3 (.int .i64 (kwrap .i64 (x5 + 1))) t13 rfl (W.q2 (.int .i64 (kwrap .i64 (x5 + 1))) rfl (.nil ?_))))
  exact ⟨k4, Nat.lt_succ_self _, ⟨kwrap .i64 (x5 + 1), _, h32, O24, (GM.le.trans s11 s25), rfl⟩⟩
 have h30 := pos_inv g29 h22
 refine .seq (.region (W.q2 (.int .i64 x5) rfl (W.q1 (.int .i64 x5) rfl (.nil (.ret ?_)))))
 obtain rfl := Option.some.inj h30
 have h31 := tu1_inv (outS_l h3)
 obtain rfl := Option.some.inj h31
 refine ret1R (P := Tryz.prog) (fn := Tryz.f83) (n := 19) (R := fun v H' => ∃ G', Ow G' H' (L) ∧ G.le G' ∧ v = .int .i64 x5) (v1 := (.int .i64 x5)) (by rfl) (rr_tmp (by rfl) (by exact rfl)) ?_
 exact ⟨_, O24, (GM.le.trans s11 s25), rfl⟩
def g_slices_ContainsFunc_api_Errno_api_Errno (K : Nat) (p0 : List Int) (p1 : Int → Option Bool) : Option Bool := ((g_slices_IndexFunc_api_Errno_api_Errno K p0 p1).bind fun x1 => some (decide (x1 ≥ 0)))
set_option maxHeartbeats 4000000 in
theorem g_slices_ContainsFunc_api_Errno_api_Errno_ok (K : Nat) {G : GM} {H : AH} {L : List Pc} (v0 : Value) (p0 : List Int) (hp0 : (rSl (rI .i64)).rep G [v0] p0) (v1 : Value) (p1 : Int → Option Bool) (hp1 : FnOk Tryz.prog G v1 (fun _ vs (x : (Int)) => vs = [.int .i64 x]) (fun _ v (rr : (Bool)) => v = .bool rr) p1) (O : Ow G H (L)) (r : Bool) (h : g_slices_ContainsFunc_api_Errno_api_Errno K p0 p1 = some r) :
    CR Tryz.prog 60 [v0, v1] G H (L) (fun v G' _ => v = .bool r) := by
 unfold g_slices_ContainsFunc_api_Errno_api_Errno at h
 refine CR.of (calls_of_AW (n := 9) (fn := Tryz.f60) (R := fun v H' => ∃ G', Ow G' H' (L) ∧ G.le G' ∧ v = .bool r) (by kernel_rfl) rfl rfl ?_)
 refine .seq (.region (W.q1 (.bool false) rfl (.nil (.seq (.region (W.q2 v0 rfl ?_))))))
 refine W.q2 v1 rfl ?_
 obtain ⟨x1, i2, h3⟩ := bd_inv h
 refine W.lo rfl rfl (Lo.callP (ps := []) (ps' := []) rfl (fn := Tryz.f83) (by kernel_rfl) rfl (mc rfl (mc rfl mn)) O (fun L' O' => g_slices_IndexFunc_api_Errno_api_Errno_ok K v0 p0 hp0 v1 p1 hp1 O' _ i2)) ?_
 rintro v10 H11 ⟨G4, O5, s6, sm9, rfl⟩
 replace O5 : Ow G4 H11 (L) := O5
 refine W.q3 (.bool (decide (x1 ≥ 0))) rfl rfl (W.q1 (.bool (decide (x1 ≥ 0))) rfl (.nil (.ret ?_)))
 obtain rfl := Option.some.inj h3
 refine ret1R (P := Tryz.prog) (fn := Tryz.f60) (n := 9) (R := fun v H' => ∃ G', Ow G' H' (L) ∧ G.le G' ∧ v = .bool (decide (x1 ≥ 0))) (v1 := (.bool (decide (x1 ≥ 0)))) (by rfl) (rr_tmp (by rfl) (by exact rfl)) ?_
 exact ⟨_, O5, s6, rfl⟩
def g_law_fine_1 (K : Nat) (p0 : Int) : Option Bool := some (p0 != 0)
set_option maxHeartbeats 4000000 in
theorem g_law_fine_1_ok (K : Nat) {G : GM} {H : AH} {L : List Pc} (p0 : Int) (O : Ow G H (L)) (r : Bool) (h : g_law_fine_1 K p0 = some r) :
    CR Tryz.prog 61 [(.int .i64 p0)] G H (L) (fun v G' _ => v = .bool r) := by
 unfold g_law_fine_1 at h
 refine CR.of (calls_of_AW (n := 5) (fn := Tryz.f61) (R := fun v H' => ∃ G', Ow G' H' (L) ∧ G.le G' ∧ v = .bool r) (by kernel_rfl) rfl rfl ?_)
 refine .seq (.region (W.q1 (.bool false) rfl (.nil (.seq (.region (W.q2 (.int .i64 p0) rfl ?_))))))
 refine W.q3 (.bool (p0 != 0)) rfl rfl (W.q1 (.bool (p0 != 0)) rfl (.nil (.ret ?_)))
 obtain rfl := Option.some.inj h
 refine ret1R (P := Tryz.prog) (fn := Tryz.f61) (n := 5) (R := fun v H' => ∃ G', Ow G' H' (L) ∧ G.le G' ∧ v = .bool (p0 != 0)) (v1 := (.bool (p0 != 0))) (by rfl) (rr_tmp (by rfl) (by exact rfl)) ?_
 exact ⟨_, O, (GM.le.refl _), rfl⟩
def g_law_fine (K : Nat) (p0 : List Int) : Option Bool := ((g_slices_ContainsFunc_api_Errno_api_Errno K p0 (fun x => g_law_fine_1 K x)).bind fun x1 => some (!x1))
set_option maxHeartbeats 4000000 in
theorem g_law_fine_ok (K : Nat) {G : GM} {H : AH} {L : List Pc} (v0 : Value) (p0 : List Int) (hp0 : (rSl (rI .i64)).rep G [v0] p0) (O : Ow G H (L)) (r : Bool) (h : g_law_fine K p0 = some r) :
    CR Tryz.prog 27 [v0] G H (L) (fun v G' _ => v = .bool r) := by
 unfold g_law_fine at h
 refine CR.of (calls_of_AW (n := 6) (fn := Tryz.f27) (R := fun v H' => ∃ G', Ow G' H' (L) ∧ G.le G' ∧ v = .bool r) (by kernel_rfl) rfl rfl ?_)
 refine .seq (.region (W.q1 (.bool false) rfl (.nil (.seq (.region (W.q2 v0 rfl ?_))))))
 obtain ⟨x1, i2, h3⟩ := bd_inv h
 refine W.lo rfl rfl (Lo.callP (ps := []) (ps' := []) rfl (fn := Tryz.f60) (by kernel_rfl) rfl (mc rfl (mc rfl mn)) O (fun L' O' => g_slices_ContainsFunc_api_Errno_api_Errno_ok K v0 p0 hp0 (.func (.func 61) #[] #[]) (fun x => g_law_fine_1 K x) ⟨61, _, _, Tryz.f61, rfl, by kernel_rfl, rfl, fun G1 H L vs x r hG O hA hF => by obtain rfl := hA; exact g_law_fine_1_ok K x O _ hF⟩ O' _ i2)) ?_
 rintro v10 H11 ⟨G4, O5, s6, sm9, rfl⟩
 replace O5 : Ow G4 H11 (L) := O5
 refine W.pure (v := (.bool (!x1))) rfl rfl (bool_not (a := x1) (oo rfl rfl)) (W.q1 (.bool (!x1)) rfl (.nil (.ret ?_)))
 obtain rfl := Option.some.inj h3
 refine ret1R (P := Tryz.prog) (fn := Tryz.f27) (n := 6) (R := fun v H' => ∃ G', Ow G' H' (L) ∧ G.le G' ∧ v = .bool (!x1)) (v1 := (.bool (!x1))) (by rfl) (rr_tmp (by rfl) (by exact rfl)) ?_
 exact ⟨_, O5, s6, rfl⟩
def g_law_ratFact (K : Nat) : Option Bool := ((g_rat_Of K 6 (-4)).bind fun x1 => ((g_rat_Add K (⟨#[49, 47, 50]⟩ : ByteArray) (⟨#[49, 47, 51]⟩ : ByteArray)).bind fun x12 => ((g_rat_Sub K (⟨#[49, 47, 50]⟩ : ByteArray) (⟨#[49, 47, 51]⟩ : ByteArray)).bind fun x23 => ((g_rat_Mul K (⟨#[50, 47, 51]⟩ : ByteArray) (⟨#[51, 47, 50]⟩ : ByteArray)).bind fun x34 => ((g_rat_Div K (⟨#[49]⟩ : ByteArray) (⟨#[45, 51]⟩ : ByteArray)).bind fun x45 => ((g_rat_Neg K (⟨#[49, 47, 50]⟩ : ByteArray)).bind fun x56 => ((g_rat_Compare K (⟨#[49, 47, 50]⟩ : ByteArray) (⟨#[49, 47, 51]⟩ : ByteArray)).bind fun x67 => ((g_rat_Sign K (⟨#[45, 49]⟩ : ByteArray)).bind fun x78 => ((g_rat_Floor K (⟨#[45, 49, 47, 50]⟩ : ByteArray)).bind fun x89 => ((g_rat_Ceil K (⟨#[49, 47, 50]⟩ : ByteArray)).bind fun x100 => ((g_rat_Round K (⟨#[53, 47, 50]⟩ : ByteArray)).bind fun x111 => ((g_rat_Integer K (⟨#[45, 55]⟩ : ByteArray)).bind fun x122 => ((g_rat_Sum K [(⟨#[49, 47, 50]⟩ : ByteArray), (⟨#[49, 47, 51]⟩ : ByteArray), (⟨#[49, 47, 54]⟩ : ByteArray)]).bind fun x137 => ((g_rat_Least K [(⟨#[50]⟩ : ByteArray), (⟨#[49]⟩ : ByteArray), (⟨#[49]⟩ : ByteArray)]).bind fun x152 => (Option.bind (((g_law_fine K [x1.2, x12.2, x23.2, x34.2, x45.2, x56.2, x67.2, x78.2, x89.2, x100.2, x111.2, x122.2, x137.2, x152.2]).bind fun x170 => (if x170 = true then (if (sEq x1.1 (⟨#[45, 51, 47, 50]⟩ : ByteArray)) = true then (if (sEq x12.1 (⟨#[53, 47, 54]⟩ : ByteArray)) = true then (if (sEq x23.1 (⟨#[49, 47, 54]⟩ : ByteArray)) = true then (if (sEq x34.1 (⟨#[49]⟩ : ByteArray)) = true then (if (sEq x45.1 (⟨#[45, 49, 47, 51]⟩ : ByteArray)) = true then (if (sEq x56.1 (⟨#[45, 49, 47, 50]⟩ : ByteArray)) = true then (if (x67.1 == 1) = true then (if (x78.1 == (-1)) = true then (if (sEq x89.1 (⟨#[45, 49]⟩ : ByteArray)) = true then (if (sEq x100.1 (⟨#[49]⟩ : ByteArray)) = true then (if (sEq x111.1 (⟨#[50]⟩ : ByteArray)) = true then (if (x122.1 == (-7)) = true then (if (sEq x137.1 (⟨#[49]⟩ : ByteArray)) = true then (if (x152.1 == 1) = true then ((g_rat_Check K (⟨#[50, 47, 52]⟩ : ByteArray)).bind fun x226 => (if (x226 == 3) = true then ((g_rat_CheckAll K [(⟨#[48]⟩ : ByteArray), (⟨#[45, 48]⟩ : ByteArray)]).bind fun x244 => some (x244 == 5)) else some false)) else some false) else some false) else some false) else some false) else some false) else some false) else some false) else some false) else some false) else some false) else some false) else some false) else some false) else some false) else some false))) (tu1 fun x289 => some x289))))))))))))))))
set_option maxHeartbeats 4000000 in
theorem g_law_ratFact_ok (K : Nat) {G : GM} {H : AH} {L : List Pc}  (O : Ow G H (L)) (r : Bool) (h : g_law_ratFact K = some r) :
    CR Tryz.prog 5 [] G H (L) (fun v G' _ => v = .bool r) := by
 unfold g_law_ratFact at h
 refine CR.of (calls_of_AW (n := 168) (fn := Tryz.f5) (R := fun v H' => ∃ G', Ow G' H' (L) ∧ G.le G' ∧ v = .bool r) (by kernel_rfl) rfl rfl ?_)
 refine .seq (.region (W.q1 (.bool false) rfl (.nil (.seq (.region ?_)))))
 obtain ⟨x1, i2, h3⟩ := bd_inv h
 refine W.lo rfl rfl (Lo.callP (ps := []) (ps' := []) rfl (fn := Tryz.f16) (by kernel_rfl) rfl (mc rfl (mc rfl mn)) O (fun L' O' => g_rat_Of_ok K 6 (-4) O' _ i2)) ?_
 rintro v10 H11 ⟨G4, O5, s6, sm9, rfl⟩
 replace O5 : Ow G4 H11 (L) := O5
 refine W.q2 (.tuple #[(.string x1.1), (.int .i64 x1.2)]) rfl (W.pure (v := (.string x1.1)) rfl rfl (v_extract (oo rfl rfl) rfl) (W.pure (v := (.int .i64 x1.2)) rfl rfl (v_extract (oo rfl rfl) rfl) (W.q1 (.string x1.1) rfl (W.q1 (.int .i64 x1.2) rfl (.nil (.seq ?_))))))
 refine .region ?_
 obtain ⟨x12, i13, h14⟩ := bd_inv h3
 refine W.lo rfl rfl (Lo.callP (ps := []) (ps' := []) rfl (fn := Tryz.f17) (by kernel_rfl) rfl (mc rfl (mc rfl mn)) O5 (fun L' O' => g_rat_Add_ok K (⟨#[49, 47, 50]⟩ : ByteArray) (⟨#[49, 47, 51]⟩ : ByteArray) O' _ i13)) ?_
 rintro v21 H22 ⟨G15, O16, s17, sm20, rfl⟩
 replace O16 : Ow G15 H22 (L) := O16
 refine W.q2 (.tuple #[(.string x12.1), (.int .i64 x12.2)]) rfl (W.pure (v := (.string x12.1)) rfl rfl (v_extract (oo rfl rfl) rfl) (W.pure (v := (.int .i64 x12.2)) rfl rfl (v_extract (oo rfl rfl) rfl) (W.q1 (.string x12.1) rfl (W.q1 (.int .i64 x12.2) rfl (.nil (.seq ?_))))))
 refine .region ?_
 obtain ⟨x23, i24, h25⟩ := bd_inv h14
 refine W.lo rfl rfl (Lo.callP (ps := []) (ps' := []) rfl (fn := Tryz.f18) (by kernel_rfl) rfl (mc rfl (mc rfl mn)) O16 (fun L' O' => g_rat_Sub_ok K (⟨#[49, 47, 50]⟩ : ByteArray) (⟨#[49, 47, 51]⟩ : ByteArray) O' _ i24)) ?_
 rintro v32 H33 ⟨G26, O27, s28, sm31, rfl⟩
 replace O27 : Ow G26 H33 (L) := O27
 refine W.q2 (.tuple #[(.string x23.1), (.int .i64 x23.2)]) rfl (W.pure (v := (.string x23.1)) rfl rfl (v_extract (oo rfl rfl) rfl) (W.pure (v := (.int .i64 x23.2)) rfl rfl (v_extract (oo rfl rfl) rfl) (W.q1 (.string x23.1) rfl (W.q1 (.int .i64 x23.2) rfl (.nil (.seq ?_))))))
 refine .region ?_
 obtain ⟨x34, i35, h36⟩ := bd_inv h25
 refine W.lo rfl rfl (Lo.callP (ps := []) (ps' := []) rfl (fn := Tryz.f19) (by kernel_rfl) rfl (mc rfl (mc rfl mn)) O27 (fun L' O' => g_rat_Mul_ok K (⟨#[50, 47, 51]⟩ : ByteArray) (⟨#[51, 47, 50]⟩ : ByteArray) O' _ i35)) ?_
 rintro v43 H44 ⟨G37, O38, s39, sm42, rfl⟩
 replace O38 : Ow G37 H44 (L) := O38
 refine W.q2 (.tuple #[(.string x34.1), (.int .i64 x34.2)]) rfl (W.pure (v := (.string x34.1)) rfl rfl (v_extract (oo rfl rfl) rfl) (W.pure (v := (.int .i64 x34.2)) rfl rfl (v_extract (oo rfl rfl) rfl) (W.q1 (.string x34.1) rfl (W.q1 (.int .i64 x34.2) rfl (.nil (.seq ?_))))))
 refine .region ?_
 obtain ⟨x45, i46, h47⟩ := bd_inv h36
 refine W.lo rfl rfl (Lo.callP (ps := []) (ps' := []) rfl (fn := Tryz.f20) (by kernel_rfl) rfl (mc rfl (mc rfl mn)) O38 (fun L' O' => g_rat_Div_ok K (⟨#[49]⟩ : ByteArray) (⟨#[45, 51]⟩ : ByteArray) O' _ i46)) ?_
 rintro v54 H55 ⟨G48, O49, s50, sm53, rfl⟩
 replace O49 : Ow G48 H55 (L) := O49
 refine W.q2 (.tuple #[(.string x45.1), (.int .i64 x45.2)]) rfl (W.pure (v := (.string x45.1)) rfl rfl (v_extract (oo rfl rfl) rfl) (W.pure (v := (.int .i64 x45.2)) rfl rfl (v_extract (oo rfl rfl) rfl) (W.q1 (.string x45.1) rfl (W.q1 (.int .i64 x45.2) rfl (.nil (.seq ?_))))))
 refine .region ?_
 obtain ⟨x56, i57, h58⟩ := bd_inv h47
 refine W.lo rfl rfl (Lo.callP (ps := []) (ps' := []) rfl (fn := Tryz.f21) (by kernel_rfl) rfl (mc rfl mn) O49 (fun L' O' => g_rat_Neg_ok K (⟨#[49, 47, 50]⟩ : ByteArray) O' _ i57)) ?_
 rintro v65 H66 ⟨G59, O60, s61, sm64, rfl⟩
 replace O60 : Ow G59 H66 (L) := O60
 refine W.q2 (.tuple #[(.string x56.1), (.int .i64 x56.2)]) rfl (W.pure (v := (.string x56.1)) rfl rfl (v_extract (oo rfl rfl) rfl) (W.pure (v := (.int .i64 x56.2)) rfl rfl (v_extract (oo rfl rfl) rfl) (W.q1 (.string x56.1) rfl (W.q1 (.int .i64 x56.2) rfl (.nil (.seq ?_))))))
 refine .region ?_
 obtain ⟨x67, i68, h69⟩ := bd_inv h58
 refine W.lo rfl rfl (Lo.callP (ps := []) (ps' := []) rfl (fn := Tryz.f6) (by kernel_rfl) rfl (mc rfl (mc rfl mn)) O60 (fun L' O' => g_rat_Compare_ok K (⟨#[49, 47, 50]⟩ : ByteArray) (⟨#[49, 47, 51]⟩ : ByteArray) O' _ i68)) ?_
 rintro v76 H77 ⟨G70, O71, s72, sm75, rfl⟩
 replace O71 : Ow G70 H77 (L) := O71
 refine W.q2 (.tuple #[(.int .i64 x67.1), (.int .i64 x67.2)]) rfl (W.pure (v := (.int .i64 x67.1)) rfl rfl (v_extract (oo rfl rfl) rfl) (W.pure (v := (.int .i64 x67.2)) rfl rfl (v_extract (oo rfl rfl) rfl) (W.q1 (.int .i64 x67.1) rfl (W.q1 (.int .i64 x67.2) rfl (.nil (.seq ?_))))))
 refine .region ?_
 obtain ⟨x78, i79, h80⟩ := bd_inv h69
 refine W.lo rfl rfl (Lo.callP (ps := []) (ps' := []) rfl (fn := Tryz.f7) (by kernel_rfl) rfl (mc rfl mn) O71 (fun L' O' => g_rat_Sign_ok K (⟨#[45, 49]⟩ : ByteArray) O' _ i79)) ?_
 rintro v87 H88 ⟨G81, O82, s83, sm86, rfl⟩
 replace O82 : Ow G81 H88 (L) := O82
 refine W.q2 (.tuple #[(.int .i64 x78.1), (.int .i64 x78.2)]) rfl (W.pure (v := (.int .i64 x78.1)) rfl rfl (v_extract (oo rfl rfl) rfl) (W.pure (v := (.int .i64 x78.2)) rfl rfl (v_extract (oo rfl rfl) rfl) (W.q1 (.int .i64 x78.1) rfl (W.q1 (.int .i64 x78.2) rfl (.nil (.seq ?_))))))
 refine .region ?_
 obtain ⟨x89, i90, h91⟩ := bd_inv h80
 refine W.lo rfl rfl (Lo.callP (ps := []) (ps' := []) rfl (fn := Tryz.f22) (by kernel_rfl) rfl (mc rfl mn) O82 (fun L' O' => g_rat_Floor_ok K (⟨#[45, 49, 47, 50]⟩ : ByteArray) O' _ i90)) ?_
 rintro v98 H99 ⟨G92, O93, s94, sm97, rfl⟩
 replace O93 : Ow G92 H99 (L) := O93
 refine W.q2 (.tuple #[(.string x89.1), (.int .i64 x89.2)]) rfl (W.pure (v := (.string x89.1)) rfl rfl (v_extract (oo rfl rfl) rfl) (W.pure (v := (.int .i64 x89.2)) rfl rfl (v_extract (oo rfl rfl) rfl) (W.q1 (.string x89.1) rfl (W.q1 (.int .i64 x89.2) rfl (.nil (.seq ?_))))))
 refine .region ?_
 obtain ⟨x100, i101, h102⟩ := bd_inv h91
 refine W.lo rfl rfl (Lo.callP (ps := []) (ps' := []) rfl (fn := Tryz.f23) (by kernel_rfl) rfl (mc rfl mn) O93 (fun L' O' => g_rat_Ceil_ok K (⟨#[49, 47, 50]⟩ : ByteArray) O' _ i101)) ?_
 rintro v109 H110 ⟨G103, O104, s105, sm108, rfl⟩
 replace O104 : Ow G103 H110 (L) := O104
 refine W.q2 (.tuple #[(.string x100.1), (.int .i64 x100.2)]) rfl (W.pure (v := (.string x100.1)) rfl rfl (v_extract (oo rfl rfl) rfl) (W.pure (v := (.int .i64 x100.2)) rfl rfl (v_extract (oo rfl rfl) rfl) (W.q1 (.string x100.1) rfl (W.q1 (.int .i64 x100.2) rfl (.nil (.seq ?_))))))
 refine .region ?_
 obtain ⟨x111, i112, h113⟩ := bd_inv h102
 refine W.lo rfl rfl (Lo.callP (ps := []) (ps' := []) rfl (fn := Tryz.f24) (by kernel_rfl) rfl (mc rfl mn) O104 (fun L' O' => g_rat_Round_ok K (⟨#[53, 47, 50]⟩ : ByteArray) O' _ i112)) ?_
 rintro v120 H121 ⟨G114, O115, s116, sm119, rfl⟩
 replace O115 : Ow G114 H121 (L) := O115
 refine W.q2 (.tuple #[(.string x111.1), (.int .i64 x111.2)]) rfl (W.pure (v := (.string x111.1)) rfl rfl (v_extract (oo rfl rfl) rfl) (W.pure (v := (.int .i64 x111.2)) rfl rfl (v_extract (oo rfl rfl) rfl) (W.q1 (.string x111.1) rfl (W.q1 (.int .i64 x111.2) rfl (.nil (.seq ?_))))))
 refine .region ?_
 obtain ⟨x122, i123, h124⟩ := bd_inv h113
 refine W.lo rfl rfl (Lo.callP (ps := []) (ps' := []) rfl (fn := Tryz.f13) (by kernel_rfl) rfl (mc rfl mn) O115 (fun L' O' => g_rat_Integer_ok K (⟨#[45, 55]⟩ : ByteArray) O' _ i123)) ?_
 rintro v131 H132 ⟨G125, O126, s127, sm130, rfl⟩
 replace O126 : Ow G125 H132 (L) := O126
 refine W.q2 (.tuple #[(.int .i64 x122.1), (.int .i64 x122.2)]) rfl (W.pure (v := (.int .i64 x122.1)) rfl rfl (v_extract (oo rfl rfl) rfl) (W.pure (v := (.int .i64 x122.2)) rfl rfl (v_extract (oo rfl rfl) rfl) (W.q1 (.int .i64 x122.1) rfl (W.q1 (.int .i64 x122.2) rfl (.nil (.seq ?_))))))
 refine .region (W.lo rfl rfl (Lo.buildSlice (r := rS) (vs := [(.string (⟨#[49, 47, 50]⟩ : ByteArray)), (.string (⟨#[49, 47, 51]⟩ : ByteArray)), (.string (⟨#[49, 47, 54]⟩ : ByteArray))]) (xs := [(⟨#[49, 47, 50]⟩ : ByteArray), (⟨#[49, 47, 51]⟩ : ByteArray), (⟨#[49, 47, 54]⟩ : ByteArray)]) el31 ze22 sz22 (by kernel_rfl) rfl (qc rfl (qc rfl (qc rfl qn))) rfl (.cons rfl (.cons rfl (.cons rfl .nil))) O126) ?_)
 rintro v135 H136 ⟨O133, sm134⟩
 obtain ⟨x137, i138, h139⟩ := bd_inv h124
 refine W.lo rfl rfl (Lo.callB (j := 0) rfl rfl (fn := Tryz.f25) (by kernel_rfl) rfl (mc rfl mn) O133 (fun G' L' hG O' hB => g_rat_Sum_ok K v135 [(⟨#[49, 47, 50]⟩ : ByteArray), (⟨#[49, 47, 51]⟩ : ByteArray), (⟨#[49, 47, 54]⟩ : ByteArray)] hB O' _ i138)) ?_
 rintro v146 H147 ⟨G140, O141, s142, sm145, rfl⟩
 replace O141 : Ow G140 H147 (eSl v135 22 rS [(⟨#[49, 47, 50]⟩ : ByteArray), (⟨#[49, 47, 51]⟩ : ByteArray), (⟨#[49, 47, 54]⟩ : ByteArray)] :: L) := O141
 refine W.q2 (.tuple #[(.string x137.1), (.int .i64 x137.2)]) rfl (W.pure (v := (.string x137.1)) rfl rfl (v_extract (oo rfl rfl) rfl) (W.pure (v := (.int .i64 x137.2)) rfl rfl (v_extract (oo rfl rfl) rfl) (W.q1 (.string x137.1) rfl (W.q1 (.int .i64 x137.2) rfl (.nil (.seq ?_))))))
 refine .region (W.lo rfl rfl (Lo.buildSlice (r := rS) (vs := [(.string (⟨#[50]⟩ : ByteArray)), (.string (⟨#[49]⟩ : ByteArray)), (.string (⟨#[49]⟩ : ByteArray))]) (xs := [(⟨#[50]⟩ : ByteArray), (⟨#[49]⟩ : ByteArray), (⟨#[49]⟩ : ByteArray)]) el31 ze22 sz22 (by kernel_rfl) rfl (qc rfl (qc rfl (qc rfl qn))) rfl (.cons rfl (.cons rfl (.cons rfl .nil))) O141) ?_)
 rintro v150 H151 ⟨O148, sm149⟩
 obtain ⟨x152, i153, h154⟩ := bd_inv h139
 refine W.lo rfl rfl (Lo.callB (j := 0) rfl rfl (fn := Tryz.f26) (by kernel_rfl) rfl (mc rfl mn) O148 (fun G' L' hG O' hB => g_rat_Least_ok K v150 [(⟨#[50]⟩ : ByteArray), (⟨#[49]⟩ : ByteArray), (⟨#[49]⟩ : ByteArray)] hB O' _ i153)) ?_
 rintro v161 H162 ⟨G155, O156, s157, sm160, rfl⟩
 replace O156 : Ow G155 H162 (eSl v150 22 rS [(⟨#[50]⟩ : ByteArray), (⟨#[49]⟩ : ByteArray), (⟨#[49]⟩ : ByteArray)] :: eSl v135 22 rS [(⟨#[49, 47, 50]⟩ : ByteArray), (⟨#[49, 47, 51]⟩ : ByteArray), (⟨#[49, 47, 54]⟩ : ByteArray)] :: L) := O156
 refine W.q2 (.tuple #[(.int .i64 x152.1), (.int .i64 x152.2)]) rfl (W.pure (v := (.int .i64 x152.1)) rfl rfl (v_extract (oo rfl rfl) rfl) (W.pure (v := (.int .i64 x152.2)) rfl rfl (v_extract (oo rfl rfl) rfl) (W.q1 (.int .i64 x152.1) rfl (W.q1 (.int .i64 x152.2) rfl (.nil (.seq ?_))))))
 obtain ⟨q163, h164, h165⟩ := bd_inv h154
 refine AW.midT (fun σ' H' => ∃ (y1 : Bool) (G' : GM), y1 = q163 ∧ Ow G' H' (eSl v150 22 rS [(⟨#[50]⟩ : ByteArray), (⟨#[49]⟩ : ByteArray), (⟨#[49]⟩ : ByteArray)] :: eSl v135 22 rS [(⟨#[49, 47, 50]⟩ : ByteArray), (⟨#[49, 47, 51]⟩ : ByteArray), (⟨#[49, 47, 54]⟩ : ByteArray)] :: L) ∧ GM.le G155 G' ∧ σ' 0 = .bool y1) ?_ ?_
 rotate_left
 ·rintro σ290 H291 fr292 ⟨x289, G293, rfl, O294, s295, t297⟩
  have h298 := tu1_inv h165
  refine .ret ?_
  have O299 : Ow G293 H291 (eSl v135 22 rS [(⟨#[49, 47, 50]⟩ : ByteArray), (⟨#[49, 47, 51]⟩ : ByteArray), (⟨#[49, 47, 54]⟩ : ByteArray)] :: L) := O294.drop 0
  have O300 : Ow G293 H291 (L) := O299.drop 0
  obtain rfl := Option.some.inj h298
  refine ret1R (P := Tryz.prog) (fn := Tryz.f5) (n := 168) (R := fun v H' => ∃ G', Ow G' H' (L) ∧ G.le G' ∧ v = .bool x289) (v1 := (.bool x289)) (by rfl) (rr_tmp (by rfl) (by exact t297)) ?_
  exact ⟨_, O300, (GM.le.trans s6 (GM.le.trans s17 (GM.le.trans s28 (GM.le.trans s39 (GM.le.trans s50 (GM.le.trans s61 (GM.le.trans s72 (GM.le.trans s83 (GM.le.trans s94 (GM.le.trans s105 (GM.le.trans s116 (GM.le.trans s127 (GM.le.trans s142 (GM.le.trans s157 s295)))))))))))))), rfl⟩
 refine .region (W.q2 (.int .i64 x1.2) rfl (W.q2 (.int .i64 x12.2) rfl (W.q2 (.int .i64 x23.2) rfl (W.q2 (.int .i64 x34.2) rfl (W.q2 (.int .i64 x45.2) rfl (W.q2 (.int .i64 x56.2) rfl ?_))))))
 refine W.q2 (.int .i64 x67.2) rfl (W.q2 (.int .i64 x78.2) rfl (W.q2 (.int .i64 x89.2) rfl (W.q2 (.int .i64 x100.2) rfl (W.q2 (.int .i64 x111.2) rfl (W.q2 (.int .i64 x122.2) rfl (W.q2 (.int .i64 x137.2) rfl ?_))))))
 refine W.q2 (.int .i64 x152.2) rfl (W.lo rfl rfl (Lo.buildSlice (r := (rI .i64)) (vs := [(.int .i64 x1.2), (.int .i64 x12.2), (.int .i64 x23.2), (.int .i64 x34.2), (.int .i64 x45.2), (.int .i64 x56.2), (.int .i64 x67.2), (.int .i64 x78.2), (.int .i64 x89.2), (.int .i64 x100.2), (.int .i64 x111.2), (.int .i64 x122.2), (.int .i64 x137.2), (.int .i64 x152.2)]) (xs := [x1.2, x12.2, x23.2, x34.2, x45.2, x56.2, x67.2, x78.2, x89.2, x100.2, x111.2, x122.2, x137.2, x152.2]) el79 ze24 sz24 (by kernel_rfl) rfl (qc rfl (qc rfl (qc rfl (qc rfl (qc rfl (qc rfl (qc rfl (qc rfl (qc rfl (qc rfl (qc rfl (qc rfl (qc rfl (qc rfl qn)))))))))))))) rfl (.cons rfl (.cons rfl (.cons rfl (.cons rfl (.cons rfl (.cons rfl (.cons rfl (.cons rfl (.cons rfl (.cons rfl (.cons rfl (.cons rfl (.cons rfl (.cons rfl .nil)))))))))))))) O156) ?_)
 rintro v168 H169 ⟨O166, sm167⟩
 obtain ⟨x170, i171, h172⟩ := bd_inv h164
 refine W.lo rfl rfl (Lo.callB (j := 0) rfl rfl (fn := Tryz.f27) (by kernel_rfl) rfl (mc rfl mn) O166 (fun G' L' hG O' hB => g_law_fine_ok K v168 [x1.2, x12.2, x23.2, x34.2, x45.2, x56.2, x67.2, x78.2, x89.2, x100.2, x111.2, x122.2, x137.2, x152.2] hB O' _ i171)) ?_
 rintro v179 H180 ⟨G173, O174, s175, sm178, rfl⟩
 replace O174 : Ow G173 H180 (eSl v168 24 (rI .i64) [x1.2, x12.2, x23.2, x34.2, x45.2, x56.2, x67.2, x78.2, x89.2, x100.2, x111.2, x122.2, x137.2, x152.2] :: eSl v150 22 rS [(⟨#[50]⟩ : ByteArray), (⟨#[49]⟩ : ByteArray), (⟨#[49]⟩ : ByteArray)] :: eSl v135 22 rS [(⟨#[49, 47, 50]⟩ : ByteArray), (⟨#[49, 47, 51]⟩ : ByteArray), (⟨#[49, 47, 54]⟩ : ByteArray)] :: L) := O174
 refine W.q2 (.bool x170) rfl (W.splitAt (t := 103) (b := x170) rfl (fun g181 gv182 => ?_) (fun g181 gv182 => ?_))
 rotate_left
 ·have h287 := neg_b g181 h172
  refine W.q6 rfl gv182 (W.q6 rfl gv182 (W.q5 (.bool false) gv182 rfl (W.q2 (.bool false) rfl (W.q6 rfl rfl (W.q6 rfl rfl (W.q5 (.bool false) rfl rfl ?_))))))
  refine W.q2 (.bool false) rfl (W.q6 rfl rfl (W.q6 rfl rfl (W.q5 (.bool false) rfl rfl (W.q2 (.bool false) rfl (W.q6 rfl rfl (W.q6 rfl rfl ?_))))))
  refine W.q5 (.bool false) rfl rfl (W.q2 (.bool false) rfl (W.q6 rfl rfl (W.q6 rfl rfl (W.q5 (.bool false) rfl rfl (W.q2 (.bool false) rfl (W.q6 rfl rfl ?_))))))
  refine W.q6 rfl rfl (W.q5 (.bool false) rfl rfl (W.q2 (.bool false) rfl (W.q6 rfl rfl (W.q6 rfl rfl (W.q5 (.bool false) rfl rfl (W.q2 (.bool false) rfl ?_))))))
  refine W.q6 rfl rfl (W.q6 rfl rfl (W.q5 (.bool false) rfl rfl (W.q2 (.bool false) rfl (W.q6 rfl rfl (W.q6 rfl rfl (W.q5 (.bool false) rfl rfl ?_))))))
  refine W.q2 (.bool false) rfl (W.q6 rfl rfl (W.q6 rfl rfl (W.q5 (.bool false) rfl rfl (W.q2 (.bool false) rfl (W.q6 rfl rfl (W.q6 rfl rfl ?_))))))
  refine W.q5 (.bool false) rfl rfl (W.q2 (.bool false) rfl (W.q6 rfl rfl (W.q6 rfl rfl (W.q5 (.bool false) rfl rfl (W.q2 (.bool false) rfl (W.q6 rfl rfl ?_))))))
  refine W.q6 rfl rfl (W.q5 (.bool false) rfl rfl (W.q2 (.bool false) rfl (W.q6 rfl rfl (W.q6 rfl rfl (W.q5 (.bool false) rfl rfl (W.q2 (.bool false) rfl ?_))))))
  refine W.q6 rfl rfl (W.q6 rfl rfl (W.q5 (.bool false) rfl rfl (W.q2 (.bool false) rfl (W.q6 rfl rfl (W.q6 rfl rfl (W.q6 rfl rfl ?_))))))
  refine W.q5 (.bool false) rfl rfl (W.q1 (.bool false) rfl (.nil ?_))
  have O288 : Ow G173 H180 (eSl v150 22 rS [(⟨#[50]⟩ : ByteArray), (⟨#[49]⟩ : ByteArray), (⟨#[49]⟩ : ByteArray)] :: eSl v135 22 rS [(⟨#[49, 47, 50]⟩ : ByteArray), (⟨#[49, 47, 51]⟩ : ByteArray), (⟨#[49, 47, 54]⟩ : ByteArray)] :: L) := O174.drop 0
  obtain rfl := Option.some.inj h287
  exact ⟨false, _, rfl, O288, s175, rfl⟩
 have h183 := pos_inv g181 h172
 refine W.q2 (hg := gk rfl rfl gv182 rfl) (.string x1.1) rfl (W.pure (v := (.bool (sEq x1.1 (⟨#[45, 51, 47, 50]⟩ : ByteArray)))) (gk rfl rfl gv182 rfl) rfl (vs_eql (oo rfl rfl) (oo rfl rfl)) (W.q4 (.bool (sEq x1.1 (⟨#[45, 51, 47, 50]⟩ : ByteArray))) gv182 rfl (W.q2 (.bool (sEq x1.1 (⟨#[45, 51, 47, 50]⟩ : ByteArray))) rfl (W.splitAt (t := 107) (b := sEq x1.1 (⟨#[45, 51, 47, 50]⟩ : ByteArray)) rfl (fun g184 gv185 => ?_) (fun g184 gv185 => ?_)))))
 rotate_left
 ·have h285 := neg_b g184 h183
  refine W.q6 rfl gv185 (W.q6 rfl gv185 (W.q5 (.bool false) gv185 rfl (W.q2 (.bool false) rfl (W.q6 rfl rfl (W.q6 rfl rfl (W.q5 (.bool false) rfl rfl ?_))))))
  refine W.q2 (.bool false) rfl (W.q6 rfl rfl (W.q6 rfl rfl (W.q5 (.bool false) rfl rfl (W.q2 (.bool false) rfl (W.q6 rfl rfl (W.q6 rfl rfl ?_))))))
  refine W.q5 (.bool false) rfl rfl (W.q2 (.bool false) rfl (W.q6 rfl rfl (W.q6 rfl rfl (W.q5 (.bool false) rfl rfl (W.q2 (.bool false) rfl (W.q6 rfl rfl ?_))))))
  refine W.q6 rfl rfl (W.q5 (.bool false) rfl rfl (W.q2 (.bool false) rfl (W.q6 rfl rfl (W.q6 rfl rfl (W.q5 (.bool false) rfl rfl (W.q2 (.bool false) rfl ?_))))))
  refine W.q6 rfl rfl (W.q6 rfl rfl (W.q5 (.bool false) rfl rfl (W.q2 (.bool false) rfl (W.q6 rfl rfl (W.q6 rfl rfl (W.q5 (.bool false) rfl rfl ?_))))))
  refine W.q2 (.bool false) rfl (W.q6 rfl rfl (W.q6 rfl rfl (W.q5 (.bool false) rfl rfl (W.q2 (.bool false) rfl (W.q6 rfl rfl (W.q6 rfl rfl ?_))))))
  refine W.q5 (.bool false) rfl rfl (W.q2 (.bool false) rfl (W.q6 rfl rfl (W.q6 rfl rfl (W.q5 (.bool false) rfl rfl (W.q2 (.bool false) rfl (W.q6 rfl rfl ?_))))))
  refine W.q6 rfl rfl (W.q5 (.bool false) rfl rfl (W.q2 (.bool false) rfl (W.q6 rfl rfl (W.q6 rfl rfl (W.q5 (.bool false) rfl rfl (W.q2 (.bool false) rfl ?_))))))
  refine W.q6 rfl rfl (W.q6 rfl rfl (W.q6 rfl rfl (W.q5 (.bool false) rfl rfl (W.q1 (.bool false) rfl (.nil ?_)))))
  have O286 : Ow G173 H180 (eSl v150 22 rS [(⟨#[50]⟩ : ByteArray), (⟨#[49]⟩ : ByteArray), (⟨#[49]⟩ : ByteArray)] :: eSl v135 22 rS [(⟨#[49, 47, 50]⟩ : ByteArray), (⟨#[49, 47, 51]⟩ : ByteArray), (⟨#[49, 47, 54]⟩ : ByteArray)] :: L) := O174.drop 0
  obtain rfl := Option.some.inj h285
  exact ⟨false, _, rfl, O286, s175, rfl⟩
 have h186 := pos_inv g184 h183
 refine W.q2 (hg := gk rfl rfl gv185 rfl) (.string x12.1) rfl (W.pure (v := (.bool (sEq x12.1 (⟨#[53, 47, 54]⟩ : ByteArray)))) (gk rfl rfl gv185 rfl) rfl (vs_eql (oo rfl rfl) (oo rfl rfl)) (W.q4 (.bool (sEq x12.1 (⟨#[53, 47, 54]⟩ : ByteArray))) gv185 rfl (W.q2 (.bool (sEq x12.1 (⟨#[53, 47, 54]⟩ : ByteArray))) rfl (W.splitAt (t := 111) (b := sEq x12.1 (⟨#[53, 47, 54]⟩ : ByteArray)) rfl (fun g187 gv188 => ?_) (fun g187 gv188 => ?_)))))
 rotate_left
 ·have h283 := neg_b g187 h186
  refine W.q6 rfl gv188 (W.q6 rfl gv188 (W.q5 (.bool false) gv188 rfl (W.q2 (.bool false) rfl (W.q6 rfl rfl (W.q6 rfl rfl (W.q5 (.bool false) rfl rfl ?_))))))
  refine W.q2 (.bool false) rfl (W.q6 rfl rfl (W.q6 rfl rfl (W.q5 (.bool false) rfl rfl (W.q2 (.bool false) rfl (W.q6 rfl rfl (W.q6 rfl rfl ?_))))))
  refine W.q5 (.bool false) rfl rfl (W.q2 (.bool false) rfl (W.q6 rfl rfl (W.q6 rfl rfl (W.q5 (.bool false) rfl rfl (W.q2 (.bool false) rfl (W.q6 rfl rfl ?_))))))
  refine W.q6 rfl rfl (W.q5 (.bool false) rfl rfl (W.q2 (.bool false) rfl (W.q6 rfl rfl (W.q6 rfl rfl (W.q5 (.bool false) rfl rfl (W.q2 (.bool false) rfl ?_))))))
  refine W.q6 rfl rfl (W.q6 rfl rfl (W.q5 (.bool false) rfl rfl (W.q2 (.bool false) rfl (W.q6 rfl rfl (W.q6 rfl rfl (W.q5 (.bool false) rfl rfl ?_))))))
  refine W.q2 (.bool false) rfl (W.q6 rfl rfl (W.q6 rfl rfl (W.q5 (.bool false) rfl rfl (W.q2 (.bool false) rfl (W.q6 rfl rfl (W.q6 rfl rfl ?_))))))
  refine W.q5 (.bool false) rfl rfl (W.q2 (.bool false) rfl (W.q6 rfl rfl (W.q6 rfl rfl (W.q5 (.bool false) rfl rfl (W.q2 (.bool false) rfl (W.q6 rfl rfl ?_))))))
  refine W.q6 rfl rfl (W.q5 (.bool false) rfl rfl (W.q2 (.bool false) rfl (W.q6 rfl rfl (W.q6 rfl rfl (W.q6 rfl rfl (W.q5 (.bool false) rfl rfl ?_))))))
  refine W.q1 (.bool false) rfl (.nil ?_)
  have O284 : Ow G173 H180 (eSl v150 22 rS [(⟨#[50]⟩ : ByteArray), (⟨#[49]⟩ : ByteArray), (⟨#[49]⟩ : ByteArray)] :: eSl v135 22 rS [(⟨#[49, 47, 50]⟩ : ByteArray), (⟨#[49, 47, 51]⟩ : ByteArray), (⟨#[49, 47, 54]⟩ : ByteArray)] :: L) := O174.drop 0
  obtain rfl := Option.some.inj h283
  exact ⟨false, _, rfl, O284, s175, rfl⟩
 have h189 := pos_inv g187 h186
 refine W.q2 (hg := gk rfl rfl gv188 rfl) (.string x23.1) rfl (W.pure (v := (.bool (sEq x23.1 (⟨#[49, 47, 54]⟩ : ByteArray)))) (gk rfl rfl gv188 rfl) rfl (vs_eql (oo rfl rfl) (oo rfl rfl)) (W.q4 (.bool (sEq x23.1 (⟨#[49, 47, 54]⟩ : ByteArray))) gv188 rfl (W.q2 (.bool (sEq x23.1 (⟨#[49, 47, 54]⟩ : ByteArray))) rfl (W.splitAt (t := 115) (b := sEq x23.1 (⟨#[49, 47, 54]⟩ : ByteArray)) rfl (fun g190 gv191 => ?_) (fun g190 gv191 => ?_)))))
 rotate_left
 ·have h281 := neg_b g190 h189
  refine W.q6 rfl gv191 (W.q6 rfl gv191 (W.q5 (.bool false) gv191 rfl (W.q2 (.bool false) rfl (W.q6 rfl rfl (W.q6 rfl rfl (W.q5 (.bool false) rfl rfl ?_))))))
  refine W.q2 (.bool false) rfl (W.q6 rfl rfl (W.q6 rfl rfl (W.q5 (.bool false) rfl rfl (W.q2 (.bool false) rfl (W.q6 rfl rfl (W.q6 rfl rfl ?_))))))
  refine W.q5 (.bool false) rfl rfl (W.q2 (.bool false) rfl (W.q6 rfl rfl (W.q6 rfl rfl (W.q5 (.bool false) rfl rfl (W.q2 (.bool false) rfl (W.q6 rfl rfl ?_))))))
  refine W.q6 rfl rfl (W.q5 (.bool false) rfl rfl (W.q2 (.bool false) rfl (W.q6 rfl rfl (W.q6 rfl rfl (W.q5 (.bool false) rfl rfl (W.q2 (.bool false) rfl ?_))))))
  refine W.q6 rfl rfl (W.q6 rfl rfl (W.q5 (.bool false) rfl rfl (W.q2 (.bool false) rfl (W.q6 rfl rfl (W.q6 rfl rfl (W.q5 (.bool false) rfl rfl ?_))))))
  refine W.q2 (.bool false) rfl (W.q6 rfl rfl (W.q6 rfl rfl (W.q5 (.bool false) rfl rfl (W.q2 (.bool false) rfl (W.q6 rfl rfl (W.q6 rfl rfl ?_))))))
  refine W.q5 (.bool false) rfl rfl (W.q2 (.bool false) rfl (W.q6 rfl rfl (W.q6 rfl rfl (W.q5 (.bool false) rfl rfl (W.q2 (.bool false) rfl (W.q6 rfl rfl ?_))))))
  refine W.q6 rfl rfl (W.q6 rfl rfl (W.q5 (.bool false) rfl rfl (W.q1 (.bool false) rfl (.nil ?_))))
  have O282 : Ow G173 H180 (eSl v150 22 rS [(⟨#[50]⟩ : ByteArray), (⟨#[49]⟩ : ByteArray), (⟨#[49]⟩ : ByteArray)] :: eSl v135 22 rS [(⟨#[49, 47, 50]⟩ : ByteArray), (⟨#[49, 47, 51]⟩ : ByteArray), (⟨#[49, 47, 54]⟩ : ByteArray)] :: L) := O174.drop 0
  obtain rfl := Option.some.inj h281
  exact ⟨false, _, rfl, O282, s175, rfl⟩
 have h192 := pos_inv g190 h189
 refine W.q2 (hg := gk rfl rfl gv191 rfl) (.string x34.1) rfl (W.pure (v := (.bool (sEq x34.1 (⟨#[49]⟩ : ByteArray)))) (gk rfl rfl gv191 rfl) rfl (vs_eql (oo rfl rfl) (oo rfl rfl)) (W.q4 (.bool (sEq x34.1 (⟨#[49]⟩ : ByteArray))) gv191 rfl (W.q2 (.bool (sEq x34.1 (⟨#[49]⟩ : ByteArray))) rfl (W.splitAt (t := 119) (b := sEq x34.1 (⟨#[49]⟩ : ByteArray)) rfl (fun g193 gv194 => ?_) (fun g193 gv194 => ?_)))))
 rotate_left
 ·have h279 := neg_b g193 h192
  refine W.q6 rfl gv194 (W.q6 rfl gv194 (W.q5 (.bool false) gv194 rfl (W.q2 (.bool false) rfl (W.q6 rfl rfl (W.q6 rfl rfl (W.q5 (.bool false) rfl rfl ?_))))))
  refine W.q2 (.bool false) rfl (W.q6 rfl rfl (W.q6 rfl rfl (W.q5 (.bool false) rfl rfl (W.q2 (.bool false) rfl (W.q6 rfl rfl (W.q6 rfl rfl ?_))))))
  refine W.q5 (.bool false) rfl rfl (W.q2 (.bool false) rfl (W.q6 rfl rfl (W.q6 rfl rfl (W.q5 (.bool false) rfl rfl (W.q2 (.bool false) rfl (W.q6 rfl rfl ?_))))))
  refine W.q6 rfl rfl (W.q5 (.bool false) rfl rfl (W.q2 (.bool false) rfl (W.q6 rfl rfl (W.q6 rfl rfl (W.q5 (.bool false) rfl rfl (W.q2 (.bool false) rfl ?_))))))
  refine W.q6 rfl rfl (W.q6 rfl rfl (W.q5 (.bool false) rfl rfl (W.q2 (.bool false) rfl (W.q6 rfl rfl (W.q6 rfl rfl (W.q5 (.bool false) rfl rfl ?_))))))
  refine W.q2 (.bool false) rfl (W.q6 rfl rfl (W.q6 rfl rfl (W.q5 (.bool false) rfl rfl (W.q2 (.bool false) rfl (W.q6 rfl rfl (W.q6 rfl rfl ?_))))))
  refine W.q5 (.bool false) rfl rfl (W.q2 (.bool false) rfl (W.q6 rfl rfl (W.q6 rfl rfl (W.q6 rfl rfl (W.q5 (.bool false) rfl rfl (W.q1 (.bool false) rfl ?_))))))
  refine .nil ?_
  have O280 : Ow G173 H180 (eSl v150 22 rS [(⟨#[50]⟩ : ByteArray), (⟨#[49]⟩ : ByteArray), (⟨#[49]⟩ : ByteArray)] :: eSl v135 22 rS [(⟨#[49, 47, 50]⟩ : ByteArray), (⟨#[49, 47, 51]⟩ : ByteArray), (⟨#[49, 47, 54]⟩ : ByteArray)] :: L) := O174.drop 0
  obtain rfl := Option.some.inj h279
  exact ⟨false, _, rfl, O280, s175, rfl⟩
 have h195 := pos_inv g193 h192
 refine W.q2 (hg := gk rfl rfl gv194 rfl) (.string x45.1) rfl (W.pure (v := (.bool (sEq x45.1 (⟨#[45, 49, 47, 51]⟩ : ByteArray)))) (gk rfl rfl gv194 rfl) rfl (vs_eql (oo rfl rfl) (oo rfl rfl)) (W.q4 (.bool (sEq x45.1 (⟨#[45, 49, 47, 51]⟩ : ByteArray))) gv194 rfl (W.q2 (.bool (sEq x45.1 (⟨#[45, 49, 47, 51]⟩ : ByteArray))) rfl (W.splitAt (t := 123) (b := sEq x45.1 (⟨#[45, 49, 47, 51]⟩ : ByteArray)) rfl (fun g196 gv197 => ?_) (fun g196 gv197 => ?_)))))
 rotate_left
 ·have h277 := neg_b g196 h195
  refine W.q6 rfl gv197 (W.q6 rfl gv197 (W.q5 (.bool false) gv197 rfl (W.q2 (.bool false) rfl (W.q6 rfl rfl (W.q6 rfl rfl (W.q5 (.bool false) rfl rfl ?_))))))
  refine W.q2 (.bool false) rfl (W.q6 rfl rfl (W.q6 rfl rfl (W.q5 (.bool false) rfl rfl (W.q2 (.bool false) rfl (W.q6 rfl rfl (W.q6 rfl rfl ?_))))))
  refine W.q5 (.bool false) rfl rfl (W.q2 (.bool false) rfl (W.q6 rfl rfl (W.q6 rfl rfl (W.q5 (.bool false) rfl rfl (W.q2 (.bool false) rfl (W.q6 rfl rfl ?_))))))
  refine W.q6 rfl rfl (W.q5 (.bool false) rfl rfl (W.q2 (.bool false) rfl (W.q6 rfl rfl (W.q6 rfl rfl (W.q5 (.bool false) rfl rfl (W.q2 (.bool false) rfl ?_))))))
  refine W.q6 rfl rfl (W.q6 rfl rfl (W.q5 (.bool false) rfl rfl (W.q2 (.bool false) rfl (W.q6 rfl rfl (W.q6 rfl rfl (W.q5 (.bool false) rfl rfl ?_))))))
  refine W.q2 (.bool false) rfl (W.q6 rfl rfl (W.q6 rfl rfl (W.q5 (.bool false) rfl rfl (W.q2 (.bool false) rfl (W.q6 rfl rfl (W.q6 rfl rfl ?_))))))
  refine W.q6 rfl rfl (W.q5 (.bool false) rfl rfl (W.q1 (.bool false) rfl (.nil ?_)))
  have O278 : Ow G173 H180 (eSl v150 22 rS [(⟨#[50]⟩ : ByteArray), (⟨#[49]⟩ : ByteArray), (⟨#[49]⟩ : ByteArray)] :: eSl v135 22 rS [(⟨#[49, 47, 50]⟩ : ByteArray), (⟨#[49, 47, 51]⟩ : ByteArray), (⟨#[49, 47, 54]⟩ : ByteArray)] :: L) := O174.drop 0
  obtain rfl := Option.some.inj h277
  exact ⟨false, _, rfl, O278, s175, rfl⟩
 have h198 := pos_inv g196 h195
 refine W.q2 (hg := gk rfl rfl gv197 rfl) (.string x56.1) rfl (W.pure (v := (.bool (sEq x56.1 (⟨#[45, 49, 47, 50]⟩ : ByteArray)))) (gk rfl rfl gv197 rfl) rfl (vs_eql (oo rfl rfl) (oo rfl rfl)) (W.q4 (.bool (sEq x56.1 (⟨#[45, 49, 47, 50]⟩ : ByteArray))) gv197 rfl (W.q2 (.bool (sEq x56.1 (⟨#[45, 49, 47, 50]⟩ : ByteArray))) rfl (W.splitAt (t := 127) (b := sEq x56.1 (⟨#[45, 49, 47, 50]⟩ : ByteArray)) rfl (fun g199 gv200 => ?_) (fun g199 gv200 => ?_)))))
 rotate_left
 ·have h275 := neg_b g199 h198
  refine W.q6 rfl gv200 (W.q6 rfl gv200 (W.q5 (.bool false) gv200 rfl (W.q2 (.bool false) rfl (W.q6 rfl rfl (W.q6 rfl rfl (W.q5 (.bool false) rfl rfl ?_))))))
  refine W.q2 (.bool false) rfl (W.q6 rfl rfl (W.q6 rfl rfl (W.q5 (.bool false) rfl rfl (W.q2 (.bool false) rfl (W.q6 rfl rfl (W.q6 rfl rfl ?_))))))
  refine W.q5 (.bool false) rfl rfl (W.q2 (.bool false) rfl (W.q6 rfl rfl (W.q6 rfl rfl (W.q5 (.bool false) rfl rfl (W.q2 (.bool false) rfl (W.q6 rfl rfl ?_))))))
  refine W.q6 rfl rfl (W.q5 (.bool false) rfl rfl (W.q2 (.bool false) rfl (W.q6 rfl rfl (W.q6 rfl rfl (W.q5 (.bool false) rfl rfl (W.q2 (.bool false) rfl ?_))))))
  refine W.q6 rfl rfl (W.q6 rfl rfl (W.q5 (.bool false) rfl rfl (W.q2 (.bool false) rfl (W.q6 rfl rfl (W.q6 rfl rfl (W.q5 (.bool false) rfl rfl ?_))))))
  refine W.q2 (.bool false) rfl (W.q6 rfl rfl (W.q6 rfl rfl (W.q6 rfl rfl (W.q5 (.bool false) rfl rfl (W.q1 (.bool false) rfl (.nil ?_))))))
  have O276 : Ow G173 H180 (eSl v150 22 rS [(⟨#[50]⟩ : ByteArray), (⟨#[49]⟩ : ByteArray), (⟨#[49]⟩ : ByteArray)] :: eSl v135 22 rS [(⟨#[49, 47, 50]⟩ : ByteArray), (⟨#[49, 47, 51]⟩ : ByteArray), (⟨#[49, 47, 54]⟩ : ByteArray)] :: L) := O174.drop 0
  obtain rfl := Option.some.inj h275
  exact ⟨false, _, rfl, O276, s175, rfl⟩
 have h201 := pos_inv g199 h198
 refine W.q2 (hg := gk rfl rfl gv200 rfl) (.int .i64 x67.1) rfl (W.q3 (hg := gk rfl rfl gv200 rfl) (.bool (x67.1 == 1)) rfl rfl (W.q4 (.bool (x67.1 == 1)) gv200 rfl (W.q2 (.bool (x67.1 == 1)) rfl (W.splitAt (t := 131) (b := (x67.1 == 1)) rfl (fun g202 gv203 => ?_) (fun g202 gv203 => ?_)))))
 rotate_left
 ·have h273 := neg_b g202 h201
  refine W.q6 rfl gv203 (W.q6 rfl gv203 (W.q5 (.bool false) gv203 rfl (W.q2 (.bool false) rfl (W.q6 rfl rfl (W.q6 rfl rfl (W.q5 (.bool false) rfl rfl ?_))))))
  refine W.q2 (.bool false) rfl (W.q6 rfl rfl (W.q6 rfl rfl (W.q5 (.bool false) rfl rfl (W.q2 (.bool false) rfl (W.q6 rfl rfl (W.q6 rfl rfl ?_))))))
  refine W.q5 (.bool false) rfl rfl (W.q2 (.bool false) rfl (W.q6 rfl rfl (W.q6 rfl rfl (W.q5 (.bool false) rfl rfl (W.q2 (.bool false) rfl (W.q6 rfl rfl ?_))))))
  refine W.q6 rfl rfl (W.q5 (.bool false) rfl rfl (W.q2 (.bool false) rfl (W.q6 rfl rfl (W.q6 rfl rfl (W.q5 (.bool false) rfl rfl (W.q2 (.bool false) rfl ?_))))))
  refine W.q6 rfl rfl (W.q6 rfl rfl (W.q5 (.bool false) rfl rfl (W.q2 (.bool false) rfl (W.q6 rfl rfl (W.q6 rfl rfl (W.q6 rfl rfl ?_))))))
  refine W.q5 (.bool false) rfl rfl (W.q1 (.bool false) rfl (.nil ?_))
  have O274 : Ow G173 H180 (eSl v150 22 rS [(⟨#[50]⟩ : ByteArray), (⟨#[49]⟩ : ByteArray), (⟨#[49]⟩ : ByteArray)] :: eSl v135 22 rS [(⟨#[49, 47, 50]⟩ : ByteArray), (⟨#[49, 47, 51]⟩ : ByteArray), (⟨#[49, 47, 54]⟩ : ByteArray)] :: L) := O174.drop 0
  obtain rfl := Option.some.inj h273
  exact ⟨false, _, rfl, O274, s175, rfl⟩
 have h204 := pos_inv g202 h201
 refine W.q2 (hg := gk rfl rfl gv203 rfl) (.int .i64 x78.1) rfl (W.q3 (hg := gk rfl rfl gv203 rfl) (.bool (x78.1 == (-1))) rfl rfl (W.q4 (.bool (x78.1 == (-1))) gv203 rfl (W.q2 (.bool (x78.1 == (-1))) rfl (W.splitAt (t := 135) (b := (x78.1 == (-1))) rfl (fun g205 gv206 => ?_) (fun g205 gv206 => ?_)))))
 rotate_left
 ·have h271 := neg_b g205 h204
  refine W.q6 rfl gv206 (W.q6 rfl gv206 (W.q5 (.bool false) gv206 rfl (W.q2 (.bool false) rfl (W.q6 rfl rfl (W.q6 rfl rfl (W.q5 (.bool false) rfl rfl ?_))))))
  refine W.q2 (.bool false) rfl (W.q6 rfl rfl (W.q6 rfl rfl (W.q5 (.bool false) rfl rfl (W.q2 (.bool false) rfl (W.q6 rfl rfl (W.q6 rfl rfl ?_))))))
  refine W.q5 (.bool false) rfl rfl (W.q2 (.bool false) rfl (W.q6 rfl rfl (W.q6 rfl rfl (W.q5 (.bool false) rfl rfl (W.q2 (.bool false) rfl (W.q6 rfl rfl ?_))))))
  refine W.q6 rfl rfl (W.q5 (.bool false) rfl rfl (W.q2 (.bool false) rfl (W.q6 rfl rfl (W.q6 rfl rfl (W.q5 (.bool false) rfl rfl (W.q2 (.bool false) rfl ?_))))))
  refine W.q6 rfl rfl (W.q6 rfl rfl (W.q6 rfl rfl (W.q5 (.bool false) rfl rfl (W.q1 (.bool false) rfl (.nil ?_)))))
  have O272 : Ow G173 H180 (eSl v150 22 rS [(⟨#[50]⟩ : ByteArray), (⟨#[49]⟩ : ByteArray), (⟨#[49]⟩ : ByteArray)] :: eSl v135 22 rS [(⟨#[49, 47, 50]⟩ : ByteArray), (⟨#[49, 47, 51]⟩ : ByteArray), (⟨#[49, 47, 54]⟩ : ByteArray)] :: L) := O174.drop 0
  obtain rfl := Option.some.inj h271
  exact ⟨false, _, rfl, O272, s175, rfl⟩
 have h207 := pos_inv g205 h204
 refine W.q2 (hg := gk rfl rfl gv206 rfl) (.string x89.1) rfl (W.pure (v := (.bool (sEq x89.1 (⟨#[45, 49]⟩ : ByteArray)))) (gk rfl rfl gv206 rfl) rfl (vs_eql (oo rfl rfl) (oo rfl rfl)) (W.q4 (.bool (sEq x89.1 (⟨#[45, 49]⟩ : ByteArray))) gv206 rfl (W.q2 (.bool (sEq x89.1 (⟨#[45, 49]⟩ : ByteArray))) rfl (W.splitAt (t := 139) (b := sEq x89.1 (⟨#[45, 49]⟩ : ByteArray)) rfl (fun g208 gv209 => ?_) (fun g208 gv209 => ?_)))))
 rotate_left
 ·have h269 := neg_b g208 h207
  refine W.q6 rfl gv209 (W.q6 rfl gv209 (W.q5 (.bool false) gv209 rfl (W.q2 (.bool false) rfl (W.q6 rfl rfl (W.q6 rfl rfl (W.q5 (.bool false) rfl rfl ?_))))))
  refine W.q2 (.bool false) rfl (W.q6 rfl rfl (W.q6 rfl rfl (W.q5 (.bool false) rfl rfl (W.q2 (.bool false) rfl (W.q6 rfl rfl (W.q6 rfl rfl ?_))))))
  refine W.q5 (.bool false) rfl rfl (W.q2 (.bool false) rfl (W.q6 rfl rfl (W.q6 rfl rfl (W.q5 (.bool false) rfl rfl (W.q2 (.bool false) rfl (W.q6 rfl rfl ?_))))))
  refine W.q6 rfl rfl (W.q5 (.bool false) rfl rfl (W.q2 (.bool false) rfl (W.q6 rfl rfl (W.q6 rfl rfl (W.q6 rfl rfl (W.q5 (.bool false) rfl rfl ?_))))))
  refine W.q1 (.bool false) rfl (.nil ?_)
  have O270 : Ow G173 H180 (eSl v150 22 rS [(⟨#[50]⟩ : ByteArray), (⟨#[49]⟩ : ByteArray), (⟨#[49]⟩ : ByteArray)] :: eSl v135 22 rS [(⟨#[49, 47, 50]⟩ : ByteArray), (⟨#[49, 47, 51]⟩ : ByteArray), (⟨#[49, 47, 54]⟩ : ByteArray)] :: L) := O174.drop 0
  obtain rfl := Option.some.inj h269
  exact ⟨false, _, rfl, O270, s175, rfl⟩
 have h210 := pos_inv g208 h207
 refine W.q2 (hg := gk rfl rfl gv209 rfl) (.string x100.1) rfl (W.pure (v := (.bool (sEq x100.1 (⟨#[49]⟩ : ByteArray)))) (gk rfl rfl gv209 rfl) rfl (vs_eql (oo rfl rfl) (oo rfl rfl)) (W.q4 (.bool (sEq x100.1 (⟨#[49]⟩ : ByteArray))) gv209 rfl (W.q2 (.bool (sEq x100.1 (⟨#[49]⟩ : ByteArray))) rfl (W.splitAt (t := 143) (b := sEq x100.1 (⟨#[49]⟩ : ByteArray)) rfl (fun g211 gv212 => ?_) (fun g211 gv212 => ?_)))))
 rotate_left
 ·have h267 := neg_b g211 h210
  refine W.q6 rfl gv212 (W.q6 rfl gv212 (W.q5 (.bool false) gv212 rfl (W.q2 (.bool false) rfl (W.q6 rfl rfl (W.q6 rfl rfl (W.q5 (.bool false) rfl rfl ?_))))))
  refine W.q2 (.bool false) rfl (W.q6 rfl rfl (W.q6 rfl rfl (W.q5 (.bool false) rfl rfl (W.q2 (.bool false) rfl (W.q6 rfl rfl (W.q6 rfl rfl ?_))))))
  refine W.q5 (.bool false) rfl rfl (W.q2 (.bool false) rfl (W.q6 rfl rfl (W.q6 rfl rfl (W.q5 (.bool false) rfl rfl (W.q2 (.bool false) rfl (W.q6 rfl rfl ?_))))))
  refine W.q6 rfl rfl (W.q6 rfl rfl (W.q5 (.bool false) rfl rfl (W.q1 (.bool false) rfl (.nil ?_))))
  have O268 : Ow G173 H180 (eSl v150 22 rS [(⟨#[50]⟩ : ByteArray), (⟨#[49]⟩ : ByteArray), (⟨#[49]⟩ : ByteArray)] :: eSl v135 22 rS [(⟨#[49, 47, 50]⟩ : ByteArray), (⟨#[49, 47, 51]⟩ : ByteArray), (⟨#[49, 47, 54]⟩ : ByteArray)] :: L) := O174.drop 0
  obtain rfl := Option.some.inj h267
  exact ⟨false, _, rfl, O268, s175, rfl⟩
 have h213 := pos_inv g211 h210
 refine W.q2 (hg := gk rfl rfl gv212 rfl) (.string x111.1) rfl (W.pure (v := (.bool (sEq x111.1 (⟨#[50]⟩ : ByteArray)))) (gk rfl rfl gv212 rfl) rfl (vs_eql (oo rfl rfl) (oo rfl rfl)) (W.q4 (.bool (sEq x111.1 (⟨#[50]⟩ : ByteArray))) gv212 rfl (W.q2 (.bool (sEq x111.1 (⟨#[50]⟩ : ByteArray))) rfl (W.splitAt (t := 147) (b := sEq x111.1 (⟨#[50]⟩ : ByteArray)) rfl (fun g214 gv215 => ?_) (fun g214 gv215 => ?_)))))
 rotate_left
 ·have h265 := neg_b g214 h213
  refine W.q6 rfl gv215 (W.q6 rfl gv215 (W.q5 (.bool false) gv215 rfl (W.q2 (.bool false) rfl (W.q6 rfl rfl (W.q6 rfl rfl (W.q5 (.bool false) rfl rfl ?_))))))
  refine W.q2 (.bool false) rfl (W.q6 rfl rfl (W.q6 rfl rfl (W.q5 (.bool false) rfl rfl (W.q2 (.bool false) rfl (W.q6 rfl rfl (W.q6 rfl rfl ?_))))))
  refine W.q5 (.bool false) rfl rfl (W.q2 (.bool false) rfl (W.q6 rfl rfl (W.q6 rfl rfl (W.q6 rfl rfl (W.q5 (.bool false) rfl rfl (W.q1 (.bool false) rfl ?_))))))
  refine .nil ?_
  have O266 : Ow G173 H180 (eSl v150 22 rS [(⟨#[50]⟩ : ByteArray), (⟨#[49]⟩ : ByteArray), (⟨#[49]⟩ : ByteArray)] :: eSl v135 22 rS [(⟨#[49, 47, 50]⟩ : ByteArray), (⟨#[49, 47, 51]⟩ : ByteArray), (⟨#[49, 47, 54]⟩ : ByteArray)] :: L) := O174.drop 0
  obtain rfl := Option.some.inj h265
  exact ⟨false, _, rfl, O266, s175, rfl⟩
 have h216 := pos_inv g214 h213
 refine W.q2 (hg := gk rfl rfl gv215 rfl) (.int .i64 x122.1) rfl (W.q3 (hg := gk rfl rfl gv215 rfl) (.bool (x122.1 == (-7))) rfl rfl (W.q4 (.bool (x122.1 == (-7))) gv215 rfl (W.q2 (.bool (x122.1 == (-7))) rfl (W.splitAt (t := 151) (b := (x122.1 == (-7))) rfl (fun g217 gv218 => ?_) (fun g217 gv218 => ?_)))))
 rotate_left
 ·have h263 := neg_b g217 h216
  refine W.q6 rfl gv218 (W.q6 rfl gv218 (W.q5 (.bool false) gv218 rfl (W.q2 (.bool false) rfl (W.q6 rfl rfl (W.q6 rfl rfl (W.q5 (.bool false) rfl rfl ?_))))))
  refine W.q2 (.bool false) rfl (W.q6 rfl rfl (W.q6 rfl rfl (W.q5 (.bool false) rfl rfl (W.q2 (.bool false) rfl (W.q6 rfl rfl (W.q6 rfl rfl ?_))))))
  refine W.q6 rfl rfl (W.q5 (.bool false) rfl rfl (W.q1 (.bool false) rfl (.nil ?_)))
  have O264 : Ow G173 H180 (eSl v150 22 rS [(⟨#[50]⟩ : ByteArray), (⟨#[49]⟩ : ByteArray), (⟨#[49]⟩ : ByteArray)] :: eSl v135 22 rS [(⟨#[49, 47, 50]⟩ : ByteArray), (⟨#[49, 47, 51]⟩ : ByteArray), (⟨#[49, 47, 54]⟩ : ByteArray)] :: L) := O174.drop 0
  obtain rfl := Option.some.inj h263
  exact ⟨false, _, rfl, O264, s175, rfl⟩
 have h219 := pos_inv g217 h216
 refine W.q2 (hg := gk rfl rfl gv218 rfl) (.string x137.1) rfl (W.pure (v := (.bool (sEq x137.1 (⟨#[49]⟩ : ByteArray)))) (gk rfl rfl gv218 rfl) rfl (vs_eql (oo rfl rfl) (oo rfl rfl)) (W.q4 (.bool (sEq x137.1 (⟨#[49]⟩ : ByteArray))) gv218 rfl (W.q2 (.bool (sEq x137.1 (⟨#[49]⟩ : ByteArray))) rfl (W.splitAt (t := 155) (b := sEq x137.1 (⟨#[49]⟩ : ByteArray)) rfl (fun g220 gv221 => ?_) (fun g220 gv221 => ?_)))))
 rotate_left
 ·have h261 := neg_b g220 h219
  refine W.q6 rfl gv221 (W.q6 rfl gv221 (W.q5 (.bool false) gv221 rfl (W.q2 (.bool false) rfl (W.q6 rfl rfl (W.q6 rfl rfl (W.q5 (.bool false) rfl rfl ?_))))))
  refine W.q2 (.bool false) rfl (W.q6 rfl rfl (W.q6 rfl rfl (W.q6 rfl rfl (W.q5 (.bool false) rfl rfl (W.q1 (.bool false) rfl (.nil ?_))))))
  have O262 : Ow G173 H180 (eSl v150 22 rS [(⟨#[50]⟩ : ByteArray), (⟨#[49]⟩ : ByteArray), (⟨#[49]⟩ : ByteArray)] :: eSl v135 22 rS [(⟨#[49, 47, 50]⟩ : ByteArray), (⟨#[49, 47, 51]⟩ : ByteArray), (⟨#[49, 47, 54]⟩ : ByteArray)] :: L) := O174.drop 0
  obtain rfl := Option.some.inj h261
  exact ⟨false, _, rfl, O262, s175, rfl⟩
 have h222 := pos_inv g220 h219
 refine W.q2 (hg := gk rfl rfl gv221 rfl) (.int .i64 x152.1) rfl (W.q3 (hg := gk rfl rfl gv221 rfl) (.bool (x152.1 == 1)) rfl rfl (W.q4 (.bool (x152.1 == 1)) gv221 rfl (W.q2 (.bool (x152.1 == 1)) rfl (W.splitAt (t := 159) (b := (x152.1 == 1)) rfl (fun g223 gv224 => ?_) (fun g223 gv224 => ?_)))))
 rotate_left
 ·have h259 := neg_b g223 h222
  refine W.q6 rfl gv224 (W.q6 rfl gv224 (W.q5 (.bool false) gv224 rfl (W.q2 (.bool false) rfl (W.q6 rfl rfl (W.q6 rfl rfl (W.q6 rfl rfl ?_))))))
  refine W.q5 (.bool false) rfl rfl (W.q1 (.bool false) rfl (.nil ?_))
  have O260 : Ow G173 H180 (eSl v150 22 rS [(⟨#[50]⟩ : ByteArray), (⟨#[49]⟩ : ByteArray), (⟨#[49]⟩ : ByteArray)] :: eSl v135 22 rS [(⟨#[49, 47, 50]⟩ : ByteArray), (⟨#[49, 47, 51]⟩ : ByteArray), (⟨#[49, 47, 54]⟩ : ByteArray)] :: L) := O174.drop 0
  obtain rfl := Option.some.inj h259
  exact ⟨false, _, rfl, O260, s175, rfl⟩
 have h225 := pos_inv g223 h222
 obtain ⟨x226, i227, h228⟩ := bd_inv h225
 refine W.lo (gk rfl rfl gv224 rfl) rfl (Lo.callP (ps := []) (ps' := []) rfl (fn := Tryz.f28) (by kernel_rfl) rfl (mc rfl mn) O174 (fun L' O' => g_rat_Check_ok K (⟨#[50, 47, 52]⟩ : ByteArray) O' _ i227)) ?_
 rintro v235 H236 ⟨G229, O230, s231, sm234, rfl⟩
 replace O230 : Ow G229 H236 (eSl v168 24 (rI .i64) [x1.2, x12.2, x23.2, x34.2, x45.2, x56.2, x67.2, x78.2, x89.2, x100.2, x111.2, x122.2, x137.2, x152.2] :: eSl v150 22 rS [(⟨#[50]⟩ : ByteArray), (⟨#[49]⟩ : ByteArray), (⟨#[49]⟩ : ByteArray)] :: eSl v135 22 rS [(⟨#[49, 47, 50]⟩ : ByteArray), (⟨#[49, 47, 51]⟩ : ByteArray), (⟨#[49, 47, 54]⟩ : ByteArray)] :: L) := O230
 refine W.q3 (hg := gk rfl rfl gv224 rfl) (.bool (x226 == 3)) rfl rfl (W.q4 (.bool (x226 == 3)) gv224 rfl (W.q2 (.bool (x226 == 3)) rfl (W.splitAt (t := 163) (b := (x226 == 3)) rfl (fun g237 gv238 => ?_) (fun g237 gv238 => ?_))))
 rotate_left
 ·have h257 := neg_b g237 h228
  refine W.q6 rfl gv238 (W.q6 rfl gv238 (W.q6 rfl gv238 (W.q5 (.bool false) gv238 rfl (W.q1 (.bool false) rfl (.nil ?_)))))
  have O258 : Ow G229 H236 (eSl v150 22 rS [(⟨#[50]⟩ : ByteArray), (⟨#[49]⟩ : ByteArray), (⟨#[49]⟩ : ByteArray)] :: eSl v135 22 rS [(⟨#[49, 47, 50]⟩ : ByteArray), (⟨#[49, 47, 51]⟩ : ByteArray), (⟨#[49, 47, 54]⟩ : ByteArray)] :: L) := O230.drop 0
  obtain rfl := Option.some.inj h257
  exact ⟨false, _, rfl, O258, (GM.le.trans s175 s231), rfl⟩
 have h239 := pos_inv g237 h228
 refine W.lo (gk rfl rfl gv238 rfl) rfl (Lo.buildSlice (r := rS) (vs := [(.string (⟨#[48]⟩ : ByteArray)), (.string (⟨#[45, 48]⟩ : ByteArray))]) (xs := [(⟨#[48]⟩ : ByteArray), (⟨#[45, 48]⟩ : ByteArray)]) el31 ze22 sz22 (by kernel_rfl) rfl (qc rfl (qc rfl qn)) rfl (.cons rfl (.cons rfl .nil)) O230) ?_
 rintro v242 H243 ⟨O240, sm241⟩
 obtain ⟨x244, i245, h246⟩ := bd_inv h239
 refine W.lo (gk rfl rfl gv238 rfl) rfl (Lo.callB (j := 0) rfl rfl (fn := Tryz.f29) (by kernel_rfl) rfl (mc rfl mn) O240 (fun G' L' hG O' hB => g_rat_CheckAll_ok K v242 [(⟨#[48]⟩ : ByteArray), (⟨#[45, 48]⟩ : ByteArray)] hB O' _ i245)) ?_
 rintro v253 H254 ⟨G247, O248, s249, sm252, rfl⟩
 replace O248 : Ow G247 H254 (eSl v242 22 rS [(⟨#[48]⟩ : ByteArray), (⟨#[45, 48]⟩ : ByteArray)] :: eSl v168 24 (rI .i64) [x1.2, x12.2, x23.2, x34.2, x45.2, x56.2, x67.2, x78.2, x89.2, x100.2, x111.2, x122.2, x137.2, x152.2] :: eSl v150 22 rS [(⟨#[50]⟩ : ByteArray), (⟨#[49]⟩ : ByteArray), (⟨#[49]⟩ : ByteArray)] :: eSl v135 22 rS [(⟨#[49, 47, 50]⟩ : ByteArray), (⟨#[49, 47, 51]⟩ : ByteArray), (⟨#[49, 47, 54]⟩ : ByteArray)] :: L) := O248
 refine W.q3 (hg := gk rfl rfl gv238 rfl) (.bool (x244 == 5)) rfl rfl (W.q4 (.bool (x244 == 5)) gv238 rfl (W.q1 (.bool (x244 == 5)) rfl (.nil ?_)))
 have O255 : Ow G247 H254 (eSl v168 24 (rI .i64) [x1.2, x12.2, x23.2, x34.2, x45.2, x56.2, x67.2, x78.2, x89.2, x100.2, x111.2, x122.2, x137.2, x152.2] :: eSl v150 22 rS [(⟨#[50]⟩ : ByteArray), (⟨#[49]⟩ : ByteArray), (⟨#[49]⟩ : ByteArray)] :: eSl v135 22 rS [(⟨#[49, 47, 50]⟩ : ByteArray), (⟨#[49, 47, 51]⟩ : ByteArray), (⟨#[49, 47, 54]⟩ : ByteArray)] :: L) := O248.drop 0
 have O256 : Ow G247 H254 (eSl v150 22 rS [(⟨#[50]⟩ : ByteArray), (⟨#[49]⟩ : ByteArray), (⟨#[49]⟩ : ByteArray)] :: eSl v135 22 rS [(⟨#[49, 47, 50]⟩ : ByteArray), (⟨#[49, 47, 51]⟩ : ByteArray), (⟨#[49, 47, 54]⟩ : ByteArray)] :: L) := O255.drop 0
 obtain rfl := Option.some.inj h246
 exact ⟨(x244 == 5), _, rfl, O256, (GM.le.trans s175 (GM.le.trans s231 s249)), rfl⟩
def g_R_NatError_l0 (K : Nat) (p0 : ByteArray) : Nat → Int → Option (Int ⊕ Unit)
  | 0, _ => none
  | k + 1, x8 => (if (decide (x8 < (p0.size : Int))) = true then (Option.bind (((bidx p0 x8).bind fun x22 => (if (decide (x22 < 48)) = true then some true else ((bidx p0 x8).bind fun x29 => some (decide (x29 > 57)))))) (tu1 fun x32 => (if x32 = true then some (.inl 5) else g_R_NatError_l0 K p0 k (kwrap .i64 (x8 + 1))))) else some (.inr ()))
def g_R_NatError (K : Nat) (p0 : ByteArray) : Option Int := (if ((p0.size : Int) == 0) = true then some 5 else (bindS (g_R_NatError_l0 K p0 K 0) (tu1 fun a81 => some a81) (tu0 (Option.bind ((if (decide ((p0.size : Int) > 1)) = true then ((bidx p0 0).bind fun x61 => some (x61 == 48)) else some false)) (tu1 fun x65 => (if x65 = true then some 5 else (if (decide ((p0.size : Int) > 2000)) = true then some 2 else some 0)))))))
set_option maxHeartbeats 4000000 in
theorem g_R_NatError_ok (K : Nat) {G : GM} {H : AH} {L : List Pc} (p0 : ByteArray) (O : Ow G H (L)) (r : Int) (h : g_R_NatError K p0 = some r) :
    CR Tryz.prog 33 [(.string p0)] G H (L) (fun v G' _ => v = .int .i64 r) := by
 unfold g_R_NatError at h
 refine CR.of (calls_of_AW (n := 34) (fn := Tryz.f33) (R := fun v H' => ∃ G', Ow G' H' (L) ∧ G.le G' ∧ v = .int .i64 r) (by kernel_rfl) rfl rfl ?_)
 refine .seq (.region (W.q1 (.int .i64 0) rfl (.nil (.seq (.seq (.region ?_))))))
 refine W.q2 (.string p0) rfl (W.pure (v := (.int .i64 (p0.size : Int))) rfl rfl (len_str (oo rfl rfl) un9) (W.q3 (.bool ((p0.size : Int) == 0)) rfl rfl (.nil (.cond (b := ((p0.size : Int) == 0)) rfl rfl (fun g1 => ?_) (fun g1 => ?_)))))
 ·have h2 := pos_inv g1 h
  refine .seq (.region (W.q1 (.int .i64 5) rfl (.nil (.ret ?_))))
  obtain rfl := Option.some.inj h2
  refine ret1R (P := Tryz.prog) (fn := Tryz.f33) (n := 34) (R := fun v H' => ∃ G', Ow G' H' (L) ∧ G.le G' ∧ v = .int .i64 5) (v1 := (.int .i64 5)) (by rfl) (rr_tmp (by rfl) (by exact rfl)) ?_
  exact ⟨_, O, (GM.le.refl _), rfl⟩
 have h3 := neg_b g1 h
 refine .skip (.seq (.seq (.region (W.q1 (.int .i64 0) rfl (.nil ?_)))))
 obtain ⟨q4, h5, h6⟩ := bindS_inv h3
 refine AW.midT (fun σ' H' => ∃  (G' : GM), (.inr ()) = q4 ∧ Ow G' H' (L) ∧ GM.le G G') ?_ ?_
 rotate_left
 ·rintro σ47 H48 fr49 ⟨G50, rfl, O51, s52⟩
  have h54 := tu0_inv (outS_r h6)
  refine .seq (.seq ?_)
  obtain ⟨q55, h56, h57⟩ := bd_inv h54
  refine AW.midT (fun σ' H' => ∃ (y1 : Bool) (G' : GM), y1 = q55 ∧ Ow G' H' (L) ∧ GM.le G50 G' ∧ σ' 30 = .bool y1) ?_ ?_
  ·refine .region (W.q2 (.string p0) ((fr49 0 rfl).trans rfl) (W.pure (v := (.int .i64 (p0.size : Int))) rfl rfl (len_str (oo rfl rfl) un9) (W.q3 (.bool (decide ((p0.size : Int) > 1))) rfl rfl (W.q2 (.bool (decide ((p0.size : Int) > 1))) rfl (W.splitAt (t := 26) (b := decide ((p0.size : Int) > 1)) rfl (fun g58 gv59 => ?_) (fun g58 gv59 => ?_))))))
   rotate_left
   ·have h64 := neg_b g58 h56
    refine W.q6 rfl gv59 (W.q6 rfl gv59 (W.q6 rfl gv59 (W.q5 (.bool false) gv59 rfl (.nil ?_))))
    obtain rfl := Option.some.inj h64
    exact ⟨false, _, rfl, O51, (GM.le.refl _), rfl⟩
   have h60 := pos_inv g58 h56
   refine W.q2 (hg := gk rfl rfl gv59 rfl) (.string p0) ((fr49 0 rfl).trans rfl) ?_
   obtain ⟨x61, i62, h63⟩ := bd_inv h60
   refine W.pure (v := (.int .u8 x61)) (gk rfl rfl gv59 rfl) rfl (v_sidx un9 (oo rfl rfl) (oo rfl rfl) i62) (W.q3 (hg := gk rfl rfl gv59 rfl) (.bool (x61 == 48)) rfl rfl (W.q4 (.bool (x61 == 48)) gv59 rfl (.nil ?_)))
   obtain rfl := Option.some.inj h63
   exact ⟨(x61 == 48), _, rfl, O51, (GM.le.refl _), rfl⟩
  rintro σ66 H67 fr68 ⟨x65, G69, rfl, O70, s71, t73⟩
  have h74 := tu1_inv h57
  refine .cond (b := x65) rfl t73 (fun g75 => ?_) (fun g75 => ?_)
  ·have h76 := pos_inv g75 h74
   refine .seq (.region (W.q1 (.int .i64 5) rfl (.nil (.ret ?_))))
   obtain rfl := Option.some.inj h76
   refine ret1R (P := Tryz.prog) (fn := Tryz.f33) (n := 34) (R := fun v H' => ∃ G', Ow G' H' (L) ∧ G.le G' ∧ v = .int .i64 5) (v1 := (.int .i64 5)) (by rfl) (rr_tmp (by rfl) (by exact rfl)) ?_
   exact ⟨_, O70, (GM.le.trans s52 s71), rfl⟩
  have h77 := neg_b g75 h74
  refine .skip (.seq (.seq (.region (W.q2 (.string p0) ((fr68 0 rfl).trans ((fr49 0 rfl).trans rfl)) (W.pure (v := (.int .i64 (p0.size : Int))) rfl rfl (len_str (oo rfl rfl) un9) (W.q3 (.bool (decide ((p0.size : Int) > 2000))) rfl rfl ?_))))))
  refine .nil (.cond (b := decide ((p0.size : Int) > 2000)) rfl rfl (fun g78 => ?_) (fun g78 => ?_))
  ·have h79 := pos_inv g78 h77
   refine .seq (.region (W.q1 (.int .i64 2) rfl (.nil (.ret ?_))))
   obtain rfl := Option.some.inj h79
   refine ret1R (P := Tryz.prog) (fn := Tryz.f33) (n := 34) (R := fun v H' => ∃ G', Ow G' H' (L) ∧ G.le G' ∧ v = .int .i64 2) (v1 := (.int .i64 2)) (by rfl) (rr_tmp (by rfl) (by exact rfl)) ?_
   exact ⟨_, O70, (GM.le.trans s52 s71), rfl⟩
  have h80 := neg_b g78 h77
  refine .skip (.seq (.region (W.q1 (.int .i64 0) rfl (.nil (.ret ?_)))))
  obtain rfl := Option.some.inj h80
  refine ret1R (P := Tryz.prog) (fn := Tryz.f33) (n := 34) (R := fun v H' => ∃ G', Ow G' H' (L) ∧ G.le G' ∧ v = .int .i64 0) (v1 := (.int .i64 0)) (by rfl) (rr_tmp (by rfl) (by exact rfl)) ?_
  exact ⟨_, O70, (GM.le.trans s52 s71), rfl⟩
 refine .block (AW.loop (α := Nat) (fun k' σ' H' => ∃ (y1 : Int) (G' : GM), g_R_NatError_l0 K p0 k' y1 = some q4 ∧ Ow G' H' (L) ∧ GM.le G G' ∧ σ' 3 = .int .i64 y1) (fun k' => k') K ⟨0, _, h5, O, (GM.le.refl _), rfl⟩ ?_)
 rintro k7
 rintro σ9 H10 fr11 ⟨x8, G12, h15, O13, s14, t16⟩
 rcases k7 with _ | k7
 ·exact none_absurd h15
 rw [g_R_NatError_l0] at h15
 refine .seq (.seq (.region (W.q2 (.int .i64 x8) t16 (W.q2 (.string p0) ((fr11 0 rfl).trans rfl) (W.pure (v := (.int .i64 (p0.size : Int))) rfl rfl (len_str (oo rfl rfl) un9) (W.q3 (.bool (decide (x8 < (p0.size : Int)))) rfl rfl ?_))))))
 refine .nil (.cond (b := decide (x8 < (p0.size : Int))) rfl rfl (fun g17 => ?_) (fun g17 => ?_))
 rotate_left
 ·have h46 := neg_b g17 h15
  refine .exit ?_
  obtain rfl := Option.some.inj h46
  exact ⟨_, rfl, O13, s14⟩
 have h18 := pos_inv g17 h15
 refine .skip (.seq (.block (.seq ?_)))
 obtain ⟨q19, h20, h21⟩ := bd_inv h18
 refine AW.midT (fun σ' H' => ∃ (y1 : Bool) (G' : GM), y1 = q19 ∧ Ow G' H' (L) ∧ GM.le G12 G' ∧ σ' 22 = .bool y1) ?_ ?_
 rotate_left
 ·rintro σ33 H34 fr35 ⟨x32, G36, rfl, O37, s38, t40⟩
  have h41 := tu1_inv h21
  refine .cond (b := x32) rfl t40 (fun g42 => ?_) (fun g42 => ?_)
  rotate_left
  ·have h45 := neg_b g42 h41
   refine .skip (.region (W.q2 (.int .i64 x8) ((fr35 3 rfl).trans t16) (W.q3 (.int .i64 (kwrap .i64 (x8 + 1))) rfl rfl (W.q1 (.int .i64 (kwrap .i64 (x8 + 1))) rfl (.nil ?_)))))
   exact ⟨k7, Nat.lt_succ_self _, ⟨kwrap .i64 (x8 + 1), _, h45, O37, (GM.le.trans s14 s38), rfl⟩⟩
  have h43 := pos_inv g42 h41
  refine .seq (.region (W.q1 (.int .i64 5) rfl (.nil (.ret ?_))))
  obtain rfl := Option.some.inj h43
  have h44 := tu1_inv (outS_l h6)
  obtain rfl := Option.some.inj h44
  refine ret1R (P := Tryz.prog) (fn := Tryz.f33) (n := 34) (R := fun v H' => ∃ G', Ow G' H' (L) ∧ G.le G' ∧ v = .int .i64 5) (v1 := (.int .i64 5)) (by rfl) (rr_tmp (by rfl) (by exact rfl)) ?_
  exact ⟨_, O37, (GM.le.trans s14 s38), rfl⟩
 refine .region (W.q2 (.string p0) ((fr11 0 rfl).trans rfl) (W.q2 (.int .i64 x8) t16 ?_))
 obtain ⟨x22, i23, h24⟩ := bd_inv h20
 refine W.pure (v := (.int .u8 x22)) rfl rfl (v_sidx un9 (oo rfl rfl) (oo rfl rfl) i23) (W.q3 (.bool (decide (x22 < 48))) rfl rfl (W.q2 (.bool (decide (x22 < 48))) rfl (W.splitAt (t := 17) (b := decide (x22 < 48)) rfl (fun g25 gv26 => ?_) (fun g25 gv26 => ?_))))
 ·have h27 := pos_inv g25 h24
  refine W.q6 rfl gv26 (W.q6 rfl gv26 (W.q6 rfl gv26 (W.q6 rfl gv26 (W.q4 (.bool true) gv26 rfl (.nil ?_)))))
  obtain rfl := Option.some.inj h27
  exact ⟨true, _, rfl, O13, (GM.le.refl _), rfl⟩
 have h28 := neg_b g25 h24
 refine W.q2 (hg := gk rfl rfl gv26 rfl) (.string p0) ((fr11 0 rfl).trans rfl) (W.q2 (hg := gk rfl rfl gv26 rfl) (.int .i64 x8) t16 ?_)
 obtain ⟨x29, i30, h31⟩ := bd_inv h28
 refine W.pure (v := (.int .u8 x29)) (gk rfl rfl gv26 rfl) rfl (v_sidx un9 (oo rfl rfl) (oo rfl rfl) i30) (W.q3 (hg := gk rfl rfl gv26 rfl) (.bool (decide (x29 > 57))) rfl rfl (W.q5 (.bool (decide (x29 > 57))) gv26 rfl (.nil ?_)))
 obtain rfl := Option.some.inj h31
 exact ⟨decide (x29 > 57), _, rfl, O13, (GM.le.refl _), rfl⟩
def g_R_strip_l0 (K : Nat) : Nat → ByteArray → Option (ByteArray)
  | 0, _ => none
  | k + 1, x5 => (Option.bind ((if (decide ((x5.size : Int) > 1)) = true then ((bidx x5 0).bind fun x20 => some (x20 == 48)) else some false)) (tu1 fun x24 => (if x24 = true then ((ssl x5 1 (x5.size : Int)).bind fun x36 => g_R_strip_l0 K k x36) else some x5)))
def g_R_strip (K : Nat) (p0 : ByteArray) : Option ByteArray := (Option.bind (g_R_strip_l0 K K p0) (tu1 fun x40 => some x40))
set_option maxHeartbeats 4000000 in
theorem g_R_strip_ok (K : Nat) {G : GM} {H : AH} {L : List Pc} (p0 : ByteArray) (O : Ow G H (L)) (r : ByteArray) (h : g_R_strip K p0 = some r) :
    CR Tryz.prog 70 [(.string p0)] G H (L) (fun v G' _ => v = .string r) := by
 unfold g_R_strip at h
 refine CR.of (calls_of_AW (n := 14) (fn := Tryz.f70) (R := fun v H' => ∃ G', Ow G' H' (L) ∧ G.le G' ∧ v = .string r) (by kernel_rfl) rfl rfl ?_)
 refine .seq (.region (W.q1 (.string (⟨#[]⟩ : ByteArray)) rfl (.nil (.seq ?_))))
 obtain ⟨q1, h2, h3⟩ := bd_inv h
 refine AW.midT (fun σ' H' => ∃ (y1 : ByteArray) (G' : GM), y1 = q1 ∧ Ow G' H' (L) ∧ GM.le G G' ∧ σ' 0 = .string y1) ?_ ?_
 rotate_left
 ·rintro σ41 H42 fr43 ⟨x40, G44, rfl, O45, s46, t48⟩
  have h49 := tu1_inv h3
  refine .seq (.region (W.q2 (.string x40) t48 (W.q1 (.string x40) rfl (.nil (.ret ?_)))))
  obtain rfl := Option.some.inj h49
  refine ret1R (P := Tryz.prog) (fn := Tryz.f70) (n := 14) (R := fun v H' => ∃ G', Ow G' H' (L) ∧ G.le G' ∧ v = .string x40) (v1 := (.string x40)) (by rfl) (rr_tmp (by rfl) (by exact rfl)) ?_
  exact ⟨_, O45, s46, rfl⟩
 refine .block (AW.loop (α := Nat) (fun k' σ' H' => ∃ (y1 : ByteArray) (G' : GM), g_R_strip_l0 K k' y1 = some q1 ∧ Ow G' H' (L) ∧ GM.le G G' ∧ σ' 0 = .string y1) (fun k' => k') K ⟨p0, _, h2, O, (GM.le.refl _), rfl⟩ ?_)
 rintro k4
 rintro σ6 H7 fr8 ⟨x5, G9, h12, O10, s11, t13⟩
 rcases k4 with _ | k4
 ·exact none_absurd h12
 rw [g_R_strip_l0] at h12
 refine .seq (.seq ?_)
 obtain ⟨q14, h15, h16⟩ := bd_inv h12
 refine AW.midT (fun σ' H' => ∃ (y1 : Bool) (G' : GM), y1 = q14 ∧ Ow G' H' (L) ∧ GM.le G9 G' ∧ σ' 10 = .bool y1) ?_ ?_
 rotate_left
 ·rintro σ25 H26 fr27 ⟨x24, G28, rfl, O29, s30, t32⟩
  have h33 := tu1_inv h16
  refine .cond (b := x24) rfl t32 (fun g34 => ?_) (fun g34 => ?_)
  rotate_left
  ·have h39 := neg_b g34 h33
   refine .exit ?_
   obtain rfl := Option.some.inj h39
   exact ⟨x5, _, rfl, O29, (GM.le.trans s11 s30), ((fr27 0 rfl).trans t13)⟩
  have h35 := pos_inv g34 h33
  refine .skip (.block (.region (W.q2 (.string x5) ((fr27 0 rfl).trans t13) ?_)))
  obtain ⟨x36, i37, h38⟩ := bd_inv h35
  refine W.pure (v := (.string x36)) rfl rfl (v_sslL un9 (oo rfl rfl) (oo rfl rfl) i37) (W.q1 (.string x36) rfl (.nil ?_))
  exact ⟨k4, Nat.lt_succ_self _, ⟨x36, _, h38, O29, (GM.le.trans s11 s30), rfl⟩⟩
 refine .region (W.q2 (.string x5) t13 (W.pure (v := (.int .i64 (x5.size : Int))) rfl rfl (len_str (oo rfl rfl) un9) (W.q3 (.bool (decide ((x5.size : Int) > 1))) rfl rfl (W.q2 (.bool (decide ((x5.size : Int) > 1))) rfl (W.splitAt (t := 6) (b := decide ((x5.size : Int) > 1)) rfl (fun g17 gv18 => ?_) (fun g17 gv18 => ?_))))))
 rotate_left
 ·have h23 := neg_b g17 h15
  refine W.q6 rfl gv18 (W.q6 rfl gv18 (W.q6 rfl gv18 (W.q5 (.bool false) gv18 rfl (.nil ?_))))
  obtain rfl := Option.some.inj h23
  exact ⟨false, _, rfl, O10, (GM.le.refl _), rfl⟩
 have h19 := pos_inv g17 h15
 refine W.q2 (hg := gk rfl rfl gv18 rfl) (.string x5) t13 ?_
 obtain ⟨x20, i21, h22⟩ := bd_inv h19
 refine W.pure (v := (.int .u8 x20)) (gk rfl rfl gv18 rfl) rfl (v_sidx un9 (oo rfl rfl) (oo rfl rfl) i21) (W.q3 (hg := gk rfl rfl gv18 rfl) (.bool (x20 == 48)) rfl rfl (W.q4 (.bool (x20 == 48)) gv18 rfl (.nil ?_)))
 obtain rfl := Option.some.inj h22
 exact ⟨(x20 == 48), _, rfl, O10, (GM.le.refl _), rfl⟩
def g_R_NatCmp (K : Nat) (p0 : ByteArray) (p1 : ByteArray) : Option Int := (if (decide ((p0.size : Int) < (p1.size : Int))) = true then some (-1) else (if (decide ((p0.size : Int) > (p1.size : Int))) = true then some 1 else (if (sLt p0 p1) = true then some (-1) else (if (!(sLt p0 p1 || sEq p0 p1)) = true then some 1 else some 0))))
set_option maxHeartbeats 4000000 in
theorem g_R_NatCmp_ok (K : Nat) {G : GM} {H : AH} {L : List Pc} (p0 : ByteArray) (p1 : ByteArray) (O : Ow G H (L)) (r : Int) (h : g_R_NatCmp K p0 p1 = some r) :
    CR Tryz.prog 71 [(.string p0), (.string p1)] G H (L) (fun v G' _ => v = .int .i64 r) := by
 unfold g_R_NatCmp at h
 refine CR.of (calls_of_AW (n := 25) (fn := Tryz.f71) (R := fun v H' => ∃ G', Ow G' H' (L) ∧ G.le G' ∧ v = .int .i64 r) (by kernel_rfl) rfl rfl ?_)
 refine .seq (.region (W.q1 (.int .i64 0) rfl (.nil (.seq (.block (.seq ?_))))))
 refine .region (W.q2 (.string p0) rfl (W.pure (v := (.int .i64 (p0.size : Int))) rfl rfl (len_str (oo rfl rfl) un9) (W.q2 (.string p1) rfl (W.pure (v := (.int .i64 (p1.size : Int))) rfl rfl (len_str (oo rfl rfl) un9) (W.q3 (.bool (decide ((p0.size : Int) < (p1.size : Int)))) rfl rfl (W.q1 (.bool (decide ((p0.size : Int) < (p1.size : Int)))) rfl ?_))))))
 refine .nil (.cond (b := decide ((p0.size : Int) < (p1.size : Int))) rfl rfl (fun g1 => ?_) (fun g1 => ?_))
 ·have h2 := pos_inv g1 h
  refine .seq (.region (W.q1 (.int .i64 (-1)) rfl (.nil (.ret ?_))))
  obtain rfl := Option.some.inj h2
  refine ret1R (P := Tryz.prog) (fn := Tryz.f71) (n := 25) (R := fun v H' => ∃ G', Ow G' H' (L) ∧ G.le G' ∧ v = .int .i64 (-1)) (v1 := (.int .i64 (-1))) (by rfl) (rr_tmp (by rfl) (by exact rfl)) ?_
  exact ⟨_, O, (GM.le.refl _), rfl⟩
 have h3 := neg_b g1 h
 refine .seq (.region (W.q2 (.string p0) rfl (W.pure (v := (.int .i64 (p0.size : Int))) rfl rfl (len_str (oo rfl rfl) un9) (W.q2 (.string p1) rfl (W.pure (v := (.int .i64 (p1.size : Int))) rfl rfl (len_str (oo rfl rfl) un9) (W.q3 (.bool (decide ((p0.size : Int) > (p1.size : Int)))) rfl rfl ?_))))))
 refine W.q1 (.bool (decide ((p0.size : Int) > (p1.size : Int)))) rfl (.nil (.cond (b := decide ((p0.size : Int) > (p1.size : Int))) rfl rfl (fun g4 => ?_) (fun g4 => ?_)))
 ·have h5 := pos_inv g4 h3
  refine .seq (.region (W.q1 (.int .i64 1) rfl (.nil (.ret ?_))))
  obtain rfl := Option.some.inj h5
  refine ret1R (P := Tryz.prog) (fn := Tryz.f71) (n := 25) (R := fun v H' => ∃ G', Ow G' H' (L) ∧ G.le G' ∧ v = .int .i64 1) (v1 := (.int .i64 1)) (by rfl) (rr_tmp (by rfl) (by exact rfl)) ?_
  exact ⟨_, O, (GM.le.refl _), rfl⟩
 have h6 := neg_b g4 h3
 refine .seq (.region (W.q2 (.string p0) rfl (W.q2 (.string p1) rfl (W.pure (v := (.bool (sLt p0 p1))) rfl rfl (vs_lss (oo rfl rfl) (oo rfl rfl)) (W.q1 (.bool (sLt p0 p1)) rfl (.nil ?_))))))
 refine .cond (b := sLt p0 p1) rfl rfl (fun g7 => ?_) (fun g7 => ?_)
 ·have h8 := pos_inv g7 h6
  refine .seq (.region (W.q1 (.int .i64 (-1)) rfl (.nil (.ret ?_))))
  obtain rfl := Option.some.inj h8
  refine ret1R (P := Tryz.prog) (fn := Tryz.f71) (n := 25) (R := fun v H' => ∃ G', Ow G' H' (L) ∧ G.le G' ∧ v = .int .i64 (-1)) (v1 := (.int .i64 (-1))) (by rfl) (rr_tmp (by rfl) (by exact rfl)) ?_
  exact ⟨_, O, (GM.le.refl _), rfl⟩
 have h9 := neg_b g7 h6
 refine .seq (.region (W.q2 (.string p0) rfl (W.q2 (.string p1) rfl (W.pure (v := (.bool (!(sLt p0 p1 || sEq p0 p1)))) rfl rfl (vs_gtr (oo rfl rfl) (oo rfl rfl)) (W.q1 (.bool (!(sLt p0 p1 || sEq p0 p1))) rfl (.nil ?_))))))
 refine .cond (b := (!(sLt p0 p1 || sEq p0 p1))) rfl rfl (fun g10 => ?_) (fun g10 => ?_)
 ·have h11 := pos_inv g10 h9
  refine .seq (.region (W.q1 (.int .i64 1) rfl (.nil (.ret ?_))))
  obtain rfl := Option.some.inj h11
  refine ret1R (P := Tryz.prog) (fn := Tryz.f71) (n := 25) (R := fun v H' => ∃ G', Ow G' H' (L) ∧ G.le G' ∧ v = .int .i64 1) (v1 := (.int .i64 1)) (by rfl) (rr_tmp (by rfl) (by exact rfl)) ?_
  exact ⟨_, O, (GM.le.refl _), rfl⟩
 have h12 := neg_b g10 h9
 refine .skip (.seq (.region (W.q1 (.int .i64 0) rfl (.nil (.ret ?_)))))
 obtain rfl := Option.some.inj h12
 refine ret1R (P := Tryz.prog) (fn := Tryz.f71) (n := 25) (R := fun v H' => ∃ G', Ow G' H' (L) ∧ G.le G' ∧ v = .int .i64 0) (v1 := (.int .i64 0)) (by rfl) (rr_tmp (by rfl) (by exact rfl)) ?_
 exact ⟨_, O, (GM.le.refl _), rfl⟩
def g_R_digit (K : Nat) (p0 : ByteArray) (p1 : Int) : Option Int := (if (decide (p1 < (p0.size : Int))) = true then ((bidx p0 (kwrap .i64 ((kwrap .i64 ((p0.size : Int) - 1)) - p1))).bind fun x3 => some (IntKind.wrap .i64 (kwrap .u8 (x3 - 48)))) else some 0)
set_option maxHeartbeats 4000000 in
theorem g_R_digit_ok (K : Nat) {G : GM} {H : AH} {L : List Pc} (p0 : ByteArray) (p1 : Int) (O : Ow G H (L)) (r : Int) (h : g_R_digit K p0 p1 = some r) :
    CR Tryz.prog 73 [(.string p0), (.int .i64 p1)] G H (L) (fun v G' _ => v = .int .i64 r) := by
 unfold g_R_digit at h
 refine CR.of (calls_of_AW (n := 18) (fn := Tryz.f73) (R := fun v H' => ∃ G', Ow G' H' (L) ∧ G.le G' ∧ v = .int .i64 r) (by kernel_rfl) rfl rfl ?_)
 refine .seq (.region (W.q1 (.int .i64 0) rfl (.nil (.seq (.seq (.region ?_))))))
 refine W.q2 (.int .i64 p1) rfl (W.q2 (.string p0) rfl (W.pure (v := (.int .i64 (p0.size : Int))) rfl rfl (len_str (oo rfl rfl) un9) (W.q3 (.bool (decide (p1 < (p0.size : Int)))) rfl rfl (.nil (.cond (b := decide (p1 < (p0.size : Int))) rfl rfl (fun g1 => ?_) (fun g1 => ?_))))))
 rotate_left
 ·have h6 := neg_b g1 h
  refine .skip (.seq (.region (W.q1 (.int .i64 0) rfl (.nil (.ret ?_)))))
  obtain rfl := Option.some.inj h6
  refine ret1R (P := Tryz.prog) (fn := Tryz.f73) (n := 18) (R := fun v H' => ∃ G', Ow G' H' (L) ∧ G.le G' ∧ v = .int .i64 0) (v1 := (.int .i64 0)) (by rfl) (rr_tmp (by rfl) (by exact rfl)) ?_
  exact ⟨_, O, (GM.le.refl _), rfl⟩
 have h2 := pos_inv g1 h
 refine .seq (.region (W.q2 (.string p0) rfl (W.q2 (.string p0) rfl (W.pure (v := (.int .i64 (p0.size : Int))) rfl rfl (len_str (oo rfl rfl) un9) (W.q3 (.int .i64 (kwrap .i64 ((p0.size : Int) - 1))) rfl rfl (W.q2 (.int .i64 p1) rfl ?_))))))
 refine W.q3 (.int .i64 (kwrap .i64 ((kwrap .i64 ((p0.size : Int) - 1)) - p1))) rfl rfl ?_
 obtain ⟨x3, i4, h5⟩ := bd_inv h2
 refine W.pure (v := (.int .u8 x3)) rfl rfl (v_sidx un9 (oo rfl rfl) (oo rfl rfl) i4) (W.q3 (.int .u8 (kwrap .u8 (x3 - 48))) rfl rfl (W.pure (v := (.int .i64 (IntKind.wrap .i64 (kwrap .u8 (x3 - 48))))) rfl rfl (v_conv in5 in3 (oo rfl rfl)) (W.q1 (.int .i64 (IntKind.wrap .i64 (kwrap .u8 (x3 - 48)))) rfl (.nil (.ret ?_)))))
 obtain rfl := Option.some.inj h5
 refine ret1R (P := Tryz.prog) (fn := Tryz.f73) (n := 18) (R := fun v H' => ∃ G', Ow G' H' (L) ∧ G.le G' ∧ v = .int .i64 (IntKind.wrap .i64 (kwrap .u8 (x3 - 48)))) (v1 := (.int .i64 (IntKind.wrap .i64 (kwrap .u8 (x3 - 48))))) (by rfl) (rr_tmp (by rfl) (by exact rfl)) ?_
 exact ⟨_, O, (GM.le.refl _), rfl⟩
def g_R_text_l0 (K : Nat) (p0 : List Int) : Nat → List Int → Int → Option (List Int)
  | 0, _, _ => none
  | k + 1, x11, x12 => (if (decide (x12 < (List.length p0 : Int))) = true then ((idx p0 x12).bind fun x23 => ((idx x11 (kwrap .i64 ((kwrap .i64 ((List.length p0 : Int) - 1)) - x12))).bind fun x27 => g_R_text_l0 K p0 k (List.set x11 (Int.toNat (kwrap .i64 ((kwrap .i64 ((List.length p0 : Int) - 1)) - x12))) (IntKind.wrap .u8 (kwrap .i64 ((48 : Int) + x23)))) (kwrap .i64 (x12 + 1)))) else some x11)
def g_R_text (K : Nat) (p0 : List Int) : Option ByteArray := (if 0 ≤ (List.length p0 : Int) ∧ (List.length p0 : Int) ≤ (List.length p0 : Int) ∧ (List.length p0 : Int) ≤ 16777216 then (Option.bind (g_R_text_l0 K p0 K (List.replicate (Int.toNat (List.length p0 : Int)) 0) 0) (tu1 fun x36 => (if 0 < List.length x36 then (if ((⟨#[48]⟩ : ByteArray)).size + ((strOfNums x36)).size ≤ 4611686018427387904 then ((g_R_strip K ((⟨#[48]⟩ : ByteArray) ++ (strOfNums x36))).bind fun x52 => some x52) else none) else none))) else none)
set_option maxHeartbeats 4000000 in
theorem g_R_text_ok (K : Nat) {G : GM} {H : AH} {L : List Pc} (v0 : Value) (p0 : List Int) (hp0 : (rSl (rI .i64)).rep G [v0] p0) (O : Ow G H (L)) (r : ByteArray) (h : g_R_text K p0 = some r) :
    CR Tryz.prog 74 [v0] G H (L) (fun v G' _ => v = .string r) := by
 unfold g_R_text at h
 refine CR.of (calls_of_AW (n := 31) (fn := Tryz.f74) (R := fun v H' => ∃ G', Ow G' H' (L) ∧ G.le G' ∧ v = .string r) (by kernel_rfl) rfl rfl ?_)
 refine .seq (.region (W.q1 (.string (⟨#[]⟩ : ByteArray)) rfl (.nil (.seq (.region (W.q2 v0 rfl ?_))))))
 refine W.pure (v := (.int .i64 (List.length p0 : Int))) rfl rfl (len_sl (oo rfl rfl) (sl_len hp0) (elemT_inv el90)) ?_
 obtain ⟨g2, h3⟩ := gd_inv h
 refine W.lo rfl rfl (Lo.makeSlice (r := (rI .u8)) (x0 := 0) (a := (List.length p0 : Int)) (c := (List.length p0 : Int)) rfl el99 ze5 sz5 (by kernel_rfl) rfl by5 (by decide) rfl rfl g2 (zI .u8) O) ?_
 rintro v5 H6 ⟨O1, sm4⟩
 refine W.q1 v5 rfl (.nil (.seq (.seq (.region (W.q2 v0 rfl (W.pure (v := (.int .i64 (List.length p0 : Int))) rfl rfl (len_sl (oo rfl rfl) (sl_len hp0) (elemT_inv el90)) ?_))))))
 refine W.q2 (.int .i64 0) rfl (.nil ?_)
 obtain ⟨q7, h8, h9⟩ := bd_inv h3
 refine AW.midT (fun σ' H' => ∃ (y1 : List Int) (G' : GM), y1 = q7 ∧ Ow G' H' (eSl v5 5 (rI .u8) y1 :: L) ∧ GM.le G G') ?_ ?_
 rotate_left
 ·rintro σ37 H38 fr39 ⟨x36, G40, rfl, O41, s42⟩
  have h44 := tu1_inv h9
  refine .seq (.region (W.q2 v5 ((fr39 3 rfl).trans rfl) ?_))
  obtain ⟨es45, e46, e47⟩ := src_own (j := 0) rfl O41
  obtain ⟨g48, h49⟩ := gd_inv h44
  refine W.bytesStr rfl rfl el99 in5 un9 e46 e47 g48 ?_
  obtain ⟨g50, h51⟩ := gd_inv h49
  refine W.pure (v := (.string ((⟨#[48]⟩ : ByteArray) ++ (strOfNums x36)))) rfl rfl (vs_add g50 (oo rfl rfl) (oo rfl rfl)) ?_
  obtain ⟨x52, i53, h54⟩ := bd_inv h51
  refine W.lo rfl rfl (Lo.callP (ps := []) (ps' := []) rfl (fn := Tryz.f70) (by kernel_rfl) rfl (mc rfl mn) O41 (fun L' O' => g_R_strip_ok K ((⟨#[48]⟩ : ByteArray) ++ (strOfNums x36)) O' _ i53)) ?_
  rintro v61 H62 ⟨G55, O56, s57, sm60, rfl⟩
  replace O56 : Ow G55 H62 (eSl v5 5 (rI .u8) x36 :: L) := O56
  refine W.q1 (.string x52) rfl (.nil (.ret ?_))
  have O63 : Ow G55 H62 (L) := O56.drop 0
  obtain rfl := Option.some.inj h54
  refine ret1R (P := Tryz.prog) (fn := Tryz.f74) (n := 31) (R := fun v H' => ∃ G', Ow G' H' (L) ∧ G.le G' ∧ v = .string x52) (v1 := (.string x52)) (by rfl) (rr_tmp (by rfl) (by exact rfl)) ?_
  exact ⟨_, O63, (GM.le.trans s42 s57), rfl⟩
 refine .block (AW.loop (α := Nat) (fun k' σ' H' => ∃ (y1 : List Int) (y2 : Int) (G' : GM), g_R_text_l0 K p0 k' y1 y2 = some q7 ∧ Ow G' H' (eSl v5 5 (rI .u8) y1 :: L) ∧ GM.le G G' ∧ σ' 11 = .int .i64 y2) (fun k' => k') K ⟨(List.replicate (Int.toNat (List.length p0 : Int)) 0), 0, _, h8, O1, (GM.le.refl _), rfl⟩ ?_)
 rintro k10
 rintro σ13 H14 fr15 ⟨x11, x12, G16, h19, O17, s18, t20⟩
 rcases k10 with _ | k10
 ·exact none_absurd h19
 rw [g_R_text_l0] at h19
 refine .seq (.region (W.q3 (.bool (decide (x12 < (List.length p0 : Int)))) t20 ((fr15 10 rfl).trans rfl) (.nil (.seq (.cond (b := decide (x12 < (List.length p0 : Int))) rfl rfl (fun g21 => ?_) (fun g21 => ?_))))))
 rotate_left
 ·have h35 := neg_b g21 h19
  refine .exit ?_
  obtain rfl := Option.some.inj h35
  exact ⟨x11, _, rfl, O17, s18⟩
 have h22 := pos_inv g21 h19
 refine .skip (.seq (.block (.seq (.region (W.q2 (.int .i64 x12) t20 ?_)))))
 obtain ⟨x23, i24, h25⟩ := bd_inv h22
 have j26 := idx_inv i24
 refine W.pure (v := (selem v0 (Int.toNat x12 * 1))) rfl rfl (v_idx el90 sz3 (oo rfl ((fr15 9 rfl).trans rfl)) (oo rfl t20) (sl_len (RT.mono _ s18 hp0)) j26.1 j26.2.1) (W.load1 (v := (.int .i64 x23)) (r := []) rfl rfl ag3 (pt_px rfl (At.int (At.le (At.le (sl_idx hp0 j26.2.2) s18 s18) (GM.le.refl _) O17.fro))) (W.q1 (.int .i64 x12) rfl (W.q1 (.int .i64 x23) rfl (.nil (.region (W.q2 v5 ((fr15 3 rfl).trans rfl) ?_))))))
 refine W.q2 v0 ((fr15 0 rfl).trans rfl) (W.pure (v := (.int .i64 (List.length p0 : Int))) rfl rfl (len_sl (oo rfl rfl) (sl_len (RT.mono _ s18 hp0)) (elemT_inv el90)) (W.q3 (.int .i64 (kwrap .i64 ((List.length p0 : Int) - 1))) rfl rfl (W.q2 (.int .i64 x12) rfl (W.q3 (.int .i64 (kwrap .i64 ((kwrap .i64 ((List.length p0 : Int) - 1)) - x12))) rfl rfl (W.q2 (.int .i64 x23) rfl (W.q3 (.int .i64 (kwrap .i64 ((48 : Int) + x23))) rfl rfl ?_))))))
 refine W.pure (v := (.int .u8 (IntKind.wrap .u8 (kwrap .i64 ((48 : Int) + x23))))) rfl rfl (v_conv in3 in5 (oo rfl rfl)) ?_
 obtain ⟨x27, i28, h29⟩ := bd_inv h25
 have j30 := idx_inv i28
 refine W.pure (v := (selem v5 (Int.toNat (kwrap .i64 ((kwrap .i64 ((List.length p0 : Int) - 1)) - x12)) * 1))) rfl rfl (v_idx el99 sz5 (oo rfl rfl) (oo rfl rfl) (O17.slLen (j := 0) rfl) j30.1 j30.2.1) (W.lo rfl rfl (Lo.storeSl0 (j := 0) (y0 := IntKind.wrap .u8 (kwrap .i64 ((48 : Int) + x23))) (v := (.int .u8 (IntKind.wrap .u8 (kwrap .i64 ((48 : Int) + x23))))) rfl j30.2.2  rfl sz5 rfl rfl rfl O17) ?_)
 rintro v33 H34 ⟨O31, sm32⟩
 replace O31 : Ow G16 H34 (eSl v5 5 (rI .u8) (List.set x11 (Int.toNat (kwrap .i64 ((kwrap .i64 ((List.length p0 : Int) - 1)) - x12))) (IntKind.wrap .u8 (kwrap .i64 ((48 : Int) + x23)))) :: L) := O31
 refine .nil (.region (W.q3 (.int .i64 (kwrap .i64 (x12 + 1))) t20 rfl (W.q2 (.int .i64 (kwrap .i64 (x12 + 1))) rfl (.nil ?_))))
 exact ⟨k10, Nat.lt_succ_self _, ⟨(List.set x11 (Int.toNat (kwrap .i64 ((kwrap .i64 ((List.length p0 : Int) - 1)) - x12))) (IntKind.wrap .u8 (kwrap .i64 ((48 : Int) + x23)))), kwrap .i64 (x12 + 1), _, h29, O31, s18, rfl⟩⟩
def g_R_NatSub_l0 (K : Nat) (p0 : ByteArray) (p1 : ByteArray) : Nat → List Int → Int → Int → Option (List Int)
  | 0, _, _, _ => none
  | k + 1, x6, x7, x8 => (if (decide (x8 < (p0.size : Int))) = true then ((g_R_digit K p0 x8).bind fun x20 => ((g_R_digit K p1 x8).bind fun x31 => (Option.bind ((if (decide ((kwrap .i64 ((kwrap .i64 (x20 - x31)) - x7)) < 0)) = true then (lt (kwrap .i64 ((kwrap .i64 ((kwrap .i64 (x20 - x31)) - x7)) + 10)) fun x47 => some (1, x47)) else some (0, kwrap .i64 ((kwrap .i64 (x20 - x31)) - x7)))) (tu2 fun x51 x52 => (if List.length x6 + List.length [x52] ≤ 16777216 then g_R_NatSub_l0 K p0 p1 k (x6 ++ [x52]) x51 (kwrap .i64 (x8 + 1)) else none))))) else some x6)
def g_R_NatSub (K : Nat) (p0 : ByteArray) (p1 : ByteArray) : Option ByteArray := (Option.bind (g_R_NatSub_l0 K p0 p1 K [] 0 0) (tu1 fun x78 => ((g_R_text K x78).bind fun x87 => some x87)))
set_option maxHeartbeats 4000000 in
theorem g_R_NatSub_ok (K : Nat) {G : GM} {H : AH} {L : List Pc} (p0 : ByteArray) (p1 : ByteArray) (O : Ow G H (L)) (r : ByteArray) (h : g_R_NatSub K p0 p1 = some r) :
    CR Tryz.prog 72 [(.string p0), (.string p1)] G H (L) (fun v G' _ => v = .string r) := by
 unfold g_R_NatSub at h
 refine CR.of (calls_of_AW (n := 34) (fn := Tryz.f72) (R := fun v H' => ∃ G', Ow G' H' (L) ∧ G.le G' ∧ v = .string r) (by kernel_rfl) rfl rfl ?_)
 refine .seq (.region (W.q1 (.string (⟨#[]⟩ : ByteArray)) rfl (.nil (.seq (.region (W.q1 (.slice none 0 0) rfl ?_))))))
 refine .nil (.seq (.region (W.q1 (.int .i64 0) rfl (.nil (.seq (.seq ?_))))))
 refine .region (W.q2 (.string p0) rfl (W.pure (v := (.int .i64 (p0.size : Int))) rfl rfl (len_str (oo rfl rfl) un9) (W.q2 (.int .i64 0) rfl (.nil ?_))))
 obtain ⟨q1, h2, h3⟩ := bd_inv h
 refine AW.midT (fun σ' H' => ∃ (y1 : List Int) (G' : GM), y1 = q1 ∧ Ow G' H' (eSl (σ' 5) 3 (rI .i64) y1 :: L) ∧ GM.le G G') ?_ ?_
 rotate_left
 ·rintro σ79 H80 fr81 ⟨x78, G82, rfl, O83, s84⟩
  have h86 := tu1_inv h3
  refine .seq (.region (W.q2 (σ79 5) rfl ?_))
  obtain ⟨x87, i88, h89⟩ := bd_inv h86
  refine W.lo rfl rfl (Lo.callB (j := 0) rfl rfl (fn := Tryz.f74) (by kernel_rfl) rfl (mc rfl mn) O83 (fun G' L' hG O' hB => g_R_text_ok K (σ79 5) x78 hB O' _ i88)) ?_
  rintro v96 H97 ⟨G90, O91, s92, sm95, rfl⟩
  replace O91 : Ow G90 H97 (eSl (σ79 5) 3 (rI .i64) x78 :: L) := O91
  refine W.q1 (.string x87) rfl (.nil (.ret ?_))
  have O98 : Ow G90 H97 (L) := O91.drop 0
  obtain rfl := Option.some.inj h89
  refine ret1R (P := Tryz.prog) (fn := Tryz.f72) (n := 34) (R := fun v H' => ∃ G', Ow G' H' (L) ∧ G.le G' ∧ v = .string x87) (v1 := (.string x87)) (by rfl) (rr_tmp (by rfl) (by exact rfl)) ?_
  exact ⟨_, O98, (GM.le.trans s84 s92), rfl⟩
 refine .block ?_
 have O4 := O.nilSl 3 (rI .i64)
 refine AW.loop (α := Nat) (fun k' σ' H' => ∃ (y1 : List Int) (y2 : Int) (y3 : Int) (G' : GM), g_R_NatSub_l0 K p0 p1 k' y1 y2 y3 = some q1 ∧ Ow G' H' (eSl (σ' 5) 3 (rI .i64) y1 :: L) ∧ GM.le G G' ∧ σ' 6 = .int .i64 y2 ∧ σ' 11 = .int .i64 y3) (fun k' => k') K ⟨[], 0, 0, _, h2, O4, (GM.le.refl _), rfl, rfl⟩ ?_
 rintro k5
 rintro σ9 H10 fr11 ⟨x6, x7, x8, G12, h15, O13, s14, t16, t17⟩
 rcases k5 with _ | k5
 ·exact none_absurd h15
 rw [g_R_NatSub_l0] at h15
 refine .seq (.region (W.q3 (.bool (decide (x8 < (p0.size : Int)))) t17 ((fr11 10 rfl).trans rfl) (.nil (.seq (.cond (b := decide (x8 < (p0.size : Int))) rfl rfl (fun g18 => ?_) (fun g18 => ?_))))))
 rotate_left
 ·have h77 := neg_b g18 h15
  refine .exit ?_
  obtain rfl := Option.some.inj h77
  exact ⟨x6, _, rfl, O13, s14⟩
 have h19 := pos_inv g18 h15
 refine .skip (.seq (.block (.seq (.region (W.q2 (.int .i64 x8) t17 (W.q1 (.int .i64 x8) rfl ?_))))))
 refine .nil (.seq (.region (W.q2 (.string p0) ((fr11 0 rfl).trans rfl) (W.q2 (.int .i64 x8) rfl ?_))))
 obtain ⟨x20, i21, h22⟩ := bd_inv h19
 refine W.lo rfl rfl (Lo.callP (ps := []) (ps' := []) rfl (fn := Tryz.f73) (by kernel_rfl) rfl (mc rfl (mc rfl mn)) O13 (fun L' O' => g_R_digit_ok K p0 x8 O' _ i21)) ?_
 rintro v29 H30 ⟨G23, O24, s25, sm28, rfl⟩
 replace O24 : Ow G23 H30 (eSl (σ9 5) 3 (rI .i64) x6 :: L) := O24
 refine W.q2 (.string p1) ((fr11 1 rfl).trans rfl) (W.q2 (.int .i64 x8) rfl ?_)
 obtain ⟨x31, i32, h33⟩ := bd_inv h22
 refine W.lo rfl rfl (Lo.callP (ps := []) (ps' := []) rfl (fn := Tryz.f73) (by kernel_rfl) rfl (mc rfl (mc rfl mn)) O24 (fun L' O' => g_R_digit_ok K p1 x8 O' _ i32)) ?_
 rintro v40 H41 ⟨G34, O35, s36, sm39, rfl⟩
 replace O35 : Ow G34 H41 (eSl (σ9 5) 3 (rI .i64) x6 :: L) := O35
 refine W.q3 (.int .i64 (kwrap .i64 (x20 - x31))) rfl rfl (W.q2 (.int .i64 x7) t16 (W.q3 (.int .i64 (kwrap .i64 ((kwrap .i64 (x20 - x31)) - x7))) rfl rfl (W.q1 (.int .i64 (kwrap .i64 ((kwrap .i64 (x20 - x31)) - x7))) rfl (.nil (.seq (.region ?_))))))
 refine W.q1 (.int .i64 0) rfl (.nil (.seq (.seq (.region (W.q2 (.int .i64 (kwrap .i64 ((kwrap .i64 (x20 - x31)) - x7))) rfl (W.q3 (.bool (decide ((kwrap .i64 ((kwrap .i64 (x20 - x31)) - x7)) < 0))) rfl rfl ?_))))))
 refine .nil ?_
 obtain ⟨q42, h43, h44⟩ := bd_inv h33
 refine AW.midT (fun σ' H' => ∃ (y1 : Int) (y2 : Int) (G' : GM), (y1, y2) = q42 ∧ Ow G' H' (eSl (σ9 5) 3 (rI .i64) x6 :: L) ∧ GM.le G34 G' ∧ σ' 6 = .int .i64 y1 ∧ σ' 8 = .int .i64 y2) ?_ ?_
 ·refine .cond (b := decide ((kwrap .i64 ((kwrap .i64 (x20 - x31)) - x7)) < 0)) rfl rfl (fun g45 => ?_) (fun g45 => ?_)
  rotate_left
  ·have h50 := neg_b g45 h43
   refine .skip ?_
   obtain rfl := Option.some.inj h50
   exact ⟨0, kwrap .i64 ((kwrap .i64 (x20 - x31)) - x7), _, rfl, O35, (GM.le.refl _), rfl, rfl⟩
  have h46 := pos_inv g45 h43
  refine .region (W.q2 (.int .i64 (kwrap .i64 ((kwrap .i64 (x20 - x31)) - x7))) rfl (W.q3 (.int .i64 (kwrap .i64 ((kwrap .i64 ((kwrap .i64 (x20 - x31)) - x7)) + 10))) rfl rfl ?_))
  obtain ⟨x47, e48, h49⟩ := lt_inv h46
  refine W.q1 (.int .i64 x47) (congrArg (Value.int .i64) e48) (W.q1 (.int .i64 1) rfl (.nil ?_))
  obtain rfl := Option.some.inj h49
  exact ⟨1, x47, _, rfl, O35, (GM.le.refl _), rfl, rfl⟩
 rintro σ53 H54 fr55 ⟨x51, x52, G56, rfl, O57, s58, t60, t61⟩
 have h62 := tu2_inv h44
 refine .region (W.q2 (σ9 5) ((fr55 5 rfl).trans rfl) (W.q2 (.int .i64 x52) t61 (W.lo rfl rfl (Lo.buildSlice (r := (rI .i64)) (vs := [(.int .i64 x52)]) (xs := [x52]) el90 ze3 sz3 (by kernel_rfl) rfl (qc rfl qn) rfl (.cons rfl .nil) O57) ?_)))
 rintro v65 H66 ⟨O63, sm64⟩
 obtain ⟨es68, e69, e70⟩ := src_own (j := 0) rfl O63
 obtain ⟨g71, h72⟩ := gd_inv h62
 refine W.lo rfl rfl (Lo.append (j := 1) (v := (σ9 5)) rfl rfl el90 ni90 ze3 sz3 by3 (by decide) (by decide) rfl e69 e70 g71 O63) ?_
 rintro v74 H75 ⟨O67, sm73⟩
 replace O67 : Ow G56 H75 (eSl v65 3 (rI .i64) [x52] :: eSl v74 3 (rI .i64) (x6 ++ [x52]) :: L) := O67
 refine W.q1 v74 rfl (.nil (.region (W.q3 (.int .i64 (kwrap .i64 (x8 + 1))) ((fr55 11 rfl).trans t17) rfl (W.q2 (.int .i64 (kwrap .i64 (x8 + 1))) rfl (.nil ?_)))))
 have O76 : Ow G56 H75 (eSl v74 3 (rI .i64) (x6 ++ [x52]) :: L) := O67.drop 0
 exact ⟨k5, Nat.lt_succ_self _, ⟨(x6 ++ [x52]), x51, kwrap .i64 (x8 + 1), _, h72, O76, (GM.le.trans s14 (GM.le.trans s25 (GM.le.trans s36 s58))), t60, rfl⟩⟩
def g_R_NatDiv_l2 (K : Nat) (p1 : ByteArray) : Nat → ByteArray → Int → Option (ByteArray × Int)
  | 0, _, _ => none
  | k + 1, x56, x57 => ((g_R_NatCmp K x56 p1).bind fun x67 => (if (decide (x67 ≥ 0)) = true then ((g_R_NatSub K x56 p1).bind fun x80 => g_R_NatDiv_l2 K p1 k x80 (kwrap .u8 (x57 + 1))) else some (x56, x57)))
def g_R_NatDiv_l0 (K : Nat) (p0 : ByteArray) (p1 : ByteArray) : Nat → ByteArray → ByteArray → Int → Option (ByteArray × ByteArray)
  | 0, _, _, _ => none
  | k + 1, x21, x22, x23 => (if (decide (x23 < (p0.size : Int))) = true then ((ssl p0 x23 (kwrap .i64 (x23 + 1))).bind fun x36 => (if (x22).size + (x36).size ≤ 4611686018427387904 then ((g_R_strip K (x22 ++ x36)).bind fun x41 => (Option.bind (g_R_NatDiv_l2 K p1 K x41 48) (tu2 fun x92 x93 => (if (x21).size + ((Utf8.encode x93)).size ≤ 4611686018427387904 then g_R_NatDiv_l0 K p0 p1 k (x21 ++ (Utf8.encode x93)) x92 (kwrap .i64 (x23 + 1)) else none)))) else none)) else some (x21, x22))
def g_R_NatDiv (K : Nat) (p0 : ByteArray) (p1 : ByteArray) : Option (ByteArray × ByteArray) := ((ssl p0 0 (imin (p0.size : Int) (kwrap .i64 ((p1.size : Int) - 1)))).bind fun x1 => (if ((⟨#[48]⟩ : ByteArray)).size + (x1).size ≤ 4611686018427387904 then ((g_R_strip K ((⟨#[48]⟩ : ByteArray) ++ x1)).bind fun x6 => (Option.bind (g_R_NatDiv_l0 K p0 p1 K (⟨#[48]⟩ : ByteArray) x6 (imin (p0.size : Int) (kwrap .i64 ((p1.size : Int) - 1)))) (tu2 fun x107 x108 => ((g_R_strip K x107).bind fun x119 => some (x119, x108))))) else none))
set_option maxHeartbeats 4000000 in
theorem g_R_NatDiv_ok (K : Nat) {G : GM} {H : AH} {L : List Pc} (p0 : ByteArray) (p1 : ByteArray) (O : Ow G H (L)) (r : ByteArray × ByteArray) (h : g_R_NatDiv K p0 p1 = some r) :
    CR Tryz.prog 43 [(.string p0), (.string p1)] G H (L) (fun v G' _ => v = .tuple #[.string r.1, .string r.2]) := by
 unfold g_R_NatDiv at h
 refine CR.of (calls_of_AW (n := 53) (fn := Tryz.f43) (R := fun v H' => ∃ G', Ow G' H' (L) ∧ G.le G' ∧ v = .tuple #[.string r.1, .string r.2]) (by kernel_rfl) rfl rfl ?_)
 refine .seq (.region (W.q1 (.string (⟨#[]⟩ : ByteArray)) rfl (W.q1 (.string (⟨#[]⟩ : ByteArray)) rfl (.nil (.seq (.region ?_))))))
 refine W.q2 (.string p0) rfl (W.pure (v := (.int .i64 (p0.size : Int))) rfl rfl (len_str (oo rfl rfl) un9) (W.q2 (.string p1) rfl (W.pure (v := (.int .i64 (p1.size : Int))) rfl rfl (len_str (oo rfl rfl) un9) (W.q3 (.int .i64 (kwrap .i64 ((p1.size : Int) - 1))) rfl rfl (W.pure (v := (.int .i64 (imin (p0.size : Int) (kwrap .i64 ((p1.size : Int) - 1))))) rfl rfl (v_min2 (oo rfl rfl) (oo rfl rfl)) (W.q1 (.int .i64 (imin (p0.size : Int) (kwrap .i64 ((p1.size : Int) - 1)))) rfl ?_))))))
 refine .nil (.seq (.region (W.q2 (.string p0) rfl (W.q2 (.int .i64 (imin (p0.size : Int) (kwrap .i64 ((p1.size : Int) - 1)))) rfl ?_))))
 obtain ⟨x1, i2, h3⟩ := bd_inv h
 refine W.pure (v := (.string x1)) rfl rfl (v_sslH un9 (oo rfl rfl) (oo rfl rfl) i2) ?_
 obtain ⟨g4, h5⟩ := gd_inv h3
 refine W.pure (v := (.string ((⟨#[48]⟩ : ByteArray) ++ x1))) rfl rfl (vs_add g4 (oo rfl rfl) (oo rfl rfl)) ?_
 obtain ⟨x6, i7, h8⟩ := bd_inv h5
 refine W.lo rfl rfl (Lo.callP (ps := []) (ps' := []) rfl (fn := Tryz.f70) (by kernel_rfl) rfl (mc rfl mn) O (fun L' O' => g_R_strip_ok K ((⟨#[48]⟩ : ByteArray) ++ x1) O' _ i7)) ?_
 rintro v15 H16 ⟨G9, O10, s11, sm14, rfl⟩
 replace O10 : Ow G9 H16 (L) := O10
 refine W.q1 (.string (⟨#[48]⟩ : ByteArray)) rfl (W.q1 (.string x6) rfl (.nil (.seq (.seq (.region (W.q2 (.int .i64 (imin (p0.size : Int) (kwrap .i64 ((p1.size : Int) - 1)))) rfl ?_))))))
 refine W.q1 (.int .i64 (imin (p0.size : Int) (kwrap .i64 ((p1.size : Int) - 1)))) rfl (.nil ?_)
 obtain ⟨q17, h18, h19⟩ := bd_inv h8
 refine AW.midT (fun σ' H' => ∃ (y1 : ByteArray) (y2 : ByteArray) (G' : GM), (y1, y2) = q17 ∧ Ow G' H' (L) ∧ GM.le G9 G' ∧ σ' 7 = .string y1 ∧ σ' 8 = .string y2) ?_ ?_
 rotate_left
 ·rintro σ109 H110 fr111 ⟨x107, x108, G112, rfl, O113, s114, t116, t117⟩
  have h118 := tu2_inv h19
  refine .seq (.region (W.q2 (.string x107) t116 ?_))
  obtain ⟨x119, i120, h121⟩ := bd_inv h118
  refine W.lo rfl rfl (Lo.callP (ps := []) (ps' := []) rfl (fn := Tryz.f70) (by kernel_rfl) rfl (mc rfl mn) O113 (fun L' O' => g_R_strip_ok K x107 O' _ i120)) ?_
  rintro v128 H129 ⟨G122, O123, s124, sm127, rfl⟩
  replace O123 : Ow G122 H129 (L) := O123
  refine W.q2 (.string x108) t117 (W.q1 (.string x119) rfl (W.q1 (.string x108) rfl (.nil (.ret ?_))))
  obtain rfl := Option.some.inj h121
  refine ret2R (P := Tryz.prog) (fn := Tryz.f43) (n := 53) (R := fun v H' => ∃ G', Ow G' H' (L) ∧ G.le G' ∧ v = .tuple #[.string (x119, x108).1, .string (x119, x108).2]) (v1 := (.string x119)) (v2 := (.string x108)) (by rfl) (rr_tmp (by rfl) (by exact rfl)) (rr_tmp (by rfl) (by exact rfl)) ?_
  exact ⟨_, O123, (GM.le.trans s11 (GM.le.trans s114 s124)), rfl⟩
 refine .block (AW.loop (α := Nat) (fun k' σ' H' => ∃ (y1 : ByteArray) (y2 : ByteArray) (y3 : Int) (G' : GM), g_R_NatDiv_l0 K p0 p1 k' y1 y2 y3 = some q17 ∧ Ow G' H' (L) ∧ GM.le G9 G' ∧ σ' 7 = .string y1 ∧ σ' 8 = .string y2 ∧ σ' 9 = .int .i64 y3) (fun k' => k') K ⟨(⟨#[48]⟩ : ByteArray), x6, imin (p0.size : Int) (kwrap .i64 ((p1.size : Int) - 1)), _, h18, O10, (GM.le.refl _), rfl, rfl, rfl⟩ ?_)
 rintro k20
 rintro σ24 H25 fr26 ⟨x21, x22, x23, G27, h30, O28, s29, t31, t32, t33⟩
 rcases k20 with _ | k20
 ·exact none_absurd h30
 rw [g_R_NatDiv_l0] at h30
 refine .seq (.seq (.region (W.q2 (.int .i64 x23) t33 (W.q2 (.string p0) ((fr26 0 rfl).trans rfl) (W.pure (v := (.int .i64 (p0.size : Int))) rfl rfl (len_str (oo rfl rfl) un9) (W.q3 (.bool (decide (x23 < (p0.size : Int)))) rfl rfl ?_))))))
 refine .nil (.cond (b := decide (x23 < (p0.size : Int))) rfl rfl (fun g34 => ?_) (fun g34 => ?_))
 rotate_left
 ·have h106 := neg_b g34 h30
  refine .exit ?_
  obtain rfl := Option.some.inj h106
  exact ⟨x21, x22, _, rfl, O28, s29, t31, t32⟩
 have h35 := pos_inv g34 h30
 refine .skip (.seq (.block (.seq (.region (W.q2 (.string x22) t32 (W.q2 (.string p0) ((fr26 0 rfl).trans rfl) ?_))))))
 refine W.q2 (.int .i64 x23) t33 (W.q2 (.int .i64 x23) t33 (W.q3 (.int .i64 (kwrap .i64 (x23 + 1))) rfl rfl ?_))
 obtain ⟨x36, i37, h38⟩ := bd_inv h35
 refine W.pure (v := (.string x36)) rfl rfl (v_sslLH un9 (oo rfl rfl) (oo rfl rfl) (oo rfl rfl) i37) ?_
 obtain ⟨g39, h40⟩ := gd_inv h38
 refine W.pure (v := (.string (x22 ++ x36))) rfl rfl (vs_add g39 (oo rfl rfl) (oo rfl rfl)) ?_
 obtain ⟨x41, i42, h43⟩ := bd_inv h40
 refine W.lo rfl rfl (Lo.callP (ps := []) (ps' := []) rfl (fn := Tryz.f70) (by kernel_rfl) rfl (mc rfl mn) O28 (fun L' O' => g_R_strip_ok K (x22 ++ x36) O' _ i42)) ?_
 rintro v50 H51 ⟨G44, O45, s46, sm49, rfl⟩
 replace O45 : Ow G44 H51 (L) := O45
 refine W.q1 (.string x41) rfl (.nil (.seq (.region (W.q1 (.int .u8 48) rfl (.nil (.seq ?_))))))
 obtain ⟨q52, h53, h54⟩ := bd_inv h43
 refine AW.midT (fun σ' H' => ∃ (y1 : ByteArray) (y2 : Int) (G' : GM), (y1, y2) = q52 ∧ Ow G' H' (L) ∧ GM.le G44 G' ∧ σ' 8 = .string y1 ∧ σ' 10 = .int .u8 y2) ?_ ?_
 rotate_left
 ·rintro σ94 H95 fr96 ⟨x92, x93, G97, rfl, O98, s99, t101, t102⟩
  have h103 := tu2_inv h54
  refine .region (W.q2 (.string x21) ((fr96 7 rfl).trans t31) (W.q2 (.int .u8 x93) t102 (W.pure (v := (.string (Utf8.encode x93))) rfl rfl (v_convIS in5 un9 (oo rfl rfl)) ?_)))
  obtain ⟨g104, h105⟩ := gd_inv h103
  refine W.pure (v := (.string (x21 ++ (Utf8.encode x93)))) rfl rfl (vs_add g104 (oo rfl rfl) (oo rfl rfl)) (W.q1 (.string (x21 ++ (Utf8.encode x93))) rfl (.nil (.region (W.q2 (.int .i64 x23) ((fr96 9 rfl).trans t33) (W.q3 (.int .i64 (kwrap .i64 (x23 + 1))) rfl rfl (W.q1 (.int .i64 (kwrap .i64 (x23 + 1))) rfl ?_))))))
  refine .nil ?_
  exact ⟨k20, Nat.lt_succ_self _, ⟨(x21 ++ (Utf8.encode x93)), x92, kwrap .i64 (x23 + 1), _, h105, O98, (GM.le.trans s29 (GM.le.trans s46 s99)), rfl, t101, rfl⟩⟩
 refine .block (AW.loop (α := Nat) (fun k' σ' H' => ∃ (y1 : ByteArray) (y2 : Int) (G' : GM), g_R_NatDiv_l2 K p1 k' y1 y2 = some q52 ∧ Ow G' H' (L) ∧ GM.le G44 G' ∧ σ' 8 = .string y1 ∧ σ' 10 = .int .u8 y2) (fun k' => k') K ⟨x41, 48, _, h53, O45, (GM.le.refl _), rfl, rfl⟩ ?_)
 rintro k55
 rintro σ58 H59 fr60 ⟨x56, x57, G61, h64, O62, s63, t65, t66⟩
 rcases k55 with _ | k55
 ·exact none_absurd h64
 rw [g_R_NatDiv_l2] at h64
 refine .seq (.seq (.region (W.q2 (.string x56) t65 (W.q2 (.string p1) ((fr60 1 rfl).trans ((fr26 1 rfl).trans rfl)) ?_))))
 obtain ⟨x67, i68, h69⟩ := bd_inv h64
 refine W.lo rfl rfl (Lo.callP (ps := []) (ps' := []) rfl (fn := Tryz.f71) (by kernel_rfl) rfl (mc rfl (mc rfl mn)) O62 (fun L' O' => g_R_NatCmp_ok K x56 p1 O' _ i68)) ?_
 rintro v76 H77 ⟨G70, O71, s72, sm75, rfl⟩
 replace O71 : Ow G70 H77 (L) := O71
 refine W.q3 (.bool (decide (x67 ≥ 0))) rfl rfl (.nil (.cond (b := decide (x67 ≥ 0)) rfl rfl (fun g78 => ?_) (fun g78 => ?_)))
 rotate_left
 ·have h91 := neg_b g78 h69
  refine .exit ?_
  obtain rfl := Option.some.inj h91
  exact ⟨x56, x57, _, rfl, O71, (GM.le.trans s63 s72), t65, t66⟩
 have h79 := pos_inv g78 h69
 refine .skip (.block (.seq (.region (W.q2 (.string x56) t65 (W.q2 (.string p1) ((fr60 1 rfl).trans ((fr26 1 rfl).trans rfl)) ?_)))))
 obtain ⟨x80, i81, h82⟩ := bd_inv h79
 refine W.lo rfl rfl (Lo.callP (ps := []) (ps' := []) rfl (fn := Tryz.f72) (by kernel_rfl) rfl (mc rfl (mc rfl mn)) O71 (fun L' O' => g_R_NatSub_ok K x56 p1 O' _ i81)) ?_
 rintro v89 H90 ⟨G83, O84, s85, sm88, rfl⟩
 replace O84 : Ow G83 H90 (L) := O84
 refine W.q1 (.string x80) rfl (.nil (.region (W.q2 (.int .u8 x57) t66 (W.q3 (.int .u8 (kwrap .u8 (x57 + 1))) rfl rfl (W.q1 (.int .u8 (kwrap .u8 (x57 + 1))) rfl (.nil ?_))))))
 exact ⟨k55, Nat.lt_succ_self _, ⟨x80, kwrap .u8 (x57 + 1), _, h82, O84, (GM.le.trans s63 (GM.le.trans s72 s85)), rfl, rfl⟩⟩
def g_R_NatGcd_l0 (K : Nat) : Nat → ByteArray → ByteArray → Option (ByteArray)
  | 0, _, _ => none
  | k + 1, x5, x6 => (if (!(sEq x6 (⟨#[48]⟩ : ByteArray))) = true then ((g_R_NatDiv K x5 x6).bind fun x18 => g_R_NatGcd_l0 K k x6 x18.2) else some x5)
def g_R_NatGcd (K : Nat) (p0 : ByteArray) (p1 : ByteArray) : Option ByteArray := (Option.bind (g_R_NatGcd_l0 K K p0 p1) (tu1 fun x30 => some x30))
set_option maxHeartbeats 4000000 in
theorem g_R_NatGcd_ok (K : Nat) {G : GM} {H : AH} {L : List Pc} (p0 : ByteArray) (p1 : ByteArray) (O : Ow G H (L)) (r : ByteArray) (h : g_R_NatGcd K p0 p1 = some r) :
    CR Tryz.prog 34 [(.string p0), (.string p1)] G H (L) (fun v G' _ => v = .string r) := by
 unfold g_R_NatGcd at h
 refine CR.of (calls_of_AW (n := 18) (fn := Tryz.f34) (R := fun v H' => ∃ G', Ow G' H' (L) ∧ G.le G' ∧ v = .string r) (by kernel_rfl) rfl rfl ?_)
 refine .seq (.region (W.q1 (.string (⟨#[]⟩ : ByteArray)) rfl (.nil (.seq ?_))))
 obtain ⟨q1, h2, h3⟩ := bd_inv h
 refine AW.midT (fun σ' H' => ∃ (y1 : ByteArray) (G' : GM), y1 = q1 ∧ Ow G' H' (L) ∧ GM.le G G' ∧ σ' 0 = .string y1) ?_ ?_
 rotate_left
 ·rintro σ31 H32 fr33 ⟨x30, G34, rfl, O35, s36, t38⟩
  have h39 := tu1_inv h3
  refine .seq (.region (W.q2 (.string x30) t38 (W.q1 (.string x30) rfl (.nil (.ret ?_)))))
  obtain rfl := Option.some.inj h39
  refine ret1R (P := Tryz.prog) (fn := Tryz.f34) (n := 18) (R := fun v H' => ∃ G', Ow G' H' (L) ∧ G.le G' ∧ v = .string x30) (v1 := (.string x30)) (by rfl) (rr_tmp (by rfl) (by exact rfl)) ?_
  exact ⟨_, O35, s36, rfl⟩
 refine .block (AW.loop (α := Nat) (fun k' σ' H' => ∃ (y1 : ByteArray) (y2 : ByteArray) (G' : GM), g_R_NatGcd_l0 K k' y1 y2 = some q1 ∧ Ow G' H' (L) ∧ GM.le G G' ∧ σ' 0 = .string y1 ∧ σ' 1 = .string y2) (fun k' => k') K ⟨p0, p1, _, h2, O, (GM.le.refl _), rfl, rfl⟩ ?_)
 rintro k4
 rintro σ7 H8 fr9 ⟨x5, x6, G10, h13, O11, s12, t14, t15⟩
 rcases k4 with _ | k4
 ·exact none_absurd h13
 rw [g_R_NatGcd_l0] at h13
 refine .seq (.seq (.region (W.q2 (.string x6) t15 (W.pure (v := (.bool (!(sEq x6 (⟨#[48]⟩ : ByteArray))))) rfl rfl (vs_neq (oo rfl rfl) (oo rfl rfl)) (.nil (.cond (b := (!(sEq x6 (⟨#[48]⟩ : ByteArray)))) rfl rfl (fun g16 => ?_) (fun g16 => ?_)))))))
 rotate_left
 ·have h29 := neg_b g16 h13
  refine .exit ?_
  obtain rfl := Option.some.inj h29
  exact ⟨x5, _, rfl, O11, s12, t14⟩
 have h17 := pos_inv g16 h13
 refine .skip (.block (.seq (.region (W.q2 (.string x5) t14 (W.q2 (.string x6) t15 ?_)))))
 obtain ⟨x18, i19, h20⟩ := bd_inv h17
 refine W.lo rfl rfl (Lo.callP (ps := []) (ps' := []) rfl (fn := Tryz.f43) (by kernel_rfl) rfl (mc rfl (mc rfl mn)) O11 (fun L' O' => g_R_NatDiv_ok K x5 x6 O' _ i19)) ?_
 rintro v27 H28 ⟨G21, O22, s23, sm26, rfl⟩
 replace O22 : Ow G21 H28 (L) := O22
 refine W.q2 (.tuple #[(.string x18.1), (.string x18.2)]) rfl (W.pure (v := (.string x18.1)) rfl rfl (v_extract (oo rfl rfl) rfl) (W.pure (v := (.string x18.2)) rfl rfl (v_extract (oo rfl rfl) rfl) (W.q1 (.string x18.1) rfl (W.q1 (.string x18.2) rfl (.nil (.region ?_))))))
 refine W.q2 (.string x6) t15 (W.q2 (.string x18.2) rfl (W.q1 (.string x6) rfl (W.q1 (.string x18.2) rfl (.nil ?_))))
 exact ⟨k4, Nat.lt_succ_self _, ⟨x6, x18.2, _, h20, O22, (GM.le.trans s12 s23), rfl, rfl⟩⟩
def g_R_RatError_l0 (K : Nat) (x30 : ByteArray) : Nat → Int → ByteArray → ByteArray → Int → Option (Int × ByteArray × ByteArray)
  | 0, _, _, _, _ => none
  | k + 1, x46, x47, x48, x49 => (if (decide (x49 < (x30.size : Int))) = true then (Option.bind ((Option.bind (((bidx x30 x49).bind fun x69 => (if (x69 == 47) = true then some (x46 == 1) else some false))) (tu1 fun x76 => (if x76 = true then ((ssl x30 0 x49).bind fun x93 => ((ssl x30 (kwrap .i64 (x49 + 1)) (x30.size : Int)).bind fun x96 => some (2, x93, x96))) else some (x46, x47, x48))))) (tu3 fun x100 x101 x102 => g_R_RatError_l0 K x30 k x100 x101 x102 (kwrap .i64 (x49 + 1)))) else some (x46, x47, x48))
def g_R_RatError (K : Nat) (p0 : ByteArray) : Option Int := (Option.bind ((if (decide ((p0.size : Int) > 0)) = true then ((bidx p0 0).bind fun x7 => some (x7 == 45)) else some false)) (tu1 fun x11 => (Option.bind ((if x11 = true then ((ssl p0 1 (p0.size : Int)).bind fun x26 => some (x26, true)) else some (p0, false))) (tu2 fun x30 x31 => (Option.bind (g_R_RatError_l0 K x30 K 1 x30 (⟨#[50]⟩ : ByteArray) 0) (tu3 fun x115 x116 x117 => ((g_R_NatError K x116).bind fun x129 => ((g_R_NatError K x117).bind fun x140 => (Option.bind ((if (x129 == 5) = true then some true else (if (x140 == 5) = true then some true else (if x31 = true then some (sEq x116 (⟨#[48]⟩ : ByteArray)) else some false)))) (tu1 fun x166 => (if x166 = true then some 5 else (Option.bind ((if (x129 != 0) = true then some true else some (x140 != 0))) (tu1 fun x186 => (if x186 = true then some 2 else (Option.bind ((if (x115 == 2) = true then (if (sEq x117 (⟨#[48]⟩ : ByteArray)) = true then some true else (if (sEq x117 (⟨#[49]⟩ : ByteArray)) = true then some true else ((g_R_NatGcd K x116 x117).bind fun x213 => some (!(sEq x213 (⟨#[49]⟩ : ByteArray)))))) else some false)) (tu1 fun x225 => (if x225 = true then some 3 else some 0)))))))))))))))))
set_option maxHeartbeats 4000000 in
theorem g_R_RatError_ok (K : Nat) {G : GM} {H : AH} {L : List Pc} (p0 : ByteArray) (O : Ow G H (L)) (r : Int) (h : g_R_RatError K p0 = some r) :
    CR Tryz.prog 8 [(.string p0)] G H (L) (fun v G' _ => v = .int .i64 r) := by
 unfold g_R_RatError at h
 refine CR.of (calls_of_AW (n := 86) (fn := Tryz.f8) (R := fun v H' => ∃ G', Ow G' H' (L) ∧ G.le G' ∧ v = .int .i64 r) (by kernel_rfl) rfl rfl ?_)
 refine .seq (.region (W.q1 (.int .i64 0) rfl (.nil (.seq (.region (W.q2 (.string p0) rfl ?_))))))
 refine W.q1 (.string p0) rfl (W.q1 (.bool false) rfl (W.q1 (.int .i64 1) rfl (.nil (.seq (.seq ?_)))))
 obtain ⟨q1, h2, h3⟩ := bd_inv h
 refine AW.midT (fun σ' H' => ∃ (y1 : Bool) (G' : GM), y1 = q1 ∧ Ow G' H' (L) ∧ GM.le G G' ∧ σ' 19 = .bool y1) ?_ ?_
 ·refine .region (W.q2 (.string p0) rfl (W.pure (v := (.int .i64 (p0.size : Int))) rfl rfl (len_str (oo rfl rfl) un9) (W.q3 (.bool (decide ((p0.size : Int) > 0))) rfl rfl (W.q2 (.bool (decide ((p0.size : Int) > 0))) rfl (W.splitAt (t := 15) (b := decide ((p0.size : Int) > 0)) rfl (fun g4 gv5 => ?_) (fun g4 gv5 => ?_))))))
  rotate_left
  ·have h10 := neg_b g4 h2
   refine W.q6 rfl gv5 (W.q6 rfl gv5 (W.q6 rfl gv5 (W.q5 (.bool false) gv5 rfl (.nil ?_))))
   obtain rfl := Option.some.inj h10
   exact ⟨false, _, rfl, O, (GM.le.refl _), rfl⟩
  have h6 := pos_inv g4 h2
  refine W.q2 (hg := gk rfl rfl gv5 rfl) (.string p0) rfl ?_
  obtain ⟨x7, i8, h9⟩ := bd_inv h6
  refine W.pure (v := (.int .u8 x7)) (gk rfl rfl gv5 rfl) rfl (v_sidx un9 (oo rfl rfl) (oo rfl rfl) i8) (W.q3 (hg := gk rfl rfl gv5 rfl) (.bool (x7 == 45)) rfl rfl (W.q4 (.bool (x7 == 45)) gv5 rfl (.nil ?_)))
  obtain rfl := Option.some.inj h9
  exact ⟨(x7 == 45), _, rfl, O, (GM.le.refl _), rfl⟩
 rintro σ12 H13 fr14 ⟨x11, G15, rfl, O16, s17, t19⟩
 have h20 := tu1_inv h3
 obtain ⟨q21, h22, h23⟩ := bd_inv h20
 refine AW.midT (fun σ' H' => ∃ (y1 : ByteArray) (y2 : Bool) (G' : GM), (y1, y2) = q21 ∧ Ow G' H' (L) ∧ GM.le G15 G' ∧ σ' 3 = .string y1 ∧ σ' 4 = .bool y2) ?_ ?_
 ·refine .cond (b := x11) rfl t19 (fun g24 => ?_) (fun g24 => ?_)
  rotate_left
  ·have h29 := neg_b g24 h22
   refine .skip ?_
   obtain rfl := Option.some.inj h29
   exact ⟨p0, false, _, rfl, O16, (GM.le.refl _), ((fr14 3 rfl).trans rfl), ((fr14 4 rfl).trans rfl)⟩
  have h25 := pos_inv g24 h22
  refine .region (W.q2 (.string p0) ((fr14 3 rfl).trans rfl) ?_)
  obtain ⟨x26, i27, h28⟩ := bd_inv h25
  refine W.pure (v := (.string x26)) rfl rfl (v_sslL un9 (oo rfl rfl) (oo rfl rfl) i27) (W.q1 (.string x26) rfl (W.q1 (.bool true) rfl (.nil ?_)))
  obtain rfl := Option.some.inj h28
  exact ⟨x26, true, _, rfl, O16, (GM.le.refl _), rfl, rfl⟩
 rintro σ32 H33 fr34 ⟨x30, x31, G35, rfl, O36, s37, t39, t40⟩
 have h41 := tu2_inv h23
 refine .seq (.region (W.q2 (.string x30) t39 (W.q1 (.string x30) rfl (W.q1 (.string (⟨#[50]⟩ : ByteArray)) rfl (.nil (.seq ?_))))))
 refine .seq (.region (W.q2 (.string x30) t39 (W.pure (v := (.int .i64 (x30.size : Int))) rfl rfl (len_str (oo rfl rfl) un9) (W.q2 (.int .i64 0) rfl (.nil ?_)))))
 obtain ⟨q42, h43, h44⟩ := bd_inv h41
 refine AW.midT (fun σ' H' => ∃ (y1 : Int) (y2 : ByteArray) (y3 : ByteArray) (G' : GM), (y1, y2, y3) = q42 ∧ Ow G' H' (L) ∧ GM.le G35 G' ∧ σ' 5 = .int .i64 y1 ∧ σ' 6 = .string y2 ∧ σ' 7 = .string y3) ?_ ?_
 ·refine .block (AW.loop (α := Nat) (fun k' σ' H' => ∃ (y1 : Int) (y2 : ByteArray) (y3 : ByteArray) (y4 : Int) (G' : GM), g_R_RatError_l0 K x30 k' y1 y2 y3 y4 = some q42 ∧ Ow G' H' (L) ∧ GM.le G35 G' ∧ σ' 5 = .int .i64 y1 ∧ σ' 6 = .string y2 ∧ σ' 7 = .string y3 ∧ σ' 25 = .int .i64 y4) (fun k' => k') K ⟨1, x30, (⟨#[50]⟩ : ByteArray), 0, _, h43, O36, (GM.le.refl _), ((fr34 5 rfl).trans ((fr14 5 rfl).trans rfl)), rfl, rfl, rfl⟩ ?_)
  rintro k45
  rintro σ50 H51 fr52 ⟨x46, x47, x48, x49, G53, h56, O54, s55, t57, t58, t59, t60⟩
  rcases k45 with _ | k45
  ·exact none_absurd h56
  rw [g_R_RatError_l0] at h56
  refine .seq (.region (W.q3 (.bool (decide (x49 < (x30.size : Int)))) t60 ((fr52 24 rfl).trans rfl) (.nil (.seq (.cond (b := decide (x49 < (x30.size : Int))) rfl rfl (fun g61 => ?_) (fun g61 => ?_))))))
  rotate_left
  ·have h114 := neg_b g61 h56
   refine .exit ?_
   obtain rfl := Option.some.inj h114
   exact ⟨x46, x47, x48, _, rfl, O54, s55, t57, t58, t59⟩
  have h62 := pos_inv g61 h56
  refine .skip (.seq ?_)
  obtain ⟨q63, h64, h65⟩ := bd_inv h62
  refine AW.midT (fun σ' H' => ∃ (y1 : Int) (y2 : ByteArray) (y3 : ByteArray) (G' : GM), (y1, y2, y3) = q63 ∧ Ow G' H' (L) ∧ GM.le G53 G' ∧ σ' 5 = .int .i64 y1 ∧ σ' 6 = .string y2 ∧ σ' 7 = .string y3) ?_ ?_
  rotate_left
  ·rintro σ103 H104 fr105 ⟨x100, x101, x102, G106, rfl, O107, s108, t110, t111, t112⟩
   have h113 := tu3_inv h65
   refine .region (W.q3 (.int .i64 (kwrap .i64 (x49 + 1))) ((fr105 25 rfl).trans t60) rfl (W.q2 (.int .i64 (kwrap .i64 (x49 + 1))) rfl (.nil ?_)))
   exact ⟨k45, Nat.lt_succ_self _, ⟨x100, x101, x102, kwrap .i64 (x49 + 1), _, h113, O107, (GM.le.trans s55 s108), t110, t111, t112, rfl⟩⟩
  refine .block (.seq (.region (W.q2 (.int .i64 x49) t60 (W.q1 (.int .i64 x49) rfl (.nil (.seq ?_))))))
  obtain ⟨q66, h67, h68⟩ := bd_inv h64
  refine AW.midT (fun σ' H' => ∃ (y1 : Bool) (G' : GM), y1 = q66 ∧ Ow G' H' (L) ∧ GM.le G53 G' ∧ σ' 35 = .bool y1) ?_ ?_
  ·refine .region (W.q2 (.string x30) ((fr52 3 rfl).trans t39) (W.q2 (.int .i64 x49) rfl ?_))
   obtain ⟨x69, i70, h71⟩ := bd_inv h67
   refine W.pure (v := (.int .u8 x69)) rfl rfl (v_sidx un9 (oo rfl rfl) (oo rfl rfl) i70) (W.q3 (.bool (x69 == 47)) rfl rfl (W.q2 (.bool (x69 == 47)) rfl (W.splitAt (t := 32) (b := (x69 == 47)) rfl (fun g72 gv73 => ?_) (fun g72 gv73 => ?_))))
   rotate_left
   ·have h75 := neg_b g72 h71
    refine W.q6 rfl gv73 (W.q6 rfl gv73 (W.q5 (.bool false) gv73 rfl (.nil ?_)))
    obtain rfl := Option.some.inj h75
    exact ⟨false, _, rfl, O54, (GM.le.refl _), rfl⟩
   have h74 := pos_inv g72 h71
   refine W.q2 (hg := gk rfl rfl gv73 rfl) (.int .i64 x46) t57 (W.q3 (hg := gk rfl rfl gv73 rfl) (.bool (x46 == 1)) rfl rfl (W.q4 (.bool (x46 == 1)) gv73 rfl (.nil ?_)))
   obtain rfl := Option.some.inj h74
   exact ⟨(x46 == 1), _, rfl, O54, (GM.le.refl _), rfl⟩
  rintro σ77 H78 fr79 ⟨x76, G80, rfl, O81, s82, t84⟩
  have h85 := tu1_inv h68
  refine .cond (b := x76) rfl t84 (fun g86 => ?_) (fun g86 => ?_)
  rotate_left
  ·have h99 := neg_b g86 h85
   refine .skip ?_
   obtain rfl := Option.some.inj h99
   exact ⟨x46, x47, x48, _, rfl, O81, s82, ((fr79 5 rfl).trans t57), ((fr79 6 rfl).trans t58), ((fr79 7 rfl).trans t59)⟩
  have h87 := pos_inv g86 h85
  refine .draw2 (M := [0, 0, 3, 0, 0, 16, 56, 7, 255, 511]) mixed (by kernel_rfl) (by kernel_rfl) fun H88 N92 x89 F91 => ?_
  have O90 := O81.ext x89
  refine D2.q2 (.string x30) ((fr79 3 rfl).trans ((fr52 3 rfl).trans t39)) (D2.q2 (.int .i64 x49) ((fr79 8 rfl).trans rfl) ?_)
  obtain ⟨x93, i94, h95⟩ := bd_inv h87
  refine D2.pure (v := (.string x93)) rfl rfl (v_sslH un9 (oo rfl rfl) (oo rfl rfl) i94) (D2.q2 (.string x30) ((fr79 3 rfl).trans ((fr52 3 rfl).trans t39)) (D2.q2 (.int .i64 x49) ((fr79 8 rfl).trans rfl) (D2.q3 (.int .i64 (kwrap .i64 (x49 + 1))) rfl rfl ?_)))
  obtain ⟨x96, i97, h98⟩ := bd_inv h95
  refine D2.pure (v := (.string x96)) rfl rfl (v_sslL un9 (oo rfl rfl) (oo rfl rfl) i97) (D2.q1 (.string x93) rfl (D2.q1 (.string x96) rfl (D2.q1 (.int .i64 2) rfl (.nil ?_))))
  obtain rfl := Option.some.inj h98
  exact ⟨2, x93, x96, _, rfl, O90, s82, rfl, rfl, rfl⟩
 rintro σ118 H119 fr120 ⟨x115, x116, x117, G121, rfl, O122, s123, t125, t126, t127⟩
 have h128 := tu3_inv h44
 refine .seq (.region (W.q2 (.string x116) t126 ?_))
 obtain ⟨x129, i130, h131⟩ := bd_inv h128
 refine W.lo rfl rfl (Lo.callP (ps := []) (ps' := []) rfl (fn := Tryz.f33) (by kernel_rfl) rfl (mc rfl mn) O122 (fun L' O' => g_R_NatError_ok K x116 O' _ i130)) ?_
 rintro v138 H139 ⟨G132, O133, s134, sm137, rfl⟩
 replace O133 : Ow G132 H139 (L) := O133
 refine W.q2 (.string x117) t127 ?_
 obtain ⟨x140, i141, h142⟩ := bd_inv h131
 refine W.lo rfl rfl (Lo.callP (ps := []) (ps' := []) rfl (fn := Tryz.f33) (by kernel_rfl) rfl (mc rfl mn) O133 (fun L' O' => g_R_NatError_ok K x117 O' _ i141)) ?_
 rintro v149 H150 ⟨G143, O144, s145, sm148, rfl⟩
 replace O144 : Ow G143 H150 (L) := O144
 refine W.q1 (.int .i64 x129) rfl (W.q1 (.int .i64 x140) rfl (.nil (.seq (.block (.seq ?_)))))
 obtain ⟨q151, h152, h153⟩ := bd_inv h142
 refine AW.midT (fun σ' H' => ∃ (y1 : Bool) (G' : GM), y1 = q151 ∧ Ow G' H' (L) ∧ GM.le G143 G' ∧ σ' 48 = .bool y1) ?_ ?_
 ·refine .region (W.q2 (.int .i64 x129) rfl (W.q3 (.bool (x129 == 5)) rfl rfl (W.q2 (.bool (x129 == 5)) rfl (W.splitAt (t := 51) (b := (x129 == 5)) rfl (fun g154 gv155 => ?_) (fun g154 gv155 => ?_)))))
  ·have h156 := pos_inv g154 h152
   refine W.q6 rfl gv155 (W.q6 rfl gv155 (W.q4 (.bool true) gv155 rfl (W.q2 (.bool true) rfl (W.q6 rfl rfl (W.q6 rfl rfl (W.skipU rfl rfl rfl rfl ?_))))))
   refine W.skipU rfl rfl rfl rfl (W.q6 rfl rfl (W.q4 (.bool true) rfl rfl (W.q1 (.bool true) rfl (.nil ?_))))
   obtain rfl := Option.some.inj h156
   exact ⟨true, _, rfl, O144, (GM.le.refl _), rfl⟩
  have h157 := neg_b g154 h152
  refine W.q2 (hg := gk rfl rfl gv155 rfl) (.int .i64 x140) rfl (W.q3 (hg := gk rfl rfl gv155 rfl) (.bool (x140 == 5)) rfl rfl (W.q5 (.bool (x140 == 5)) gv155 rfl (W.q2 (.bool (x140 == 5)) rfl (W.splitAt (t := 55) (b := (x140 == 5)) rfl (fun g158 gv159 => ?_) (fun g158 gv159 => ?_)))))
  ·have h160 := pos_inv g158 h157
   refine W.q6 rfl gv159 (W.q6 rfl gv159 (W.skipU rfl rfl rfl rfl (W.skipU rfl rfl rfl rfl (W.q6 rfl gv159 (W.q4 (.bool true) gv159 rfl (W.q1 (.bool true) rfl ?_))))))
   refine .nil ?_
   obtain rfl := Option.some.inj h160
   exact ⟨true, _, rfl, O144, (GM.le.refl _), rfl⟩
  have h161 := neg_b g158 h157
  refine W.q2 (hg := gk rfl rfl gv159 rfl) (.bool x31) ((fr120 4 rfl).trans t40) (W.q2 (hg := gk rfl rfl gv159 rfl) (.bool x31) rfl (W.splitAt (t := 57) (b := x31) rfl (fun g162 gv163 => ?_) (fun g162 gv163 => ?_)))
  rotate_left
  ·have h165 := neg_b g162 h161
   refine W.q6 rfl gv163 (W.q6 rfl gv163 (W.q5 (hg := gk rfl rfl gv159 rfl) (.bool false) gv163 rfl (W.q5 (.bool false) gv159 rfl (W.q1 (.bool false) rfl (.nil ?_)))))
   obtain rfl := Option.some.inj h165
   exact ⟨false, _, rfl, O144, (GM.le.refl _), rfl⟩
  have h164 := pos_inv g162 h161
  refine W.q2 (hg := gk rfl rfl gv163 rfl) (.string x116) t126 (W.pure (v := (.bool (sEq x116 (⟨#[48]⟩ : ByteArray)))) (gk rfl rfl gv163 rfl) rfl (vs_eql (oo rfl rfl) (oo rfl rfl)) (W.q4 (hg := gk rfl rfl gv159 rfl) (.bool (sEq x116 (⟨#[48]⟩ : ByteArray))) gv163 rfl (W.q5 (.bool (sEq x116 (⟨#[48]⟩ : ByteArray))) gv159 rfl (W.q1 (.bool (sEq x116 (⟨#[48]⟩ : ByteArray))) rfl (.nil ?_)))))
  obtain rfl := Option.some.inj h164
  exact ⟨sEq x116 (⟨#[48]⟩ : ByteArray), _, rfl, O144, (GM.le.refl _), rfl⟩
 rintro σ167 H168 fr169 ⟨x166, G170, rfl, O171, s172, t174⟩
 have h175 := tu1_inv h153
 refine .cond (b := x166) rfl t174 (fun g176 => ?_) (fun g176 => ?_)
 ·have h177 := pos_inv g176 h175
  refine .seq (.region (W.q1 (.int .i64 5) rfl (.nil (.ret ?_))))
  obtain rfl := Option.some.inj h177
  refine ret1R (P := Tryz.prog) (fn := Tryz.f8) (n := 86) (R := fun v H' => ∃ G', Ow G' H' (L) ∧ G.le G' ∧ v = .int .i64 5) (v1 := (.int .i64 5)) (by rfl) (rr_tmp (by rfl) (by exact rfl)) ?_
  exact ⟨_, O171, (GM.le.trans s17 (GM.le.trans s37 (GM.le.trans s123 (GM.le.trans s134 (GM.le.trans s145 s172))))), rfl⟩
 have h178 := neg_b g176 h175
 refine .seq ?_
 obtain ⟨q179, h180, h181⟩ := bd_inv h178
 refine AW.midT (fun σ' H' => ∃ (y1 : Bool) (G' : GM), y1 = q179 ∧ Ow G' H' (L) ∧ GM.le G170 G' ∧ σ' 62 = .bool y1) ?_ ?_
 ·refine .region (W.q2 (.int .i64 x129) ((fr169 9 rfl).trans rfl) (W.q3 (.bool (x129 != 0)) rfl rfl (W.q2 (.bool (x129 != 0)) rfl (W.splitAt (t := 65) (b := (x129 != 0)) rfl (fun g182 gv183 => ?_) (fun g182 gv183 => ?_)))))
  ·have h184 := pos_inv g182 h180
   refine W.q6 rfl gv183 (W.q6 rfl gv183 (W.q4 (.bool true) gv183 rfl (W.q1 (.bool true) rfl (.nil ?_))))
   obtain rfl := Option.some.inj h184
   exact ⟨true, _, rfl, O171, (GM.le.refl _), rfl⟩
  have h185 := neg_b g182 h180
  refine W.q2 (hg := gk rfl rfl gv183 rfl) (.int .i64 x140) ((fr169 10 rfl).trans rfl) (W.q3 (hg := gk rfl rfl gv183 rfl) (.bool (x140 != 0)) rfl rfl (W.q5 (.bool (x140 != 0)) gv183 rfl (W.q1 (.bool (x140 != 0)) rfl (.nil ?_))))
  obtain rfl := Option.some.inj h185
  exact ⟨(x140 != 0), _, rfl, O171, (GM.le.refl _), rfl⟩
 rintro σ187 H188 fr189 ⟨x186, G190, rfl, O191, s192, t194⟩
 have h195 := tu1_inv h181
 refine .cond (b := x186) rfl t194 (fun g196 => ?_) (fun g196 => ?_)
 ·have h197 := pos_inv g196 h195
  refine .seq (.region (W.q1 (.int .i64 2) rfl (.nil (.ret ?_))))
  obtain rfl := Option.some.inj h197
  refine ret1R (P := Tryz.prog) (fn := Tryz.f8) (n := 86) (R := fun v H' => ∃ G', Ow G' H' (L) ∧ G.le G' ∧ v = .int .i64 2) (v1 := (.int .i64 2)) (by rfl) (rr_tmp (by rfl) (by exact rfl)) ?_
  exact ⟨_, O191, (GM.le.trans s17 (GM.le.trans s37 (GM.le.trans s123 (GM.le.trans s134 (GM.le.trans s145 (GM.le.trans s172 s192)))))), rfl⟩
 have h198 := neg_b g196 h195
 refine .seq ?_
 obtain ⟨q199, h200, h201⟩ := bd_inv h198
 refine AW.midT (fun σ' H' => ∃ (y1 : Bool) (G' : GM), y1 = q199 ∧ Ow G' H' (L) ∧ GM.le G190 G' ∧ σ' 69 = .bool y1) ?_ ?_
 rotate_left
 ·rintro σ226 H227 fr228 ⟨x225, G229, rfl, O230, s231, t233⟩
  have h234 := tu1_inv h201
  refine .cond (b := x225) rfl t233 (fun g235 => ?_) (fun g235 => ?_)
  ·have h236 := pos_inv g235 h234
   refine .seq (.region (W.q1 (.int .i64 3) rfl (.nil (.ret ?_))))
   obtain rfl := Option.some.inj h236
   refine ret1R (P := Tryz.prog) (fn := Tryz.f8) (n := 86) (R := fun v H' => ∃ G', Ow G' H' (L) ∧ G.le G' ∧ v = .int .i64 3) (v1 := (.int .i64 3)) (by rfl) (rr_tmp (by rfl) (by exact rfl)) ?_
   exact ⟨_, O230, (GM.le.trans s17 (GM.le.trans s37 (GM.le.trans s123 (GM.le.trans s134 (GM.le.trans s145 (GM.le.trans s172 (GM.le.trans s192 s231))))))), rfl⟩
  have h237 := neg_b g235 h234
  refine .skip (.seq (.region (W.q1 (.int .i64 0) rfl (.nil (.ret ?_)))))
  obtain rfl := Option.some.inj h237
  refine ret1R (P := Tryz.prog) (fn := Tryz.f8) (n := 86) (R := fun v H' => ∃ G', Ow G' H' (L) ∧ G.le G' ∧ v = .int .i64 0) (v1 := (.int .i64 0)) (by rfl) (rr_tmp (by rfl) (by exact rfl)) ?_
  exact ⟨_, O230, (GM.le.trans s17 (GM.le.trans s37 (GM.le.trans s123 (GM.le.trans s134 (GM.le.trans s145 (GM.le.trans s172 (GM.le.trans s192 s231))))))), rfl⟩
 refine .region (W.q2 (.int .i64 x115) ((fr189 5 rfl).trans ((fr169 5 rfl).trans t125)) (W.q3 (.bool (x115 == 2)) rfl rfl (W.q2 (.bool (x115 == 2)) rfl (W.splitAt (t := 72) (b := (x115 == 2)) rfl (fun g202 gv203 => ?_) (fun g202 gv203 => ?_)))))
 rotate_left
 ·have h224 := neg_b g202 h200
  refine W.q6 rfl gv203 (W.q6 rfl gv203 (W.q6 rfl gv203 (W.skipU rfl rfl rfl rfl (W.skipU rfl rfl rfl rfl (W.q6 rfl gv203 (W.q6 rfl gv203 ?_))))))
  refine W.skipU rfl rfl rfl rfl (W.skipU rfl rfl rfl rfl (W.skipU rfl rfl rfl rfl (W.skipU rfl rfl rfl rfl (W.q6 rfl gv203 (W.q5 (.bool false) gv203 rfl (W.q1 (.bool false) rfl ?_))))))
  refine .nil ?_
  obtain rfl := Option.some.inj h224
  exact ⟨false, _, rfl, O191, (GM.le.refl _), rfl⟩
 have h204 := pos_inv g202 h200
 refine W.q2 (hg := gk rfl rfl gv203 rfl) (.string x117) ((fr189 7 rfl).trans ((fr169 7 rfl).trans t127)) (W.pure (v := (.bool (sEq x117 (⟨#[48]⟩ : ByteArray)))) (gk rfl rfl gv203 rfl) rfl (vs_eql (oo rfl rfl) (oo rfl rfl)) (W.q2 (hg := gk rfl rfl gv203 rfl) (.bool (sEq x117 (⟨#[48]⟩ : ByteArray))) rfl (W.splitAt (t := 75) (b := sEq x117 (⟨#[48]⟩ : ByteArray)) rfl (fun g205 gv206 => ?_) (fun g205 gv206 => ?_))))
 ·have h207 := pos_inv g205 h204
  refine W.q6 rfl gv206 (W.q6 rfl gv206 (W.q4 (hg := gk rfl rfl gv203 rfl) (.bool true) gv206 rfl (W.q2 (hg := gk rfl rfl gv203 rfl) (.bool true) rfl (W.q6 rfl rfl (W.q6 rfl rfl (W.q6 rfl rfl ?_))))))
  refine W.q6 rfl rfl (W.q4 (hg := gk rfl rfl gv203 rfl) (.bool true) rfl rfl (W.q4 (.bool true) gv203 rfl (W.q1 (.bool true) rfl (.nil ?_))))
  obtain rfl := Option.some.inj h207
  exact ⟨true, _, rfl, O191, (GM.le.refl _), rfl⟩
 have h208 := neg_b g205 h204
 refine W.q2 (hg := gk rfl rfl gv206 rfl) (.string x117) ((fr189 7 rfl).trans ((fr169 7 rfl).trans t127)) (W.pure (v := (.bool (sEq x117 (⟨#[49]⟩ : ByteArray)))) (gk rfl rfl gv206 rfl) rfl (vs_eql (oo rfl rfl) (oo rfl rfl)) (W.q5 (hg := gk rfl rfl gv203 rfl) (.bool (sEq x117 (⟨#[49]⟩ : ByteArray))) gv206 rfl (W.q2 (hg := gk rfl rfl gv203 rfl) (.bool (sEq x117 (⟨#[49]⟩ : ByteArray))) rfl (W.splitAt (t := 79) (b := sEq x117 (⟨#[49]⟩ : ByteArray)) rfl (fun g209 gv210 => ?_) (fun g209 gv210 => ?_)))))
 ·have h211 := pos_inv g209 h208
  refine W.q6 rfl gv210 (W.q6 rfl gv210 (W.q6 rfl gv210 (W.q6 rfl gv210 (W.q4 (hg := gk rfl rfl gv203 rfl) (.bool true) gv210 rfl (W.q4 (.bool true) gv203 rfl (W.q1 (.bool true) rfl ?_))))))
  refine .nil ?_
  obtain rfl := Option.some.inj h211
  exact ⟨true, _, rfl, O191, (GM.le.refl _), rfl⟩
 have h212 := neg_b g209 h208
 refine W.q2 (hg := gk rfl rfl gv210 rfl) (.string x116) ((fr189 6 rfl).trans ((fr169 6 rfl).trans t126)) (W.q2 (hg := gk rfl rfl gv210 rfl) (.string x117) ((fr189 7 rfl).trans ((fr169 7 rfl).trans t127)) ?_)
 obtain ⟨x213, i214, h215⟩ := bd_inv h212
 refine W.lo (gk rfl rfl gv210 rfl) rfl (Lo.callP (ps := []) (ps' := []) rfl (fn := Tryz.f34) (by kernel_rfl) rfl (mc rfl (mc rfl mn)) O191 (fun L' O' => g_R_NatGcd_ok K x116 x117 O' _ i214)) ?_
 rintro v222 H223 ⟨G216, O217, s218, sm221, rfl⟩
 replace O217 : Ow G216 H223 (L) := O217
 refine W.pure (v := (.bool (!(sEq x213 (⟨#[49]⟩ : ByteArray))))) (gk rfl rfl gv210 rfl) rfl (vs_neq (oo rfl rfl) (oo rfl rfl)) (W.q5 (hg := gk rfl rfl gv203 rfl) (.bool (!(sEq x213 (⟨#[49]⟩ : ByteArray)))) gv210 rfl (W.q4 (.bool (!(sEq x213 (⟨#[49]⟩ : ByteArray)))) gv203 rfl (W.q1 (.bool (!(sEq x213 (⟨#[49]⟩ : ByteArray)))) rfl (.nil ?_))))
 obtain rfl := Option.some.inj h215
 exact ⟨(!(sEq x213 (⟨#[49]⟩ : ByteArray))), _, rfl, O217, s218, rfl⟩
end Go.Am.Tryz
