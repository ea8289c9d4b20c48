/- Typed functions with the same answers as the program's, and the walks that show it. -/
import Derived.Test.YtlmgdnhnpkgheaaGreatDoorG2Z4
namespace Go.Am.Tryz
open Go Go.Am Go.Proofs
set_option linter.unusedVariables false
set_option linter.unusedSimpArgs false
set_option maxRecDepth 10000

def g_nat_Check_l0 (K : Nat) (p0 : ByteArray) : Nat → Int → Option (Int ⊕ Unit)
  | 0, _ => none
  | k + 1, x39 => (if (decide (x39 < (List.length (bytesOf p0) : Int))) = true then ((idx (bytesOf p0) x39).bind fun x50 => (Option.bind ((if (decide (x50 < 48)) = true then some true else some (decide (x50 > 57)))) (tu1 fun x61 => (if x61 = true then some (.inl 5) else g_nat_Check_l0 K p0 k (kwrap .i64 (x39 + 1)))))) else some (.inr ()))
def g_nat_Check (K : Nat) (p0 : ByteArray) : Option Int := (Option.bind ((if (sEq p0 (⟨#[]⟩ : ByteArray)) = true then some true else ((bidx p0 0).bind fun x8 => (if (x8 == 48) = true then some (decide ((p0.size : Int) > 1)) else some false)))) (tu1 fun x15 => (if x15 = true then some 5 else (bindS (g_nat_Check_l0 K p0 K 0) (tu1 fun a87 => some a87) (tu0 (if (decide ((p0.size : Int) > 2000)) = true then some 2 else some 0))))))
set_option maxHeartbeats 4000000 in
theorem g_nat_Check_ok (K : Nat) {G : GM} {H : AH} {L : List Pc} (p0 : ByteArray) (O : Ow G H (L)) (r : Int) (h : g_nat_Check K p0 = some r) :
    CR Tryz.prog 64 [(.string p0)] G H (L) (fun v G' _ => v = .int .i64 r) := by
 unfold g_nat_Check at h
 refine CR.of (calls_of_AW (n := 34) (fn := Tryz.f64) (R := fun v H' => ∃ G', Ow G' H' (L) ∧ G.le G' ∧ v = .int .i64 r) (by kernel_rfl) rfl rfl ?_)
 refine .seq (.region (W.q1 (.int .i64 0) rfl (.nil (.seq (.seq ?_)))))
 obtain ⟨q1, h2, h3⟩ := bd_inv h
 refine AW.midT (fun σ' H' => ∃ (y1 : Bool) (G' : GM), y1 = q1 ∧ Ow G' H' (L) ∧ GM.le G G' ∧ σ' 16 = .bool y1) ?_ ?_
 ·refine .region (W.q2 (.string p0) rfl (W.pure (v := (.bool (sEq p0 (⟨#[]⟩ : ByteArray)))) rfl rfl (vs_eql (oo rfl rfl) (oo rfl rfl)) (W.q2 (.bool (sEq p0 (⟨#[]⟩ : ByteArray))) rfl (W.splitAt (t := 7) (b := sEq p0 (⟨#[]⟩ : ByteArray)) rfl (fun g4 gv5 => ?_) (fun g4 gv5 => ?_)))))
  ·have h6 := pos_inv g4 h2
   refine W.q6 rfl gv5 (W.q6 rfl gv5 (W.q6 rfl gv5 (W.q6 rfl gv5 (W.skipU rfl rfl rfl rfl (W.skipU rfl rfl rfl rfl (W.skipU rfl rfl rfl rfl ?_))))))
   refine W.q6 rfl gv5 (W.q4 (.bool true) gv5 rfl (.nil ?_))
   obtain rfl := Option.some.inj h6
   exact ⟨true, _, rfl, O, (GM.le.refl _), rfl⟩
  have h7 := neg_b g4 h2
  refine W.q2 (hg := gk rfl rfl gv5 rfl) (.string p0) rfl ?_
  obtain ⟨x8, i9, h10⟩ := bd_inv h7
  refine W.pure (v := (.int .u8 x8)) (gk rfl rfl gv5 rfl) rfl (v_sidx un9 (oo rfl rfl) (oo rfl rfl) i9) (W.q3 (hg := gk rfl rfl gv5 rfl) (.bool (x8 == 48)) rfl rfl (W.q2 (hg := gk rfl rfl gv5 rfl) (.bool (x8 == 48)) rfl (W.splitAt (t := 11) (b := (x8 == 48)) rfl (fun g11 gv12 => ?_) (fun g11 gv12 => ?_))))
  rotate_left
  ·have h14 := neg_b g11 h10
   refine W.q6 rfl gv12 (W.q6 rfl gv12 (W.q6 rfl gv12 (W.q5 (hg := gk rfl rfl gv5 rfl) (.bool false) gv12 rfl (W.q5 (.bool false) gv5 rfl (.nil ?_)))))
   obtain rfl := Option.some.inj h14
   exact ⟨false, _, rfl, O, (GM.le.refl _), rfl⟩
  have h13 := pos_inv g11 h10
  refine W.q2 (hg := gk rfl rfl gv12 rfl) (.string p0) rfl (W.pure (v := (.int .i64 (p0.size : Int))) (gk rfl rfl gv12 rfl) rfl (len_str (oo rfl rfl) un9) (W.q3 (hg := gk rfl rfl gv12 rfl) (.bool (decide ((p0.size : Int) > 1))) rfl rfl (W.q4 (hg := gk rfl rfl gv5 rfl) (.bool (decide ((p0.size : Int) > 1))) gv12 rfl (W.q5 (.bool (decide ((p0.size : Int) > 1))) gv5 rfl (.nil ?_)))))
  obtain rfl := Option.some.inj h13
  exact ⟨decide ((p0.size : Int) > 1), _, rfl, O, (GM.le.refl _), rfl⟩
 rintro σ16 H17 fr18 ⟨x15, G19, rfl, O20, s21, t23⟩
 have h24 := tu1_inv h3
 refine .cond (b := x15) rfl t23 (fun g25 => ?_) (fun g25 => ?_)
 ·have h26 := pos_inv g25 h24
  refine .seq (.region (W.q1 (.int .i64 5) rfl (.nil (.ret ?_))))
  obtain rfl := Option.some.inj h26
  refine ret1R (P := Tryz.prog) (fn := Tryz.f64) (n := 34) (R := fun v H' => ∃ G', Ow G' H' (L) ∧ G.le G' ∧ v = .int .i64 5) (v1 := (.int .i64 5)) (by rfl) (rr_tmp (by rfl) (by exact rfl)) ?_
  exact ⟨_, O20, s21, rfl⟩
 have h27 := neg_b g25 h24
 refine .skip (.seq (.seq (.region (W.q2 (.string p0) ((fr18 0 rfl).trans rfl) (W.lo rfl rfl (Lo.bytes rfl un9 el99 in5 rfl O20) ?_)))))
 rintro v33 H34 ⟨G29, O28, s30, sm32, f31⟩
 refine W.pure (v := (.int .i64 (List.length (bytesOf p0) : Int))) rfl rfl (len_sl (oo rfl rfl) (sl_len f31) (elemT_inv el99)) (W.q2 (.int .i64 0) rfl (.nil ?_))
 obtain ⟨q35, h36, h37⟩ := bindS_inv h27
 refine AW.midT (fun σ' H' => ∃  (G' : GM), (.inr ()) = q35 ∧ Ow G' H' (L) ∧ GM.le G29 G') ?_ ?_
 rotate_left
 ·rintro σ76 H77 fr78 ⟨G79, rfl, O80, s81⟩
  have h83 := tu0_inv (outS_r h37)
  refine .seq (.seq (.region (W.q2 (.string p0) ((fr78 0 rfl).trans ((fr18 0 rfl).trans rfl)) (W.pure (v := (.int .i64 (p0.size : Int))) rfl rfl (len_str (oo rfl rfl) un9) (W.q3 (.bool (decide ((p0.size : Int) > 2000))) rfl rfl (.nil ?_))))))
  refine .cond (b := decide ((p0.size : Int) > 2000)) rfl rfl (fun g84 => ?_) (fun g84 => ?_)
  ·have h85 := pos_inv g84 h83
   refine .seq (.region (W.q1 (.int .i64 2) rfl (.nil (.ret ?_))))
   obtain rfl := Option.some.inj h85
   refine ret1R (P := Tryz.prog) (fn := Tryz.f64) (n := 34) (R := fun v H' => ∃ G', Ow G' H' (L) ∧ G.le G' ∧ v = .int .i64 2) (v1 := (.int .i64 2)) (by rfl) (rr_tmp (by rfl) (by exact rfl)) ?_
   exact ⟨_, O80, (GM.le.trans s21 (GM.le.trans s30 s81)), rfl⟩
  have h86 := neg_b g84 h83
  refine .skip (.seq (.region (W.q1 (.int .i64 0) rfl (.nil (.ret ?_)))))
  obtain rfl := Option.some.inj h86
  refine ret1R (P := Tryz.prog) (fn := Tryz.f64) (n := 34) (R := fun v H' => ∃ G', Ow G' H' (L) ∧ G.le G' ∧ v = .int .i64 0) (v1 := (.int .i64 0)) (by rfl) (rr_tmp (by rfl) (by exact rfl)) ?_
  exact ⟨_, O80, (GM.le.trans s21 (GM.le.trans s30 s81)), rfl⟩
 refine .block (AW.loop (α := Nat) (fun k' σ' H' => ∃ (y1 : Int) (G' : GM), g_nat_Check_l0 K p0 k' y1 = some q35 ∧ Ow G' H' (L) ∧ GM.le G29 G' ∧ σ' 20 = .int .i64 y1) (fun k' => k') K ⟨0, _, h36, O28, (GM.le.refl _), rfl⟩ ?_)
 rintro k38
 rintro σ40 H41 fr42 ⟨x39, G43, h46, O44, s45, t47⟩
 rcases k38 with _ | k38
 ·exact none_absurd h46
 rw [g_nat_Check_l0] at h46
 refine .seq (.region (W.q3 (.bool (decide (x39 < (List.length (bytesOf p0) : Int)))) t47 ((fr42 19 rfl).trans rfl) (.nil (.seq (.cond (b := decide (x39 < (List.length (bytesOf p0) : Int))) rfl rfl (fun g48 => ?_) (fun g48 => ?_))))))
 rotate_left
 ·have h75 := neg_b g48 h46
  refine .exit ?_
  obtain rfl := Option.some.inj h75
  exact ⟨_, rfl, O44, s45⟩
 have h49 := pos_inv g48 h46
 refine .skip (.seq (.block (.seq (.region ?_))))
 obtain ⟨x50, i51, h52⟩ := bd_inv h49
 have j53 := idx_inv i51
 refine W.pure (v := (selem v33 (Int.toNat x39 * 1))) rfl rfl (v_idx el99 sz5 (oo rfl ((fr42 18 rfl).trans rfl)) (oo rfl t47) (sl_len (RT.mono _ s45 f31)) j53.1 j53.2.1) (W.load1 (v := (.int .u8 x50)) (r := []) rfl rfl ag5 (pt_px rfl (At.int (At.le (At.le (sl_idx f31 j53.2.2) s45 s45) (GM.le.refl _) O44.fro))) (W.q1 (.int .u8 x50) rfl (.nil (.seq ?_))))
 obtain ⟨q54, h55, h56⟩ := bd_inv h52
 refine AW.midT (fun σ' H' => ∃ (y1 : Bool) (G' : GM), y1 = q54 ∧ Ow G' H' (L) ∧ GM.le G43 G' ∧ σ' 29 = .bool y1) ?_ ?_
 rotate_left
 ·rintro σ62 H63 fr64 ⟨x61, G65, rfl, O66, s67, t69⟩
  have h70 := tu1_inv h56
  refine .cond (b := x61) rfl t69 (fun g71 => ?_) (fun g71 => ?_)
  rotate_left
  ·have h74 := neg_b g71 h70
   refine .skip (.region (W.q3 (.int .i64 (kwrap .i64 (x39 + 1))) ((fr64 20 rfl).trans t47) rfl (W.q2 (.int .i64 (kwrap .i64 (x39 + 1))) rfl (.nil ?_))))
   exact ⟨k38, Nat.lt_succ_self _, ⟨kwrap .i64 (x39 + 1), _, h74, O66, (GM.le.trans s45 s67), rfl⟩⟩
  have h72 := pos_inv g71 h70
  refine .seq (.region (W.q1 (.int .i64 5) rfl (.nil (.ret ?_))))
  obtain rfl := Option.some.inj h72
  have h73 := tu1_inv (outS_l h37)
  obtain rfl := Option.some.inj h73
  refine ret1R (P := Tryz.prog) (fn := Tryz.f64) (n := 34) (R := fun v H' => ∃ G', Ow G' H' (L) ∧ G.le G' ∧ v = .int .i64 5) (v1 := (.int .i64 5)) (by rfl) (rr_tmp (by rfl) (by exact rfl)) ?_
  exact ⟨_, O66, (GM.le.trans s21 (GM.le.trans s30 (GM.le.trans s45 s67))), rfl⟩
 refine .region (W.q2 (.int .u8 x50) rfl (W.q3 (.bool (decide (x50 < 48))) rfl rfl (W.q2 (.bool (decide (x50 < 48))) rfl (W.splitAt (t := 26) (b := decide (x50 < 48)) rfl (fun g57 gv58 => ?_) (fun g57 gv58 => ?_)))))
 ·have h59 := pos_inv g57 h55
  refine W.q6 rfl gv58 (W.q6 rfl gv58 (W.q4 (.bool true) gv58 rfl (.nil ?_)))
  obtain rfl := Option.some.inj h59
  exact ⟨true, _, rfl, O44, (GM.le.refl _), rfl⟩
 have h60 := neg_b g57 h55
 refine W.q2 (hg := gk rfl rfl gv58 rfl) (.int .u8 x50) rfl (W.q3 (hg := gk rfl rfl gv58 rfl) (.bool (decide (x50 > 57))) rfl rfl (W.q5 (.bool (decide (x50 > 57))) gv58 rfl (.nil ?_)))
 obtain rfl := Option.some.inj h60
 exact ⟨decide (x50 > 57), _, rfl, O44, (GM.le.refl _), rfl⟩
def g_nat_Read_l2 (K : Nat) (x18 : ByteArray) : Nat → Int → Int → Option (Int)
  | 0, _, _ => none
  | k + 1, x32, x33 => (if (decide (x33 < (List.length (bytesOf x18) : Int))) = true then ((idx (bytesOf x18) x33).bind fun x45 => (lt (kwrap .u32 ((kwrap .u32 (x32 * 10)) + (IntKind.wrap .u32 (kwrap .u8 (x45 - 48))))) fun x49 => g_nat_Read_l2 K x18 k x49 (kwrap .i64 (x33 + 1)))) else some x32)
def g_nat_Read_l0 (K : Nat) (p0 : ByteArray) : Nat → List Int → Int → Option (List Int)
  | 0, _, _ => none
  | k + 1, x6, x7 => (if (decide (x7 > 0)) = true then ((ssl p0 (imax 0 (kwrap .i64 (x7 - 9))) x7).bind fun x18 => (Option.bind (g_nat_Read_l2 K x18 K 0 0) (tu1 fun x53 => (if List.length x6 + List.length [x53] ≤ 16777216 then g_nat_Read_l0 K p0 k (x6 ++ [x53]) (kwrap .i64 (x7 - 9)) else none)))) else some x6)
def g_nat_Read (K : Nat) (p0 : ByteArray) : Option (List Int) := (Option.bind (g_nat_Read_l0 K p0 K [] (p0.size : Int)) (tu1 fun x78 => ((g_nat_N_trim K x78).bind fun x87 => some x87)))
set_option maxHeartbeats 4000000 in
theorem g_nat_Read_ok (K : Nat) {G : GM} {H : AH} {L : List Pc} (p0 : ByteArray) (O : Ow G H (L)) (r : List Int) (h : g_nat_Read K p0 = some r) :
    CRF Tryz.prog 65 [(.string p0)] G H (fun w0 => (eSl w0 64 (rI .u32) r :: L)) (fun w0 v G' => w0 = v) := by
 unfold g_nat_Read at h
 refine CRF.of (calls_of_AW (n := 39) (fn := Tryz.f65) (R := fun v H' => ∃ w0 G', Ow G' H' (eSl w0 64 (rI .u32) r :: L) ∧ G.le G' ∧ w0 = v) (by kernel_rfl) rfl rfl ?_)
 refine .seq (.region (W.q1 (.slice none 0 0) rfl (.nil (.seq (.region (W.q1 (.slice none 0 0) rfl ?_))))))
 refine .nil (.seq (.seq (.region (W.q2 (.string p0) rfl (W.pure (v := (.int .i64 (p0.size : Int))) rfl rfl (len_str (oo rfl rfl) un9) (W.q1 (.int .i64 (p0.size : Int)) rfl ?_))))))
 refine .nil ?_
 obtain ⟨q1, h2, h3⟩ := bd_inv h
 refine AW.midT (fun σ' H' => ∃ (y1 : List Int) (G' : GM), y1 = q1 ∧ Ow G' H' (eSl (σ' 3) 64 (rI .u32) y1 :: L) ∧ GM.le G G') ?_ ?_
 rotate_left
 ·rintro σ79 H80 fr81 ⟨x78, G82, rfl, O83, s84⟩
  have h86 := tu1_inv h3
  refine .seq (.region (W.q2 (σ79 3) rfl ?_))
  obtain ⟨x87, i88, h89⟩ := bd_inv h86
  refine W.lo rfl rfl (Lo.callPF (ps := [eSl (σ79 3) 64 (rI .u32) x78]) (pw := fun w => [eSl w 64 (rI .u32) x87]) rfl (fn := Tryz.f81) (by kernel_rfl) rfl (mc rfl mn) O83 (fun L' O' => g_nat_N_trim_ok K (σ79 3) x78 O' _ i88)) ?_
  rintro v98 H99 ⟨w95, G90, O91, s92, sm97, rfl⟩
  replace O91 : Ow G90 H99 (eSl w95 64 (rI .u32) x87 :: L) := O91
  refine W.q1 w95 rfl (.nil (.ret ?_))
  obtain rfl := Option.some.inj h89
  refine ret1R (P := Tryz.prog) (fn := Tryz.f65) (n := 39) (R := fun v H' => ∃ w0 G', Ow G' H' (eSl w0 64 (rI .u32) x87 :: L) ∧ G.le G' ∧ w0 = v) (v1 := w95) (by rfl) (rr_tmp (by rfl) (by exact rfl)) ?_
  exact ⟨w95, _, O91, (GM.le.trans s84 s92), rfl⟩
 refine .block ?_
 have O4 := O.nilSl 64 (rI .u32)
 refine AW.loop (α := Nat) (fun k' σ' H' => ∃ (y1 : List Int) (y2 : Int) (G' : GM), g_nat_Read_l0 K p0 k' y1 y2 = some q1 ∧ Ow G' H' (eSl (σ' 3) 64 (rI .u32) y1 :: L) ∧ GM.le G G' ∧ σ' 4 = .int .i64 y2) (fun k' => k') K ⟨[], (p0.size : Int), _, h2, O4, (GM.le.refl _), rfl⟩ ?_
 rintro k5
 rintro σ8 H9 fr10 ⟨x6, x7, G11, h14, O12, s13, t15⟩
 rcases k5 with _ | k5
 ·exact none_absurd h14
 rw [g_nat_Read_l0] at h14
 refine .seq (.seq (.region (W.q2 (.int .i64 x7) t15 (W.q3 (.bool (decide (x7 > 0))) rfl rfl (.nil (.cond (b := decide (x7 > 0)) rfl rfl (fun g16 => ?_) (fun g16 => ?_)))))))
 rotate_left
 ·have h77 := neg_b g16 h14
  refine .exit ?_
  obtain rfl := Option.some.inj h77
  exact ⟨x6, _, rfl, O12, s13⟩
 have h17 := pos_inv g16 h14
 refine .skip (.seq (.block (.seq (.region (W.q1 (.int .u32 0) rfl (.nil ?_))))))
 refine .seq (.seq (.region (W.q2 (.string p0) ((fr10 0 rfl).trans rfl) (W.q2 (.int .i64 x7) t15 (W.q3 (.int .i64 (kwrap .i64 (x7 - 9))) rfl rfl (W.pure (v := (.int .i64 (imax 0 (kwrap .i64 (x7 - 9))))) rfl rfl (v_max2 (oo rfl rfl) (oo rfl rfl)) ?_))))))
 refine W.q2 (.int .i64 x7) t15 ?_
 obtain ⟨x18, i19, h20⟩ := bd_inv h17
 refine W.pure (v := (.string x18)) rfl rfl (v_sslLH un9 (oo rfl rfl) (oo rfl rfl) (oo rfl rfl) i19) (W.lo rfl rfl (Lo.bytes rfl un9 el99 in5 rfl O12) ?_)
 rintro v26 H27 ⟨G22, O21, s23, sm25, f24⟩
 refine W.pure (v := (.int .i64 (List.length (bytesOf x18) : Int))) rfl rfl (len_sl (oo rfl rfl) (sl_len f24) (elemT_inv el99)) (W.q2 (.int .i64 0) rfl (.nil ?_))
 obtain ⟨q28, h29, h30⟩ := bd_inv h20
 refine AW.midT (fun σ' H' => ∃ (y1 : Int) (G' : GM), y1 = q28 ∧ Ow G' H' (eSl (σ8 3) 64 (rI .u32) x6 :: L) ∧ GM.le G22 G' ∧ σ' 5 = .int .u32 y1) ?_ ?_
 rotate_left
 ·rintro σ54 H55 fr56 ⟨x53, G57, rfl, O58, s59, t61⟩
  have h62 := tu1_inv h30
  refine .region (W.q2 (σ8 3) ((fr56 3 rfl).trans rfl) (W.q2 (.int .u32 x53) t61 (W.lo rfl rfl (Lo.buildSlice (r := (rI .u32)) (vs := [(.int .u32 x53)]) (xs := [x53]) el46 ze64 sz64 (by kernel_rfl) rfl (qc rfl qn) rfl (.cons rfl .nil) O58) ?_)))
  rintro v65 H66 ⟨O63, sm64⟩
  obtain ⟨es68, e69, e70⟩ := src_own (j := 0) rfl O63
  obtain ⟨g71, h72⟩ := gd_inv h62
  refine W.lo rfl rfl (Lo.append (j := 1) (v := (σ8 3)) rfl rfl el46 ni46 ze64 sz64 by64 (by decide) (by decide) rfl e69 e70 g71 O63) ?_
  rintro v74 H75 ⟨O67, sm73⟩
  replace O67 : Ow G57 H75 (eSl v65 64 (rI .u32) [x53] :: eSl v74 64 (rI .u32) (x6 ++ [x53]) :: L) := O67
  refine W.q1 v74 rfl (.nil (.region (W.q2 (.int .i64 x7) ((fr56 4 rfl).trans t15) (W.q3 (.int .i64 (kwrap .i64 (x7 - 9))) rfl rfl (W.q1 (.int .i64 (kwrap .i64 (x7 - 9))) rfl (.nil ?_))))))
  have O76 : Ow G57 H75 (eSl v74 64 (rI .u32) (x6 ++ [x53]) :: L) := O67.drop 0
  exact ⟨k5, Nat.lt_succ_self _, ⟨(x6 ++ [x53]), kwrap .i64 (x7 - 9), _, h72, O76, (GM.le.trans s13 (GM.le.trans s23 s59)), rfl⟩⟩
 refine .block (AW.loop (α := Nat) (fun k' σ' H' => ∃ (y1 : Int) (y2 : Int) (G' : GM), g_nat_Read_l2 K x18 k' y1 y2 = some q28 ∧ Ow G' H' (eSl (σ8 3) 64 (rI .u32) x6 :: L) ∧ GM.le G22 G' ∧ σ' 5 = .int .u32 y1 ∧ σ' 22 = .int .i64 y2) (fun k' => k') K ⟨0, 0, _, h29, O21, (GM.le.refl _), rfl, rfl⟩ ?_)
 rintro k31
 rintro σ34 H35 fr36 ⟨x32, x33, G37, h40, O38, s39, t41, t42⟩
 rcases k31 with _ | k31
 ·exact none_absurd h40
 rw [g_nat_Read_l2] at h40
 refine .seq (.region (W.q3 (.bool (decide (x33 < (List.length (bytesOf x18) : Int)))) t42 ((fr36 21 rfl).trans rfl) (.nil (.seq (.cond (b := decide (x33 < (List.length (bytesOf x18) : Int))) rfl rfl (fun g43 => ?_) (fun g43 => ?_))))))
 rotate_left
 ·have h52 := neg_b g43 h40
  refine .exit ?_
  obtain rfl := Option.some.inj h52
  exact ⟨x32, _, rfl, O38, s39, t41⟩
 have h44 := pos_inv g43 h40
 refine .skip (.seq (.block (.seq (.region ?_))))
 obtain ⟨x45, i46, h47⟩ := bd_inv h44
 have j48 := idx_inv i46
 refine W.pure (v := (selem v26 (Int.toNat x33 * 1))) rfl rfl (v_idx el99 sz5 (oo rfl ((fr36 20 rfl).trans rfl)) (oo rfl t42) (sl_len (RT.mono _ s39 f24)) j48.1 j48.2.1) (W.load1 (v := (.int .u8 x45)) (r := []) rfl rfl ag5 (pt_px rfl (At.int (At.le (At.le (sl_idx f24 j48.2.2) s39 s39) (GM.le.refl _) O38.fro))) (W.q1 (.int .u8 x45) rfl (.nil (.region (W.q2 (.int .u32 x32) t41 (W.q3 (.int .u32 (kwrap .u32 (x32 * 10))) rfl rfl ?_))))))
 refine W.q2 (.int .u8 x45) rfl (W.q3 (.int .u8 (kwrap .u8 (x45 - 48))) rfl rfl (W.pure (v := (.int .u32 (IntKind.wrap .u32 (kwrap .u8 (x45 - 48))))) rfl rfl (v_conv in5 in64 (oo rfl rfl)) (W.q3 (.int .u32 (kwrap .u32 ((kwrap .u32 (x32 * 10)) + (IntKind.wrap .u32 (kwrap .u8 (x45 - 48)))))) rfl rfl ?_)))
 obtain ⟨x49, e50, h51⟩ := lt_inv h47
 refine W.q1 (.int .u32 x49) (congrArg (Value.int .u32) e50) (.nil (.region (W.q3 (.int .i64 (kwrap .i64 (x33 + 1))) t42 rfl (W.q2 (.int .i64 (kwrap .i64 (x33 + 1))) rfl (.nil ?_)))))
 exact ⟨k31, Nat.lt_succ_self _, ⟨x49, kwrap .i64 (x33 + 1), _, h51, O38, s39, rfl, rfl⟩⟩
def g_rat_Check (K : Nat) (p0 : ByteArray) : Option Int := ((g_strings_CutPrefix K p0 (⟨#[45]⟩ : ByteArray)).bind fun x1 => ((g_strings_Cut K x1.1 (⟨#[47]⟩ : ByteArray)).bind fun x12 => ((g_nat_Check K x12.1).bind fun x23 => (Option.bind ((if x12.2.2 = true then ((g_nat_Check K x12.2.1).bind fun x39 => some x39) else some 0)) (tu1 fun x51 => (Option.bind ((if (x23 == 5) = true then some true else (if (x51 == 5) = true then some true else (if x1.2 = true then some (sEq x12.1 (⟨#[48]⟩ : ByteArray)) else some false)))) (tu1 fun x76 => (if x76 = true then some 5 else (Option.bind ((if (x23 != 0) = true then some true else some (x51 != 0))) (tu1 fun x96 => (if x96 = true then some 2 else (Option.bind ((if x12.2.2 = true then (if (sEq x12.2.1 (⟨#[48]⟩ : ByteArray)) = true then some true else (if (sEq x12.2.1 (⟨#[49]⟩ : ByteArray)) = true then some true else ((g_nat_Read K x12.1).bind fun x123 => ((g_nat_Read K x12.2.1).bind fun x136 => ((g_nat_N_Gcd K x123 x136).bind fun x157 => ((g_nat_Of K 1).bind fun x170 => ((g_nat_N_Cmp K x157 x170).bind fun x183 => some (x183 != 0)))))))) else some false)) (tu1 fun x196 => (if x196 = true then some 3 else some 0))))))))))))))
set_option maxHeartbeats 4000000 in
theorem g_rat_Check_ok (K : Nat) {G : GM} {H : AH} {L : List Pc} (p0 : ByteArray) (O : Ow G H (L)) (r : Int) (h : g_rat_Check K p0 = some r) :
    CR Tryz.prog 28 [(.string p0)] G H (L) (fun v G' _ => v = .int .i64 r) := by
 unfold g_rat_Check at h
 refine CR.of (calls_of_AW (n := 64) (fn := Tryz.f28) (R := fun v H' => ∃ G', Ow G' H' (L) ∧ G.le G' ∧ v = .int .i64 r) (by kernel_rfl) rfl rfl ?_)
 refine .seq (.region (W.q1 (.int .i64 0) rfl (.nil (.seq (.region (W.q2 (.string p0) rfl ?_))))))
 obtain ⟨x1, i2, h3⟩ := bd_inv h
 refine W.lo rfl rfl (Lo.callP (ps := []) (ps' := []) rfl (fn := Tryz.f62) (by kernel_rfl) rfl (mc rfl (mc rfl mn)) O (fun L' O' => g_strings_CutPrefix_ok K p0 (⟨#[45]⟩ : ByteArray) O' _ i2)) ?_
 rintro v10 H11 ⟨G4, O5, s6, sm9, rfl⟩
 replace O5 : Ow G4 H11 (L) := O5
 refine W.q2 (.tuple #[(.string x1.1), (.bool x1.2)]) rfl (W.pure (v := (.string x1.1)) rfl rfl (v_extract (oo rfl rfl) rfl) (W.pure (v := (.bool x1.2)) rfl rfl (v_extract (oo rfl rfl) rfl) (W.q1 (.string x1.1) rfl (W.q1 (.bool x1.2) rfl (.nil (.seq ?_))))))
 refine .region (W.q2 (.string x1.1) rfl ?_)
 obtain ⟨x12, i13, h14⟩ := bd_inv h3
 refine W.lo rfl rfl (Lo.callP (ps := []) (ps' := []) rfl (fn := Tryz.f63) (by kernel_rfl) rfl (mc rfl (mc rfl mn)) O5 (fun L' O' => g_strings_Cut_ok K x1.1 (⟨#[47]⟩ : ByteArray) O' _ i13)) ?_
 rintro v21 H22 ⟨G15, O16, s17, sm20, rfl⟩
 replace O16 : Ow G15 H22 (L) := O16
 refine W.q2 (.tuple #[(.string x12.1), (.string x12.2.1), (.bool x12.2.2)]) rfl (W.pure (v := (.string x12.1)) rfl rfl (v_extract (oo rfl rfl) rfl) (W.pure (v := (.string x12.2.1)) rfl rfl (v_extract (oo rfl rfl) rfl) (W.pure (v := (.bool x12.2.2)) rfl rfl (v_extract (oo rfl rfl) rfl) (W.q1 (.string x12.1) rfl (W.q1 (.string x12.2.1) rfl (W.q1 (.bool x12.2.2) rfl ?_))))))
 refine .nil (.seq (.region (W.q2 (.string x12.1) rfl ?_)))
 obtain ⟨x23, i24, h25⟩ := bd_inv h14
 refine W.lo rfl rfl (Lo.callP (ps := []) (ps' := []) rfl (fn := Tryz.f64) (by kernel_rfl) rfl (mc rfl mn) O16 (fun L' O' => g_nat_Check_ok K x12.1 O' _ i24)) ?_
 rintro v32 H33 ⟨G26, O27, s28, sm31, rfl⟩
 replace O27 : Ow G26 H33 (L) := O27
 refine W.q1 (.int .i64 x23) rfl (W.q1 (.int .i64 0) rfl (.nil (.seq (.seq (.region (W.q2 (.bool x12.2.2) rfl ?_))))))
 refine .nil ?_
 obtain ⟨q34, h35, h36⟩ := bd_inv h25
 refine AW.midT (fun σ' H' => ∃ (y1 : Int) (G' : GM), y1 = q34 ∧ Ow G' H' (L) ∧ GM.le G26 G' ∧ σ' 9 = .int .i64 y1) ?_ ?_
 ·refine .cond (b := x12.2.2) rfl rfl (fun g37 => ?_) (fun g37 => ?_)
  rotate_left
  ·have h50 := neg_b g37 h35
   refine .skip ?_
   obtain rfl := Option.some.inj h50
   exact ⟨0, _, rfl, O27, (GM.le.refl _), rfl⟩
  have h38 := pos_inv g37 h35
  refine .region (W.q2 (.string x12.2.1) rfl ?_)
  obtain ⟨x39, i40, h41⟩ := bd_inv h38
  refine W.lo rfl rfl (Lo.callP (ps := []) (ps' := []) rfl (fn := Tryz.f64) (by kernel_rfl) rfl (mc rfl mn) O27 (fun L' O' => g_nat_Check_ok K x12.2.1 O' _ i40)) ?_
  rintro v48 H49 ⟨G42, O43, s44, sm47, rfl⟩
  replace O43 : Ow G42 H49 (L) := O43
  refine W.q1 (.int .i64 x39) rfl (.nil ?_)
  obtain rfl := Option.some.inj h41
  exact ⟨x39, _, rfl, O43, s44, rfl⟩
 rintro σ52 H53 fr54 ⟨x51, G55, rfl, O56, s57, t59⟩
 have h60 := tu1_inv h36
 refine .seq (.seq ?_)
 obtain ⟨q61, h62, h63⟩ := bd_inv h60
 refine AW.midT (fun σ' H' => ∃ (y1 : Bool) (G' : GM), y1 = q61 ∧ Ow G' H' (L) ∧ GM.le G55 G' ∧ σ' 38 = .bool y1) ?_ ?_
 ·refine .region (W.q2 (.int .i64 x23) ((fr54 8 rfl).trans rfl) (W.q3 (.bool (x23 == 5)) rfl rfl (W.q2 (.bool (x23 == 5)) rfl (W.splitAt (t := 28) (b := (x23 == 5)) rfl (fun g64 gv65 => ?_) (fun g64 gv65 => ?_)))))
  ·have h66 := pos_inv g64 h62
   refine W.q6 rfl gv65 (W.q6 rfl gv65 (W.q4 (.bool true) gv65 rfl (W.q2 (.bool true) rfl (W.q6 rfl rfl (W.q6 rfl rfl (W.skipU rfl rfl rfl rfl ?_))))))
   refine W.skipU rfl rfl rfl rfl (W.q6 rfl rfl (W.q4 (.bool true) rfl rfl (.nil ?_)))
   obtain rfl := Option.some.inj h66
   exact ⟨true, _, rfl, O56, (GM.le.refl _), rfl⟩
  have h67 := neg_b g64 h62
  refine W.q2 (hg := gk rfl rfl gv65 rfl) (.int .i64 x51) t59 (W.q3 (hg := gk rfl rfl gv65 rfl) (.bool (x51 == 5)) rfl rfl (W.q5 (.bool (x51 == 5)) gv65 rfl (W.q2 (.bool (x51 == 5)) rfl (W.splitAt (t := 32) (b := (x51 == 5)) rfl (fun g68 gv69 => ?_) (fun g68 gv69 => ?_)))))
  ·have h70 := pos_inv g68 h67
   refine W.q6 rfl gv69 (W.q6 rfl gv69 (W.skipU rfl rfl rfl rfl (W.skipU rfl rfl rfl rfl (W.q6 rfl gv69 (W.q4 (.bool true) gv69 rfl (.nil ?_))))))
   obtain rfl := Option.some.inj h70
   exact ⟨true, _, rfl, O56, (GM.le.refl _), rfl⟩
  have h71 := neg_b g68 h67
  refine W.q2 (hg := gk rfl rfl gv69 rfl) (.bool x1.2) ((fr54 4 rfl).trans rfl) (W.q2 (hg := gk rfl rfl gv69 rfl) (.bool x1.2) rfl (W.splitAt (t := 34) (b := x1.2) rfl (fun g72 gv73 => ?_) (fun g72 gv73 => ?_)))
  rotate_left
  ·have h75 := neg_b g72 h71
   refine W.q6 rfl gv73 (W.q6 rfl gv73 (W.q5 (hg := gk rfl rfl gv69 rfl) (.bool false) gv73 rfl (W.q5 (.bool false) gv69 rfl (.nil ?_))))
   obtain rfl := Option.some.inj h75
   exact ⟨false, _, rfl, O56, (GM.le.refl _), rfl⟩
  have h74 := pos_inv g72 h71
  refine W.q2 (hg := gk rfl rfl gv73 rfl) (.string x12.1) ((fr54 5 rfl).trans rfl) (W.pure (v := (.bool (sEq x12.1 (⟨#[48]⟩ : ByteArray)))) (gk rfl rfl gv73 rfl) rfl (vs_eql (oo rfl rfl) (oo rfl rfl)) (W.q4 (hg := gk rfl rfl gv69 rfl) (.bool (sEq x12.1 (⟨#[48]⟩ : ByteArray))) gv73 rfl (W.q5 (.bool (sEq x12.1 (⟨#[48]⟩ : ByteArray))) gv69 rfl (.nil ?_))))
  obtain rfl := Option.some.inj h74
  exact ⟨sEq x12.1 (⟨#[48]⟩ : ByteArray), _, rfl, O56, (GM.le.refl _), rfl⟩
 rintro σ77 H78 fr79 ⟨x76, G80, rfl, O81, s82, t84⟩
 have h85 := tu1_inv h63
 refine .cond (b := x76) rfl t84 (fun g86 => ?_) (fun g86 => ?_)
 ·have h87 := pos_inv g86 h85
  refine .seq (.region (W.q1 (.int .i64 5) rfl (.nil (.ret ?_))))
  obtain rfl := Option.some.inj h87
  refine ret1R (P := Tryz.prog) (fn := Tryz.f28) (n := 64) (R := fun v H' => ∃ G', Ow G' H' (L) ∧ G.le G' ∧ v = .int .i64 5) (v1 := (.int .i64 5)) (by rfl) (rr_tmp (by rfl) (by exact rfl)) ?_
  exact ⟨_, O81, (GM.le.trans s6 (GM.le.trans s17 (GM.le.trans s28 (GM.le.trans s57 s82)))), rfl⟩
 have h88 := neg_b g86 h85
 refine .skip (.seq (.seq ?_))
 obtain ⟨q89, h90, h91⟩ := bd_inv h88
 refine AW.midT (fun σ' H' => ∃ (y1 : Bool) (G' : GM), y1 = q89 ∧ Ow G' H' (L) ∧ GM.le G80 G' ∧ σ' 44 = .bool y1) ?_ ?_
 ·refine .region (W.q2 (.int .i64 x23) ((fr79 8 rfl).trans ((fr54 8 rfl).trans rfl)) (W.q3 (.bool (x23 != 0)) rfl rfl (W.q2 (.bool (x23 != 0)) rfl (W.splitAt (t := 41) (b := (x23 != 0)) rfl (fun g92 gv93 => ?_) (fun g92 gv93 => ?_)))))
  ·have h94 := pos_inv g92 h90
   refine W.q6 rfl gv93 (W.q6 rfl gv93 (W.q4 (.bool true) gv93 rfl (.nil ?_)))
   obtain rfl := Option.some.inj h94
   exact ⟨true, _, rfl, O81, (GM.le.refl _), rfl⟩
  have h95 := neg_b g92 h90
  refine W.q2 (hg := gk rfl rfl gv93 rfl) (.int .i64 x51) ((fr79 9 rfl).trans t59) (W.q3 (hg := gk rfl rfl gv93 rfl) (.bool (x51 != 0)) rfl rfl (W.q5 (.bool (x51 != 0)) gv93 rfl (.nil ?_)))
  obtain rfl := Option.some.inj h95
  exact ⟨(x51 != 0), _, rfl, O81, (GM.le.refl _), rfl⟩
 rintro σ97 H98 fr99 ⟨x96, G100, rfl, O101, s102, t104⟩
 have h105 := tu1_inv h91
 refine .cond (b := x96) rfl t104 (fun g106 => ?_) (fun g106 => ?_)
 ·have h107 := pos_inv g106 h105
  refine .seq (.region (W.q1 (.int .i64 2) rfl (.nil (.ret ?_))))
  obtain rfl := Option.some.inj h107
  refine ret1R (P := Tryz.prog) (fn := Tryz.f28) (n := 64) (R := fun v H' => ∃ G', Ow G' H' (L) ∧ G.le G' ∧ v = .int .i64 2) (v1 := (.int .i64 2)) (by rfl) (rr_tmp (by rfl) (by exact rfl)) ?_
  exact ⟨_, O101, (GM.le.trans s6 (GM.le.trans s17 (GM.le.trans s28 (GM.le.trans s57 (GM.le.trans s82 s102))))), rfl⟩
 have h108 := neg_b g106 h105
 refine .skip (.seq (.seq ?_))
 obtain ⟨q109, h110, h111⟩ := bd_inv h108
 refine AW.midT (fun σ' H' => ∃ (y1 : Bool) (G' : GM), y1 = q109 ∧ Ow G' H' (L) ∧ GM.le G100 G' ∧ σ' 63 = .bool y1) ?_ ?_
 rotate_left
 ·rintro σ197 H198 fr199 ⟨x196, G200, rfl, O201, s202, t204⟩
  have h205 := tu1_inv h111
  refine .cond (b := x196) rfl t204 (fun g206 => ?_) (fun g206 => ?_)
  ·have h207 := pos_inv g206 h205
   refine .seq (.region (W.q1 (.int .i64 3) rfl (.nil (.ret ?_))))
   obtain rfl := Option.some.inj h207
   refine ret1R (P := Tryz.prog) (fn := Tryz.f28) (n := 64) (R := fun v H' => ∃ G', Ow G' H' (L) ∧ G.le G' ∧ v = .int .i64 3) (v1 := (.int .i64 3)) (by rfl) (rr_tmp (by rfl) (by exact rfl)) ?_
   exact ⟨_, O201, (GM.le.trans s6 (GM.le.trans s17 (GM.le.trans s28 (GM.le.trans s57 (GM.le.trans s82 (GM.le.trans s102 s202)))))), rfl⟩
  have h208 := neg_b g206 h205
  refine .skip (.seq (.region (W.q1 (.int .i64 0) rfl (.nil (.ret ?_)))))
  obtain rfl := Option.some.inj h208
  refine ret1R (P := Tryz.prog) (fn := Tryz.f28) (n := 64) (R := fun v H' => ∃ G', Ow G' H' (L) ∧ G.le G' ∧ v = .int .i64 0) (v1 := (.int .i64 0)) (by rfl) (rr_tmp (by rfl) (by exact rfl)) ?_
  exact ⟨_, O201, (GM.le.trans s6 (GM.le.trans s17 (GM.le.trans s28 (GM.le.trans s57 (GM.le.trans s82 (GM.le.trans s102 s202)))))), rfl⟩
 refine .region (W.q2 (.bool x12.2.2) ((fr99 7 rfl).trans ((fr79 7 rfl).trans ((fr54 7 rfl).trans rfl))) (W.q2 (.bool x12.2.2) rfl (W.splitAt (t := 46) (b := x12.2.2) rfl (fun g112 gv113 => ?_) (fun g112 gv113 => ?_))))
 rotate_left
 ·have h195 := neg_b g112 h110
  refine W.q6 rfl gv113 (W.q6 rfl gv113 (W.q6 rfl gv113 (W.skipU rfl rfl rfl rfl (W.skipU rfl rfl rfl rfl (W.q6 rfl gv113 (W.q6 rfl gv113 ?_))))))
  refine W.skipU rfl rfl rfl rfl (W.skipU rfl rfl rfl rfl (W.skipU rfl rfl rfl rfl (W.skipU rfl rfl rfl rfl (W.skipU rfl rfl rfl rfl (W.skipU rfl rfl rfl rfl (W.skipU rfl rfl rfl rfl ?_))))))
  refine W.skipU rfl rfl rfl rfl (W.q6 rfl gv113 (W.q5 (.bool false) gv113 rfl (.nil ?_)))
  obtain rfl := Option.some.inj h195
  exact ⟨false, _, rfl, O101, (GM.le.refl _), rfl⟩
 have h114 := pos_inv g112 h110
 refine W.q2 (hg := gk rfl rfl gv113 rfl) (.string x12.2.1) ((fr99 6 rfl).trans ((fr79 6 rfl).trans ((fr54 6 rfl).trans rfl))) (W.pure (v := (.bool (sEq x12.2.1 (⟨#[48]⟩ : ByteArray)))) (gk rfl rfl gv113 rfl) rfl (vs_eql (oo rfl rfl) (oo rfl rfl)) (W.q2 (hg := gk rfl rfl gv113 rfl) (.bool (sEq x12.2.1 (⟨#[48]⟩ : ByteArray))) rfl (W.splitAt (t := 49) (b := sEq x12.2.1 (⟨#[48]⟩ : ByteArray)) rfl (fun g115 gv116 => ?_) (fun g115 gv116 => ?_))))
 ·have h117 := pos_inv g115 h114
  refine W.q6 rfl gv116 (W.q6 rfl gv116 (W.q4 (hg := gk rfl rfl gv113 rfl) (.bool true) gv116 rfl (W.q2 (hg := gk rfl rfl gv113 rfl) (.bool true) rfl (W.q6 rfl rfl (W.q6 rfl rfl (W.q6 rfl rfl ?_))))))
  refine W.q6 rfl rfl (W.q6 rfl rfl (W.q6 rfl rfl (W.q6 rfl rfl (W.q6 rfl rfl (W.q4 (hg := gk rfl rfl gv113 rfl) (.bool true) rfl rfl (W.q4 (.bool true) gv113 rfl ?_))))))
  refine .nil ?_
  obtain rfl := Option.some.inj h117
  exact ⟨true, _, rfl, O101, (GM.le.refl _), rfl⟩
 have h118 := neg_b g115 h114
 refine W.q2 (hg := gk rfl rfl gv116 rfl) (.string x12.2.1) ((fr99 6 rfl).trans ((fr79 6 rfl).trans ((fr54 6 rfl).trans rfl))) (W.pure (v := (.bool (sEq x12.2.1 (⟨#[49]⟩ : ByteArray)))) (gk rfl rfl gv116 rfl) rfl (vs_eql (oo rfl rfl) (oo rfl rfl)) (W.q5 (hg := gk rfl rfl gv113 rfl) (.bool (sEq x12.2.1 (⟨#[49]⟩ : ByteArray))) gv116 rfl (W.q2 (hg := gk rfl rfl gv113 rfl) (.bool (sEq x12.2.1 (⟨#[49]⟩ : ByteArray))) rfl (W.splitAt (t := 53) (b := sEq x12.2.1 (⟨#[49]⟩ : ByteArray)) rfl (fun g119 gv120 => ?_) (fun g119 gv120 => ?_)))))
 ·have h121 := pos_inv g119 h118
  refine W.q6 rfl gv120 (W.q6 rfl gv120 (W.q6 rfl gv120 (W.q6 rfl gv120 (W.q6 rfl gv120 (W.q6 rfl gv120 (W.q6 rfl gv120 ?_))))))
  refine W.q6 rfl gv120 (W.q4 (hg := gk rfl rfl gv113 rfl) (.bool true) gv120 rfl (W.q4 (.bool true) gv113 rfl (.nil ?_)))
  obtain rfl := Option.some.inj h121
  exact ⟨true, _, rfl, O101, (GM.le.refl _), rfl⟩
 have h122 := neg_b g119 h118
 refine W.q2 (hg := gk rfl rfl gv120 rfl) (.string x12.1) ((fr99 5 rfl).trans ((fr79 5 rfl).trans ((fr54 5 rfl).trans rfl))) ?_
 obtain ⟨x123, i124, h125⟩ := bd_inv h122
 refine W.lo (gk rfl rfl gv120 rfl) rfl (Lo.callPF (ps := []) (pw := fun w => [eSl w 64 (rI .u32) x123]) rfl (fn := Tryz.f65) (by kernel_rfl) rfl (mc rfl mn) O101 (fun L' O' => g_nat_Read_ok K x12.1 O' _ i124)) ?_
 rintro v134 H135 ⟨w131, G126, O127, s128, sm133, rfl⟩
 replace O127 : Ow G126 H135 (eSl w131 64 (rI .u32) x123 :: L) := O127
 refine W.q2 (hg := gk rfl rfl gv120 rfl) (.string x12.2.1) ((fr99 6 rfl).trans ((fr79 6 rfl).trans ((fr54 6 rfl).trans rfl))) ?_
 obtain ⟨x136, i137, h138⟩ := bd_inv h125
 refine W.lo (gk rfl rfl gv120 rfl) rfl (Lo.callPF (ps := []) (pw := fun w => [eSl w 64 (rI .u32) x136]) rfl (fn := Tryz.f65) (by kernel_rfl) rfl (mc rfl mn) O127 (fun L' O' => g_nat_Read_ok K x12.2.1 O' _ i137)) ?_
 rintro v147 H148 ⟨w144, G139, O140, s141, sm146, rfl⟩
 replace O140 : Ow G139 H148 (eSl w144 64 (rI .u32) x136 :: eSl w131 64 (rI .u32) x123 :: L) := O140
 obtain ⟨G149, O150, s151, f152⟩ := O140.frzSl (j := 1) rfl
 replace O150 : Ow G149 H148 (eSl w144 64 (rI .u32) x136 :: L) := O150
 obtain ⟨G153, O154, s155, f156⟩ := O150.frzSl (j := 0) rfl
 replace O154 : Ow G153 H148 (L) := O154
 obtain ⟨x157, i158, h159⟩ := bd_inv h138
 refine W.lo (gk rfl rfl gv120 rfl) rfl (Lo.callP (ps := []) (ps' := []) rfl (fn := Tryz.f66) (by kernel_rfl) rfl (mc rfl (mc rfl mn)) O154 (fun L' O' => g_nat_N_Gcd_ok K w131 x123 (RT.mono _ s155 f152) w144 x136 f156 O' _ i158)) ?_
 rintro v168 H169 ⟨G160, O161, s162, sm167, ⟨w164, rfl, f165⟩⟩
 replace O161 : Ow G160 H169 (L) := O161
 obtain ⟨x170, i171, h172⟩ := bd_inv h159
 refine W.lo (gk rfl rfl gv120 rfl) rfl (Lo.callPF (ps := []) (pw := fun w => [eSl w 64 (rI .u32) x170]) rfl (fn := Tryz.f41) (by kernel_rfl) rfl (mc rfl mn) O161 (fun L' O' => g_nat_Of_ok K 1 O' _ i171)) ?_
 rintro v181 H182 ⟨w178, G173, O174, s175, sm180, rfl⟩
 replace O174 : Ow G173 H182 (eSl w178 64 (rI .u32) x170 :: L) := O174
 obtain ⟨x183, i184, h185⟩ := bd_inv h172
 refine W.lo (gk rfl rfl gv120 rfl) rfl (Lo.callB (j := 0) rfl rfl (fn := Tryz.f40) (by kernel_rfl) rfl (mc rfl (mc rfl mn)) O174 (fun G' L' hG O' hB => g_nat_N_Cmp_ok K w164 x157 (RT.mono _ hG (RT.mono _ s175 f165)) w178 x170 hB O' _ i184)) ?_
 rintro v192 H193 ⟨G186, O187, s188, sm191, rfl⟩
 replace O187 : Ow G186 H193 (eSl w178 64 (rI .u32) x170 :: L) := O187
 refine W.q3 (hg := gk rfl rfl gv120 rfl) (.bool (x183 != 0)) rfl rfl (W.q5 (hg := gk rfl rfl gv113 rfl) (.bool (x183 != 0)) gv120 rfl (W.q4 (.bool (x183 != 0)) gv113 rfl (.nil ?_)))
 have O194 : Ow G186 H193 (L) := O187.drop 0
 obtain rfl := Option.some.inj h185
 exact ⟨(x183 != 0), _, rfl, O194, (GM.le.trans s128 (GM.le.trans s141 (GM.le.trans s151 (GM.le.trans s155 (GM.le.trans s162 (GM.le.trans s175 s188)))))), rfl⟩
def g_rat_CheckAll_l0 (K : Nat) (p0 : List ByteArray) : Nat → Int → Option (Int ⊕ Unit)
  | 0, _ => none
  | k + 1, x5 => (if (decide (x5 < (List.length p0 : Int))) = true then ((idx p0 x5).bind fun x16 => ((g_rat_Check K x16).bind fun x20 => (if (x20 != 0) = true then some (.inl x20) else g_rat_CheckAll_l0 K p0 k (kwrap .i64 (x5 + 1))))) else some (.inr ()))
def g_rat_CheckAll (K : Nat) (p0 : List ByteArray) : Option Int := (bindS (g_rat_CheckAll_l0 K p0 K 0) (tu1 fun a44 => some a44) (tu0 (some 0)))
set_option maxHeartbeats 4000000 in
theorem g_rat_CheckAll_ok (K : Nat) {G : GM} {H : AH} {L : List Pc} (v0 : Value) (p0 : List ByteArray) (hp0 : (rSl rS).rep G [v0] p0) (O : Ow G H (L)) (r : Int) (h : g_rat_CheckAll K p0 = some r) :
    CR Tryz.prog 29 [v0] G H (L) (fun v G' _ => v = .int .i64 r) := by
 unfold g_rat_CheckAll at h
 refine CR.of (calls_of_AW (n := 18) (fn := Tryz.f29) (R := fun v H' => ∃ G', Ow G' H' (L) ∧ G.le G' ∧ v = .int .i64 r) (by kernel_rfl) rfl rfl ?_)
 refine .seq (.region (W.q1 (.int .i64 0) rfl (.nil (.seq (.seq (.region ?_))))))
 refine W.q2 v0 rfl (W.pure (v := (.int .i64 (List.length p0 : Int))) rfl rfl (len_sl (oo rfl rfl) (sl_len hp0) (elemT_inv el31)) (W.q2 (.int .i64 0) rfl (.nil ?_)))
 obtain ⟨q1, h2, h3⟩ := bindS_inv h
 refine AW.midT (fun σ' H' => ∃  (G' : GM), (.inr ()) = q1 ∧ Ow G' H' (L) ∧ GM.le G G') ?_ ?_
 rotate_left
 ·rintro σ36 H37 fr38 ⟨G39, rfl, O40, s41⟩
  have h43 := tu0_inv (outS_r h3)
  refine .seq (.region (W.q1 (.int .i64 0) rfl (.nil (.ret ?_))))
  obtain rfl := Option.some.inj h43
  refine ret1R (P := Tryz.prog) (fn := Tryz.f29) (n := 18) (R := fun v H' => ∃ G', Ow G' H' (L) ∧ G.le G' ∧ v = .int .i64 0) (v1 := (.int .i64 0)) (by rfl) (rr_tmp (by rfl) (by exact rfl)) ?_
  exact ⟨_, O40, s41, rfl⟩
 refine .block (AW.loop (α := Nat) (fun k' σ' H' => ∃ (y1 : Int) (G' : GM), g_rat_CheckAll_l0 K p0 k' y1 = some q1 ∧ Ow G' H' (L) ∧ GM.le G G' ∧ σ' 8 = .int .i64 y1) (fun k' => k') K ⟨0, _, h2, O, (GM.le.refl _), rfl⟩ ?_)
 rintro k4
 rintro σ6 H7 fr8 ⟨x5, G9, h12, O10, s11, t13⟩
 rcases k4 with _ | k4
 ·exact none_absurd h12
 rw [g_rat_CheckAll_l0] at h12
 refine .seq (.region (W.q3 (.bool (decide (x5 < (List.length p0 : Int)))) t13 ((fr8 7 rfl).trans rfl) (.nil (.seq (.cond (b := decide (x5 < (List.length p0 : Int))) rfl rfl (fun g14 => ?_) (fun g14 => ?_))))))
 rotate_left
 ·have h35 := neg_b g14 h12
  refine .exit ?_
  obtain rfl := Option.some.inj h35
  exact ⟨_, rfl, O10, s11⟩
 have h15 := pos_inv g14 h12
 refine .skip (.seq (.block (.seq (.region ?_))))
 obtain ⟨x16, i17, h18⟩ := bd_inv h15
 have j19 := idx_inv i17
 refine W.pure (v := (selem v0 (Int.toNat x5 * 1))) rfl rfl (v_idx el31 sz22 (oo rfl ((fr8 6 rfl).trans rfl)) (oo rfl t13) (sl_len (RT.mono _ s11 hp0)) j19.1 j19.2.1) (W.load1 (v := (.string x16)) (r := []) rfl rfl ag22 (pt_px rfl (At.str (At.le (At.le (sl_idx hp0 j19.2.2) s11 s11) (GM.le.refl _) O10.fro))) (W.q1 (.string x16) rfl (.nil (.seq (.region (W.q2 (.string x16) rfl ?_))))))
 obtain ⟨x20, i21, h22⟩ := bd_inv h18
 refine W.lo rfl rfl (Lo.callP (ps := []) (ps' := []) rfl (fn := Tryz.f28) (by kernel_rfl) rfl (mc rfl mn) O10 (fun L' O' => g_rat_Check_ok K x16 O' _ i21)) ?_
 rintro v29 H30 ⟨G23, O24, s25, sm28, rfl⟩
 replace O24 : Ow G23 H30 (L) := O24
 refine W.q1 (.int .i64 x20) rfl (.nil (.seq (.region (W.q2 (.int .i64 x20) rfl (W.q3 (.bool (x20 != 0)) rfl rfl (.nil ?_))))))
 refine .cond (b := (x20 != 0)) rfl rfl (fun g31 => ?_) (fun g31 => ?_)
 rotate_left
 ·have h34 := neg_b g31 h22
  refine .skip (.region (W.q3 (.int .i64 (kwrap .i64 (x5 + 1))) t13 rfl (W.q2 (.int .i64 (kwrap .i64 (x5 + 1))) rfl (.nil ?_))))
  exact ⟨k4, Nat.lt_succ_self _, ⟨kwrap .i64 (x5 + 1), _, h34, O24, (GM.le.trans s11 s25), rfl⟩⟩
 have h32 := pos_inv g31 h22
 refine .seq (.region (W.q2 (.int .i64 x20) rfl (W.q1 (.int .i64 x20) rfl (.nil (.ret ?_)))))
 obtain rfl := Option.some.inj h32
 have h33 := tu1_inv (outS_l h3)
 obtain rfl := Option.some.inj h33
 refine ret1R (P := Tryz.prog) (fn := Tryz.f29) (n := 18) (R := fun v H' => ∃ G', Ow G' H' (L) ∧ G.le G' ∧ v = .int .i64 x20) (v1 := (.int .i64 x20)) (by rfl) (rr_tmp (by rfl) (by exact rfl)) ?_
 exact ⟨_, O24, (GM.le.trans s11 s25), rfl⟩
def g_rat_In (K : Nat) (p0 : ByteArray) : Option Q := ((g_strings_CutPrefix K p0 (⟨#[45]⟩ : ByteArray)).bind fun x6 => ((g_strings_Cut K x6.1 (⟨#[47]⟩ : ByteArray)).bind fun x17 => ((g_nat_Read K x17.1).bind fun x28 => ((g_nat_Of K 1).bind fun x41 => (Option.bind ((if x17.2.2 = true then ((g_nat_Read K x17.2.1).bind fun x79 => some ({ (Q.mk x6.2 x28 x41) with den := x79 })) else some (Q.mk x6.2 x28 x41))) (tu1 fun x101 => some x101))))))
set_option maxHeartbeats 4000000 in
theorem g_rat_In_ok (K : Nat) {G : GM} {H : AH} {L : List Pc} (p0 : ByteArray) (O : Ow G H (L)) (r : Q) (h : g_rat_In K p0 = some r) :
    CR Tryz.prog 30 [(.string p0)] G H (L) (fun v G' _ => ∃ (w0 : List Value), v = .agg (List.toArray w0) ∧ T_Q.rep G' w0 r) := by
 unfold g_rat_In at h
 refine CR.of (calls_of_AW (n := 30) (fn := Tryz.f30) (R := fun v H' => ∃ G', Ow G' H' (L) ∧ G.le G' ∧ ∃ (w0 : List Value), v = .agg (List.toArray w0) ∧ T_Q.rep G' w0 r) (by kernel_rfl) rfl rfl ?_)
 refine .seq (.region (W.lo rfl rfl (Lo.alloc (r := T_Q) (x0 := (Q.mk false ([] : List Int) ([] : List Int))) ze48 (by kernel_rfl) z_Q O) ?_))
 rintro v4 H5 ⟨b2, rfl, O1, sm3⟩
 refine .nil (.seq (.region (W.q2 (.string p0) rfl ?_)))
 obtain ⟨x6, i7, h8⟩ := bd_inv h
 refine W.lo rfl rfl (Lo.callP (ps := []) (ps' := []) rfl (fn := Tryz.f62) (by kernel_rfl) rfl (mc rfl (mc rfl mn)) O1 (fun L' O' => g_strings_CutPrefix_ok K p0 (⟨#[45]⟩ : ByteArray) O' _ i7)) ?_
 rintro v15 H16 ⟨G9, O10, s11, sm14, rfl⟩
 replace O10 : Ow G9 H16 (eVar b2 48 T_Q (Q.mk false ([] : List Int) ([] : List Int)) :: L) := O10
 refine W.q2 (.tuple #[(.string x6.1), (.bool x6.2)]) rfl (W.pure (v := (.string x6.1)) rfl rfl (v_extract (oo rfl rfl) rfl) (W.pure (v := (.bool x6.2)) rfl rfl (v_extract (oo rfl rfl) rfl) (W.q1 (.string x6.1) rfl (W.q1 (.bool x6.2) rfl (.nil (.seq ?_))))))
 refine .region (W.q2 (.string x6.1) rfl ?_)
 obtain ⟨x17, i18, h19⟩ := bd_inv h8
 refine W.lo rfl rfl (Lo.callP (ps := []) (ps' := []) rfl (fn := Tryz.f63) (by kernel_rfl) rfl (mc rfl (mc rfl mn)) O10 (fun L' O' => g_strings_Cut_ok K x6.1 (⟨#[47]⟩ : ByteArray) O' _ i18)) ?_
 rintro v26 H27 ⟨G20, O21, s22, sm25, rfl⟩
 replace O21 : Ow G20 H27 (eVar b2 48 T_Q (Q.mk false ([] : List Int) ([] : List Int)) :: L) := O21
 refine W.q2 (.tuple #[(.string x17.1), (.string x17.2.1), (.bool x17.2.2)]) rfl (W.pure (v := (.string x17.1)) rfl rfl (v_extract (oo rfl rfl) rfl) (W.pure (v := (.string x17.2.1)) rfl rfl (v_extract (oo rfl rfl) rfl) (W.pure (v := (.bool x17.2.2)) rfl rfl (v_extract (oo rfl rfl) rfl) (W.q1 (.string x17.1) rfl (W.q1 (.string x17.2.1) rfl (W.q1 (.bool x17.2.2) rfl ?_))))))
 refine .nil (.seq (.region (W.q2 (.bool x6.2) rfl (W.q2 (.string x17.1) rfl ?_))))
 obtain ⟨x28, i29, h30⟩ := bd_inv h19
 refine W.lo rfl rfl (Lo.callPF (ps := []) (pw := fun w => [eSl w 64 (rI .u32) x28]) rfl (fn := Tryz.f65) (by kernel_rfl) rfl (mc rfl mn) O21 (fun L' O' => g_nat_Read_ok K x17.1 O' _ i29)) ?_
 rintro v39 H40 ⟨w36, G31, O32, s33, sm38, rfl⟩
 replace O32 : Ow G31 H40 (eSl w36 64 (rI .u32) x28 :: eVar b2 48 T_Q (Q.mk false ([] : List Int) ([] : List Int)) :: L) := O32
 obtain ⟨x41, i42, h43⟩ := bd_inv h30
 refine W.lo rfl rfl (Lo.callPF (ps := []) (pw := fun w => [eSl w 64 (rI .u32) x41]) rfl (fn := Tryz.f41) (by kernel_rfl) rfl (mc rfl mn) O32 (fun L' O' => g_nat_Of_ok K 1 O' _ i42)) ?_
 rintro v52 H53 ⟨w49, G44, O45, s46, sm51, rfl⟩
 replace O45 : Ow G44 H53 (eSl w49 64 (rI .u32) x41 :: eSl w36 64 (rI .u32) x28 :: eVar b2 48 T_Q (Q.mk false ([] : List Int) ([] : List Int)) :: L) := O45
 obtain ⟨G54, O55, s56, f57⟩ := O45.frzSl (j := 1) rfl
 replace O55 : Ow G54 H53 (eSl w49 64 (rI .u32) x41 :: eVar b2 48 T_Q (Q.mk false ([] : List Int) ([] : List Int)) :: L) := O55
 obtain ⟨G58, O59, s60, f61⟩ := O55.frzSl (j := 0) rfl
 replace O59 : Ow G58 H53 (eVar b2 48 T_Q (Q.mk false ([] : List Int) ([] : List Int)) :: L) := O59
 obtain ⟨c62, e64, f63⟩ := bd_Q_0_1_2 ((.bool x6.2)) (w36) (w49) (rfl) ((sl_cells (RT.mono _ s60 f57))) ((sl_cells f61))
 refine W.pure (v := .agg (List.toArray c62)) rfl rfl (e64 (opndP_oo rfl (qc' rfl (qc' rfl (qc' rfl qn'))))) (W.lo rfl rfl (Lo.alloc (r := T_Q) (x0 := (Q.mk false ([] : List Int) ([] : List Int))) ze48 (by kernel_rfl) z_Q O59) ?_)
 rintro v68 H69 ⟨b66, rfl, O65, sm67⟩
 refine W.lo rfl rfl (Lo.storeVar (j := 0) (s := T_Q) (y0 := (Q.mk x6.2 x28 x41)) (v := (.agg (List.toArray c62))) (o := 0) rfl ((Put.at (Put.self _) _ _)) rfl sz48 rfl (by omega) rfl f63 O65) ?_
 rintro v72 H73 ⟨O70, sm71⟩
 replace O70 : Ow G58 H73 (eVar b66 48 T_Q (Q.mk x6.2 x28 x41) :: eVar b2 48 T_Q (Q.mk false ([] : List Int) ([] : List Int)) :: L) := O70
 refine .nil (.seq (.seq (.region (W.q2 (.bool x17.2.2) rfl (.nil ?_)))))
 obtain ⟨q74, h75, h76⟩ := bd_inv h43
 refine AW.midT (fun σ' H' => ∃ (y1 : Q) (G' : GM), y1 = q74 ∧ Ow G' H' (eVar b66 48 T_Q y1 :: eVar b2 48 T_Q (Q.mk false ([] : List Int) ([] : List Int)) :: L) ∧ GM.le G58 G') ?_ ?_
 rotate_left
 ·rintro σ102 H103 fr104 ⟨x101, G105, rfl, O106, s107⟩
  have h109 := tu1_inv h76
  refine .seq (.region ?_)
  obtain ⟨c110, p111, f112⟩ := (O106.atVar (j := 0) rfl)
  refine W.loadA (cs := c110) rfl rfl ag48 sz48 (pt_px ((fr104 8 rfl).trans rfl) p111) (RT.len _ f112) (W.lo rfl rfl (Lo.storeVar (j := 1) (s := T_Q) (y0 := x101) (v := (.agg (List.toArray c110))) (o := 0) rfl ((Put.at (Put.self _) _ _)) rfl sz48 ((fr104 2 rfl).trans rfl) (by omega) rfl f112 O106) ?_)
  rintro v115 H116 ⟨O113, sm114⟩
  replace O113 : Ow G105 H116 (eVar b66 48 T_Q x101 :: eVar b2 48 T_Q x101 :: L) := O113
  refine .nil (.ret ?_)
  obtain ⟨c117, p118, f119⟩ := (O113.atVar (j := 1) rfl)
  have O120 : Ow G105 H116 (eVar b2 48 T_Q x101 :: L) := O113.drop 0
  have O121 : Ow G105 H116 (L) := O120.drop 0
  obtain rfl := Option.some.inj h109
  refine ret1R (P := Tryz.prog) (fn := Tryz.f30) (n := 30) (R := fun v H' => ∃ G', Ow G' H' (L) ∧ G.le G' ∧ ∃ (w0 : List Value), v = .agg (List.toArray w0) ∧ T_Q.rep G' w0 x101) (v1 := (.agg (List.toArray c117))) (by rfl) (rr_cellA (p := (.pointer (some ⟨b2, 0, none⟩))) (by rfl) ag48 sz48 (by exact ((fr104 2 rfl).trans rfl)) p118 (RT.len _ f119)) ?_
  exact ⟨_, O121, (GM.le.trans s11 (GM.le.trans s22 (GM.le.trans s33 (GM.le.trans s46 (GM.le.trans s56 (GM.le.trans s60 s107)))))), c117, rfl, f119⟩
 refine .cond (b := x17.2.2) rfl rfl (fun g77 => ?_) (fun g77 => ?_)
 rotate_left
 ·have h100 := neg_b g77 h75
  refine .skip ?_
  obtain rfl := Option.some.inj h100
  exact ⟨(Q.mk x6.2 x28 x41), _, rfl, O70, (GM.le.refl _)⟩
 have h78 := pos_inv g77 h75
 refine .region (W.q2 (.string x17.2.1) rfl ?_)
 obtain ⟨x79, i80, h81⟩ := bd_inv h78
 refine W.lo rfl rfl (Lo.callPF (ps := []) (pw := fun w => [eSl w 64 (rI .u32) x79]) rfl (fn := Tryz.f65) (by kernel_rfl) rfl (mc rfl mn) O70 (fun L' O' => g_nat_Read_ok K x17.2.1 O' _ i80)) ?_
 rintro v90 H91 ⟨w87, G82, O83, s84, sm89, rfl⟩
 replace O83 : Ow G82 H91 (eSl w87 64 (rI .u32) x79 :: eVar b66 48 T_Q (Q.mk x6.2 x28 x41) :: eVar b2 48 T_Q (Q.mk false ([] : List Int) ([] : List Int)) :: L) := O83
 refine W.pure (v := (padd (.pointer (some ⟨b66, 0, none⟩)) 2)) rfl rfl (v_fldA fl48_2 (oo rfl rfl) (O83.atVar (j := 1) rfl)) ?_
 obtain ⟨G92, O93, s94, f95⟩ := O83.frzSl (j := 0) rfl
 replace O93 : Ow G92 H91 (eVar b66 48 T_Q (Q.mk x6.2 x28 x41) :: eVar b2 48 T_Q (Q.mk false ([] : List Int) ([] : List Int)) :: L) := O93
 refine W.lo rfl rfl (Lo.storeVar (j := 0) (s := (rSl (rI .u32))) (y0 := x79) (v := w87) (o := 2) rfl ((Put.at u_Q_den _ _)) rfl sz46 rfl (by omega) rfl (sl_cells f95) O93) ?_
 rintro v98 H99 ⟨O96, sm97⟩
 replace O96 : Ow G92 H99 (eVar b66 48 T_Q ({ (Q.mk x6.2 x28 x41) with den := x79 }) :: eVar b2 48 T_Q (Q.mk false ([] : List Int) ([] : List Int)) :: L) := O96
 refine .nil ?_
 obtain rfl := Option.some.inj h81
 exact ⟨{ (Q.mk x6.2 x28 x41) with den := x79 }, _, rfl, O96, (GM.le.trans s84 s94)⟩
def g_rat_two (K : Nat) (p0 : ByteArray) (p1 : ByteArray) (p2 : Q × Q → Option Q) : Option (ByteArray × Int) := ((g_rat_CheckAll K [p0, p1]).bind fun x5 => (if (x5 != 0) = true then some ((⟨#[]⟩ : ByteArray), x5) else ((g_rat_In K p0).bind fun x20 => ((g_rat_In K p1).bind fun x33 => ((p2 (x20, x33)).bind fun x46 => ((g_rat_told K x46).bind fun x57 => some (x57.1, x57.2)))))))
set_option maxHeartbeats 4000000 in
theorem g_rat_two_ok (K : Nat) {G : GM} {H : AH} {L : List Pc} (p0 : ByteArray) (p1 : ByteArray) (v2 : Value) (p2 : Q × Q → Option Q) (hp2 : FnOk Tryz.prog G v2 (fun G vs (x : (Q × Q)) => ∃ (v0 : List Value), ∃ (v1 : List Value), vs = [.agg (List.toArray v0), .agg (List.toArray v1)] ∧ T_Q.rep G v0 x.1 ∧ T_Q.rep G v1 x.2) (fun G v (rr : (Q)) => ∃ (w0 : List Value), v = .agg (List.toArray w0) ∧ T_Q.rep G w0 rr) p2) (O : Ow G H (L)) (r : ByteArray × Int) (h : g_rat_two K p0 p1 p2 = some r) :
    CR Tryz.prog 49 [(.string p0), (.string p1), v2] G H (L) (fun v G' _ => v = .tuple #[.string r.1, .int .i64 r.2]) := by
 unfold g_rat_two at h
 refine CR.of (calls_of_AW (n := 25) (fn := Tryz.f49) (R := fun v H' => ∃ G', Ow G' H' (L) ∧ G.le G' ∧ v = .tuple #[.string r.1, .int .i64 r.2]) (by kernel_rfl) rfl rfl ?_)
 refine .seq (.region (W.q1 (.string (⟨#[]⟩ : ByteArray)) rfl (W.q1 (.int .i64 0) rfl (.nil (.seq (.seq ?_))))))
 refine .region (W.q2 (.string p0) rfl (W.q2 (.string p1) rfl (W.lo rfl rfl (Lo.buildSlice (r := rS) (vs := [(.string p0), (.string p1)]) (xs := [p0, p1]) el31 ze22 sz22 (by kernel_rfl) rfl (qc rfl (qc rfl qn)) rfl (.cons rfl (.cons rfl .nil)) O) ?_)))
 rintro v3 H4 ⟨O1, sm2⟩
 obtain ⟨x5, i6, h7⟩ := bd_inv h
 refine W.lo rfl rfl (Lo.callB (j := 0) rfl rfl (fn := Tryz.f29) (by kernel_rfl) rfl (mc rfl mn) O1 (fun G' L' hG O' hB => g_rat_CheckAll_ok K v3 [p0, p1] hB O' _ i6)) ?_
 rintro v14 H15 ⟨G8, O9, s10, sm13, rfl⟩
 replace O9 : Ow G8 H15 (eSl v3 22 rS [p0, p1] :: L) := O9
 refine W.q1 (.int .i64 x5) rfl (.nil (.seq (.region (W.q2 (.int .i64 x5) rfl (W.q3 (.bool (x5 != 0)) rfl rfl (.nil ?_))))))
 refine .cond (b := (x5 != 0)) rfl rfl (fun g16 => ?_) (fun g16 => ?_)
 ·have h17 := pos_inv g16 h7
  refine .seq (.region (W.q2 (.int .i64 x5) rfl (W.q1 (.string (⟨#[]⟩ : ByteArray)) rfl (W.q1 (.int .i64 x5) rfl (.nil (.ret ?_))))))
  have O18 : Ow G8 H15 (L) := O9.drop 0
  obtain rfl := Option.some.inj h17
  refine ret2R (P := Tryz.prog) (fn := Tryz.f49) (n := 25) (R := fun v H' => ∃ G', Ow G' H' (L) ∧ G.le G' ∧ v = .tuple #[.string ((⟨#[]⟩ : ByteArray), x5).1, .int .i64 ((⟨#[]⟩ : ByteArray), x5).2]) (v1 := (.string (⟨#[]⟩ : ByteArray))) (v2 := (.int .i64 x5)) (by rfl) (rr_tmp (by rfl) (by exact rfl)) (rr_tmp (by rfl) (by exact rfl)) ?_
  exact ⟨_, O18, s10, rfl⟩
 have h19 := neg_b g16 h7
 refine .skip (.seq (.region (W.q2 v2 rfl (W.q2 (.string p0) rfl ?_))))
 obtain ⟨x20, i21, h22⟩ := bd_inv h19
 refine W.lo rfl rfl (Lo.callP (ps := []) (ps' := []) rfl (fn := Tryz.f30) (by kernel_rfl) rfl (mc rfl mn) O9 (fun L' O' => g_rat_In_ok K p0 O' _ i21)) ?_
 rintro v31 H32 ⟨G23, O24, s25, sm30, ⟨c27, rfl, f28⟩⟩
 replace O24 : Ow G23 H32 (eSl v3 22 rS [p0, p1] :: L) := O24
 refine W.q2 (.string p1) rfl ?_
 obtain ⟨x33, i34, h35⟩ := bd_inv h22
 refine W.lo rfl rfl (Lo.callP (ps := []) (ps' := []) rfl (fn := Tryz.f30) (by kernel_rfl) rfl (mc rfl mn) O24 (fun L' O' => g_rat_In_ok K p1 O' _ i34)) ?_
 rintro v44 H45 ⟨G36, O37, s38, sm43, ⟨c40, rfl, f41⟩⟩
 replace O37 : Ow G36 H45 (eSl v3 22 rS [p0, p1] :: L) := O37
 obtain ⟨x46, i47, h48⟩ := bd_inv h35
 refine W.lo rfl rfl (Lo.callF (x0 := (x20, x33)) rfl rfl (FnOk.le hp2 (GM.le.trans s10 (GM.le.trans s25 s38))) (mc rfl (mc rfl mn)) ⟨c27, c40, rfl, (RT.mono _ s38 f28), f41⟩ i47 O37) ?_
 rintro v55 H56 ⟨G49, O50, s51, sm54, ⟨c52, rfl, f53⟩⟩
 obtain ⟨x57, i58, h59⟩ := bd_inv h48
 refine W.lo rfl rfl (Lo.callP (ps := []) (ps' := []) rfl (fn := Tryz.f46) (by kernel_rfl) rfl (mc rfl mn) O50 (fun L' O' => g_rat_told_ok K c52 x46 f53 O' _ i58)) ?_
 rintro v66 H67 ⟨G60, O61, s62, sm65, rfl⟩
 replace O61 : Ow G60 H67 (eSl v3 22 rS [p0, p1] :: L) := O61
 refine W.pure (v := (.string x57.1)) rfl rfl (v_extract (oo rfl rfl) rfl) (W.pure (v := (.int .i64 x57.2)) rfl rfl (v_extract (oo rfl rfl) rfl) (W.q1 (.string x57.1) rfl (W.q1 (.int .i64 x57.2) rfl (.nil (.ret ?_)))))
 have O68 : Ow G60 H67 (L) := O61.drop 0
 obtain rfl := Option.some.inj h59
 refine ret2R (P := Tryz.prog) (fn := Tryz.f49) (n := 25) (R := fun v H' => ∃ G', Ow G' H' (L) ∧ G.le G' ∧ v = .tuple #[.string (x57.1, x57.2).1, .int .i64 (x57.1, x57.2).2]) (v1 := (.string x57.1)) (v2 := (.int .i64 x57.2)) (by rfl) (rr_tmp (by rfl) (by exact rfl)) (rr_tmp (by rfl) (by exact rfl)) ?_
 exact ⟨_, O68, (GM.le.trans s10 (GM.le.trans s25 (GM.le.trans s38 (GM.le.trans s51 s62)))), rfl⟩
def g_nat_N_Sub_l0 (K : Nat) (p0 : List Int) (p1 : List Int) : Nat → List Int → Int → Int → Option (List Int)
  | 0, _, _, _ => none
  | k + 1, x11, x12, x13 => (if (decide (x13 < (List.length p0 : Int))) = true then ((idx p0 x13).bind fun x25 => (Option.bind ((if (decide (x13 < (List.length p1 : Int))) = true then ((idx p1 x13).bind fun x34 => (lt (kwrap .i64 ((kwrap .i64 ((IntKind.wrap .i64 x25) - x12)) - (IntKind.wrap .i64 x34))) fun x38 => some x38)) else some (kwrap .i64 ((IntKind.wrap .i64 x25) - x12)))) (tu1 fun x42 => (Option.bind ((if (decide (x42 < 0)) = true then some (1, kwrap .i64 (x42 + 1000000000)) else some (0, x42))) (tu2 fun x58 x59 => ((idx x11 x13).bind fun x70 => g_nat_N_Sub_l0 K p0 p1 k (List.set x11 (Int.toNat x13) (IntKind.wrap .u32 x59)) x58 (kwrap .i64 (x13 + 1)))))))) else some x11)
def g_nat_N_Sub (K : Nat) (p0 : List Int) (p1 : List Int) : Option (List Int) := (if 0 ≤ (List.length p0 : Int) ∧ (List.length p0 : Int) ≤ (List.length p0 : Int) ∧ (List.length p0 : Int) ≤ 16777216 then (Option.bind (g_nat_N_Sub_l0 K p0 p1 K (List.replicate (Int.toNat (List.length p0 : Int)) 0) 0 0) (tu1 fun x79 => ((g_nat_N_trim K x79).bind fun x88 => some x88))) else none)
set_option maxHeartbeats 4000000 in
theorem g_nat_N_Sub_ok (K : Nat) {G : GM} {H : AH} {L : List Pc} (v0 : Value) (p0 : List Int) (hp0 : (rSl (rI .u32)).rep G [v0] p0) (v1 : Value) (p1 : List Int) (hp1 : (rSl (rI .u32)).rep G [v1] p1) (O : Ow G H (L)) (r : List Int) (h : g_nat_N_Sub K p0 p1 = some r) :
    CRF Tryz.prog 76 [v0, v1] G H (fun w0 => (eSl w0 64 (rI .u32) r :: L)) (fun w0 v G' => w0 = v) := by
 unfold g_nat_N_Sub at h
 refine CRF.of (calls_of_AW (n := 47) (fn := Tryz.f76) (R := fun v H' => ∃ w0 G', Ow G' H' (eSl w0 64 (rI .u32) r :: L) ∧ G.le G' ∧ w0 = v) (by kernel_rfl) rfl rfl ?_)
 refine .seq (.region (W.q1 (.slice none 0 0) rfl (.nil (.seq (.region (W.q2 v0 rfl ?_))))))
 refine W.pure (v := (.int .i64 (List.length p0 : Int))) rfl rfl (len_sl (oo rfl rfl) (sl_len hp0) (elemT_inv el46)) ?_
 obtain ⟨g2, h3⟩ := gd_inv h
 refine W.lo rfl rfl (Lo.makeSlice (r := (rI .u32)) (x0 := 0) (a := (List.length p0 : Int)) (c := (List.length p0 : Int)) rfl el46 ze64 sz64 (by kernel_rfl) rfl by64 (by decide) rfl rfl g2 (zI .u32) O) ?_
 rintro v5 H6 ⟨O1, sm4⟩
 refine W.q1 v5 rfl (.nil (.seq (.region (W.q1 (.int .i64 0) rfl (.nil (.seq ?_))))))
 refine .seq (.region (W.q2 v0 rfl (W.pure (v := (.int .i64 (List.length p0 : Int))) rfl rfl (len_sl (oo rfl rfl) (sl_len hp0) (elemT_inv el46)) (W.q2 (.int .i64 0) rfl (.nil ?_)))))
 obtain ⟨q7, h8, h9⟩ := bd_inv h3
 refine AW.midT (fun σ' H' => ∃ (y1 : List Int) (G' : GM), y1 = q7 ∧ Ow G' H' (eSl v5 64 (rI .u32) y1 :: L) ∧ GM.le G G') ?_ ?_
 rotate_left
 ·rintro σ80 H81 fr82 ⟨x79, G83, rfl, O84, s85⟩
  have h87 := tu1_inv h9
  refine .seq (.region (W.q2 v5 ((fr82 5 rfl).trans rfl) ?_))
  obtain ⟨x88, i89, h90⟩ := bd_inv h87
  refine W.lo rfl rfl (Lo.callPF (ps := [eSl v5 64 (rI .u32) x79]) (pw := fun w => [eSl w 64 (rI .u32) x88]) rfl (fn := Tryz.f81) (by kernel_rfl) rfl (mc rfl mn) O84 (fun L' O' => g_nat_N_trim_ok K v5 x79 O' _ i89)) ?_
  rintro v99 H100 ⟨w96, G91, O92, s93, sm98, rfl⟩
  replace O92 : Ow G91 H100 (eSl w96 64 (rI .u32) x88 :: L) := O92
  refine W.q1 w96 rfl (.nil (.ret ?_))
  obtain rfl := Option.some.inj h90
  refine ret1R (P := Tryz.prog) (fn := Tryz.f76) (n := 47) (R := fun v H' => ∃ w0 G', Ow G' H' (eSl w0 64 (rI .u32) x88 :: L) ∧ G.le G' ∧ w0 = v) (v1 := w96) (by rfl) (rr_tmp (by rfl) (by exact rfl)) ?_
  exact ⟨w96, _, O92, (GM.le.trans s85 s93), rfl⟩
 refine .block (AW.loop (α := Nat) (fun k' σ' H' => ∃ (y1 : List Int) (y2 : Int) (y3 : Int) (G' : GM), g_nat_N_Sub_l0 K p0 p1 k' y1 y2 y3 = some q7 ∧ Ow G' H' (eSl v5 64 (rI .u32) y1 :: L) ∧ GM.le G G' ∧ σ' 6 = .int .i64 y2 ∧ σ' 14 = .int .i64 y3) (fun k' => k') K ⟨(List.replicate (Int.toNat (List.length p0 : Int)) 0), 0, 0, _, h8, O1, (GM.le.refl _), rfl, rfl⟩ ?_)
 rintro k10
 rintro σ14 H15 fr16 ⟨x11, x12, x13, G17, h20, O18, s19, t21, t22⟩
 rcases k10 with _ | k10
 ·exact none_absurd h20
 rw [g_nat_N_Sub_l0] at h20
 refine .seq (.region (W.q3 (.bool (decide (x13 < (List.length p0 : Int)))) t22 ((fr16 13 rfl).trans rfl) (.nil (.seq (.cond (b := decide (x13 < (List.length p0 : Int))) rfl rfl (fun g23 => ?_) (fun g23 => ?_))))))
 rotate_left
 ·have h78 := neg_b g23 h20
  refine .exit ?_
  obtain rfl := Option.some.inj h78
  exact ⟨x11, _, rfl, O18, s19⟩
 have h24 := pos_inv g23 h20
 refine .skip (.seq (.block (.seq (.region (W.q2 (.int .i64 x13) t22 (W.q1 (.int .i64 x13) rfl ?_))))))
 refine .nil (.seq (.region (W.q2 v0 ((fr16 0 rfl).trans rfl) (W.q2 (.int .i64 x13) rfl ?_))))
 obtain ⟨x25, i26, h27⟩ := bd_inv h24
 have j28 := idx_inv i26
 refine W.pure (v := (selem v0 (Int.toNat x13 * 1))) rfl rfl (v_idx el46 sz64 (oo rfl rfl) (oo rfl rfl) (sl_len (RT.mono _ s19 hp0)) j28.1 j28.2.1) (W.load1 (v := (.int .u32 x25)) (r := []) rfl rfl ag64 (pt_px rfl (At.int (At.le (At.le (sl_idx hp0 j28.2.2) s19 s19) (GM.le.refl _) O18.fro))) (W.pure (v := (.int .i64 (IntKind.wrap .i64 x25))) rfl rfl (v_conv in64 in2 (oo rfl rfl)) (W.q2 (.int .i64 x12) t21 (W.q3 (.int .i64 (kwrap .i64 ((IntKind.wrap .i64 x25) - x12))) rfl rfl (W.q1 (.int .i64 (kwrap .i64 ((IntKind.wrap .i64 x25) - x12))) rfl (.nil ?_))))))
 refine .seq (.seq (.region (W.q2 (.int .i64 x13) rfl (W.q2 v1 ((fr16 1 rfl).trans rfl) (W.pure (v := (.int .i64 (List.length p1 : Int))) rfl rfl (len_sl (oo rfl rfl) (sl_len (RT.mono _ s19 hp1)) (elemT_inv el46)) (W.q3 (.bool (decide (x13 < (List.length p1 : Int)))) rfl rfl ?_))))))
 refine .nil ?_
 obtain ⟨q29, h30, h31⟩ := bd_inv h27
 refine AW.midT (fun σ' H' => ∃ (y1 : Int) (G' : GM), y1 = q29 ∧ Ow G' H' (eSl v5 64 (rI .u32) x11 :: L) ∧ GM.le G17 G' ∧ σ' 8 = .int .i64 y1) ?_ ?_
 ·refine .cond (b := decide (x13 < (List.length p1 : Int))) rfl rfl (fun g32 => ?_) (fun g32 => ?_)
  rotate_left
  ·have h41 := neg_b g32 h30
   refine .skip ?_
   obtain rfl := Option.some.inj h41
   exact ⟨kwrap .i64 ((IntKind.wrap .i64 x25) - x12), _, rfl, O18, (GM.le.refl _), rfl⟩
  have h33 := pos_inv g32 h30
  refine .region (W.q2 (.int .i64 (kwrap .i64 ((IntKind.wrap .i64 x25) - x12))) rfl (W.q2 v1 ((fr16 1 rfl).trans rfl) (W.q2 (.int .i64 x13) rfl ?_)))
  obtain ⟨x34, i35, h36⟩ := bd_inv h33
  have j37 := idx_inv i35
  refine W.pure (v := (selem v1 (Int.toNat x13 * 1))) rfl rfl (v_idx el46 sz64 (oo rfl rfl) (oo rfl rfl) (sl_len (RT.mono _ s19 hp1)) j37.1 j37.2.1) (W.load1 (v := (.int .u32 x34)) (r := []) rfl rfl ag64 (pt_px rfl (At.int (At.le (At.le (sl_idx hp1 j37.2.2) s19 s19) (GM.le.refl _) O18.fro))) (W.pure (v := (.int .i64 (IntKind.wrap .i64 x34))) rfl rfl (v_conv in64 in2 (oo rfl rfl)) (W.q3 (.int .i64 (kwrap .i64 ((kwrap .i64 ((IntKind.wrap .i64 x25) - x12)) - (IntKind.wrap .i64 x34)))) rfl rfl ?_)))
  obtain ⟨x38, e39, h40⟩ := lt_inv h36
  refine W.q1 (.int .i64 x38) (congrArg (Value.int .i64) e39) (.nil ?_)
  obtain rfl := Option.some.inj h40
  exact ⟨x38, _, rfl, O18, (GM.le.refl _), rfl⟩
 rintro σ43 H44 fr45 ⟨x42, G46, rfl, O47, s48, t50⟩
 have h51 := tu1_inv h31
 refine .seq (.region (W.q1 (.int .i64 0) rfl (.nil (.seq (.seq (.region ?_))))))
 refine W.q2 (.int .i64 x42) t50 (W.q3 (.bool (decide (x42 < 0))) rfl rfl (.nil ?_))
 obtain ⟨q52, h53, h54⟩ := bd_inv h51
 refine AW.midT (fun σ' H' => ∃ (y1 : Int) (y2 : Int) (G' : GM), (y1, y2) = q52 ∧ Ow G' H' (eSl v5 64 (rI .u32) x11 :: L) ∧ GM.le G46 G' ∧ σ' 6 = .int .i64 y1 ∧ σ' 8 = .int .i64 y2) ?_ ?_
 ·refine .cond (b := decide (x42 < 0)) rfl rfl (fun g55 => ?_) (fun g55 => ?_)
  rotate_left
  ·have h57 := neg_b g55 h53
   refine .skip ?_
   obtain rfl := Option.some.inj h57
   exact ⟨0, x42, _, rfl, O47, (GM.le.refl _), rfl, t50⟩
  have h56 := pos_inv g55 h53
  refine .seq (.region (W.q2 (.int .i64 x42) t50 (W.q3 (.int .i64 (kwrap .i64 (x42 + 1000000000))) rfl rfl (W.q1 (.int .i64 (kwrap .i64 (x42 + 1000000000))) rfl (.nil (.region ?_))))))
  refine W.q1 (.int .i64 1) rfl (.nil ?_)
  obtain rfl := Option.some.inj h56
  exact ⟨1, kwrap .i64 (x42 + 1000000000), _, rfl, O47, (GM.le.refl _), rfl, rfl⟩
 rintro σ60 H61 fr62 ⟨x58, x59, G63, rfl, O64, s65, t67, t68⟩
 have h69 := tu2_inv h54
 refine .region (W.q2 v5 ((fr62 5 rfl).trans ((fr45 5 rfl).trans ((fr16 5 rfl).trans rfl))) (W.q2 (.int .i64 x13) ((fr62 7 rfl).trans ((fr45 7 rfl).trans rfl)) (W.q2 (.int .i64 x59) t68 (W.pure (v := (.int .u32 (IntKind.wrap .u32 x59))) rfl rfl (v_conv in2 in64 (oo rfl rfl)) ?_))))
 obtain ⟨x70, i71, h72⟩ := bd_inv h69
 have j73 := idx_inv i71
 refine W.pure (v := (selem v5 (Int.toNat x13 * 1))) rfl rfl (v_idx el46 sz64 (oo rfl rfl) (oo rfl rfl) (O64.slLen (j := 0) rfl) j73.1 j73.2.1) (W.lo rfl rfl (Lo.storeSl0 (j := 0) (y0 := IntKind.wrap .u32 x59) (v := (.int .u32 (IntKind.wrap .u32 x59))) rfl j73.2.2  rfl sz64 rfl rfl rfl O64) ?_)
 rintro v76 H77 ⟨O74, sm75⟩
 replace O74 : Ow G63 H77 (eSl v5 64 (rI .u32) (List.set x11 (Int.toNat x13) (IntKind.wrap .u32 x59)) :: L) := O74
 refine .nil (.region (W.q3 (.int .i64 (kwrap .i64 (x13 + 1))) ((fr62 14 rfl).trans ((fr45 14 rfl).trans t22)) rfl (W.q2 (.int .i64 (kwrap .i64 (x13 + 1))) rfl (.nil ?_))))
 exact ⟨k10, Nat.lt_succ_self _, ⟨(List.set x11 (Int.toNat x13) (IntKind.wrap .u32 x59)), x58, kwrap .i64 (x13 + 1), _, h72, O74, (GM.le.trans s19 (GM.le.trans s48 s65)), t67, rfl⟩⟩
def g_rat_Q_Add (K : Nat) (p0 : Q) (p1 : Q) : Option Q := (if ((List.length p0.num : Int) == 0) = true then some p1 else (if ((List.length p1.num : Int) == 0) = true then some p0 else ((g_rat_Q_whole K p1).bind fun x65 => ((g_nat_N_Mul K p0.num x65).bind fun x78 => ((g_rat_Q_whole K p0).bind fun x97 => ((g_nat_N_Mul K p1.num x97).bind fun x110 => ((g_rat_Q_whole K p0).bind fun x131 => ((g_rat_Q_whole K p1).bind fun x147 => ((g_nat_N_Mul K x131 x147).bind fun x160 => (if (p0.neg == p1.neg) = true then ((g_nat_N_Add K x78 x110).bind fun x188 => ((g_rat_low K p0.neg x188 x160).bind fun x209 => some x209)) else ((g_nat_N_Cmp K x78 x110).bind fun x241 => (if (decide (x241 ≥ 0)) = true then ((g_nat_N_Sub K x78 x110).bind fun x259 => ((g_rat_low K p0.neg x259 x160).bind fun x280 => some x280)) else ((g_nat_N_Sub K x110 x78).bind fun x309 => ((g_rat_low K p1.neg x309 x160).bind fun x330 => some x330))))))))))))))
set_option maxHeartbeats 4000000 in
theorem g_rat_Q_Add_ok (K : Nat) {G : GM} {H : AH} {L : List Pc} (v0 : List Value) (p0 : Q) (hp0 : T_Q.rep G v0 p0) (v1 : List Value) (p1 : Q) (hp1 : T_Q.rep G v1 p1) (O : Ow G H (L)) (r : Q) (h : g_rat_Q_Add K p0 p1 = some r) :
    CR Tryz.prog 50 [.agg (List.toArray v0), .agg (List.toArray v1)] G H (L) (fun v G' _ => ∃ (w0 : List Value), v = .agg (List.toArray w0) ∧ T_Q.rep G' w0 r) := by
 unfold g_rat_Q_Add at h
 refine CR.of (calls_of_AW (n := 65) (fn := Tryz.f50) (R := fun v H' => ∃ G', Ow G' H' (L) ∧ G.le G' ∧ ∃ (w0 : List Value), v = .agg (List.toArray w0) ∧ T_Q.rep G' w0 r) (by kernel_rfl) rfl rfl ?_)
 refine .seq (.region (W.lo rfl rfl (Lo.box (r := T_Q) (x0 := p0) (v := (.agg (List.toArray v0))) rfl rfl hp0 O) ?_))
 rintro v4 H5 ⟨b2, rfl, O1, sm3⟩
 refine W.lo rfl rfl (Lo.box (r := T_Q) (x0 := p1) (v := (.agg (List.toArray v1))) rfl rfl hp1 O1) ?_
 rintro v9 H10 ⟨b7, rfl, O6, sm8⟩
 refine W.lo rfl rfl (Lo.alloc (r := T_Q) (x0 := (Q.mk false ([] : List Int) ([] : List Int))) ze48 (by kernel_rfl) z_Q O6) ?_
 rintro v14 H15 ⟨b12, rfl, O11, sm13⟩
 refine .nil (.seq (.block (.seq (.region (W.pure (v := (padd (.pointer (some ⟨b2, 0, none⟩)) 1)) rfl rfl (v_fldA fl48_1 (oo rfl rfl) (O11.atVar (j := 2) rfl)) ?_)))))
 obtain ⟨w16, p17, f18⟩ := At.sl (At.proj (O11.atVar (j := 2) rfl) p_Q_num)
 refine W.load1 (v := w16) (r := []) rfl rfl ag46 (pt_px rfl p17) (W.pure (v := (.int .i64 (List.length p0.num : Int))) rfl rfl (len_sl (oo rfl rfl) (sl_len f18) (elemT_inv el46)) (W.q3 (.bool ((List.length p0.num : Int) == 0)) rfl rfl (W.q1 (.bool ((List.length p0.num : Int) == 0)) rfl (.nil (.cond (b := ((List.length p0.num : Int) == 0)) rfl rfl (fun g19 => ?_) (fun g19 => ?_))))))
 ·have h20 := pos_inv g19 h
  refine .seq (.region ?_)
  obtain ⟨c21, p22, f23⟩ := (O11.atVar (j := 1) rfl)
  refine W.loadA (cs := c21) rfl rfl ag48 sz48 (pt_px rfl p22) (RT.len _ f23) (W.lo rfl rfl (Lo.storeVar (j := 0) (s := T_Q) (y0 := p1) (v := (.agg (List.toArray c21))) (o := 0) rfl ((Put.at (Put.self _) _ _)) rfl sz48 rfl (by omega) rfl f23 O11) ?_)
  rintro v26 H27 ⟨O24, sm25⟩
  replace O24 : Ow G H27 (eVar b12 48 T_Q p1 :: eVar b7 48 T_Q p1 :: eVar b2 48 T_Q p0 :: L) := O24
  refine .nil (.ret ?_)
  obtain ⟨c28, p29, f30⟩ := (O24.atVar (j := 0) rfl)
  have O31 : Ow G H27 (eVar b7 48 T_Q p1 :: eVar b2 48 T_Q p0 :: L) := O24.drop 0
  have O32 : Ow G H27 (eVar b2 48 T_Q p0 :: L) := O31.drop 0
  have O33 : Ow G H27 (L) := O32.drop 0
  obtain rfl := Option.some.inj h20
  refine ret1R (P := Tryz.prog) (fn := Tryz.f50) (n := 65) (R := fun v H' => ∃ G', Ow G' H' (L) ∧ G.le G' ∧ ∃ (w0 : List Value), v = .agg (List.toArray w0) ∧ T_Q.rep G' w0 p1) (v1 := (.agg (List.toArray c28))) (by rfl) (rr_cellA (p := (.pointer (some ⟨b12, 0, none⟩))) (by rfl) ag48 sz48 (by exact rfl) p29 (RT.len _ f30)) ?_
  exact ⟨_, O33, (GM.le.refl _), c28, rfl, f30⟩
 have h34 := neg_b g19 h
 refine .seq (.region (W.pure (v := (padd (.pointer (some ⟨b7, 0, none⟩)) 1)) rfl rfl (v_fldA fl48_1 (oo rfl rfl) (O11.atVar (j := 1) rfl)) ?_))
 obtain ⟨w35, p36, f37⟩ := At.sl (At.proj (O11.atVar (j := 1) rfl) p_Q_num)
 refine W.load1 (v := w35) (r := []) rfl rfl ag46 (pt_px rfl p36) (W.pure (v := (.int .i64 (List.length p1.num : Int))) rfl rfl (len_sl (oo rfl rfl) (sl_len f37) (elemT_inv el46)) (W.q3 (.bool ((List.length p1.num : Int) == 0)) rfl rfl (W.q1 (.bool ((List.length p1.num : Int) == 0)) rfl (.nil (.cond (b := ((List.length p1.num : Int) == 0)) rfl rfl (fun g38 => ?_) (fun g38 => ?_))))))
 ·have h39 := pos_inv g38 h34
  refine .seq (.region ?_)
  obtain ⟨c40, p41, f42⟩ := (O11.atVar (j := 2) rfl)
  refine W.loadA (cs := c40) rfl rfl ag48 sz48 (pt_px rfl p41) (RT.len _ f42) (W.lo rfl rfl (Lo.storeVar (j := 0) (s := T_Q) (y0 := p0) (v := (.agg (List.toArray c40))) (o := 0) rfl ((Put.at (Put.self _) _ _)) rfl sz48 rfl (by omega) rfl f42 O11) ?_)
  rintro v45 H46 ⟨O43, sm44⟩
  replace O43 : Ow G H46 (eVar b12 48 T_Q p0 :: eVar b7 48 T_Q p1 :: eVar b2 48 T_Q p0 :: L) := O43
  refine .nil (.ret ?_)
  obtain ⟨c47, p48, f49⟩ := (O43.atVar (j := 0) rfl)
  have O50 : Ow G H46 (eVar b7 48 T_Q p1 :: eVar b2 48 T_Q p0 :: L) := O43.drop 0
  have O51 : Ow G H46 (eVar b2 48 T_Q p0 :: L) := O50.drop 0
  have O52 : Ow G H46 (L) := O51.drop 0
  obtain rfl := Option.some.inj h39
  refine ret1R (P := Tryz.prog) (fn := Tryz.f50) (n := 65) (R := fun v H' => ∃ G', Ow G' H' (L) ∧ G.le G' ∧ ∃ (w0 : List Value), v = .agg (List.toArray w0) ∧ T_Q.rep G' w0 p0) (v1 := (.agg (List.toArray c47))) (by rfl) (rr_cellA (p := (.pointer (some ⟨b12, 0, none⟩))) (by rfl) ag48 sz48 (by exact rfl) p48 (RT.len _ f49)) ?_
  exact ⟨_, O52, (GM.le.refl _), c47, rfl, f49⟩
 have h53 := neg_b g38 h34
 refine .skip (.seq (.draw2 (M := [0, 1, 0, 4, 15, 0, 32, 0, 159, 511, 1023, 2047]) mixed (by kernel_rfl) (by kernel_rfl) fun H54 N58 x55 F57 => ?_))
 have O56 := O11.ext x55
 refine D2.pure (v := (padd (.pointer (some ⟨b2, 0, none⟩)) 1)) rfl rfl (v_fldA fl48_1 (oo rfl rfl) (O56.atVar (j := 2) rfl)) ?_
 obtain ⟨w59, p60, f61⟩ := At.sl (At.proj (O56.atVar (j := 2) rfl) p_Q_num)
 refine D2.load1' (v := w59) (r := []) rfl rfl ag46 (pt_px rfl p60) fa_nil ?_
 obtain ⟨c62, p63, f64⟩ := (O56.atVar (j := 1) rfl)
 refine D2.loadA' (cs := c62) rfl rfl ag48 sz48 (pt_px rfl p63) (RT.len _ f64) fa_nil ?_
 obtain ⟨x65, i66, h67⟩ := bd_inv h53
 refine D2.lo rfl rfl (Lo.callP (ps := []) (ps' := []) rfl (fn := Tryz.f39) (by kernel_rfl) rfl (mc rfl mn) O56 (fun L' O' => g_rat_Q_whole_ok K c62 p1 f64 O' _ i66)) ?_ fa_nil ?_ ?_
 ·rintro v76 H77 ⟨G68, O69, s70, sm75, ⟨w72, rfl, f73⟩⟩; exact (faR1 (.inl (by decide)) (faR1 (.inr (sm75 _ (Or.inr ⟨2, _, rfl, List.mem_singleton.2 rfl⟩))) fa_nil))
 ·rintro v76 H77 ⟨G68, O69, s70, sm75, ⟨w72, rfl, f73⟩⟩; exact fa_nil
 rintro v76 H77 ⟨G68, O69, s70, sm75, ⟨w72, rfl, f73⟩⟩
 replace O69 : Ow G68 H77 (eVar b12 48 T_Q (Q.mk false ([] : List Int) ([] : List Int)) :: eVar b7 48 T_Q p1 :: eVar b2 48 T_Q p0 :: L) := O69
 obtain ⟨x78, i79, h80⟩ := bd_inv h67
 refine D2.lo rfl rfl (Lo.callPF (ps := []) (pw := fun w => [eSl w 64 (rI .u32) x78]) rfl (fn := Tryz.f75) (by kernel_rfl) rfl (mc rfl (mc rfl mn)) O69 (fun L' O' => g_nat_N_Mul_ok K w59 p0.num (RT.mono _ s70 f61) w72 x65 f73 O' _ i79)) ?_ (faL_bit (by decide) fa_nil) ?_ ?_
 ·rintro v89 H90 ⟨w86, G81, O82, s83, sm88, rfl⟩; exact (faR1 (.inl (by decide)) (faR1 (.inl (by decide)) fa_nil))
 ·rintro v89 H90 ⟨w86, G81, O82, s83, sm88, rfl⟩; exact fa_nil
 rintro v89 H90 ⟨w86, G81, O82, s83, sm88, rfl⟩
 replace O82 : Ow G81 H90 (eSl w86 64 (rI .u32) x78 :: eVar b12 48 T_Q (Q.mk false ([] : List Int) ([] : List Int)) :: eVar b7 48 T_Q p1 :: eVar b2 48 T_Q p0 :: L) := O82
 refine D2.pure (v := (padd (.pointer (some ⟨b7, 0, none⟩)) 1)) rfl rfl (v_fldA fl48_1 (oo rfl rfl) (O82.atVar (j := 2) rfl)) ?_
 obtain ⟨w91, p92, f93⟩ := At.sl (At.proj (O82.atVar (j := 2) rfl) p_Q_num)
 refine D2.load1' (v := w91) (r := []) rfl rfl ag46 (pt_px rfl p92) (faQ_eq (sm88 _ (Or.inr ⟨1, _, rfl, List.mem_singleton.2 rfl⟩)) (faQ_eq (sm75 _ (Or.inr ⟨1, _, rfl, List.mem_singleton.2 rfl⟩)) fa_nil)) ?_
 obtain ⟨c94, p95, f96⟩ := (O82.atVar (j := 3) rfl)
 refine D2.loadA' (cs := c94) rfl rfl ag48 sz48 (pt_px rfl p95) (RT.len _ f96) (faQ_eq (sm88 _ (Or.inr ⟨2, _, rfl, List.mem_singleton.2 rfl⟩)) (faQ_eq (sm75 _ (Or.inr ⟨2, _, rfl, List.mem_singleton.2 rfl⟩)) fa_nil)) ?_
 obtain ⟨x97, i98, h99⟩ := bd_inv h80
 refine D2.lo rfl rfl (Lo.callP (ps := []) (ps' := []) rfl (fn := Tryz.f39) (by kernel_rfl) rfl (mc rfl mn) O82 (fun L' O' => g_rat_Q_whole_ok K c94 p0 f96 O' _ i98)) ?_ (faL_bit (by decide) (faL_bit (by decide) fa_nil)) ?_ ?_
 ·rintro v108 H109 ⟨G100, O101, s102, sm107, ⟨w104, rfl, f105⟩⟩; exact (faR1 (.inl (by decide)) (faR1 (.inr (sm107 _ (Or.inr ⟨2, _, rfl, List.mem_singleton.2 rfl⟩))) (faR1 (.inl (by decide)) (faR1 (.inl (by decide)) fa_nil))))
 ·rintro v108 H109 ⟨G100, O101, s102, sm107, ⟨w104, rfl, f105⟩⟩; exact fa_nil
 rintro v108 H109 ⟨G100, O101, s102, sm107, ⟨w104, rfl, f105⟩⟩
 replace O101 : Ow G100 H109 (eSl w86 64 (rI .u32) x78 :: eVar b12 48 T_Q (Q.mk false ([] : List Int) ([] : List Int)) :: eVar b7 48 T_Q p1 :: eVar b2 48 T_Q p0 :: L) := O101
 obtain ⟨x110, i111, h112⟩ := bd_inv h99
 refine D2.lo rfl rfl (Lo.callPF (ps := []) (pw := fun w => [eSl w 64 (rI .u32) x110]) rfl (fn := Tryz.f75) (by kernel_rfl) rfl (mc rfl (mc rfl mn)) O101 (fun L' O' => g_nat_N_Mul_ok K w91 p1.num (RT.mono _ s102 f93) w104 x97 f105 O' _ i111)) ?_ (faL_bit (by decide) (faL_bit (by decide) (faL_bit (by decide) fa_nil))) ?_ ?_
 ·rintro v121 H122 ⟨w118, G113, O114, s115, sm120, rfl⟩; exact (faR1 (.inl (by decide)) (faR1 (.inl (by decide)) (faR1 (.inl (by decide)) (faR1 (.inl (by decide)) fa_nil))))
 ·rintro v121 H122 ⟨w118, G113, O114, s115, sm120, rfl⟩; exact fa_nil
 rintro v121 H122 ⟨w118, G113, O114, s115, sm120, rfl⟩
 replace O114 : Ow G113 H122 (eSl w118 64 (rI .u32) x110 :: eSl w86 64 (rI .u32) x78 :: eVar b12 48 T_Q (Q.mk false ([] : List Int) ([] : List Int)) :: eVar b7 48 T_Q p1 :: eVar b2 48 T_Q p0 :: L) := O114
 refine D2.q1 w86 rfl (D2.q1 w118 rfl (.nil (.seq (.draw2 (M := [0, 1, 0, 7, 15, 31]) mixed (by kernel_rfl) (by kernel_rfl) fun H123 N127 x124 F126 => ?_))))
 have O125 := O114.ext x124
 obtain ⟨c128, p129, f130⟩ := (O125.atVar (j := 4) rfl)
 refine D2.loadA' (cs := c128) rfl rfl ag48 sz48 (pt_px rfl p129) (RT.len _ f130) fa_nil ?_
 obtain ⟨x131, i132, h133⟩ := bd_inv h112
 refine D2.lo rfl rfl (Lo.callP (ps := []) (ps' := []) rfl (fn := Tryz.f39) (by kernel_rfl) rfl (mc rfl mn) O125 (fun L' O' => g_rat_Q_whole_ok K c128 p0 f130 O' _ i132)) ?_ fa_nil ?_ ?_
 ·rintro v142 H143 ⟨G134, O135, s136, sm141, ⟨w138, rfl, f139⟩⟩; exact (faR1 (.inl (by decide)) fa_nil)
 ·rintro v142 H143 ⟨G134, O135, s136, sm141, ⟨w138, rfl, f139⟩⟩; exact fa_nil
 rintro v142 H143 ⟨G134, O135, s136, sm141, ⟨w138, rfl, f139⟩⟩
 replace O135 : Ow G134 H143 (eSl w118 64 (rI .u32) x110 :: eSl w86 64 (rI .u32) x78 :: eVar b12 48 T_Q (Q.mk false ([] : List Int) ([] : List Int)) :: eVar b7 48 T_Q p1 :: eVar b2 48 T_Q p0 :: L) := O135
 obtain ⟨c144, p145, f146⟩ := (O135.atVar (j := 3) rfl)
 refine D2.loadA' (cs := c144) rfl rfl ag48 sz48 (pt_px rfl p145) (RT.len _ f146) (faQ_eq (sm141 _ (Or.inr ⟨3, _, rfl, List.mem_singleton.2 rfl⟩)) fa_nil) ?_
 obtain ⟨x147, i148, h149⟩ := bd_inv h133
 refine D2.lo rfl rfl (Lo.callP (ps := []) (ps' := []) rfl (fn := Tryz.f39) (by kernel_rfl) rfl (mc rfl mn) O135 (fun L' O' => g_rat_Q_whole_ok K c144 p1 f146 O' _ i148)) ?_ (faL_bit (by decide) fa_nil) ?_ ?_
 ·rintro v158 H159 ⟨G150, O151, s152, sm157, ⟨w154, rfl, f155⟩⟩; exact (faR1 (.inl (by decide)) (faR1 (.inl (by decide)) fa_nil))
 ·rintro v158 H159 ⟨G150, O151, s152, sm157, ⟨w154, rfl, f155⟩⟩; exact fa_nil
 rintro v158 H159 ⟨G150, O151, s152, sm157, ⟨w154, rfl, f155⟩⟩
 replace O151 : Ow G150 H159 (eSl w118 64 (rI .u32) x110 :: eSl w86 64 (rI .u32) x78 :: eVar b12 48 T_Q (Q.mk false ([] : List Int) ([] : List Int)) :: eVar b7 48 T_Q p1 :: eVar b2 48 T_Q p0 :: L) := O151
 obtain ⟨x160, i161, h162⟩ := bd_inv h149
 refine D2.lo rfl rfl (Lo.callPF (ps := []) (pw := fun w => [eSl w 64 (rI .u32) x160]) rfl (fn := Tryz.f75) (by kernel_rfl) rfl (mc rfl (mc rfl mn)) O151 (fun L' O' => g_nat_N_Mul_ok K w138 x131 (RT.mono _ s152 f139) w154 x147 f155 O' _ i161)) ?_ (faL_bit (by decide) (faL_bit (by decide) fa_nil)) ?_ ?_
 ·rintro v171 H172 ⟨w168, G163, O164, s165, sm170, rfl⟩; exact (faR1 (.inl (by decide)) (faR1 (.inl (by decide)) fa_nil))
 ·rintro v171 H172 ⟨w168, G163, O164, s165, sm170, rfl⟩; exact fa_nil
 rintro v171 H172 ⟨w168, G163, O164, s165, sm170, rfl⟩
 replace O164 : Ow G163 H172 (eSl w168 64 (rI .u32) x160 :: eSl w118 64 (rI .u32) x110 :: eSl w86 64 (rI .u32) x78 :: eVar b12 48 T_Q (Q.mk false ([] : List Int) ([] : List Int)) :: eVar b7 48 T_Q p1 :: eVar b2 48 T_Q p0 :: L) := O164
 refine D2.q1 w168 rfl (.nil (.seq (.seq (.region (W.pure (v := (padd (.pointer (some ⟨b2, 0, none⟩)) 0)) rfl rfl (v_fldA fl48_0 (oo rfl rfl) (O164.atVar (j := 5) rfl)) (W.load1 (v := (.bool p0.neg)) (r := []) rfl rfl ag4 (pt_px rfl (At.bool (At.proj (O164.atVar (j := 5) rfl) p_Q_neg))) ?_))))))
 refine W.pure (v := (padd (.pointer (some ⟨b7, 0, none⟩)) 0)) rfl rfl (v_fldA fl48_0 (oo rfl rfl) (O164.atVar (j := 4) rfl)) (W.load1 (v := (.bool p1.neg)) (r := []) rfl rfl ag4 (pt_px rfl (At.bool (At.proj (O164.atVar (j := 4) rfl) p_Q_neg))) (W.pure (v := (.bool (p0.neg == p1.neg))) rfl rfl (bool_eql (oo rfl rfl) (oo rfl rfl) un4) (.nil (.cond (b := (p0.neg == p1.neg)) rfl rfl (fun g173 => ?_) (fun g173 => ?_)))))
 ·have h174 := pos_inv g173 h162
  refine .seq (.draw2 (M := [0, 1, 0, 0, 12, 0, 63, 127]) mixed (by kernel_rfl) (by kernel_rfl) fun H175 N179 x176 F178 => ?_)
  have O177 := O164.ext x176
  refine D2.pure (v := (padd (.pointer (some ⟨b2, 0, none⟩)) 0)) rfl rfl (v_fldA fl48_0 (oo rfl rfl) (O177.atVar (j := 5) rfl)) (D2.load1' (v := (.bool p0.neg)) (r := []) rfl rfl ag4 (pt_px rfl (At.bool (At.proj (O177.atVar (j := 5) rfl) p_Q_neg))) fa_nil (D2.q2 w86 rfl (D2.q2 w118 rfl ?_)))
  obtain ⟨G180, O181, s182, f183⟩ := O177.frzSl (j := 2) rfl
  replace O181 : Ow G180 H175 (eSl w168 64 (rI .u32) x160 :: eSl w118 64 (rI .u32) x110 :: eVar b12 48 T_Q (Q.mk false ([] : List Int) ([] : List Int)) :: eVar b7 48 T_Q p1 :: eVar b2 48 T_Q p0 :: L) := O181
  obtain ⟨G184, O185, s186, f187⟩ := O181.frzSl (j := 1) rfl
  replace O185 : Ow G184 H175 (eSl w168 64 (rI .u32) x160 :: eVar b12 48 T_Q (Q.mk false ([] : List Int) ([] : List Int)) :: eVar b7 48 T_Q p1 :: eVar b2 48 T_Q p0 :: L) := O185
  obtain ⟨x188, i189, h190⟩ := bd_inv h174
  refine D2.lo rfl rfl (Lo.callPF (ps := []) (pw := fun w => [eSl w 64 (rI .u32) x188]) rfl (fn := Tryz.f42) (by kernel_rfl) rfl (mc rfl (mc rfl mn)) O185 (fun L' O' => g_nat_N_Add_ok K w86 x78 (RT.mono _ s186 f183) w118 x110 f187 O' _ i189)) ?_ fa_nil ?_ ?_
  ·rintro v199 H200 ⟨w196, G191, O192, s193, sm198, rfl⟩; exact (faR1 (.inr (sm198 _ (Or.inr ⟨3, _, rfl, List.mem_singleton.2 rfl⟩))) fa_nil)
  ·rintro v199 H200 ⟨w196, G191, O192, s193, sm198, rfl⟩; exact fa_nil
  rintro v199 H200 ⟨w196, G191, O192, s193, sm198, rfl⟩
  replace O192 : Ow G191 H200 (eSl w196 64 (rI .u32) x188 :: eSl w168 64 (rI .u32) x160 :: eVar b12 48 T_Q (Q.mk false ([] : List Int) ([] : List Int)) :: eVar b7 48 T_Q p1 :: eVar b2 48 T_Q p0 :: L) := O192
  refine D2.q2 w168 rfl ?_
  obtain ⟨G201, O202, s203, f204⟩ := O192.frzSl (j := 0) rfl
  replace O202 : Ow G201 H200 (eSl w168 64 (rI .u32) x160 :: eVar b12 48 T_Q (Q.mk false ([] : List Int) ([] : List Int)) :: eVar b7 48 T_Q p1 :: eVar b2 48 T_Q p0 :: L) := O202
  obtain ⟨G205, O206, s207, f208⟩ := O202.frzSl (j := 0) rfl
  replace O206 : Ow G205 H200 (eVar b12 48 T_Q (Q.mk false ([] : List Int) ([] : List Int)) :: eVar b7 48 T_Q p1 :: eVar b2 48 T_Q p0 :: L) := O206
  obtain ⟨x209, i210, h211⟩ := bd_inv h190
  refine D2.lo rfl rfl (Lo.callP (ps := []) (ps' := []) rfl (fn := Tryz.f47) (by kernel_rfl) rfl (mc rfl (mc rfl (mc rfl mn))) O206 (fun L' O' => g_rat_low_ok K p0.neg w196 x188 (RT.mono _ s207 f204) w168 x160 f208 O' _ i210)) ?_ (faL_bit (by decide) fa_nil) ?_ ?_
  ·rintro v220 H221 ⟨G212, O213, s214, sm219, ⟨c216, rfl, f217⟩⟩; exact (faR1 (.inl (by decide)) fa_nil)
  ·rintro v220 H221 ⟨G212, O213, s214, sm219, ⟨c216, rfl, f217⟩⟩; exact fa_nil
  rintro v220 H221 ⟨G212, O213, s214, sm219, ⟨c216, rfl, f217⟩⟩
  replace O213 : Ow G212 H221 (eVar b12 48 T_Q (Q.mk false ([] : List Int) ([] : List Int)) :: eVar b7 48 T_Q p1 :: eVar b2 48 T_Q p0 :: L) := O213
  refine D2.lo rfl rfl (Lo.storeVar (j := 0) (s := T_Q) (y0 := x209) (v := (.agg (List.toArray c216))) (o := 0) rfl ((Put.at (Put.self _) _ _)) rfl sz48 rfl (by omega) rfl f217 O213) ?_ (faL_bit (by decide) (faL_bit (by decide) fa_nil)) ?_ ?_
  ·rintro v224 H225 ⟨O222, sm223⟩; exact (faR1 (.inl (by decide)) fa_nil)
  ·rintro v224 H225 ⟨O222, sm223⟩; exact fa_nil
  rintro v224 H225 ⟨O222, sm223⟩
  replace O222 : Ow G212 H225 (eVar b12 48 T_Q x209 :: eVar b7 48 T_Q p1 :: eVar b2 48 T_Q p0 :: L) := O222
  refine .nil (.ret ?_)
  obtain ⟨c226, p227, f228⟩ := (O222.atVar (j := 0) rfl)
  have O229 : Ow G212 H225 (eVar b7 48 T_Q p1 :: eVar b2 48 T_Q p0 :: L) := O222.drop 0
  have O230 : Ow G212 H225 (eVar b2 48 T_Q p0 :: L) := O229.drop 0
  have O231 : Ow G212 H225 (L) := O230.drop 0
  obtain rfl := Option.some.inj h211
  refine ret1R (P := Tryz.prog) (fn := Tryz.f50) (n := 65) (R := fun v H' => ∃ G', Ow G' H' (L) ∧ G.le G' ∧ ∃ (w0 : List Value), v = .agg (List.toArray w0) ∧ T_Q.rep G' w0 x209) (v1 := (.agg (List.toArray c226))) (by rfl) (rr_cellA (p := (.pointer (some ⟨b12, 0, none⟩))) (by rfl) ag48 sz48 (by exact rfl) p227 (RT.len _ f228)) ?_
  exact ⟨_, O231, (GM.le.trans s70 (GM.le.trans s83 (GM.le.trans s102 (GM.le.trans s115 (GM.le.trans s136 (GM.le.trans s152 (GM.le.trans s165 (GM.le.trans s182 (GM.le.trans s186 (GM.le.trans s193 (GM.le.trans s203 (GM.le.trans s207 s214)))))))))))), c226, rfl, f228⟩
 have h232 := neg_b g173 h162
 refine .skip (.seq (.seq (.region (W.q2 w86 rfl (W.q2 w118 rfl ?_)))))
 obtain ⟨G233, O234, s235, f236⟩ := O164.frzSl (j := 2) rfl
 replace O234 : Ow G233 H172 (eSl w168 64 (rI .u32) x160 :: eSl w118 64 (rI .u32) x110 :: eVar b12 48 T_Q (Q.mk false ([] : List Int) ([] : List Int)) :: eVar b7 48 T_Q p1 :: eVar b2 48 T_Q p0 :: L) := O234
 obtain ⟨G237, O238, s239, f240⟩ := O234.frzSl (j := 1) rfl
 replace O238 : Ow G237 H172 (eSl w168 64 (rI .u32) x160 :: eVar b12 48 T_Q (Q.mk false ([] : List Int) ([] : List Int)) :: eVar b7 48 T_Q p1 :: eVar b2 48 T_Q p0 :: L) := O238
 obtain ⟨x241, i242, h243⟩ := bd_inv h232
 refine W.lo rfl rfl (Lo.callP (ps := []) (ps' := []) rfl (fn := Tryz.f40) (by kernel_rfl) rfl (mc rfl (mc rfl mn)) O238 (fun L' O' => g_nat_N_Cmp_ok K w86 x78 (RT.mono _ s239 f236) w118 x110 f240 O' _ i242)) ?_
 rintro v250 H251 ⟨G244, O245, s246, sm249, rfl⟩
 replace O245 : Ow G244 H251 (eSl w168 64 (rI .u32) x160 :: eVar b12 48 T_Q (Q.mk false ([] : List Int) ([] : List Int)) :: eVar b7 48 T_Q p1 :: eVar b2 48 T_Q p0 :: L) := O245
 refine W.q3 (.bool (decide (x241 ≥ 0))) rfl rfl (.nil (.cond (b := decide (x241 ≥ 0)) rfl rfl (fun g252 => ?_) (fun g252 => ?_)))
 ·have h253 := pos_inv g252 h243
  refine .seq (.draw2 (M := [0, 1, 0, 0, 12, 0, 63, 127]) mixed (by kernel_rfl) (by kernel_rfl) fun H254 N258 x255 F257 => ?_)
  have O256 := O245.ext x255
  refine D2.pure (v := (padd (.pointer (some ⟨b2, 0, none⟩)) 0)) rfl rfl (v_fldA fl48_0 (oo rfl rfl) (O256.atVar (j := 3) rfl)) (D2.load1' (v := (.bool p0.neg)) (r := []) rfl rfl ag4 (pt_px rfl (At.bool (At.proj (O256.atVar (j := 3) rfl) p_Q_neg))) fa_nil (D2.q2 w86 rfl (D2.q2 w118 rfl ?_)))
  obtain ⟨x259, i260, h261⟩ := bd_inv h253
  refine D2.lo rfl rfl (Lo.callPF (ps := []) (pw := fun w => [eSl w 64 (rI .u32) x259]) rfl (fn := Tryz.f76) (by kernel_rfl) rfl (mc rfl (mc rfl mn)) O256 (fun L' O' => g_nat_N_Sub_ok K w86 x78 (RT.mono _ (GM.le.trans s239 s246) f236) w118 x110 (RT.mono _ s246 f240) O' _ i260)) ?_ fa_nil ?_ ?_
  ·rintro v270 H271 ⟨w267, G262, O263, s264, sm269, rfl⟩; exact (faR1 (.inr (sm269 _ (Or.inr ⟨3, _, rfl, List.mem_singleton.2 rfl⟩))) fa_nil)
  ·rintro v270 H271 ⟨w267, G262, O263, s264, sm269, rfl⟩; exact fa_nil
  rintro v270 H271 ⟨w267, G262, O263, s264, sm269, rfl⟩
  replace O263 : Ow G262 H271 (eSl w267 64 (rI .u32) x259 :: eSl w168 64 (rI .u32) x160 :: eVar b12 48 T_Q (Q.mk false ([] : List Int) ([] : List Int)) :: eVar b7 48 T_Q p1 :: eVar b2 48 T_Q p0 :: L) := O263
  refine D2.q2 w168 rfl ?_
  obtain ⟨G272, O273, s274, f275⟩ := O263.frzSl (j := 0) rfl
  replace O273 : Ow G272 H271 (eSl w168 64 (rI .u32) x160 :: eVar b12 48 T_Q (Q.mk false ([] : List Int) ([] : List Int)) :: eVar b7 48 T_Q p1 :: eVar b2 48 T_Q p0 :: L) := O273
  obtain ⟨G276, O277, s278, f279⟩ := O273.frzSl (j := 0) rfl
  replace O277 : Ow G276 H271 (eVar b12 48 T_Q (Q.mk false ([] : List Int) ([] : List Int)) :: eVar b7 48 T_Q p1 :: eVar b2 48 T_Q p0 :: L) := O277
  obtain ⟨x280, i281, h282⟩ := bd_inv h261
  refine D2.lo rfl rfl (Lo.callP (ps := []) (ps' := []) rfl (fn := Tryz.f47) (by kernel_rfl) rfl (mc rfl (mc rfl (mc rfl mn))) O277 (fun L' O' => g_rat_low_ok K p0.neg w267 x259 (RT.mono _ s278 f275) w168 x160 f279 O' _ i281)) ?_ (faL_bit (by decide) fa_nil) ?_ ?_
  ·rintro v291 H292 ⟨G283, O284, s285, sm290, ⟨c287, rfl, f288⟩⟩; exact (faR1 (.inl (by decide)) fa_nil)
  ·rintro v291 H292 ⟨G283, O284, s285, sm290, ⟨c287, rfl, f288⟩⟩; exact fa_nil
  rintro v291 H292 ⟨G283, O284, s285, sm290, ⟨c287, rfl, f288⟩⟩
  replace O284 : Ow G283 H292 (eVar b12 48 T_Q (Q.mk false ([] : List Int) ([] : List Int)) :: eVar b7 48 T_Q p1 :: eVar b2 48 T_Q p0 :: L) := O284
  refine D2.lo rfl rfl (Lo.storeVar (j := 0) (s := T_Q) (y0 := x280) (v := (.agg (List.toArray c287))) (o := 0) rfl ((Put.at (Put.self _) _ _)) rfl sz48 rfl (by omega) rfl f288 O284) ?_ (faL_bit (by decide) (faL_bit (by decide) fa_nil)) ?_ ?_
  ·rintro v295 H296 ⟨O293, sm294⟩; exact (faR1 (.inl (by decide)) fa_nil)
  ·rintro v295 H296 ⟨O293, sm294⟩; exact fa_nil
  rintro v295 H296 ⟨O293, sm294⟩
  replace O293 : Ow G283 H296 (eVar b12 48 T_Q x280 :: eVar b7 48 T_Q p1 :: eVar b2 48 T_Q p0 :: L) := O293
  refine .nil (.ret ?_)
  obtain ⟨c297, p298, f299⟩ := (O293.atVar (j := 0) rfl)
  have O300 : Ow G283 H296 (eVar b7 48 T_Q p1 :: eVar b2 48 T_Q p0 :: L) := O293.drop 0
  have O301 : Ow G283 H296 (eVar b2 48 T_Q p0 :: L) := O300.drop 0
  have O302 : Ow G283 H296 (L) := O301.drop 0
  obtain rfl := Option.some.inj h282
  refine ret1R (P := Tryz.prog) (fn := Tryz.f50) (n := 65) (R := fun v H' => ∃ G', Ow G' H' (L) ∧ G.le G' ∧ ∃ (w0 : List Value), v = .agg (List.toArray w0) ∧ T_Q.rep G' w0 x280) (v1 := (.agg (List.toArray c297))) (by rfl) (rr_cellA (p := (.pointer (some ⟨b12, 0, none⟩))) (by rfl) ag48 sz48 (by exact rfl) p298 (RT.len _ f299)) ?_
  exact ⟨_, O302, (GM.le.trans s70 (GM.le.trans s83 (GM.le.trans s102 (GM.le.trans s115 (GM.le.trans s136 (GM.le.trans s152 (GM.le.trans s165 (GM.le.trans s235 (GM.le.trans s239 (GM.le.trans s246 (GM.le.trans s264 (GM.le.trans s274 (GM.le.trans s278 s285))))))))))))), c297, rfl, f299⟩
 have h303 := neg_b g252 h243
 refine .skip (.seq (.draw2 (M := [0, 1, 0, 0, 12, 0, 63, 127]) mixed (by kernel_rfl) (by kernel_rfl) fun H304 N308 x305 F307 => ?_))
 have O306 := O245.ext x305
 refine D2.pure (v := (padd (.pointer (some ⟨b7, 0, none⟩)) 0)) rfl rfl (v_fldA fl48_0 (oo rfl rfl) (O306.atVar (j := 2) rfl)) (D2.load1' (v := (.bool p1.neg)) (r := []) rfl rfl ag4 (pt_px rfl (At.bool (At.proj (O306.atVar (j := 2) rfl) p_Q_neg))) fa_nil (D2.q2 w118 rfl (D2.q2 w86 rfl ?_)))
 obtain ⟨x309, i310, h311⟩ := bd_inv h303
 refine D2.lo rfl rfl (Lo.callPF (ps := []) (pw := fun w => [eSl w 64 (rI .u32) x309]) rfl (fn := Tryz.f76) (by kernel_rfl) rfl (mc rfl (mc rfl mn)) O306 (fun L' O' => g_nat_N_Sub_ok K w118 x110 (RT.mono _ s246 f240) w86 x78 (RT.mono _ (GM.le.trans s239 s246) f236) O' _ i310)) ?_ fa_nil ?_ ?_
 ·rintro v320 H321 ⟨w317, G312, O313, s314, sm319, rfl⟩; exact (faR1 (.inr (sm319 _ (Or.inr ⟨2, _, rfl, List.mem_singleton.2 rfl⟩))) fa_nil)
 ·rintro v320 H321 ⟨w317, G312, O313, s314, sm319, rfl⟩; exact fa_nil
 rintro v320 H321 ⟨w317, G312, O313, s314, sm319, rfl⟩
 replace O313 : Ow G312 H321 (eSl w317 64 (rI .u32) x309 :: eSl w168 64 (rI .u32) x160 :: eVar b12 48 T_Q (Q.mk false ([] : List Int) ([] : List Int)) :: eVar b7 48 T_Q p1 :: eVar b2 48 T_Q p0 :: L) := O313
 refine D2.q2 w168 rfl ?_
 obtain ⟨G322, O323, s324, f325⟩ := O313.frzSl (j := 0) rfl
 replace O323 : Ow G322 H321 (eSl w168 64 (rI .u32) x160 :: eVar b12 48 T_Q (Q.mk false ([] : List Int) ([] : List Int)) :: eVar b7 48 T_Q p1 :: eVar b2 48 T_Q p0 :: L) := O323
 obtain ⟨G326, O327, s328, f329⟩ := O323.frzSl (j := 0) rfl
 replace O327 : Ow G326 H321 (eVar b12 48 T_Q (Q.mk false ([] : List Int) ([] : List Int)) :: eVar b7 48 T_Q p1 :: eVar b2 48 T_Q p0 :: L) := O327
 obtain ⟨x330, i331, h332⟩ := bd_inv h311
 refine D2.lo rfl rfl (Lo.callP (ps := []) (ps' := []) rfl (fn := Tryz.f47) (by kernel_rfl) rfl (mc rfl (mc rfl (mc rfl mn))) O327 (fun L' O' => g_rat_low_ok K p1.neg w317 x309 (RT.mono _ s328 f325) w168 x160 f329 O' _ i331)) ?_ (faL_bit (by decide) fa_nil) ?_ ?_
 ·rintro v341 H342 ⟨G333, O334, s335, sm340, ⟨c337, rfl, f338⟩⟩; exact (faR1 (.inl (by decide)) fa_nil)
 ·rintro v341 H342 ⟨G333, O334, s335, sm340, ⟨c337, rfl, f338⟩⟩; exact fa_nil
 rintro v341 H342 ⟨G333, O334, s335, sm340, ⟨c337, rfl, f338⟩⟩
 replace O334 : Ow G333 H342 (eVar b12 48 T_Q (Q.mk false ([] : List Int) ([] : List Int)) :: eVar b7 48 T_Q p1 :: eVar b2 48 T_Q p0 :: L) := O334
 refine D2.lo rfl rfl (Lo.storeVar (j := 0) (s := T_Q) (y0 := x330) (v := (.agg (List.toArray c337))) (o := 0) rfl ((Put.at (Put.self _) _ _)) rfl sz48 rfl (by omega) rfl f338 O334) ?_ (faL_bit (by decide) (faL_bit (by decide) fa_nil)) ?_ ?_
 ·rintro v345 H346 ⟨O343, sm344⟩; exact (faR1 (.inl (by decide)) fa_nil)
 ·rintro v345 H346 ⟨O343, sm344⟩; exact fa_nil
 rintro v345 H346 ⟨O343, sm344⟩
 replace O343 : Ow G333 H346 (eVar b12 48 T_Q x330 :: eVar b7 48 T_Q p1 :: eVar b2 48 T_Q p0 :: L) := O343
 refine .nil (.ret ?_)
 obtain ⟨c347, p348, f349⟩ := (O343.atVar (j := 0) rfl)
 have O350 : Ow G333 H346 (eVar b7 48 T_Q p1 :: eVar b2 48 T_Q p0 :: L) := O343.drop 0
 have O351 : Ow G333 H346 (eVar b2 48 T_Q p0 :: L) := O350.drop 0
 have O352 : Ow G333 H346 (L) := O351.drop 0
 obtain rfl := Option.some.inj h332
 refine ret1R (P := Tryz.prog) (fn := Tryz.f50) (n := 65) (R := fun v H' => ∃ G', Ow G' H' (L) ∧ G.le G' ∧ ∃ (w0 : List Value), v = .agg (List.toArray w0) ∧ T_Q.rep G' w0 x330) (v1 := (.agg (List.toArray c347))) (by rfl) (rr_cellA (p := (.pointer (some ⟨b12, 0, none⟩))) (by rfl) ag48 sz48 (by exact rfl) p348 (RT.len _ f349)) ?_
 exact ⟨_, O352, (GM.le.trans s70 (GM.le.trans s83 (GM.le.trans s102 (GM.le.trans s115 (GM.le.trans s136 (GM.le.trans s152 (GM.le.trans s165 (GM.le.trans s235 (GM.le.trans s239 (GM.le.trans s246 (GM.le.trans s314 (GM.le.trans s324 (GM.le.trans s328 s335))))))))))))), c347, rfl, f349⟩
def g_rat_Add (K : Nat) (p0 : ByteArray) (p1 : ByteArray) : Option (ByteArray × Int) := ((g_rat_two K p0 p1 (fun x => g_rat_Q_Add K x.1 x.2)).bind fun x5 => some (x5.1, x5.2))
set_option maxHeartbeats 4000000 in
theorem g_rat_Add_ok (K : Nat) {G : GM} {H : AH} {L : List Pc} (p0 : ByteArray) (p1 : ByteArray) (O : Ow G H (L)) (r : ByteArray × Int) (h : g_rat_Add K p0 p1 = some r) :
    CR Tryz.prog 17 [(.string p0), (.string p1)] G H (L) (fun v G' _ => v = .tuple #[.string r.1, .int .i64 r.2]) := by
 unfold g_rat_Add at h
 refine CR.of (calls_of_AW (n := 11) (fn := Tryz.f17) (R := fun v H' => ∃ G', Ow G' H' (L) ∧ G.le G' ∧ v = .tuple #[.string r.1, .int .i64 r.2]) (by kernel_rfl) rfl rfl ?_)
 refine .seq (.region (W.q1 (.string (⟨#[]⟩ : ByteArray)) rfl (W.q1 (.int .i64 0) rfl (.nil (.seq (.region ?_))))))
 refine W.q2 (.string p0) rfl (W.q2 (.string p1) rfl ?_)
 obtain ⟨x5, i6, h7⟩ := bd_inv h
 refine W.lo rfl rfl (Lo.callP (ps := []) (ps' := []) rfl (fn := Tryz.f49) (by kernel_rfl) rfl (mc rfl (mc rfl (mc rfl mn))) O (fun L' O' => g_rat_two_ok K p0 p1 (.func (.func 50) #[] #[]) (fun x => g_rat_Q_Add K x.1 x.2) ⟨50, _, _, Tryz.f50, rfl, by kernel_rfl, rfl, fun G1 H L vs x r hG O hA hF => by obtain ⟨w1, w3, rfl, f2, f4⟩ := hA; exact g_rat_Q_Add_ok K w1 x.1 f2 w3 x.2 f4 O _ hF⟩ O' _ i6)) ?_
 rintro v14 H15 ⟨G8, O9, s10, sm13, rfl⟩
 replace O9 : Ow G8 H15 (L) := O9
 refine W.pure (v := (.string x5.1)) rfl rfl (v_extract (oo rfl rfl) rfl) (W.pure (v := (.int .i64 x5.2)) rfl rfl (v_extract (oo rfl rfl) rfl) (W.q1 (.string x5.1) rfl (W.q1 (.int .i64 x5.2) rfl (.nil (.ret ?_)))))
 obtain rfl := Option.some.inj h7
 refine ret2R (P := Tryz.prog) (fn := Tryz.f17) (n := 11) (R := fun v H' => ∃ G', Ow G' H' (L) ∧ G.le G' ∧ v = .tuple #[.string (x5.1, x5.2).1, .int .i64 (x5.1, x5.2).2]) (v1 := (.string x5.1)) (v2 := (.int .i64 x5.2)) (by rfl) (rr_tmp (by rfl) (by exact rfl)) (rr_tmp (by rfl) (by exact rfl)) ?_
 exact ⟨_, O9, s10, rfl⟩
def g_rat_Q_Neg (K : Nat) (p0 : Q) : Option Q := (if ((List.length p0.num : Int) == 0) = true then some p0 else some (Q.mk (!p0.neg) p0.num p0.den))
set_option maxHeartbeats 4000000 in
theorem g_rat_Q_Neg_ok (K : Nat) {G : GM} {H : AH} {L : List Pc} (v0 : List Value) (p0 : Q) (hp0 : T_Q.rep G v0 p0) (O : Ow G H (L)) (r : Q) (h : g_rat_Q_Neg K p0 = some r) :
    CR Tryz.prog 54 [.agg (List.toArray v0)] G H (L) (fun v G' _ => ∃ (w0 : List Value), v = .agg (List.toArray w0) ∧ T_Q.rep G' w0 r) := by
 unfold g_rat_Q_Neg at h
 refine CR.of (calls_of_AW (n := 16) (fn := Tryz.f54) (R := fun v H' => ∃ G', Ow G' H' (L) ∧ G.le G' ∧ ∃ (w0 : List Value), v = .agg (List.toArray w0) ∧ T_Q.rep G' w0 r) (by kernel_rfl) rfl rfl ?_)
 refine .seq (.region (W.lo rfl rfl (Lo.box (r := T_Q) (x0 := p0) (v := (.agg (List.toArray v0))) rfl rfl hp0 O) ?_))
 rintro v4 H5 ⟨b2, rfl, O1, sm3⟩
 refine W.lo rfl rfl (Lo.alloc (r := T_Q) (x0 := (Q.mk false ([] : List Int) ([] : List Int))) ze48 (by kernel_rfl) z_Q O1) ?_
 rintro v9 H10 ⟨b7, rfl, O6, sm8⟩
 refine .nil (.seq (.seq (.region (W.pure (v := (padd (.pointer (some ⟨b2, 0, none⟩)) 1)) rfl rfl (v_fldA fl48_1 (oo rfl rfl) (O6.atVar (j := 1) rfl)) ?_))))
 obtain ⟨w11, p12, f13⟩ := At.sl (At.proj (O6.atVar (j := 1) rfl) p_Q_num)
 refine W.load1 (v := w11) (r := []) rfl rfl ag46 (pt_px rfl p12) (W.pure (v := (.int .i64 (List.length p0.num : Int))) rfl rfl (len_sl (oo rfl rfl) (sl_len f13) (elemT_inv el46)) (W.q3 (.bool ((List.length p0.num : Int) == 0)) rfl rfl (.nil (.cond (b := ((List.length p0.num : Int) == 0)) rfl rfl (fun g14 => ?_) (fun g14 => ?_)))))
 ·have h15 := pos_inv g14 h
  refine .seq (.region ?_)
  obtain ⟨c16, p17, f18⟩ := (O6.atVar (j := 1) rfl)
  refine W.loadA (cs := c16) rfl rfl ag48 sz48 (pt_px rfl p17) (RT.len _ f18) (W.lo rfl rfl (Lo.storeVar (j := 0) (s := T_Q) (y0 := p0) (v := (.agg (List.toArray c16))) (o := 0) rfl ((Put.at (Put.self _) _ _)) rfl sz48 rfl (by omega) rfl f18 O6) ?_)
  rintro v21 H22 ⟨O19, sm20⟩
  replace O19 : Ow G H22 (eVar b7 48 T_Q p0 :: eVar b2 48 T_Q p0 :: L) := O19
  refine .nil (.ret ?_)
  obtain ⟨c23, p24, f25⟩ := (O19.atVar (j := 0) rfl)
  have O26 : Ow G H22 (eVar b2 48 T_Q p0 :: L) := O19.drop 0
  have O27 : Ow G H22 (L) := O26.drop 0
  obtain rfl := Option.some.inj h15
  refine ret1R (P := Tryz.prog) (fn := Tryz.f54) (n := 16) (R := fun v H' => ∃ G', Ow G' H' (L) ∧ G.le G' ∧ ∃ (w0 : List Value), v = .agg (List.toArray w0) ∧ T_Q.rep G' w0 p0) (v1 := (.agg (List.toArray c23))) (by rfl) (rr_cellA (p := (.pointer (some ⟨b7, 0, none⟩))) (by rfl) ag48 sz48 (by exact rfl) p24 (RT.len _ f25)) ?_
  exact ⟨_, O27, (GM.le.refl _), c23, rfl, f25⟩
 have h28 := neg_b g14 h
 refine .skip (.seq (.region (W.pure (v := (padd (.pointer (some ⟨b2, 0, none⟩)) 0)) rfl rfl (v_fldA fl48_0 (oo rfl rfl) (O6.atVar (j := 1) rfl)) (W.load1 (v := (.bool p0.neg)) (r := []) rfl rfl ag4 (pt_px rfl (At.bool (At.proj (O6.atVar (j := 1) rfl) p_Q_neg))) (W.pure (v := (.bool (!p0.neg))) rfl rfl (bool_not (a := p0.neg) (oo rfl rfl)) (W.pure (v := (padd (.pointer (some ⟨b2, 0, none⟩)) 1)) rfl rfl (v_fldA fl48_1 (oo rfl rfl) (O6.atVar (j := 1) rfl)) ?_))))))
 obtain ⟨w29, p30, f31⟩ := At.sl (At.proj (O6.atVar (j := 1) rfl) p_Q_num)
 refine W.load1 (v := w29) (r := []) rfl rfl ag46 (pt_px rfl p30) (W.pure (v := (padd (.pointer (some ⟨b2, 0, none⟩)) 2)) rfl rfl (v_fldA fl48_2 (oo rfl rfl) (O6.atVar (j := 1) rfl)) ?_)
 obtain ⟨w32, p33, f34⟩ := At.sl (At.proj (O6.atVar (j := 1) rfl) p_Q_den)
 refine W.load1 (v := w32) (r := []) rfl rfl ag46 (pt_px rfl p33) ?_
 obtain ⟨c35, e37, f36⟩ := bd_Q_0_1_2 ((.bool (!p0.neg))) (w29) (w32) (rfl) ((sl_cells f31)) ((sl_cells f34))
 refine W.pure (v := .agg (List.toArray c35)) rfl rfl (e37 (opndP_oo rfl (qc' rfl (qc' rfl (qc' rfl qn'))))) (W.lo rfl rfl (Lo.storeVar (j := 0) (s := T_Q) (y0 := (Q.mk (!p0.neg) p0.num p0.den)) (v := (.agg (List.toArray c35))) (o := 0) rfl ((Put.at (Put.self _) _ _)) rfl sz48 rfl (by omega) rfl f36 O6) ?_)
 rintro v40 H41 ⟨O38, sm39⟩
 replace O38 : Ow G H41 (eVar b7 48 T_Q (Q.mk (!p0.neg) p0.num p0.den) :: eVar b2 48 T_Q p0 :: L) := O38
 refine .nil (.ret ?_)
 obtain ⟨c42, p43, f44⟩ := (O38.atVar (j := 0) rfl)
 have O45 : Ow G H41 (eVar b2 48 T_Q p0 :: L) := O38.drop 0
 have O46 : Ow G H41 (L) := O45.drop 0
 obtain rfl := Option.some.inj h28
 refine ret1R (P := Tryz.prog) (fn := Tryz.f54) (n := 16) (R := fun v H' => ∃ G', Ow G' H' (L) ∧ G.le G' ∧ ∃ (w0 : List Value), v = .agg (List.toArray w0) ∧ T_Q.rep G' w0 (Q.mk (!p0.neg) p0.num p0.den)) (v1 := (.agg (List.toArray c42))) (by rfl) (rr_cellA (p := (.pointer (some ⟨b7, 0, none⟩))) (by rfl) ag48 sz48 (by exact rfl) p43 (RT.len _ f44)) ?_
 exact ⟨_, O46, (GM.le.refl _), c42, rfl, f44⟩
def g_rat_Q_Sub (K : Nat) (p0 : Q) (p1 : Q) : Option Q := ((g_rat_Q_Neg K p1).bind fun x27 => ((g_rat_Q_Add K p0 x27).bind fun x40 => some x40))
set_option maxHeartbeats 4000000 in
theorem g_rat_Q_Sub_ok (K : Nat) {G : GM} {H : AH} {L : List Pc} (v0 : List Value) (p0 : Q) (hp0 : T_Q.rep G v0 p0) (v1 : List Value) (p1 : Q) (hp1 : T_Q.rep G v1 p1) (O : Ow G H (L)) (r : Q) (h : g_rat_Q_Sub K p0 p1 = some r) :
    CR Tryz.prog 51 [.agg (List.toArray v0), .agg (List.toArray v1)] G H (L) (fun v G' _ => ∃ (w0 : List Value), v = .agg (List.toArray w0) ∧ T_Q.rep G' w0 r) := by
 unfold g_rat_Q_Sub at h
 refine CR.of (calls_of_AW (n := 9) (fn := Tryz.f51) (R := fun v H' => ∃ G', Ow G' H' (L) ∧ G.le G' ∧ ∃ (w0 : List Value), v = .agg (List.toArray w0) ∧ T_Q.rep G' w0 r) (by kernel_rfl) rfl rfl ?_)
 refine .seq (.region (W.lo rfl rfl (Lo.box (r := T_Q) (x0 := p0) (v := (.agg (List.toArray v0))) rfl rfl hp0 O) ?_))
 rintro v4 H5 ⟨b2, rfl, O1, sm3⟩
 refine W.lo rfl rfl (Lo.box (r := T_Q) (x0 := p1) (v := (.agg (List.toArray v1))) rfl rfl hp1 O1) ?_
 rintro v9 H10 ⟨b7, rfl, O6, sm8⟩
 refine W.lo rfl rfl (Lo.alloc (r := T_Q) (x0 := (Q.mk false ([] : List Int) ([] : List Int))) ze48 (by kernel_rfl) z_Q O6) ?_
 rintro v14 H15 ⟨b12, rfl, O11, sm13⟩
 refine .nil (.seq (.draw2 (M := [0, 0, 2, 7, 15]) mixed (by kernel_rfl) (by kernel_rfl) fun H16 N20 x17 F19 => ?_))
 have O18 := O11.ext x17
 obtain ⟨c21, p22, f23⟩ := (O18.atVar (j := 2) rfl)
 refine D2.loadA' (cs := c21) rfl rfl ag48 sz48 (pt_px rfl p22) (RT.len _ f23) fa_nil ?_
 obtain ⟨c24, p25, f26⟩ := (O18.atVar (j := 1) rfl)
 refine D2.loadA' (cs := c24) rfl rfl ag48 sz48 (pt_px rfl p25) (RT.len _ f26) fa_nil ?_
 obtain ⟨x27, i28, h29⟩ := bd_inv h
 refine D2.lo rfl rfl (Lo.callP (ps := []) (ps' := []) rfl (fn := Tryz.f54) (by kernel_rfl) rfl (mc rfl mn) O18 (fun L' O' => g_rat_Q_Neg_ok K c24 p1 f26 O' _ i28)) ?_ fa_nil ?_ ?_
 ·rintro v38 H39 ⟨G30, O31, s32, sm37, ⟨c34, rfl, f35⟩⟩; exact (faR1 (.inl (by decide)) (faR1 (.inr (sm37 _ (Or.inr ⟨2, _, rfl, List.mem_singleton.2 rfl⟩))) fa_nil))
 ·rintro v38 H39 ⟨G30, O31, s32, sm37, ⟨c34, rfl, f35⟩⟩; exact fa_nil
 rintro v38 H39 ⟨G30, O31, s32, sm37, ⟨c34, rfl, f35⟩⟩
 replace O31 : Ow G30 H39 (eVar b12 48 T_Q (Q.mk false ([] : List Int) ([] : List Int)) :: eVar b7 48 T_Q p1 :: eVar b2 48 T_Q p0 :: L) := O31
 obtain ⟨x40, i41, h42⟩ := bd_inv h29
 refine D2.lo rfl rfl (Lo.callP (ps := []) (ps' := []) rfl (fn := Tryz.f50) (by kernel_rfl) rfl (mc rfl (mc rfl mn)) O31 (fun L' O' => g_rat_Q_Add_ok K c21 p0 (RT.mono _ s32 f23) c34 x27 f35 O' _ i41)) ?_ (faL_bit (by decide) fa_nil) ?_ ?_
 ·rintro v51 H52 ⟨G43, O44, s45, sm50, ⟨c47, rfl, f48⟩⟩; exact (faR1 (.inl (by decide)) (faR1 (.inl (by decide)) fa_nil))
 ·rintro v51 H52 ⟨G43, O44, s45, sm50, ⟨c47, rfl, f48⟩⟩; exact fa_nil
 rintro v51 H52 ⟨G43, O44, s45, sm50, ⟨c47, rfl, f48⟩⟩
 replace O44 : Ow G43 H52 (eVar b12 48 T_Q (Q.mk false ([] : List Int) ([] : List Int)) :: eVar b7 48 T_Q p1 :: eVar b2 48 T_Q p0 :: L) := O44
 refine D2.lo rfl rfl (Lo.storeVar (j := 0) (s := T_Q) (y0 := x40) (v := (.agg (List.toArray c47))) (o := 0) rfl ((Put.at (Put.self _) _ _)) rfl sz48 rfl (by omega) rfl f48 O44) ?_ (faL_bit (by decide) (faL_bit (by decide) fa_nil)) ?_ ?_
 ·rintro v55 H56 ⟨O53, sm54⟩; exact (faR1 (.inl (by decide)) (faR1 (.inl (by decide)) fa_nil))
 ·rintro v55 H56 ⟨O53, sm54⟩; exact fa_nil
 rintro v55 H56 ⟨O53, sm54⟩
 replace O53 : Ow G43 H56 (eVar b12 48 T_Q x40 :: eVar b7 48 T_Q p1 :: eVar b2 48 T_Q p0 :: L) := O53
 refine .nil (.ret ?_)
 obtain ⟨c57, p58, f59⟩ := (O53.atVar (j := 0) rfl)
 have O60 : Ow G43 H56 (eVar b7 48 T_Q p1 :: eVar b2 48 T_Q p0 :: L) := O53.drop 0
 have O61 : Ow G43 H56 (eVar b2 48 T_Q p0 :: L) := O60.drop 0
 have O62 : Ow G43 H56 (L) := O61.drop 0
 obtain rfl := Option.some.inj h42
 refine ret1R (P := Tryz.prog) (fn := Tryz.f51) (n := 9) (R := fun v H' => ∃ G', Ow G' H' (L) ∧ G.le G' ∧ ∃ (w0 : List Value), v = .agg (List.toArray w0) ∧ T_Q.rep G' w0 x40) (v1 := (.agg (List.toArray c57))) (by rfl) (rr_cellA (p := (.pointer (some ⟨b12, 0, none⟩))) (by rfl) ag48 sz48 (by exact rfl) p58 (RT.len _ f59)) ?_
 exact ⟨_, O62, (GM.le.trans s32 s45), c57, rfl, f59⟩
def g_rat_Sub (K : Nat) (p0 : ByteArray) (p1 : ByteArray) : Option (ByteArray × Int) := ((g_rat_two K p0 p1 (fun x => g_rat_Q_Sub K x.1 x.2)).bind fun x5 => some (x5.1, x5.2))
set_option maxHeartbeats 4000000 in
theorem g_rat_Sub_ok (K : Nat) {G : GM} {H : AH} {L : List Pc} (p0 : ByteArray) (p1 : ByteArray) (O : Ow G H (L)) (r : ByteArray × Int) (h : g_rat_Sub K p0 p1 = some r) :
    CR Tryz.prog 18 [(.string p0), (.string p1)] G H (L) (fun v G' _ => v = .tuple #[.string r.1, .int .i64 r.2]) := by
 unfold g_rat_Sub at h
 refine CR.of (calls_of_AW (n := 11) (fn := Tryz.f18) (R := fun v H' => ∃ G', Ow G' H' (L) ∧ G.le G' ∧ v = .tuple #[.string r.1, .int .i64 r.2]) (by kernel_rfl) rfl rfl ?_)
 refine .seq (.region (W.q1 (.string (⟨#[]⟩ : ByteArray)) rfl (W.q1 (.int .i64 0) rfl (.nil (.seq (.region ?_))))))
 refine W.q2 (.string p0) rfl (W.q2 (.string p1) rfl ?_)
 obtain ⟨x5, i6, h7⟩ := bd_inv h
 refine W.lo rfl rfl (Lo.callP (ps := []) (ps' := []) rfl (fn := Tryz.f49) (by kernel_rfl) rfl (mc rfl (mc rfl (mc rfl mn))) O (fun L' O' => g_rat_two_ok K p0 p1 (.func (.func 51) #[] #[]) (fun x => g_rat_Q_Sub K x.1 x.2) ⟨51, _, _, Tryz.f51, rfl, by kernel_rfl, rfl, fun G1 H L vs x r hG O hA hF => by obtain ⟨w1, w3, rfl, f2, f4⟩ := hA; exact g_rat_Q_Sub_ok K w1 x.1 f2 w3 x.2 f4 O _ hF⟩ O' _ i6)) ?_
 rintro v14 H15 ⟨G8, O9, s10, sm13, rfl⟩
 replace O9 : Ow G8 H15 (L) := O9
 refine W.pure (v := (.string x5.1)) rfl rfl (v_extract (oo rfl rfl) rfl) (W.pure (v := (.int .i64 x5.2)) rfl rfl (v_extract (oo rfl rfl) rfl) (W.q1 (.string x5.1) rfl (W.q1 (.int .i64 x5.2) rfl (.nil (.ret ?_)))))
 obtain rfl := Option.some.inj h7
 refine ret2R (P := Tryz.prog) (fn := Tryz.f18) (n := 11) (R := fun v H' => ∃ G', Ow G' H' (L) ∧ G.le G' ∧ v = .tuple #[.string (x5.1, x5.2).1, .int .i64 (x5.1, x5.2).2]) (v1 := (.string x5.1)) (v2 := (.int .i64 x5.2)) (by rfl) (rr_tmp (by rfl) (by exact rfl)) (rr_tmp (by rfl) (by exact rfl)) ?_
 exact ⟨_, O9, s10, rfl⟩
def g_rat_Q_Mul (K : Nat) (p0 : Q) (p1 : Q) : Option Q := (Option.bind ((if ((List.length p0.num : Int) == 0) = true then some true else some ((List.length p1.num : Int) == 0))) (tu1 fun x29 => (if x29 = true then some (Q.mk false ([] : List Int) ([] : List Int)) else ((g_nat_N_Mul K p0.num p1.num).bind fun x66 => ((g_rat_Q_whole K p0).bind fun x82 => ((g_rat_Q_whole K p1).bind fun x98 => ((g_nat_N_Mul K x82 x98).bind fun x111 => ((g_rat_low K (!(p0.neg == p1.neg)) x66 x111).bind fun x132 => some x132))))))))
set_option maxHeartbeats 4000000 in
theorem g_rat_Q_Mul_ok (K : Nat) {G : GM} {H : AH} {L : List Pc} (v0 : List Value) (p0 : Q) (hp0 : T_Q.rep G v0 p0) (v1 : List Value) (p1 : Q) (hp1 : T_Q.rep G v1 p1) (O : Ow G H (L)) (r : Q) (h : g_rat_Q_Mul K p0 p1 = some r) :
    CR Tryz.prog 52 [.agg (List.toArray v0), .agg (List.toArray v1)] G H (L) (fun v G' _ => ∃ (w0 : List Value), v = .agg (List.toArray w0) ∧ T_Q.rep G' w0 r) := by
 unfold g_rat_Q_Mul at h
 refine CR.of (calls_of_AW (n := 32) (fn := Tryz.f52) (R := fun v H' => ∃ G', Ow G' H' (L) ∧ G.le G' ∧ ∃ (w0 : List Value), v = .agg (List.toArray w0) ∧ T_Q.rep G' w0 r) (by kernel_rfl) rfl rfl ?_)
 refine .seq (.region (W.lo rfl rfl (Lo.box (r := T_Q) (x0 := p0) (v := (.agg (List.toArray v0))) rfl rfl hp0 O) ?_))
 rintro v4 H5 ⟨b2, rfl, O1, sm3⟩
 refine W.lo rfl rfl (Lo.box (r := T_Q) (x0 := p1) (v := (.agg (List.toArray v1))) rfl rfl hp1 O1) ?_
 rintro v9 H10 ⟨b7, rfl, O6, sm8⟩
 refine W.lo rfl rfl (Lo.alloc (r := T_Q) (x0 := (Q.mk false ([] : List Int) ([] : List Int))) ze48 (by kernel_rfl) z_Q O6) ?_
 rintro v14 H15 ⟨b12, rfl, O11, sm13⟩
 refine .nil (.seq (.seq ?_))
 obtain ⟨q16, h17, h18⟩ := bd_inv h
 refine AW.midT (fun σ' H' => ∃ (y1 : Bool) (G' : GM), y1 = q16 ∧ Ow G' H' (eVar b12 48 T_Q (Q.mk false ([] : List Int) ([] : List Int)) :: eVar b7 48 T_Q p1 :: eVar b2 48 T_Q p0 :: L) ∧ GM.le G G' ∧ σ' 14 = .bool y1) ?_ ?_
 ·refine .region (W.pure (v := (padd (.pointer (some ⟨b2, 0, none⟩)) 1)) rfl rfl (v_fldA fl48_1 (oo rfl rfl) (O11.atVar (j := 2) rfl)) ?_)
  obtain ⟨w19, p20, f21⟩ := At.sl (At.proj (O11.atVar (j := 2) rfl) p_Q_num)
  refine W.load1 (v := w19) (r := []) rfl rfl ag46 (pt_px rfl p20) (W.pure (v := (.int .i64 (List.length p0.num : Int))) rfl rfl (len_sl (oo rfl rfl) (sl_len f21) (elemT_inv el46)) (W.q3 (.bool ((List.length p0.num : Int) == 0)) rfl rfl (W.q2 (.bool ((List.length p0.num : Int) == 0)) rfl (W.splitAt (t := 9) (b := ((List.length p0.num : Int) == 0)) rfl (fun g22 gv23 => ?_) (fun g22 gv23 => ?_)))))
  ·have h24 := pos_inv g22 h17
   refine W.q6 rfl gv23 (W.q6 rfl gv23 (W.q6 rfl gv23 (W.q6 rfl gv23 (W.q4 (.bool true) gv23 rfl (.nil ?_)))))
   obtain rfl := Option.some.inj h24
   exact ⟨true, _, rfl, O11, (GM.le.refl _), rfl⟩
  have h25 := neg_b g22 h17
  refine W.pure (v := (padd (.pointer (some ⟨b7, 0, none⟩)) 1)) (gk rfl rfl gv23 rfl) rfl (v_fldA fl48_1 (oo rfl rfl) (O11.atVar (j := 1) rfl)) ?_
  obtain ⟨w26, p27, f28⟩ := At.sl (At.proj (O11.atVar (j := 1) rfl) p_Q_num)
  refine W.load1 (v := w26) (r := []) (gk rfl rfl gv23 rfl) rfl ag46 (pt_px rfl p27) (W.pure (v := (.int .i64 (List.length p1.num : Int))) (gk rfl rfl gv23 rfl) rfl (len_sl (oo rfl rfl) (sl_len f28) (elemT_inv el46)) (W.q3 (hg := gk rfl rfl gv23 rfl) (.bool ((List.length p1.num : Int) == 0)) rfl rfl (W.q5 (.bool ((List.length p1.num : Int) == 0)) gv23 rfl (.nil ?_))))
  obtain rfl := Option.some.inj h25
  exact ⟨((List.length p1.num : Int) == 0), _, rfl, O11, (GM.le.refl _), rfl⟩
 rintro σ30 H31 fr32 ⟨x29, G33, rfl, O34, s35, t37⟩
 have h38 := tu1_inv h18
 refine .cond (b := x29) rfl t37 (fun g39 => ?_) (fun g39 => ?_)
 ·have h40 := pos_inv g39 h38
  refine .seq (.region ?_)
  obtain ⟨c41, e43, f42⟩ := bd_Q_
  refine W.pure (v := .agg (List.toArray c41)) rfl rfl (e43 (opndP_oo rfl qn')) (W.lo rfl rfl (Lo.storeVar (j := 0) (s := T_Q) (y0 := (Q.mk false ([] : List Int) ([] : List Int))) (v := (.agg (List.toArray c41))) (o := 0) rfl ((Put.at (Put.self _) _ _)) rfl sz48 ((fr32 4 rfl).trans rfl) (by omega) rfl f42 O34) ?_)
  rintro v46 H47 ⟨O44, sm45⟩
  replace O44 : Ow G33 H47 (eVar b12 48 T_Q (Q.mk false ([] : List Int) ([] : List Int)) :: eVar b7 48 T_Q p1 :: eVar b2 48 T_Q p0 :: L) := O44
  refine .nil (.ret ?_)
  obtain ⟨c48, p49, f50⟩ := (O44.atVar (j := 0) rfl)
  have O51 : Ow G33 H47 (eVar b7 48 T_Q p1 :: eVar b2 48 T_Q p0 :: L) := O44.drop 0
  have O52 : Ow G33 H47 (eVar b2 48 T_Q p0 :: L) := O51.drop 0
  have O53 : Ow G33 H47 (L) := O52.drop 0
  obtain rfl := Option.some.inj h40
  refine ret1R (P := Tryz.prog) (fn := Tryz.f52) (n := 32) (R := fun v H' => ∃ G', Ow G' H' (L) ∧ G.le G' ∧ ∃ (w0 : List Value), v = .agg (List.toArray w0) ∧ T_Q.rep G' w0 (Q.mk false ([] : List Int) ([] : List Int))) (v1 := (.agg (List.toArray c48))) (by rfl) (rr_cellA (p := (.pointer (some ⟨b12, 0, none⟩))) (by rfl) ag48 sz48 (by exact ((fr32 4 rfl).trans rfl)) p49 (RT.len _ f50)) ?_
  exact ⟨_, O53, s35, c48, rfl, f50⟩
 have h54 := neg_b g39 h38
 refine .skip (.seq (.draw2 (M := [0, 1, 0, 4, 15, 0, 32, 0, 128, 480, 0, 2016, 0, 8160, 16352, 32767, 65535]) mixed (by kernel_rfl) (by kernel_rfl) fun H55 N59 x56 F58 => ?_))
 have O57 := O34.ext x56
 refine D2.pure (v := (padd (.pointer (some ⟨b2, 0, none⟩)) 0)) rfl rfl (v_fldA fl48_0 (oo rfl ((fr32 2 rfl).trans rfl)) (O57.atVar (j := 2) rfl)) (D2.load1' (v := (.bool p0.neg)) (r := []) rfl rfl ag4 (pt_px rfl (At.bool (At.proj (O57.atVar (j := 2) rfl) p_Q_neg))) fa_nil (D2.pure (v := (padd (.pointer (some ⟨b7, 0, none⟩)) 0)) rfl rfl (v_fldA fl48_0 (oo rfl ((fr32 3 rfl).trans rfl)) (O57.atVar (j := 1) rfl)) (D2.load1' (v := (.bool p1.neg)) (r := []) rfl rfl ag4 (pt_px rfl (At.bool (At.proj (O57.atVar (j := 1) rfl) p_Q_neg))) fa_nil (D2.pure (v := (.bool (!(p0.neg == p1.neg)))) rfl rfl (bool_neq (oo rfl rfl) (oo rfl rfl) un4) (D2.pure (v := (padd (.pointer (some ⟨b2, 0, none⟩)) 1)) rfl rfl (v_fldA fl48_1 (oo rfl ((fr32 2 rfl).trans rfl)) (O57.atVar (j := 2) rfl)) ?_)))))
 obtain ⟨w60, p61, f62⟩ := At.sl (At.proj (O57.atVar (j := 2) rfl) p_Q_num)
 refine D2.load1' (v := w60) (r := []) rfl rfl ag46 (pt_px rfl p61) fa_nil (D2.pure (v := (padd (.pointer (some ⟨b7, 0, none⟩)) 1)) rfl rfl (v_fldA fl48_1 (oo rfl ((fr32 3 rfl).trans rfl)) (O57.atVar (j := 1) rfl)) ?_)
 obtain ⟨w63, p64, f65⟩ := At.sl (At.proj (O57.atVar (j := 1) rfl) p_Q_num)
 refine D2.load1' (v := w63) (r := []) rfl rfl ag46 (pt_px rfl p64) fa_nil ?_
 obtain ⟨x66, i67, h68⟩ := bd_inv h54
 refine D2.lo rfl rfl (Lo.callPF (ps := []) (pw := fun w => [eSl w 64 (rI .u32) x66]) rfl (fn := Tryz.f75) (by kernel_rfl) rfl (mc rfl (mc rfl mn)) O57 (fun L' O' => g_nat_N_Mul_ok K w60 p0.num f62 w63 p1.num f65 O' _ i67)) ?_ fa_nil ?_ ?_
 ·rintro v77 H78 ⟨w74, G69, O70, s71, sm76, rfl⟩; exact (faR1 (.inl (by decide)) (faR1 (.inl (by decide)) (faR1 (.inr (sm76 _ (Or.inr ⟨1, _, rfl, List.mem_singleton.2 rfl⟩))) (faR1 (.inr (sm76 _ (Or.inr ⟨2, _, rfl, List.mem_singleton.2 rfl⟩))) fa_nil))))
 ·rintro v77 H78 ⟨w74, G69, O70, s71, sm76, rfl⟩; exact fa_nil
 rintro v77 H78 ⟨w74, G69, O70, s71, sm76, rfl⟩
 replace O70 : Ow G69 H78 (eSl w74 64 (rI .u32) x66 :: eVar b12 48 T_Q (Q.mk false ([] : List Int) ([] : List Int)) :: eVar b7 48 T_Q p1 :: eVar b2 48 T_Q p0 :: L) := O70
 obtain ⟨c79, p80, f81⟩ := (O70.atVar (j := 3) rfl)
 refine D2.loadA' (cs := c79) rfl rfl ag48 sz48 (pt_px ((fr32 2 rfl).trans rfl) p80) (RT.len _ f81) (faQ_eq (fa_px ((fr32 2 rfl).trans rfl) (sm76 _ (Or.inr ⟨2, _, rfl, List.mem_singleton.2 rfl⟩))) fa_nil) ?_
 obtain ⟨x82, i83, h84⟩ := bd_inv h68
 refine D2.lo rfl rfl (Lo.callP (ps := []) (ps' := []) rfl (fn := Tryz.f39) (by kernel_rfl) rfl (mc rfl mn) O70 (fun L' O' => g_rat_Q_whole_ok K c79 p0 f81 O' _ i83)) ?_ (faL_bit (by decide) fa_nil) ?_ ?_
 ·rintro v93 H94 ⟨G85, O86, s87, sm92, ⟨w89, rfl, f90⟩⟩; exact (faR1 (.inl (by decide)) (faR1 (.inl (by decide)) (faR1 (.inl (by decide)) (faR1 (.inr (sm92 _ (Or.inr ⟨2, _, rfl, List.mem_singleton.2 rfl⟩))) (faR1 (.inr (sm92 _ (Or.inr ⟨3, _, rfl, List.mem_singleton.2 rfl⟩))) fa_nil)))))
 ·rintro v93 H94 ⟨G85, O86, s87, sm92, ⟨w89, rfl, f90⟩⟩; exact fa_nil
 rintro v93 H94 ⟨G85, O86, s87, sm92, ⟨w89, rfl, f90⟩⟩
 replace O86 : Ow G85 H94 (eSl w74 64 (rI .u32) x66 :: eVar b12 48 T_Q (Q.mk false ([] : List Int) ([] : List Int)) :: eVar b7 48 T_Q p1 :: eVar b2 48 T_Q p0 :: L) := O86
 obtain ⟨c95, p96, f97⟩ := (O86.atVar (j := 2) rfl)
 refine D2.loadA' (cs := c95) rfl rfl ag48 sz48 (pt_px ((fr32 3 rfl).trans rfl) p96) (RT.len _ f97) (faQ_eq (fa_px ((fr32 3 rfl).trans rfl) (sm92 _ (Or.inr ⟨2, _, rfl, List.mem_singleton.2 rfl⟩))) (faQ_eq (fa_px ((fr32 3 rfl).trans rfl) (sm76 _ (Or.inr ⟨1, _, rfl, List.mem_singleton.2 rfl⟩))) fa_nil)) ?_
 obtain ⟨x98, i99, h100⟩ := bd_inv h84
 refine D2.lo rfl rfl (Lo.callP (ps := []) (ps' := []) rfl (fn := Tryz.f39) (by kernel_rfl) rfl (mc rfl mn) O86 (fun L' O' => g_rat_Q_whole_ok K c95 p1 f97 O' _ i99)) ?_ (faL_bit (by decide) (faL_bit (by decide) fa_nil)) ?_ ?_
 ·rintro v109 H110 ⟨G101, O102, s103, sm108, ⟨w105, rfl, f106⟩⟩; exact (faR1 (.inl (by decide)) (faR1 (.inl (by decide)) (faR1 (.inl (by decide)) (faR1 (.inl (by decide)) (faR1 (.inr (sm108 _ (Or.inr ⟨2, _, rfl, List.mem_singleton.2 rfl⟩))) (faR1 (.inr (sm108 _ (Or.inr ⟨3, _, rfl, List.mem_singleton.2 rfl⟩))) fa_nil))))))
 ·rintro v109 H110 ⟨G101, O102, s103, sm108, ⟨w105, rfl, f106⟩⟩; exact fa_nil
 rintro v109 H110 ⟨G101, O102, s103, sm108, ⟨w105, rfl, f106⟩⟩
 replace O102 : Ow G101 H110 (eSl w74 64 (rI .u32) x66 :: eVar b12 48 T_Q (Q.mk false ([] : List Int) ([] : List Int)) :: eVar b7 48 T_Q p1 :: eVar b2 48 T_Q p0 :: L) := O102
 obtain ⟨x111, i112, h113⟩ := bd_inv h100
 refine D2.lo rfl rfl (Lo.callPF (ps := []) (pw := fun w => [eSl w 64 (rI .u32) x111]) rfl (fn := Tryz.f75) (by kernel_rfl) rfl (mc rfl (mc rfl mn)) O102 (fun L' O' => g_nat_N_Mul_ok K w89 x82 (RT.mono _ s103 f90) w105 x98 f106 O' _ i112)) ?_ (faL_bit (by decide) (faL_bit (by decide) (faL_bit (by decide) fa_nil))) ?_ ?_
 ·rintro v122 H123 ⟨w119, G114, O115, s116, sm121, rfl⟩; exact (faR1 (.inl (by decide)) (faR1 (.inl (by decide)) (faR1 (.inl (by decide)) (faR1 (.inl (by decide)) (faR1 (.inr (sm121 _ (Or.inr ⟨2, _, rfl, List.mem_singleton.2 rfl⟩))) (faR1 (.inr (sm121 _ (Or.inr ⟨3, _, rfl, List.mem_singleton.2 rfl⟩))) fa_nil))))))
 ·rintro v122 H123 ⟨w119, G114, O115, s116, sm121, rfl⟩; exact fa_nil
 rintro v122 H123 ⟨w119, G114, O115, s116, sm121, rfl⟩
 replace O115 : Ow G114 H123 (eSl w119 64 (rI .u32) x111 :: eSl w74 64 (rI .u32) x66 :: eVar b12 48 T_Q (Q.mk false ([] : List Int) ([] : List Int)) :: eVar b7 48 T_Q p1 :: eVar b2 48 T_Q p0 :: L) := O115
 obtain ⟨G124, O125, s126, f127⟩ := O115.frzSl (j := 1) rfl
 replace O125 : Ow G124 H123 (eSl w119 64 (rI .u32) x111 :: eVar b12 48 T_Q (Q.mk false ([] : List Int) ([] : List Int)) :: eVar b7 48 T_Q p1 :: eVar b2 48 T_Q p0 :: L) := O125
 obtain ⟨G128, O129, s130, f131⟩ := O125.frzSl (j := 0) rfl
 replace O129 : Ow G128 H123 (eVar b12 48 T_Q (Q.mk false ([] : List Int) ([] : List Int)) :: eVar b7 48 T_Q p1 :: eVar b2 48 T_Q p0 :: L) := O129
 obtain ⟨x132, i133, h134⟩ := bd_inv h113
 refine D2.lo rfl rfl (Lo.callP (ps := []) (ps' := []) rfl (fn := Tryz.f47) (by kernel_rfl) rfl (mc rfl (mc rfl (mc rfl mn))) O129 (fun L' O' => g_rat_low_ok K (!(p0.neg == p1.neg)) w74 x66 (RT.mono _ s130 f127) w119 x111 f131 O' _ i133)) ?_ (faL_bit (by decide) (faL_bit (by decide) (faL_bit (by decide) (faL_bit (by decide) fa_nil)))) ?_ ?_
 ·rintro v143 H144 ⟨G135, O136, s137, sm142, ⟨c139, rfl, f140⟩⟩; exact (faR1 (.inl (by decide)) (faR1 (.inl (by decide)) (faR1 (.inl (by decide)) (faR1 (.inl (by decide)) (faR1 (.inl (by decide)) (faR1 (.inl (by decide)) fa_nil))))))
 ·rintro v143 H144 ⟨G135, O136, s137, sm142, ⟨c139, rfl, f140⟩⟩; exact fa_nil
 rintro v143 H144 ⟨G135, O136, s137, sm142, ⟨c139, rfl, f140⟩⟩
 replace O136 : Ow G135 H144 (eVar b12 48 T_Q (Q.mk false ([] : List Int) ([] : List Int)) :: eVar b7 48 T_Q p1 :: eVar b2 48 T_Q p0 :: L) := O136
 refine D2.lo rfl rfl (Lo.storeVar (j := 0) (s := T_Q) (y0 := x132) (v := (.agg (List.toArray c139))) (o := 0) rfl ((Put.at (Put.self _) _ _)) rfl sz48 ((fr32 4 rfl).trans rfl) (by omega) rfl f140 O136) ?_ (faL_bit (by decide) (faL_bit (by decide) (faL_bit (by decide) (faL_bit (by decide) (faL_bit (by decide) fa_nil))))) ?_ ?_
 ·rintro v147 H148 ⟨O145, sm146⟩; exact (faR1 (.inl (by decide)) (faR1 (.inl (by decide)) (faR1 (.inl (by decide)) (faR1 (.inl (by decide)) (faR1 (.inl (by decide)) (faR1 (.inl (by decide)) fa_nil))))))
 ·rintro v147 H148 ⟨O145, sm146⟩; exact fa_nil
 rintro v147 H148 ⟨O145, sm146⟩
 replace O145 : Ow G135 H148 (eVar b12 48 T_Q x132 :: eVar b7 48 T_Q p1 :: eVar b2 48 T_Q p0 :: L) := O145
 refine .nil (.ret ?_)
 obtain ⟨c149, p150, f151⟩ := (O145.atVar (j := 0) rfl)
 have O152 : Ow G135 H148 (eVar b7 48 T_Q p1 :: eVar b2 48 T_Q p0 :: L) := O145.drop 0
 have O153 : Ow G135 H148 (eVar b2 48 T_Q p0 :: L) := O152.drop 0
 have O154 : Ow G135 H148 (L) := O153.drop 0
 obtain rfl := Option.some.inj h134
 refine ret1R (P := Tryz.prog) (fn := Tryz.f52) (n := 32) (R := fun v H' => ∃ G', Ow G' H' (L) ∧ G.le G' ∧ ∃ (w0 : List Value), v = .agg (List.toArray w0) ∧ T_Q.rep G' w0 x132) (v1 := (.agg (List.toArray c149))) (by rfl) (rr_cellA (p := (.pointer (some ⟨b12, 0, none⟩))) (by rfl) ag48 sz48 (by exact ((fr32 4 rfl).trans rfl)) p150 (RT.len _ f151)) ?_
 exact ⟨_, O154, (GM.le.trans s35 (GM.le.trans s71 (GM.le.trans s87 (GM.le.trans s103 (GM.le.trans s116 (GM.le.trans s126 (GM.le.trans s130 s137))))))), c149, rfl, f151⟩
def g_rat_Mul (K : Nat) (p0 : ByteArray) (p1 : ByteArray) : Option (ByteArray × Int) := ((g_rat_two K p0 p1 (fun x => g_rat_Q_Mul K x.1 x.2)).bind fun x5 => some (x5.1, x5.2))
set_option maxHeartbeats 4000000 in
theorem g_rat_Mul_ok (K : Nat) {G : GM} {H : AH} {L : List Pc} (p0 : ByteArray) (p1 : ByteArray) (O : Ow G H (L)) (r : ByteArray × Int) (h : g_rat_Mul K p0 p1 = some r) :
    CR Tryz.prog 19 [(.string p0), (.string p1)] G H (L) (fun v G' _ => v = .tuple #[.string r.1, .int .i64 r.2]) := by
 unfold g_rat_Mul at h
 refine CR.of (calls_of_AW (n := 11) (fn := Tryz.f19) (R := fun v H' => ∃ G', Ow G' H' (L) ∧ G.le G' ∧ v = .tuple #[.string r.1, .int .i64 r.2]) (by kernel_rfl) rfl rfl ?_)
 refine .seq (.region (W.q1 (.string (⟨#[]⟩ : ByteArray)) rfl (W.q1 (.int .i64 0) rfl (.nil (.seq (.region ?_))))))
 refine W.q2 (.string p0) rfl (W.q2 (.string p1) rfl ?_)
 obtain ⟨x5, i6, h7⟩ := bd_inv h
 refine W.lo rfl rfl (Lo.callP (ps := []) (ps' := []) rfl (fn := Tryz.f49) (by kernel_rfl) rfl (mc rfl (mc rfl (mc rfl mn))) O (fun L' O' => g_rat_two_ok K p0 p1 (.func (.func 52) #[] #[]) (fun x => g_rat_Q_Mul K x.1 x.2) ⟨52, _, _, Tryz.f52, rfl, by kernel_rfl, rfl, fun G1 H L vs x r hG O hA hF => by obtain ⟨w1, w3, rfl, f2, f4⟩ := hA; exact g_rat_Q_Mul_ok K w1 x.1 f2 w3 x.2 f4 O _ hF⟩ O' _ i6)) ?_
 rintro v14 H15 ⟨G8, O9, s10, sm13, rfl⟩
 replace O9 : Ow G8 H15 (L) := O9
 refine W.pure (v := (.string x5.1)) rfl rfl (v_extract (oo rfl rfl) rfl) (W.pure (v := (.int .i64 x5.2)) rfl rfl (v_extract (oo rfl rfl) rfl) (W.q1 (.string x5.1) rfl (W.q1 (.int .i64 x5.2) rfl (.nil (.ret ?_)))))
 obtain rfl := Option.some.inj h7
 refine ret2R (P := Tryz.prog) (fn := Tryz.f19) (n := 11) (R := fun v H' => ∃ G', Ow G' H' (L) ∧ G.le G' ∧ v = .tuple #[.string (x5.1, x5.2).1, .int .i64 (x5.1, x5.2).2]) (v1 := (.string x5.1)) (v2 := (.int .i64 x5.2)) (by rfl) (rr_tmp (by rfl) (by exact rfl)) (rr_tmp (by rfl) (by exact rfl)) ?_
 exact ⟨_, O9, s10, rfl⟩
def g_rat_Q_Quo (K : Nat) (p0 : Q) (p1 : Q) : Option Q := (Option.bind ((if ((List.length p0.num : Int) == 0) = true then some true else some ((List.length p1.num : Int) == 0))) (tu1 fun x29 => (if x29 = true then some (Q.mk false ([] : List Int) ([] : List Int)) else ((g_rat_Q_whole K p1).bind fun x66 => ((g_nat_N_Mul K p0.num x66).bind fun x79 => ((g_rat_Q_whole K p0).bind fun x95 => ((g_nat_N_Mul K x95 p1.num).bind fun x111 => ((g_rat_low K (!(p0.neg == p1.neg)) x79 x111).bind fun x132 => some x132))))))))
set_option maxHeartbeats 4000000 in
theorem g_rat_Q_Quo_ok (K : Nat) {G : GM} {H : AH} {L : List Pc} (v0 : List Value) (p0 : Q) (hp0 : T_Q.rep G v0 p0) (v1 : List Value) (p1 : Q) (hp1 : T_Q.rep G v1 p1) (O : Ow G H (L)) (r : Q) (h : g_rat_Q_Quo K p0 p1 = some r) :
    CR Tryz.prog 53 [.agg (List.toArray v0), .agg (List.toArray v1)] G H (L) (fun v G' _ => ∃ (w0 : List Value), v = .agg (List.toArray w0) ∧ T_Q.rep G' w0 r) := by
 unfold g_rat_Q_Quo at h
 refine CR.of (calls_of_AW (n := 32) (fn := Tryz.f53) (R := fun v H' => ∃ G', Ow G' H' (L) ∧ G.le G' ∧ ∃ (w0 : List Value), v = .agg (List.toArray w0) ∧ T_Q.rep G' w0 r) (by kernel_rfl) rfl rfl ?_)
 refine .seq (.region (W.lo rfl rfl (Lo.box (r := T_Q) (x0 := p0) (v := (.agg (List.toArray v0))) rfl rfl hp0 O) ?_))
 rintro v4 H5 ⟨b2, rfl, O1, sm3⟩
 refine W.lo rfl rfl (Lo.box (r := T_Q) (x0 := p1) (v := (.agg (List.toArray v1))) rfl rfl hp1 O1) ?_
 rintro v9 H10 ⟨b7, rfl, O6, sm8⟩
 refine W.lo rfl rfl (Lo.alloc (r := T_Q) (x0 := (Q.mk false ([] : List Int) ([] : List Int))) ze48 (by kernel_rfl) z_Q O6) ?_
 rintro v14 H15 ⟨b12, rfl, O11, sm13⟩
 refine .nil (.seq (.seq ?_))
 obtain ⟨q16, h17, h18⟩ := bd_inv h
 refine AW.midT (fun σ' H' => ∃ (y1 : Bool) (G' : GM), y1 = q16 ∧ Ow G' H' (eVar b12 48 T_Q (Q.mk false ([] : List Int) ([] : List Int)) :: eVar b7 48 T_Q p1 :: eVar b2 48 T_Q p0 :: L) ∧ GM.le G G' ∧ σ' 14 = .bool y1) ?_ ?_
 ·refine .region (W.pure (v := (padd (.pointer (some ⟨b2, 0, none⟩)) 1)) rfl rfl (v_fldA fl48_1 (oo rfl rfl) (O11.atVar (j := 2) rfl)) ?_)
  obtain ⟨w19, p20, f21⟩ := At.sl (At.proj (O11.atVar (j := 2) rfl) p_Q_num)
  refine W.load1 (v := w19) (r := []) rfl rfl ag46 (pt_px rfl p20) (W.pure (v := (.int .i64 (List.length p0.num : Int))) rfl rfl (len_sl (oo rfl rfl) (sl_len f21) (elemT_inv el46)) (W.q3 (.bool ((List.length p0.num : Int) == 0)) rfl rfl (W.q2 (.bool ((List.length p0.num : Int) == 0)) rfl (W.splitAt (t := 9) (b := ((List.length p0.num : Int) == 0)) rfl (fun g22 gv23 => ?_) (fun g22 gv23 => ?_)))))
  ·have h24 := pos_inv g22 h17
   refine W.q6 rfl gv23 (W.q6 rfl gv23 (W.q6 rfl gv23 (W.q6 rfl gv23 (W.q4 (.bool true) gv23 rfl (.nil ?_)))))
   obtain rfl := Option.some.inj h24
   exact ⟨true, _, rfl, O11, (GM.le.refl _), rfl⟩
  have h25 := neg_b g22 h17
  refine W.pure (v := (padd (.pointer (some ⟨b7, 0, none⟩)) 1)) (gk rfl rfl gv23 rfl) rfl (v_fldA fl48_1 (oo rfl rfl) (O11.atVar (j := 1) rfl)) ?_
  obtain ⟨w26, p27, f28⟩ := At.sl (At.proj (O11.atVar (j := 1) rfl) p_Q_num)
  refine W.load1 (v := w26) (r := []) (gk rfl rfl gv23 rfl) rfl ag46 (pt_px rfl p27) (W.pure (v := (.int .i64 (List.length p1.num : Int))) (gk rfl rfl gv23 rfl) rfl (len_sl (oo rfl rfl) (sl_len f28) (elemT_inv el46)) (W.q3 (hg := gk rfl rfl gv23 rfl) (.bool ((List.length p1.num : Int) == 0)) rfl rfl (W.q5 (.bool ((List.length p1.num : Int) == 0)) gv23 rfl (.nil ?_))))
  obtain rfl := Option.some.inj h25
  exact ⟨((List.length p1.num : Int) == 0), _, rfl, O11, (GM.le.refl _), rfl⟩
 rintro σ30 H31 fr32 ⟨x29, G33, rfl, O34, s35, t37⟩
 have h38 := tu1_inv h18
 refine .cond (b := x29) rfl t37 (fun g39 => ?_) (fun g39 => ?_)
 ·have h40 := pos_inv g39 h38
  refine .seq (.region ?_)
  obtain ⟨c41, e43, f42⟩ := bd_Q_
  refine W.pure (v := .agg (List.toArray c41)) rfl rfl (e43 (opndP_oo rfl qn')) (W.lo rfl rfl (Lo.storeVar (j := 0) (s := T_Q) (y0 := (Q.mk false ([] : List Int) ([] : List Int))) (v := (.agg (List.toArray c41))) (o := 0) rfl ((Put.at (Put.self _) _ _)) rfl sz48 ((fr32 4 rfl).trans rfl) (by omega) rfl f42 O34) ?_)
  rintro v46 H47 ⟨O44, sm45⟩
  replace O44 : Ow G33 H47 (eVar b12 48 T_Q (Q.mk false ([] : List Int) ([] : List Int)) :: eVar b7 48 T_Q p1 :: eVar b2 48 T_Q p0 :: L) := O44
  refine .nil (.ret ?_)
  obtain ⟨c48, p49, f50⟩ := (O44.atVar (j := 0) rfl)
  have O51 : Ow G33 H47 (eVar b7 48 T_Q p1 :: eVar b2 48 T_Q p0 :: L) := O44.drop 0
  have O52 : Ow G33 H47 (eVar b2 48 T_Q p0 :: L) := O51.drop 0
  have O53 : Ow G33 H47 (L) := O52.drop 0
  obtain rfl := Option.some.inj h40
  refine ret1R (P := Tryz.prog) (fn := Tryz.f53) (n := 32) (R := fun v H' => ∃ G', Ow G' H' (L) ∧ G.le G' ∧ ∃ (w0 : List Value), v = .agg (List.toArray w0) ∧ T_Q.rep G' w0 (Q.mk false ([] : List Int) ([] : List Int))) (v1 := (.agg (List.toArray c48))) (by rfl) (rr_cellA (p := (.pointer (some ⟨b12, 0, none⟩))) (by rfl) ag48 sz48 (by exact ((fr32 4 rfl).trans rfl)) p49 (RT.len _ f50)) ?_
  exact ⟨_, O53, s35, c48, rfl, f50⟩
 have h54 := neg_b g39 h38
 refine .skip (.seq (.draw2 (M := [0, 1, 0, 4, 15, 0, 32, 0, 128, 480, 0, 2016, 0, 4096, 16352, 32767, 65535]) mixed (by kernel_rfl) (by kernel_rfl) fun H55 N59 x56 F58 => ?_))
 have O57 := O34.ext x56
 refine D2.pure (v := (padd (.pointer (some ⟨b2, 0, none⟩)) 0)) rfl rfl (v_fldA fl48_0 (oo rfl ((fr32 2 rfl).trans rfl)) (O57.atVar (j := 2) rfl)) (D2.load1' (v := (.bool p0.neg)) (r := []) rfl rfl ag4 (pt_px rfl (At.bool (At.proj (O57.atVar (j := 2) rfl) p_Q_neg))) fa_nil (D2.pure (v := (padd (.pointer (some ⟨b7, 0, none⟩)) 0)) rfl rfl (v_fldA fl48_0 (oo rfl ((fr32 3 rfl).trans rfl)) (O57.atVar (j := 1) rfl)) (D2.load1' (v := (.bool p1.neg)) (r := []) rfl rfl ag4 (pt_px rfl (At.bool (At.proj (O57.atVar (j := 1) rfl) p_Q_neg))) fa_nil (D2.pure (v := (.bool (!(p0.neg == p1.neg)))) rfl rfl (bool_neq (oo rfl rfl) (oo rfl rfl) un4) (D2.pure (v := (padd (.pointer (some ⟨b2, 0, none⟩)) 1)) rfl rfl (v_fldA fl48_1 (oo rfl ((fr32 2 rfl).trans rfl)) (O57.atVar (j := 2) rfl)) ?_)))))
 obtain ⟨w60, p61, f62⟩ := At.sl (At.proj (O57.atVar (j := 2) rfl) p_Q_num)
 refine D2.load1' (v := w60) (r := []) rfl rfl ag46 (pt_px rfl p61) fa_nil ?_
 obtain ⟨c63, p64, f65⟩ := (O57.atVar (j := 1) rfl)
 refine D2.loadA' (cs := c63) rfl rfl ag48 sz48 (pt_px ((fr32 3 rfl).trans rfl) p64) (RT.len _ f65) fa_nil ?_
 obtain ⟨x66, i67, h68⟩ := bd_inv h54
 refine D2.lo rfl rfl (Lo.callP (ps := []) (ps' := []) rfl (fn := Tryz.f39) (by kernel_rfl) rfl (mc rfl mn) O57 (fun L' O' => g_rat_Q_whole_ok K c63 p1 f65 O' _ i67)) ?_ fa_nil ?_ ?_
 ·rintro v77 H78 ⟨G69, O70, s71, sm76, ⟨w73, rfl, f74⟩⟩; exact (faR1 (.inl (by decide)) (faR1 (.inr (sm76 _ (Or.inr ⟨2, _, rfl, List.mem_singleton.2 rfl⟩))) (faR1 (.inr (sm76 _ (Or.inr ⟨1, _, rfl, List.mem_singleton.2 rfl⟩))) (faR1 (.inr (sm76 _ (Or.inr ⟨2, _, rfl, List.mem_singleton.2 rfl⟩))) fa_nil))))
 ·rintro v77 H78 ⟨G69, O70, s71, sm76, ⟨w73, rfl, f74⟩⟩; exact fa_nil
 rintro v77 H78 ⟨G69, O70, s71, sm76, ⟨w73, rfl, f74⟩⟩
 replace O70 : Ow G69 H78 (eVar b12 48 T_Q (Q.mk false ([] : List Int) ([] : List Int)) :: eVar b7 48 T_Q p1 :: eVar b2 48 T_Q p0 :: L) := O70
 obtain ⟨x79, i80, h81⟩ := bd_inv h68
 refine D2.lo rfl rfl (Lo.callPF (ps := []) (pw := fun w => [eSl w 64 (rI .u32) x79]) rfl (fn := Tryz.f75) (by kernel_rfl) rfl (mc rfl (mc rfl mn)) O70 (fun L' O' => g_nat_N_Mul_ok K w60 p0.num (RT.mono _ s71 f62) w73 x66 f74 O' _ i80)) ?_ (faL_bit (by decide) fa_nil) ?_ ?_
 ·rintro v90 H91 ⟨w87, G82, O83, s84, sm89, rfl⟩; exact (faR1 (.inl (by decide)) (faR1 (.inl (by decide)) (faR1 (.inr (sm89 _ (Or.inr ⟨1, _, rfl, List.mem_singleton.2 rfl⟩))) (faR1 (.inr (sm89 _ (Or.inr ⟨2, _, rfl, List.mem_singleton.2 rfl⟩))) fa_nil))))
 ·rintro v90 H91 ⟨w87, G82, O83, s84, sm89, rfl⟩; exact fa_nil
 rintro v90 H91 ⟨w87, G82, O83, s84, sm89, rfl⟩
 replace O83 : Ow G82 H91 (eSl w87 64 (rI .u32) x79 :: eVar b12 48 T_Q (Q.mk false ([] : List Int) ([] : List Int)) :: eVar b7 48 T_Q p1 :: eVar b2 48 T_Q p0 :: L) := O83
 obtain ⟨c92, p93, f94⟩ := (O83.atVar (j := 3) rfl)
 refine D2.loadA' (cs := c92) rfl rfl ag48 sz48 (pt_px ((fr32 2 rfl).trans rfl) p93) (RT.len _ f94) (faQ_eq (fa_px ((fr32 2 rfl).trans rfl) (sm89 _ (Or.inr ⟨2, _, rfl, List.mem_singleton.2 rfl⟩))) (faQ_eq (fa_px ((fr32 2 rfl).trans rfl) (sm76 _ (Or.inr ⟨2, _, rfl, List.mem_singleton.2 rfl⟩))) fa_nil)) ?_
 obtain ⟨x95, i96, h97⟩ := bd_inv h81
 refine D2.lo rfl rfl (Lo.callP (ps := []) (ps' := []) rfl (fn := Tryz.f39) (by kernel_rfl) rfl (mc rfl mn) O83 (fun L' O' => g_rat_Q_whole_ok K c92 p0 f94 O' _ i96)) ?_ (faL_bit (by decide) (faL_bit (by decide) fa_nil)) ?_ ?_
 ·rintro v106 H107 ⟨G98, O99, s100, sm105, ⟨w102, rfl, f103⟩⟩; exact (faR1 (.inl (by decide)) (faR1 (.inl (by decide)) (faR1 (.inl (by decide)) (faR1 (.inr (sm105 _ (Or.inr ⟨2, _, rfl, List.mem_singleton.2 rfl⟩))) (faR1 (.inr (sm105 _ (Or.inr ⟨3, _, rfl, List.mem_singleton.2 rfl⟩))) fa_nil)))))
 ·rintro v106 H107 ⟨G98, O99, s100, sm105, ⟨w102, rfl, f103⟩⟩; exact fa_nil
 rintro v106 H107 ⟨G98, O99, s100, sm105, ⟨w102, rfl, f103⟩⟩
 replace O99 : Ow G98 H107 (eSl w87 64 (rI .u32) x79 :: eVar b12 48 T_Q (Q.mk false ([] : List Int) ([] : List Int)) :: eVar b7 48 T_Q p1 :: eVar b2 48 T_Q p0 :: L) := O99
 refine D2.pure (v := (padd (.pointer (some ⟨b7, 0, none⟩)) 1)) rfl rfl (v_fldA fl48_1 (oo rfl ((fr32 3 rfl).trans rfl)) (O99.atVar (j := 2) rfl)) ?_
 obtain ⟨w108, p109, f110⟩ := At.sl (At.proj (O99.atVar (j := 2) rfl) p_Q_num)
 refine D2.load1' (v := w108) (r := []) rfl rfl ag46 (pt_px rfl p109) (faQ_eq (sm105 _ (Or.inr ⟨2, _, rfl, List.mem_singleton.2 rfl⟩)) (faQ_eq (sm89 _ (Or.inr ⟨1, _, rfl, List.mem_singleton.2 rfl⟩)) (faQ_eq (sm76 _ (Or.inr ⟨1, _, rfl, List.mem_singleton.2 rfl⟩)) fa_nil))) ?_
 obtain ⟨x111, i112, h113⟩ := bd_inv h97
 refine D2.lo rfl rfl (Lo.callPF (ps := []) (pw := fun w => [eSl w 64 (rI .u32) x111]) rfl (fn := Tryz.f75) (by kernel_rfl) rfl (mc rfl (mc rfl mn)) O99 (fun L' O' => g_nat_N_Mul_ok K w102 x95 f103 w108 p1.num f110 O' _ i112)) ?_ (faL_bit (by decide) (faL_bit (by decide) (faL_bit (by decide) fa_nil))) ?_ ?_
 ·rintro v122 H123 ⟨w119, G114, O115, s116, sm121, rfl⟩; exact (faR1 (.inl (by decide)) (faR1 (.inl (by decide)) (faR1 (.inl (by decide)) (faR1 (.inl (by decide)) (faR1 (.inr (sm121 _ (Or.inr ⟨2, _, rfl, List.mem_singleton.2 rfl⟩))) (faR1 (.inr (sm121 _ (Or.inr ⟨3, _, rfl, List.mem_singleton.2 rfl⟩))) fa_nil))))))
 ·rintro v122 H123 ⟨w119, G114, O115, s116, sm121, rfl⟩; exact fa_nil
 rintro v122 H123 ⟨w119, G114, O115, s116, sm121, rfl⟩
 replace O115 : Ow G114 H123 (eSl w119 64 (rI .u32) x111 :: eSl w87 64 (rI .u32) x79 :: eVar b12 48 T_Q (Q.mk false ([] : List Int) ([] : List Int)) :: eVar b7 48 T_Q p1 :: eVar b2 48 T_Q p0 :: L) := O115
 obtain ⟨G124, O125, s126, f127⟩ := O115.frzSl (j := 1) rfl
 replace O125 : Ow G124 H123 (eSl w119 64 (rI .u32) x111 :: eVar b12 48 T_Q (Q.mk false ([] : List Int) ([] : List Int)) :: eVar b7 48 T_Q p1 :: eVar b2 48 T_Q p0 :: L) := O125
 obtain ⟨G128, O129, s130, f131⟩ := O125.frzSl (j := 0) rfl
 replace O129 : Ow G128 H123 (eVar b12 48 T_Q (Q.mk false ([] : List Int) ([] : List Int)) :: eVar b7 48 T_Q p1 :: eVar b2 48 T_Q p0 :: L) := O129
 obtain ⟨x132, i133, h134⟩ := bd_inv h113
 refine D2.lo rfl rfl (Lo.callP (ps := []) (ps' := []) rfl (fn := Tryz.f47) (by kernel_rfl) rfl (mc rfl (mc rfl (mc rfl mn))) O129 (fun L' O' => g_rat_low_ok K (!(p0.neg == p1.neg)) w87 x79 (RT.mono _ s130 f127) w119 x111 f131 O' _ i133)) ?_ (faL_bit (by decide) (faL_bit (by decide) (faL_bit (by decide) (faL_bit (by decide) fa_nil)))) ?_ ?_
 ·rintro v143 H144 ⟨G135, O136, s137, sm142, ⟨c139, rfl, f140⟩⟩; exact (faR1 (.inl (by decide)) (faR1 (.inl (by decide)) (faR1 (.inl (by decide)) (faR1 (.inl (by decide)) (faR1 (.inl (by decide)) (faR1 (.inl (by decide)) fa_nil))))))
 ·rintro v143 H144 ⟨G135, O136, s137, sm142, ⟨c139, rfl, f140⟩⟩; exact fa_nil
 rintro v143 H144 ⟨G135, O136, s137, sm142, ⟨c139, rfl, f140⟩⟩
 replace O136 : Ow G135 H144 (eVar b12 48 T_Q (Q.mk false ([] : List Int) ([] : List Int)) :: eVar b7 48 T_Q p1 :: eVar b2 48 T_Q p0 :: L) := O136
 refine D2.lo rfl rfl (Lo.storeVar (j := 0) (s := T_Q) (y0 := x132) (v := (.agg (List.toArray c139))) (o := 0) rfl ((Put.at (Put.self _) _ _)) rfl sz48 ((fr32 4 rfl).trans rfl) (by omega) rfl f140 O136) ?_ (faL_bit (by decide) (faL_bit (by decide) (faL_bit (by decide) (faL_bit (by decide) (faL_bit (by decide) fa_nil))))) ?_ ?_
 ·rintro v147 H148 ⟨O145, sm146⟩; exact (faR1 (.inl (by decide)) (faR1 (.inl (by decide)) (faR1 (.inl (by decide)) (faR1 (.inl (by decide)) (faR1 (.inl (by decide)) (faR1 (.inl (by decide)) fa_nil))))))
 ·rintro v147 H148 ⟨O145, sm146⟩; exact fa_nil
 rintro v147 H148 ⟨O145, sm146⟩
 replace O145 : Ow G135 H148 (eVar b12 48 T_Q x132 :: eVar b7 48 T_Q p1 :: eVar b2 48 T_Q p0 :: L) := O145
 refine .nil (.ret ?_)
 obtain ⟨c149, p150, f151⟩ := (O145.atVar (j := 0) rfl)
 have O152 : Ow G135 H148 (eVar b7 48 T_Q p1 :: eVar b2 48 T_Q p0 :: L) := O145.drop 0
 have O153 : Ow G135 H148 (eVar b2 48 T_Q p0 :: L) := O152.drop 0
 have O154 : Ow G135 H148 (L) := O153.drop 0
 obtain rfl := Option.some.inj h134
 refine ret1R (P := Tryz.prog) (fn := Tryz.f53) (n := 32) (R := fun v H' => ∃ G', Ow G' H' (L) ∧ G.le G' ∧ ∃ (w0 : List Value), v = .agg (List.toArray w0) ∧ T_Q.rep G' w0 x132) (v1 := (.agg (List.toArray c149))) (by rfl) (rr_cellA (p := (.pointer (some ⟨b12, 0, none⟩))) (by rfl) ag48 sz48 (by exact ((fr32 4 rfl).trans rfl)) p150 (RT.len _ f151)) ?_
 exact ⟨_, O154, (GM.le.trans s35 (GM.le.trans s71 (GM.le.trans s84 (GM.le.trans s100 (GM.le.trans s116 (GM.le.trans s126 (GM.le.trans s130 s137))))))), c149, rfl, f151⟩
def g_rat_Div (K : Nat) (p0 : ByteArray) (p1 : ByteArray) : Option (ByteArray × Int) := ((g_rat_CheckAll K [p0, p1]).bind fun x5 => (if (x5 != 0) = true then some ((⟨#[]⟩ : ByteArray), x5) else (if (sEq p1 (⟨#[48]⟩ : ByteArray)) = true then some ((⟨#[]⟩ : ByteArray), 10) else ((g_rat_two K p0 p1 (fun x => g_rat_Q_Quo K x.1 x.2)).bind fun x28 => some (x28.1, x28.2)))))
set_option maxHeartbeats 4000000 in
theorem g_rat_Div_ok (K : Nat) {G : GM} {H : AH} {L : List Pc} (p0 : ByteArray) (p1 : ByteArray) (O : Ow G H (L)) (r : ByteArray × Int) (h : g_rat_Div K p0 p1 = some r) :
    CR Tryz.prog 20 [(.string p0), (.string p1)] G H (L) (fun v G' _ => v = .tuple #[.string r.1, .int .i64 r.2]) := by
 unfold g_rat_Div at h
 refine CR.of (calls_of_AW (n := 21) (fn := Tryz.f20) (R := fun v H' => ∃ G', Ow G' H' (L) ∧ G.le G' ∧ v = .tuple #[.string r.1, .int .i64 r.2]) (by kernel_rfl) rfl rfl ?_)
 refine .seq (.region (W.q1 (.string (⟨#[]⟩ : ByteArray)) rfl (W.q1 (.int .i64 0) rfl (.nil (.seq (.seq ?_))))))
 refine .region (W.q2 (.string p0) rfl (W.q2 (.string p1) rfl (W.lo rfl rfl (Lo.buildSlice (r := rS) (vs := [(.string p0), (.string p1)]) (xs := [p0, p1]) el31 ze22 sz22 (by kernel_rfl) rfl (qc rfl (qc rfl qn)) rfl (.cons rfl (.cons rfl .nil)) O) ?_)))
 rintro v3 H4 ⟨O1, sm2⟩
 obtain ⟨x5, i6, h7⟩ := bd_inv h
 refine W.lo rfl rfl (Lo.callB (j := 0) rfl rfl (fn := Tryz.f29) (by kernel_rfl) rfl (mc rfl mn) O1 (fun G' L' hG O' hB => g_rat_CheckAll_ok K v3 [p0, p1] hB O' _ i6)) ?_
 rintro v14 H15 ⟨G8, O9, s10, sm13, rfl⟩
 replace O9 : Ow G8 H15 (eSl v3 22 rS [p0, p1] :: L) := O9
 refine W.q1 (.int .i64 x5) rfl (.nil (.seq (.region (W.q2 (.int .i64 x5) rfl (W.q3 (.bool (x5 != 0)) rfl rfl (.nil ?_))))))
 refine .cond (b := (x5 != 0)) rfl rfl (fun g16 => ?_) (fun g16 => ?_)
 ·have h17 := pos_inv g16 h7
  refine .seq (.region (W.q2 (.int .i64 x5) rfl (W.q1 (.string (⟨#[]⟩ : ByteArray)) rfl (W.q1 (.int .i64 x5) rfl (.nil (.ret ?_))))))
  have O18 : Ow G8 H15 (L) := O9.drop 0
  obtain rfl := Option.some.inj h17
  refine ret2R (P := Tryz.prog) (fn := Tryz.f20) (n := 21) (R := fun v H' => ∃ G', Ow G' H' (L) ∧ G.le G' ∧ v = .tuple #[.string ((⟨#[]⟩ : ByteArray), x5).1, .int .i64 ((⟨#[]⟩ : ByteArray), x5).2]) (v1 := (.string (⟨#[]⟩ : ByteArray))) (v2 := (.int .i64 x5)) (by rfl) (rr_tmp (by rfl) (by exact rfl)) (rr_tmp (by rfl) (by exact rfl)) ?_
  exact ⟨_, O18, s10, rfl⟩
 have h19 := neg_b g16 h7
 refine .skip (.seq (.seq (.region (W.q2 (.string p1) rfl (W.pure (v := (.bool (sEq p1 (⟨#[48]⟩ : ByteArray)))) rfl rfl (vs_eql (oo rfl rfl) (oo rfl rfl)) (.nil ?_))))))
 refine .cond (b := sEq p1 (⟨#[48]⟩ : ByteArray)) rfl rfl (fun g20 => ?_) (fun g20 => ?_)
 ·have h21 := pos_inv g20 h19
  refine .seq (.region (W.q1 (.string (⟨#[]⟩ : ByteArray)) rfl (W.q1 (.int .i64 10) rfl (.nil (.ret ?_)))))
  have O22 : Ow G8 H15 (L) := O9.drop 0
  obtain rfl := Option.some.inj h21
  refine ret2R (P := Tryz.prog) (fn := Tryz.f20) (n := 21) (R := fun v H' => ∃ G', Ow G' H' (L) ∧ G.le G' ∧ v = .tuple #[.string ((⟨#[]⟩ : ByteArray), 10).1, .int .i64 ((⟨#[]⟩ : ByteArray), 10).2]) (v1 := (.string (⟨#[]⟩ : ByteArray))) (v2 := (.int .i64 10)) (by rfl) (rr_tmp (by rfl) (by exact rfl)) (rr_tmp (by rfl) (by exact rfl)) ?_
  exact ⟨_, O22, s10, rfl⟩
 have h23 := neg_b g20 h19
 refine .skip (.seq (.region (W.q2 (.string p0) rfl (W.q2 (.string p1) rfl ?_))))
 obtain ⟨x28, i29, h30⟩ := bd_inv h23
 refine W.lo rfl rfl (Lo.callP (ps := []) (ps' := []) rfl (fn := Tryz.f49) (by kernel_rfl) rfl (mc rfl (mc rfl (mc rfl mn))) O9 (fun L' O' => g_rat_two_ok K p0 p1 (.func (.func 53) #[] #[]) (fun x => g_rat_Q_Quo K x.1 x.2) ⟨53, _, _, Tryz.f53, rfl, by kernel_rfl, rfl, fun G1 H L vs x r hG O hA hF => by obtain ⟨w24, w26, rfl, f25, f27⟩ := hA; exact g_rat_Q_Quo_ok K w24 x.1 f25 w26 x.2 f27 O _ hF⟩ O' _ i29)) ?_
 rintro v37 H38 ⟨G31, O32, s33, sm36, rfl⟩
 replace O32 : Ow G31 H38 (eSl v3 22 rS [p0, p1] :: L) := O32
 refine W.pure (v := (.string x28.1)) rfl rfl (v_extract (oo rfl rfl) rfl) (W.pure (v := (.int .i64 x28.2)) rfl rfl (v_extract (oo rfl rfl) rfl) (W.q1 (.string x28.1) rfl (W.q1 (.int .i64 x28.2) rfl (.nil (.ret ?_)))))
 have O39 : Ow G31 H38 (L) := O32.drop 0
 obtain rfl := Option.some.inj h30
 refine ret2R (P := Tryz.prog) (fn := Tryz.f20) (n := 21) (R := fun v H' => ∃ G', Ow G' H' (L) ∧ G.le G' ∧ v = .tuple #[.string (x28.1, x28.2).1, .int .i64 (x28.1, x28.2).2]) (v1 := (.string x28.1)) (v2 := (.int .i64 x28.2)) (by rfl) (rr_tmp (by rfl) (by exact rfl)) (rr_tmp (by rfl) (by exact rfl)) ?_
 exact ⟨_, O39, (GM.le.trans s10 s33), rfl⟩
def g_rat_Neg (K : Nat) (p0 : ByteArray) : Option (ByteArray × Int) := ((g_rat_Check K p0).bind fun x1 => (if (x1 != 0) = true then some ((⟨#[]⟩ : ByteArray), x1) else ((g_rat_In K p0).bind fun x15 => ((g_rat_Q_Neg K x15).bind fun x28 => ((g_rat_Q_Out K x28).bind fun x41 => some (x41, 0))))))
set_option maxHeartbeats 4000000 in
theorem g_rat_Neg_ok (K : Nat) {G : GM} {H : AH} {L : List Pc} (p0 : ByteArray) (O : Ow G H (L)) (r : ByteArray × Int) (h : g_rat_Neg K p0 = some r) :
    CR Tryz.prog 21 [(.string p0)] G H (L) (fun v G' _ => v = .tuple #[.string r.1, .int .i64 r.2]) := by
 unfold g_rat_Neg at h
 refine CR.of (calls_of_AW (n := 14) (fn := Tryz.f21) (R := fun v H' => ∃ G', Ow G' H' (L) ∧ G.le G' ∧ v = .tuple #[.string r.1, .int .i64 r.2]) (by kernel_rfl) rfl rfl ?_)
 refine .seq (.region (W.q1 (.string (⟨#[]⟩ : ByteArray)) rfl (W.q1 (.int .i64 0) rfl (.nil (.seq (.seq ?_))))))
 refine .region (W.q2 (.string p0) rfl ?_)
 obtain ⟨x1, i2, h3⟩ := bd_inv h
 refine W.lo rfl rfl (Lo.callP (ps := []) (ps' := []) rfl (fn := Tryz.f28) (by kernel_rfl) rfl (mc rfl mn) O (fun L' O' => g_rat_Check_ok K p0 O' _ i2)) ?_
 rintro v10 H11 ⟨G4, O5, s6, sm9, rfl⟩
 replace O5 : Ow G4 H11 (L) := O5
 refine W.q1 (.int .i64 x1) rfl (.nil (.seq (.region (W.q2 (.int .i64 x1) rfl (W.q3 (.bool (x1 != 0)) rfl rfl (.nil ?_))))))
 refine .cond (b := (x1 != 0)) rfl rfl (fun g12 => ?_) (fun g12 => ?_)
 ·have h13 := pos_inv g12 h3
  refine .seq (.region (W.q2 (.int .i64 x1) rfl (W.q1 (.string (⟨#[]⟩ : ByteArray)) rfl (W.q1 (.int .i64 x1) rfl (.nil (.ret ?_))))))
  obtain rfl := Option.some.inj h13
  refine ret2R (P := Tryz.prog) (fn := Tryz.f21) (n := 14) (R := fun v H' => ∃ G', Ow G' H' (L) ∧ G.le G' ∧ v = .tuple #[.string ((⟨#[]⟩ : ByteArray), x1).1, .int .i64 ((⟨#[]⟩ : ByteArray), x1).2]) (v1 := (.string (⟨#[]⟩ : ByteArray))) (v2 := (.int .i64 x1)) (by rfl) (rr_tmp (by rfl) (by exact rfl)) (rr_tmp (by rfl) (by exact rfl)) ?_
  exact ⟨_, O5, s6, rfl⟩
 have h14 := neg_b g12 h3
 refine .skip (.seq (.region (W.q2 (.string p0) rfl ?_)))
 obtain ⟨x15, i16, h17⟩ := bd_inv h14
 refine W.lo rfl rfl (Lo.callP (ps := []) (ps' := []) rfl (fn := Tryz.f30) (by kernel_rfl) rfl (mc rfl mn) O5 (fun L' O' => g_rat_In_ok K p0 O' _ i16)) ?_
 rintro v26 H27 ⟨G18, O19, s20, sm25, ⟨c22, rfl, f23⟩⟩
 replace O19 : Ow G18 H27 (L) := O19
 obtain ⟨x28, i29, h30⟩ := bd_inv h17
 refine W.lo rfl rfl (Lo.callP (ps := []) (ps' := []) rfl (fn := Tryz.f54) (by kernel_rfl) rfl (mc rfl mn) O19 (fun L' O' => g_rat_Q_Neg_ok K c22 x15 f23 O' _ i29)) ?_
 rintro v39 H40 ⟨G31, O32, s33, sm38, ⟨c35, rfl, f36⟩⟩
 replace O32 : Ow G31 H40 (L) := O32
 obtain ⟨x41, i42, h43⟩ := bd_inv h30
 refine W.lo rfl rfl (Lo.callP (ps := []) (ps' := []) rfl (fn := Tryz.f55) (by kernel_rfl) rfl (mc rfl mn) O32 (fun L' O' => g_rat_Q_Out_ok K c35 x28 f36 O' _ i42)) ?_
 rintro v50 H51 ⟨G44, O45, s46, sm49, rfl⟩
 replace O45 : Ow G44 H51 (L) := O45
 refine W.q1 (.string x41) rfl (W.q1 (.int .i64 0) rfl (.nil (.ret ?_)))
 obtain rfl := Option.some.inj h43
 refine ret2R (P := Tryz.prog) (fn := Tryz.f21) (n := 14) (R := fun v H' => ∃ G', Ow G' H' (L) ∧ G.le G' ∧ v = .tuple #[.string (x41, 0).1, .int .i64 (x41, 0).2]) (v1 := (.string x41)) (v2 := (.int .i64 0)) (by rfl) (rr_tmp (by rfl) (by exact rfl)) (rr_tmp (by rfl) (by exact rfl)) ?_
 exact ⟨_, O45, (GM.le.trans s6 (GM.le.trans s20 (GM.le.trans s33 s46))), rfl⟩
def g_rat_Q_Sign (K : Nat) (p0 : Q) : Option Int := (if ((List.length p0.num : Int) == 0) = true then some 0 else (if p0.neg = true then some (-1) else some 1))
set_option maxHeartbeats 4000000 in
theorem g_rat_Q_Sign_ok (K : Nat) {G : GM} {H : AH} {L : List Pc} (v0 : List Value) (p0 : Q) (hp0 : T_Q.rep G v0 p0) (O : Ow G H (L)) (r : Int) (h : g_rat_Q_Sign K p0 = some r) :
    CR Tryz.prog 32 [.agg (List.toArray v0)] G H (L) (fun v G' _ => v = .int .i64 r) := by
 unfold g_rat_Q_Sign at h
 refine CR.of (calls_of_AW (n := 11) (fn := Tryz.f32) (R := fun v H' => ∃ G', Ow G' H' (L) ∧ G.le G' ∧ v = .int .i64 r) (by kernel_rfl) rfl rfl ?_)
 refine .seq (.region (W.lo rfl rfl (Lo.box (r := T_Q) (x0 := p0) (v := (.agg (List.toArray v0))) rfl rfl hp0 O) ?_))
 rintro v4 H5 ⟨b2, rfl, O1, sm3⟩
 refine W.q1 (.int .i64 0) rfl (.nil (.seq (.block (.seq (.region (W.pure (v := (padd (.pointer (some ⟨b2, 0, none⟩)) 1)) rfl rfl (v_fldA fl48_1 (oo rfl rfl) (O1.atVar (j := 0) rfl)) ?_))))))
 obtain ⟨w6, p7, f8⟩ := At.sl (At.proj (O1.atVar (j := 0) rfl) p_Q_num)
 refine W.load1 (v := w6) (r := []) rfl rfl ag46 (pt_px rfl p7) (W.pure (v := (.int .i64 (List.length p0.num : Int))) rfl rfl (len_sl (oo rfl rfl) (sl_len f8) (elemT_inv el46)) (W.q3 (.bool ((List.length p0.num : Int) == 0)) rfl rfl (W.q1 (.bool ((List.length p0.num : Int) == 0)) rfl (.nil (.cond (b := ((List.length p0.num : Int) == 0)) rfl rfl (fun g9 => ?_) (fun g9 => ?_))))))
 ·have h10 := pos_inv g9 h
  refine .seq (.region (W.q1 (.int .i64 0) rfl (.nil (.ret ?_))))
  have O11 : Ow G H5 (L) := O1.drop 0
  obtain rfl := Option.some.inj h10
  refine ret1R (P := Tryz.prog) (fn := Tryz.f32) (n := 11) (R := fun v H' => ∃ G', Ow G' H' (L) ∧ G.le G' ∧ v = .int .i64 0) (v1 := (.int .i64 0)) (by rfl) (rr_tmp (by rfl) (by exact rfl)) ?_
  exact ⟨_, O11, (GM.le.refl _), rfl⟩
 have h12 := neg_b g9 h
 refine .seq (.region (W.pure (v := (padd (.pointer (some ⟨b2, 0, none⟩)) 0)) rfl rfl (v_fldA fl48_0 (oo rfl rfl) (O1.atVar (j := 0) rfl)) (W.load1 (v := (.bool p0.neg)) (r := []) rfl rfl ag4 (pt_px rfl (At.bool (At.proj (O1.atVar (j := 0) rfl) p_Q_neg))) (W.q1 (.bool p0.neg) rfl (.nil (.cond (b := p0.neg) rfl rfl (fun g13 => ?_) (fun g13 => ?_)))))))
 ·have h14 := pos_inv g13 h12
  refine .seq (.region (W.q1 (.int .i64 (-1)) rfl (.nil (.ret ?_))))
  have O15 : Ow G H5 (L) := O1.drop 0
  obtain rfl := Option.some.inj h14
  refine ret1R (P := Tryz.prog) (fn := Tryz.f32) (n := 11) (R := fun v H' => ∃ G', Ow G' H' (L) ∧ G.le G' ∧ v = .int .i64 (-1)) (v1 := (.int .i64 (-1))) (by rfl) (rr_tmp (by rfl) (by exact rfl)) ?_
  exact ⟨_, O15, (GM.le.refl _), rfl⟩
 have h16 := neg_b g13 h12
 refine .skip (.seq (.region (W.q1 (.int .i64 1) rfl (.nil (.ret ?_)))))
 have O17 : Ow G H5 (L) := O1.drop 0
 obtain rfl := Option.some.inj h16
 refine ret1R (P := Tryz.prog) (fn := Tryz.f32) (n := 11) (R := fun v H' => ∃ G', Ow G' H' (L) ∧ G.le G' ∧ v = .int .i64 1) (v1 := (.int .i64 1)) (by rfl) (rr_tmp (by rfl) (by exact rfl)) ?_
 exact ⟨_, O17, (GM.le.refl _), rfl⟩
def g_rat_Q_Cmp (K : Nat) (p0 : Q) (p1 : Q) : Option Int := ((g_rat_Q_Sub K p0 p1).bind fun x17 => ((g_rat_Q_Sign K x17).bind fun x30 => some x30))
set_option maxHeartbeats 4000000 in
theorem g_rat_Q_Cmp_ok (K : Nat) {G : GM} {H : AH} {L : List Pc} (v0 : List Value) (p0 : Q) (hp0 : T_Q.rep G v0 p0) (v1 : List Value) (p1 : Q) (hp1 : T_Q.rep G v1 p1) (O : Ow G H (L)) (r : Int) (h : g_rat_Q_Cmp K p0 p1 = some r) :
    CR Tryz.prog 31 [.agg (List.toArray v0), .agg (List.toArray v1)] G H (L) (fun v G' _ => v = .int .i64 r) := by
 unfold g_rat_Q_Cmp at h
 refine CR.of (calls_of_AW (n := 9) (fn := Tryz.f31) (R := fun v H' => ∃ G', Ow G' H' (L) ∧ G.le G' ∧ v = .int .i64 r) (by kernel_rfl) rfl rfl ?_)
 refine .seq (.region (W.lo rfl rfl (Lo.box (r := T_Q) (x0 := p0) (v := (.agg (List.toArray v0))) rfl rfl hp0 O) ?_))
 rintro v4 H5 ⟨b2, rfl, O1, sm3⟩
 refine W.lo rfl rfl (Lo.box (r := T_Q) (x0 := p1) (v := (.agg (List.toArray v1))) rfl rfl hp1 O1) ?_
 rintro v9 H10 ⟨b7, rfl, O6, sm8⟩
 refine W.q1 (.int .i64 0) rfl (.nil (.seq (.region ?_)))
 obtain ⟨c11, p12, f13⟩ := (O6.atVar (j := 1) rfl)
 refine W.loadA (cs := c11) rfl rfl ag48 sz48 (pt_px rfl p12) (RT.len _ f13) ?_
 obtain ⟨c14, p15, f16⟩ := (O6.atVar (j := 0) rfl)
 refine W.loadA (cs := c14) rfl rfl ag48 sz48 (pt_px rfl p15) (RT.len _ f16) ?_
 obtain ⟨x17, i18, h19⟩ := bd_inv h
 refine W.lo rfl rfl (Lo.callP (ps := []) (ps' := []) rfl (fn := Tryz.f51) (by kernel_rfl) rfl (mc rfl (mc rfl mn)) O6 (fun L' O' => g_rat_Q_Sub_ok K c11 p0 f13 c14 p1 f16 O' _ i18)) ?_
 rintro v28 H29 ⟨G20, O21, s22, sm27, ⟨c24, rfl, f25⟩⟩
 replace O21 : Ow G20 H29 (eVar b7 48 T_Q p1 :: eVar b2 48 T_Q p0 :: L) := O21
 obtain ⟨x30, i31, h32⟩ := bd_inv h19
 refine W.lo rfl rfl (Lo.callP (ps := []) (ps' := []) rfl (fn := Tryz.f32) (by kernel_rfl) rfl (mc rfl mn) O21 (fun L' O' => g_rat_Q_Sign_ok K c24 x17 f25 O' _ i31)) ?_
 rintro v39 H40 ⟨G33, O34, s35, sm38, rfl⟩
 replace O34 : Ow G33 H40 (eVar b7 48 T_Q p1 :: eVar b2 48 T_Q p0 :: L) := O34
 refine W.q1 (.int .i64 x30) rfl (.nil (.ret ?_))
 have O41 : Ow G33 H40 (eVar b2 48 T_Q p0 :: L) := O34.drop 0
 have O42 : Ow G33 H40 (L) := O41.drop 0
 obtain rfl := Option.some.inj h32
 refine ret1R (P := Tryz.prog) (fn := Tryz.f31) (n := 9) (R := fun v H' => ∃ G', Ow G' H' (L) ∧ G.le G' ∧ v = .int .i64 x30) (v1 := (.int .i64 x30)) (by rfl) (rr_tmp (by rfl) (by exact rfl)) ?_
 exact ⟨_, O42, (GM.le.trans s22 s35), rfl⟩
def g_rat_Compare (K : Nat) (p0 : ByteArray) (p1 : ByteArray) : Option (Int × Int) := ((g_rat_CheckAll K [p0, p1]).bind fun x5 => (if (x5 != 0) = true then some (0, x5) else ((g_rat_In K p0).bind fun x20 => ((g_rat_In K p1).bind fun x33 => ((g_rat_Q_Cmp K x20 x33).bind fun x46 => some (x46, 0))))))
set_option maxHeartbeats 4000000 in
theorem g_rat_Compare_ok (K : Nat) {G : GM} {H : AH} {L : List Pc} (p0 : ByteArray) (p1 : ByteArray) (O : Ow G H (L)) (r : Int × Int) (h : g_rat_Compare K p0 p1 = some r) :
    CR Tryz.prog 6 [(.string p0), (.string p1)] G H (L) (fun v G' _ => v = .tuple #[.int .i64 r.1, .int .i64 r.2]) := by
 unfold g_rat_Compare at h
 refine CR.of (calls_of_AW (n := 19) (fn := Tryz.f6) (R := fun v H' => ∃ G', Ow G' H' (L) ∧ G.le G' ∧ v = .tuple #[.int .i64 r.1, .int .i64 r.2]) (by kernel_rfl) rfl rfl ?_)
 refine .seq (.region (W.q1 (.int .i64 0) rfl (W.q1 (.int .i64 0) rfl (.nil (.seq (.seq ?_))))))
 refine .region (W.q2 (.string p0) rfl (W.q2 (.string p1) rfl (W.lo rfl rfl (Lo.buildSlice (r := rS) (vs := [(.string p0), (.string p1)]) (xs := [p0, p1]) el31 ze22 sz22 (by kernel_rfl) rfl (qc rfl (qc rfl qn)) rfl (.cons rfl (.cons rfl .nil)) O) ?_)))
 rintro v3 H4 ⟨O1, sm2⟩
 obtain ⟨x5, i6, h7⟩ := bd_inv h
 refine W.lo rfl rfl (Lo.callB (j := 0) rfl rfl (fn := Tryz.f29) (by kernel_rfl) rfl (mc rfl mn) O1 (fun G' L' hG O' hB => g_rat_CheckAll_ok K v3 [p0, p1] hB O' _ i6)) ?_
 rintro v14 H15 ⟨G8, O9, s10, sm13, rfl⟩
 replace O9 : Ow G8 H15 (eSl v3 22 rS [p0, p1] :: L) := O9
 refine W.q1 (.int .i64 x5) rfl (.nil (.seq (.region (W.q2 (.int .i64 x5) rfl (W.q3 (.bool (x5 != 0)) rfl rfl (.nil ?_))))))
 refine .cond (b := (x5 != 0)) rfl rfl (fun g16 => ?_) (fun g16 => ?_)
 ·have h17 := pos_inv g16 h7
  refine .seq (.region (W.q2 (.int .i64 x5) rfl (W.q1 (.int .i64 0) rfl (W.q1 (.int .i64 x5) rfl (.nil (.ret ?_))))))
  have O18 : Ow G8 H15 (L) := O9.drop 0
  obtain rfl := Option.some.inj h17
  refine ret2R (P := Tryz.prog) (fn := Tryz.f6) (n := 19) (R := fun v H' => ∃ G', Ow G' H' (L) ∧ G.le G' ∧ v = .tuple #[.int .i64 (0, x5).1, .int .i64 (0, x5).2]) (v1 := (.int .i64 0)) (v2 := (.int .i64 x5)) (by rfl) (rr_tmp (by rfl) (by exact rfl)) (rr_tmp (by rfl) (by exact rfl)) ?_
  exact ⟨_, O18, s10, rfl⟩
 have h19 := neg_b g16 h7
 refine .skip (.seq (.region (W.q2 (.string p0) rfl ?_)))
 obtain ⟨x20, i21, h22⟩ := bd_inv h19
 refine W.lo rfl rfl (Lo.callP (ps := []) (ps' := []) rfl (fn := Tryz.f30) (by kernel_rfl) rfl (mc rfl mn) O9 (fun L' O' => g_rat_In_ok K p0 O' _ i21)) ?_
 rintro v31 H32 ⟨G23, O24, s25, sm30, ⟨c27, rfl, f28⟩⟩
 replace O24 : Ow G23 H32 (eSl v3 22 rS [p0, p1] :: L) := O24
 refine W.q2 (.string p1) rfl ?_
 obtain ⟨x33, i34, h35⟩ := bd_inv h22
 refine W.lo rfl rfl (Lo.callP (ps := []) (ps' := []) rfl (fn := Tryz.f30) (by kernel_rfl) rfl (mc rfl mn) O24 (fun L' O' => g_rat_In_ok K p1 O' _ i34)) ?_
 rintro v44 H45 ⟨G36, O37, s38, sm43, ⟨c40, rfl, f41⟩⟩
 replace O37 : Ow G36 H45 (eSl v3 22 rS [p0, p1] :: L) := O37
 obtain ⟨x46, i47, h48⟩ := bd_inv h35
 refine W.lo rfl rfl (Lo.callP (ps := []) (ps' := []) rfl (fn := Tryz.f31) (by kernel_rfl) rfl (mc rfl (mc rfl mn)) O37 (fun L' O' => g_rat_Q_Cmp_ok K c27 x20 (RT.mono _ s38 f28) c40 x33 f41 O' _ i47)) ?_
 rintro v55 H56 ⟨G49, O50, s51, sm54, rfl⟩
 replace O50 : Ow G49 H56 (eSl v3 22 rS [p0, p1] :: L) := O50
 refine W.q1 (.int .i64 x46) rfl (W.q1 (.int .i64 0) rfl (.nil (.ret ?_)))
 have O57 : Ow G49 H56 (L) := O50.drop 0
 obtain rfl := Option.some.inj h48
 refine ret2R (P := Tryz.prog) (fn := Tryz.f6) (n := 19) (R := fun v H' => ∃ G', Ow G' H' (L) ∧ G.le G' ∧ v = .tuple #[.int .i64 (x46, 0).1, .int .i64 (x46, 0).2]) (v1 := (.int .i64 x46)) (v2 := (.int .i64 0)) (by rfl) (rr_tmp (by rfl) (by exact rfl)) (rr_tmp (by rfl) (by exact rfl)) ?_
 exact ⟨_, O57, (GM.le.trans s10 (GM.le.trans s25 (GM.le.trans s38 s51))), rfl⟩
def g_rat_Sign (K : Nat) (p0 : ByteArray) : Option (Int × Int) := ((g_rat_Check K p0).bind fun x1 => (if (x1 != 0) = true then some (0, x1) else ((g_rat_In K p0).bind fun x15 => ((g_rat_Q_Sign K x15).bind fun x28 => some (x28, 0)))))
set_option maxHeartbeats 4000000 in
theorem g_rat_Sign_ok (K : Nat) {G : GM} {H : AH} {L : List Pc} (p0 : ByteArray) (O : Ow G H (L)) (r : Int × Int) (h : g_rat_Sign K p0 = some r) :
    CR Tryz.prog 7 [(.string p0)] G H (L) (fun v G' _ => v = .tuple #[.int .i64 r.1, .int .i64 r.2]) := by
 unfold g_rat_Sign at h
 refine CR.of (calls_of_AW (n := 13) (fn := Tryz.f7) (R := fun v H' => ∃ G', Ow G' H' (L) ∧ G.le G' ∧ v = .tuple #[.int .i64 r.1, .int .i64 r.2]) (by kernel_rfl) rfl rfl ?_)
 refine .seq (.region (W.q1 (.int .i64 0) rfl (W.q1 (.int .i64 0) rfl (.nil (.seq (.seq ?_))))))
 refine .region (W.q2 (.string p0) rfl ?_)
 obtain ⟨x1, i2, h3⟩ := bd_inv h
 refine W.lo rfl rfl (Lo.callP (ps := []) (ps' := []) rfl (fn := Tryz.f28) (by kernel_rfl) rfl (mc rfl mn) O (fun L' O' => g_rat_Check_ok K p0 O' _ i2)) ?_
 rintro v10 H11 ⟨G4, O5, s6, sm9, rfl⟩
 replace O5 : Ow G4 H11 (L) := O5
 refine W.q1 (.int .i64 x1) rfl (.nil (.seq (.region (W.q2 (.int .i64 x1) rfl (W.q3 (.bool (x1 != 0)) rfl rfl (.nil ?_))))))
 refine .cond (b := (x1 != 0)) rfl rfl (fun g12 => ?_) (fun g12 => ?_)
 ·have h13 := pos_inv g12 h3
  refine .seq (.region (W.q2 (.int .i64 x1) rfl (W.q1 (.int .i64 0) rfl (W.q1 (.int .i64 x1) rfl (.nil (.ret ?_))))))
  obtain rfl := Option.some.inj h13
  refine ret2R (P := Tryz.prog) (fn := Tryz.f7) (n := 13) (R := fun v H' => ∃ G', Ow G' H' (L) ∧ G.le G' ∧ v = .tuple #[.int .i64 (0, x1).1, .int .i64 (0, x1).2]) (v1 := (.int .i64 0)) (v2 := (.int .i64 x1)) (by rfl) (rr_tmp (by rfl) (by exact rfl)) (rr_tmp (by rfl) (by exact rfl)) ?_
  exact ⟨_, O5, s6, rfl⟩
 have h14 := neg_b g12 h3
 refine .skip (.seq (.region (W.q2 (.string p0) rfl ?_)))
 obtain ⟨x15, i16, h17⟩ := bd_inv h14
 refine W.lo rfl rfl (Lo.callP (ps := []) (ps' := []) rfl (fn := Tryz.f30) (by kernel_rfl) rfl (mc rfl mn) O5 (fun L' O' => g_rat_In_ok K p0 O' _ i16)) ?_
 rintro v26 H27 ⟨G18, O19, s20, sm25, ⟨c22, rfl, f23⟩⟩
 replace O19 : Ow G18 H27 (L) := O19
 obtain ⟨x28, i29, h30⟩ := bd_inv h17
 refine W.lo rfl rfl (Lo.callP (ps := []) (ps' := []) rfl (fn := Tryz.f32) (by kernel_rfl) rfl (mc rfl mn) O19 (fun L' O' => g_rat_Q_Sign_ok K c22 x15 f23 O' _ i29)) ?_
 rintro v37 H38 ⟨G31, O32, s33, sm36, rfl⟩
 replace O32 : Ow G31 H38 (L) := O32
 refine W.q1 (.int .i64 x28) rfl (W.q1 (.int .i64 0) rfl (.nil (.ret ?_)))
 obtain rfl := Option.some.inj h30
 refine ret2R (P := Tryz.prog) (fn := Tryz.f7) (n := 13) (R := fun v H' => ∃ G', Ow G' H' (L) ∧ G.le G' ∧ v = .tuple #[.int .i64 (x28, 0).1, .int .i64 (x28, 0).2]) (v1 := (.int .i64 x28)) (v2 := (.int .i64 0)) (by rfl) (rr_tmp (by rfl) (by exact rfl)) (rr_tmp (by rfl) (by exact rfl)) ?_
 exact ⟨_, O32, (GM.le.trans s6 (GM.le.trans s20 s33)), rfl⟩
def g_rat_Q_down (K : Nat) (p0 : Q) : Option Q := ((g_rat_Q_whole K p0).bind fun x22 => ((g_nat_N_Div K p0.num x22).bind fun x35 => (Option.bind ((if p0.neg = true then some (decide ((List.length x35.2 : Int) > 0)) else some false)) (tu1 fun x57 => (Option.bind ((if x57 = true then ((g_nat_Of K 1).bind fun x72 => ((g_nat_N_Add K x35.1 x72).bind fun x89 => some x89)) else some x35.1)) (tu1 fun x107 => ((g_nat_Of K 1).bind fun x122 => ((g_rat_low K p0.neg x107 x122).bind fun x139 => some x139))))))))
set_option maxHeartbeats 4000000 in
theorem g_rat_Q_down_ok (K : Nat) {G : GM} {H : AH} {L : List Pc} (v0 : List Value) (p0 : Q) (hp0 : T_Q.rep G v0 p0) (O : Ow G H (L)) (r : Q) (h : g_rat_Q_down K p0 = some r) :
    CR Tryz.prog 56 [.agg (List.toArray v0)] G H (L) (fun v G' _ => ∃ (w0 : List Value), v = .agg (List.toArray w0) ∧ T_Q.rep G' w0 r) := by
 unfold g_rat_Q_down at h
 refine CR.of (calls_of_AW (n := 28) (fn := Tryz.f56) (R := fun v H' => ∃ G', Ow G' H' (L) ∧ G.le G' ∧ ∃ (w0 : List Value), v = .agg (List.toArray w0) ∧ T_Q.rep G' w0 r) (by kernel_rfl) rfl rfl ?_)
 refine .seq (.region (W.lo rfl rfl (Lo.box (r := T_Q) (x0 := p0) (v := (.agg (List.toArray v0))) rfl rfl hp0 O) ?_))
 rintro v4 H5 ⟨b2, rfl, O1, sm3⟩
 refine W.lo rfl rfl (Lo.alloc (r := T_Q) (x0 := (Q.mk false ([] : List Int) ([] : List Int))) ze48 (by kernel_rfl) z_Q O1) ?_
 rintro v9 H10 ⟨b7, rfl, O6, sm8⟩
 refine .nil (.seq (.draw2 (M := [0, 1, 0, 4, 15, 31, 63, 63, 127, 511]) mixed (by kernel_rfl) (by kernel_rfl) fun H11 N15 x12 F14 => ?_))
 have O13 := O6.ext x12
 refine D2.pure (v := (padd (.pointer (some ⟨b2, 0, none⟩)) 1)) rfl rfl (v_fldA fl48_1 (oo rfl rfl) (O13.atVar (j := 1) rfl)) ?_
 obtain ⟨w16, p17, f18⟩ := At.sl (At.proj (O13.atVar (j := 1) rfl) p_Q_num)
 refine D2.load1' (v := w16) (r := []) rfl rfl ag46 (pt_px rfl p17) fa_nil ?_
 obtain ⟨c19, p20, f21⟩ := (O13.atVar (j := 1) rfl)
 refine D2.loadA' (cs := c19) rfl rfl ag48 sz48 (pt_px rfl p20) (RT.len _ f21) fa_nil ?_
 obtain ⟨x22, i23, h24⟩ := bd_inv h
 refine D2.lo rfl rfl (Lo.callP (ps := []) (ps' := []) rfl (fn := Tryz.f39) (by kernel_rfl) rfl (mc rfl mn) O13 (fun L' O' => g_rat_Q_whole_ok K c19 p0 f21 O' _ i23)) ?_ fa_nil ?_ ?_
 ·rintro v33 H34 ⟨G25, O26, s27, sm32, ⟨w29, rfl, f30⟩⟩; exact (faR1 (.inl (by decide)) (faR1 (.inr (sm32 _ (Or.inr ⟨1, _, rfl, List.mem_singleton.2 rfl⟩))) fa_nil))
 ·rintro v33 H34 ⟨G25, O26, s27, sm32, ⟨w29, rfl, f30⟩⟩; exact fa_nil
 rintro v33 H34 ⟨G25, O26, s27, sm32, ⟨w29, rfl, f30⟩⟩
 replace O26 : Ow G25 H34 (eVar b7 48 T_Q (Q.mk false ([] : List Int) ([] : List Int)) :: eVar b2 48 T_Q p0 :: L) := O26
 obtain ⟨x35, i36, h37⟩ := bd_inv h24
 refine D2.lo rfl rfl (Lo.callP (ps := []) (ps' := []) rfl (fn := Tryz.f58) (by kernel_rfl) rfl (mc rfl (mc rfl mn)) O26 (fun L' O' => g_nat_N_Div_ok K w16 p0.num (RT.mono _ s27 f18) w29 x22 f30 O' _ i36)) ?_ (faL_bit (by decide) fa_nil) ?_ ?_
 ·rintro v48 H49 ⟨G38, O39, s40, sm47, ⟨w42, w44, rfl, f43, f45⟩⟩; exact (faR1 (.inl (by decide)) (faR1 (.inl (by decide)) fa_nil))
 ·rintro v48 H49 ⟨G38, O39, s40, sm47, ⟨w42, w44, rfl, f43, f45⟩⟩; exact fa_nil
 rintro v48 H49 ⟨G38, O39, s40, sm47, ⟨w42, w44, rfl, f43, f45⟩⟩
 replace O39 : Ow G38 H49 (eVar b7 48 T_Q (Q.mk false ([] : List Int) ([] : List Int)) :: eVar b2 48 T_Q p0 :: L) := O39
 refine D2.q2 (.tuple #[w42, w44]) rfl (D2.pure (v := w42) rfl rfl (v_extract (oo rfl rfl) rfl) (D2.pure (v := w44) rfl rfl (v_extract (oo rfl rfl) rfl) (D2.q1 w42 rfl (D2.q1 w44 rfl (.nil (.seq ?_))))))
 refine .seq ?_
 obtain ⟨q50, h51, h52⟩ := bd_inv h37
 refine AW.midT (fun σ' H' => ∃ (y1 : Bool) (G' : GM), y1 = q50 ∧ Ow G' H' (eVar b7 48 T_Q (Q.mk false ([] : List Int) ([] : List Int)) :: eVar b2 48 T_Q p0 :: L) ∧ GM.le G38 G' ∧ σ' 19 = .bool y1) ?_ ?_
 ·refine .region (W.pure (v := (padd (.pointer (some ⟨b2, 0, none⟩)) 0)) rfl rfl (v_fldA fl48_0 (oo rfl rfl) (O39.atVar (j := 1) rfl)) (W.load1 (v := (.bool p0.neg)) (r := []) rfl rfl ag4 (pt_px rfl (At.bool (At.proj (O39.atVar (j := 1) rfl) p_Q_neg))) (W.q2 (.bool p0.neg) rfl (W.splitAt (t := 15) (b := p0.neg) rfl (fun g53 gv54 => ?_) (fun g53 gv54 => ?_)))))
  rotate_left
  ·have h56 := neg_b g53 h51
   refine W.q6 rfl gv54 (W.q6 rfl gv54 (W.q6 rfl gv54 (W.q5 (.bool false) gv54 rfl (.nil ?_))))
   obtain rfl := Option.some.inj h56
   exact ⟨false, _, rfl, O39, (GM.le.refl _), rfl⟩
  have h55 := pos_inv g53 h51
  refine W.q2 (hg := gk rfl rfl gv54 rfl) w44 rfl (W.pure (v := (.int .i64 (List.length x35.2 : Int))) (gk rfl rfl gv54 rfl) rfl (len_sl (oo rfl rfl) (sl_len f45) (elemT_inv el46)) (W.q3 (hg := gk rfl rfl gv54 rfl) (.bool (decide ((List.length x35.2 : Int) > 0))) rfl rfl (W.q4 (.bool (decide ((List.length x35.2 : Int) > 0))) gv54 rfl (.nil ?_))))
  obtain rfl := Option.some.inj h55
  exact ⟨decide ((List.length x35.2 : Int) > 0), _, rfl, O39, (GM.le.refl _), rfl⟩
 rintro σ58 H59 fr60 ⟨x57, G61, rfl, O62, s63, t65⟩
 have h66 := tu1_inv h52
 obtain ⟨q67, h68, h69⟩ := bd_inv h66
 refine AW.midT (fun σ' H' => ∃ (y1 : List Int) (G' : GM), y1 = q67 ∧ Ow G' H' (eVar b7 48 T_Q (Q.mk false ([] : List Int) ([] : List Int)) :: eVar b2 48 T_Q p0 :: L) ∧ GM.le G61 G' ∧ (rSl (rI .u32)).rep G' [σ' 3] y1) ?_ ?_
 ·refine .cond (b := x57) rfl t65 (fun g70 => ?_) (fun g70 => ?_)
  rotate_left
  ·have h106 := neg_b g70 h68
   refine .skip ?_
   obtain rfl := Option.some.inj h106
   exact ⟨x35.1, _, rfl, O62, (GM.le.refl _), (rep_at ((fr60 3 rfl).trans rfl) (RT.mono _ s63 f43))⟩
  have h71 := pos_inv g70 h68
  refine .region (W.q2 w42 ((fr60 3 rfl).trans rfl) ?_)
  obtain ⟨x72, i73, h74⟩ := bd_inv h71
  refine W.lo rfl rfl (Lo.callPF (ps := []) (pw := fun w => [eSl w 64 (rI .u32) x72]) rfl (fn := Tryz.f41) (by kernel_rfl) rfl (mc rfl mn) O62 (fun L' O' => g_nat_Of_ok K 1 O' _ i73)) ?_
  rintro v83 H84 ⟨w80, G75, O76, s77, sm82, rfl⟩
  replace O76 : Ow G75 H84 (eSl w80 64 (rI .u32) x72 :: eVar b7 48 T_Q (Q.mk false ([] : List Int) ([] : List Int)) :: eVar b2 48 T_Q p0 :: L) := O76
  obtain ⟨G85, O86, s87, f88⟩ := O76.frzSl (j := 0) rfl
  replace O86 : Ow G85 H84 (eVar b7 48 T_Q (Q.mk false ([] : List Int) ([] : List Int)) :: eVar b2 48 T_Q p0 :: L) := O86
  obtain ⟨x89, i90, h91⟩ := bd_inv h74
  refine W.lo rfl rfl (Lo.callPF (ps := []) (pw := fun w => [eSl w 64 (rI .u32) x89]) rfl (fn := Tryz.f42) (by kernel_rfl) rfl (mc rfl (mc rfl mn)) O86 (fun L' O' => g_nat_N_Add_ok K w42 x35.1 (RT.mono _ (GM.le.trans s63 (GM.le.trans s77 s87)) f43) w80 x72 f88 O' _ i90)) ?_
  rintro v100 H101 ⟨w97, G92, O93, s94, sm99, rfl⟩
  replace O93 : Ow G92 H101 (eSl w97 64 (rI .u32) x89 :: eVar b7 48 T_Q (Q.mk false ([] : List Int) ([] : List Int)) :: eVar b2 48 T_Q p0 :: L) := O93
  refine W.q1 w97 rfl (.nil ?_)
  obtain ⟨G102, O103, s104, f105⟩ := O93.frzSl (j := 0) rfl
  replace O103 : Ow G102 H101 (eVar b7 48 T_Q (Q.mk false ([] : List Int) ([] : List Int)) :: eVar b2 48 T_Q p0 :: L) := O103
  obtain rfl := Option.some.inj h91
  exact ⟨x89, _, rfl, O103, (GM.le.trans s77 (GM.le.trans s87 (GM.le.trans s94 s104))), f105⟩
 rintro σ108 H109 fr110 ⟨x107, G111, rfl, O112, s113, f115⟩
 have h116 := tu1_inv h69
 refine .seq (.draw2 (M := [0, 1, 0, 0, 15, 31]) mixed (by kernel_rfl) (by kernel_rfl) fun H117 N121 x118 F120 => ?_)
 have O119 := O112.ext x118
 refine D2.pure (v := (padd (.pointer (some ⟨b2, 0, none⟩)) 0)) rfl rfl (v_fldA fl48_0 (oo rfl ((fr110 1 rfl).trans ((fr60 1 rfl).trans rfl))) (O119.atVar (j := 1) rfl)) (D2.load1' (v := (.bool p0.neg)) (r := []) rfl rfl ag4 (pt_px rfl (At.bool (At.proj (O119.atVar (j := 1) rfl) p_Q_neg))) fa_nil (D2.q2 (σ108 3) rfl ?_))
 obtain ⟨x122, i123, h124⟩ := bd_inv h116
 refine D2.lo rfl rfl (Lo.callPF (ps := []) (pw := fun w => [eSl w 64 (rI .u32) x122]) rfl (fn := Tryz.f41) (by kernel_rfl) rfl (mc rfl mn) O119 (fun L' O' => g_nat_Of_ok K 1 O' _ i123)) ?_ fa_nil ?_ ?_
 ·rintro v133 H134 ⟨w130, G125, O126, s127, sm132, rfl⟩; exact (faR1 (.inr (sm132 _ (Or.inr ⟨1, _, rfl, List.mem_singleton.2 rfl⟩))) fa_nil)
 ·rintro v133 H134 ⟨w130, G125, O126, s127, sm132, rfl⟩; exact fa_nil
 rintro v133 H134 ⟨w130, G125, O126, s127, sm132, rfl⟩
 replace O126 : Ow G125 H134 (eSl w130 64 (rI .u32) x122 :: eVar b7 48 T_Q (Q.mk false ([] : List Int) ([] : List Int)) :: eVar b2 48 T_Q p0 :: L) := O126
 obtain ⟨G135, O136, s137, f138⟩ := O126.frzSl (j := 0) rfl
 replace O136 : Ow G135 H134 (eVar b7 48 T_Q (Q.mk false ([] : List Int) ([] : List Int)) :: eVar b2 48 T_Q p0 :: L) := O136
 obtain ⟨x139, i140, h141⟩ := bd_inv h124
 refine D2.lo rfl rfl (Lo.callP (ps := []) (ps' := []) rfl (fn := Tryz.f47) (by kernel_rfl) rfl (mc rfl (mc rfl (mc rfl mn))) O136 (fun L' O' => g_rat_low_ok K p0.neg (σ108 3) x107 (RT.mono _ (GM.le.trans s127 s137) f115) w130 x122 f138 O' _ i140)) ?_ (faL_bit (by decide) fa_nil) ?_ ?_
 ·rintro v150 H151 ⟨G142, O143, s144, sm149, ⟨c146, rfl, f147⟩⟩; exact (faR1 (.inl (by decide)) fa_nil)
 ·rintro v150 H151 ⟨G142, O143, s144, sm149, ⟨c146, rfl, f147⟩⟩; exact fa_nil
 rintro v150 H151 ⟨G142, O143, s144, sm149, ⟨c146, rfl, f147⟩⟩
 replace O143 : Ow G142 H151 (eVar b7 48 T_Q (Q.mk false ([] : List Int) ([] : List Int)) :: eVar b2 48 T_Q p0 :: L) := O143
 refine D2.lo rfl rfl (Lo.storeVar (j := 0) (s := T_Q) (y0 := x139) (v := (.agg (List.toArray c146))) (o := 0) rfl ((Put.at (Put.self _) _ _)) rfl sz48 ((fr110 2 rfl).trans ((fr60 2 rfl).trans rfl)) (by omega) rfl f147 O143) ?_ (faL_bit (by decide) (faL_bit (by decide) fa_nil)) ?_ ?_
 ·rintro v154 H155 ⟨O152, sm153⟩; exact (faR1 (.inl (by decide)) fa_nil)
 ·rintro v154 H155 ⟨O152, sm153⟩; exact fa_nil
 rintro v154 H155 ⟨O152, sm153⟩
 replace O152 : Ow G142 H155 (eVar b7 48 T_Q x139 :: eVar b2 48 T_Q p0 :: L) := O152
 refine .nil (.ret ?_)
 obtain ⟨c156, p157, f158⟩ := (O152.atVar (j := 0) rfl)
 have O159 : Ow G142 H155 (eVar b2 48 T_Q p0 :: L) := O152.drop 0
 have O160 : Ow G142 H155 (L) := O159.drop 0
 obtain rfl := Option.some.inj h141
 refine ret1R (P := Tryz.prog) (fn := Tryz.f56) (n := 28) (R := fun v H' => ∃ G', Ow G' H' (L) ∧ G.le G' ∧ ∃ (w0 : List Value), v = .agg (List.toArray w0) ∧ T_Q.rep G' w0 x139) (v1 := (.agg (List.toArray c156))) (by rfl) (rr_cellA (p := (.pointer (some ⟨b7, 0, none⟩))) (by rfl) ag48 sz48 (by exact ((fr110 2 rfl).trans ((fr60 2 rfl).trans rfl))) p157 (RT.len _ f158)) ?_
 exact ⟨_, O160, (GM.le.trans s27 (GM.le.trans s40 (GM.le.trans s63 (GM.le.trans s113 (GM.le.trans s127 (GM.le.trans s137 s144)))))), c156, rfl, f158⟩
def g_rat_Floor (K : Nat) (p0 : ByteArray) : Option (ByteArray × Int) := ((g_rat_Check K p0).bind fun x1 => (if (x1 != 0) = true then some ((⟨#[]⟩ : ByteArray), x1) else ((g_rat_In K p0).bind fun x15 => ((g_rat_Q_down K x15).bind fun x28 => ((g_rat_told K x28).bind fun x41 => some (x41.1, x41.2))))))
set_option maxHeartbeats 4000000 in
theorem g_rat_Floor_ok (K : Nat) {G : GM} {H : AH} {L : List Pc} (p0 : ByteArray) (O : Ow G H (L)) (r : ByteArray × Int) (h : g_rat_Floor K p0 = some r) :
    CR Tryz.prog 22 [(.string p0)] G H (L) (fun v G' _ => v = .tuple #[.string r.1, .int .i64 r.2]) := by
 unfold g_rat_Floor at h
 refine CR.of (calls_of_AW (n := 16) (fn := Tryz.f22) (R := fun v H' => ∃ G', Ow G' H' (L) ∧ G.le G' ∧ v = .tuple #[.string r.1, .int .i64 r.2]) (by kernel_rfl) rfl rfl ?_)
 refine .seq (.region (W.q1 (.string (⟨#[]⟩ : ByteArray)) rfl (W.q1 (.int .i64 0) rfl (.nil (.seq (.seq ?_))))))
 refine .region (W.q2 (.string p0) rfl ?_)
 obtain ⟨x1, i2, h3⟩ := bd_inv h
 refine W.lo rfl rfl (Lo.callP (ps := []) (ps' := []) rfl (fn := Tryz.f28) (by kernel_rfl) rfl (mc rfl mn) O (fun L' O' => g_rat_Check_ok K p0 O' _ i2)) ?_
 rintro v10 H11 ⟨G4, O5, s6, sm9, rfl⟩
 replace O5 : Ow G4 H11 (L) := O5
 refine W.q1 (.int .i64 x1) rfl (.nil (.seq (.region (W.q2 (.int .i64 x1) rfl (W.q3 (.bool (x1 != 0)) rfl rfl (.nil ?_))))))
 refine .cond (b := (x1 != 0)) rfl rfl (fun g12 => ?_) (fun g12 => ?_)
 ·have h13 := pos_inv g12 h3
  refine .seq (.region (W.q2 (.int .i64 x1) rfl (W.q1 (.string (⟨#[]⟩ : ByteArray)) rfl (W.q1 (.int .i64 x1) rfl (.nil (.ret ?_))))))
  obtain rfl := Option.some.inj h13
  refine ret2R (P := Tryz.prog) (fn := Tryz.f22) (n := 16) (R := fun v H' => ∃ G', Ow G' H' (L) ∧ G.le G' ∧ v = .tuple #[.string ((⟨#[]⟩ : ByteArray), x1).1, .int .i64 ((⟨#[]⟩ : ByteArray), x1).2]) (v1 := (.string (⟨#[]⟩ : ByteArray))) (v2 := (.int .i64 x1)) (by rfl) (rr_tmp (by rfl) (by exact rfl)) (rr_tmp (by rfl) (by exact rfl)) ?_
  exact ⟨_, O5, s6, rfl⟩
 have h14 := neg_b g12 h3
 refine .skip (.seq (.region (W.q2 (.string p0) rfl ?_)))
 obtain ⟨x15, i16, h17⟩ := bd_inv h14
 refine W.lo rfl rfl (Lo.callP (ps := []) (ps' := []) rfl (fn := Tryz.f30) (by kernel_rfl) rfl (mc rfl mn) O5 (fun L' O' => g_rat_In_ok K p0 O' _ i16)) ?_
 rintro v26 H27 ⟨G18, O19, s20, sm25, ⟨c22, rfl, f23⟩⟩
 replace O19 : Ow G18 H27 (L) := O19
 obtain ⟨x28, i29, h30⟩ := bd_inv h17
 refine W.lo rfl rfl (Lo.callP (ps := []) (ps' := []) rfl (fn := Tryz.f56) (by kernel_rfl) rfl (mc rfl mn) O19 (fun L' O' => g_rat_Q_down_ok K c22 x15 f23 O' _ i29)) ?_
 rintro v39 H40 ⟨G31, O32, s33, sm38, ⟨c35, rfl, f36⟩⟩
 replace O32 : Ow G31 H40 (L) := O32
 obtain ⟨x41, i42, h43⟩ := bd_inv h30
 refine W.lo rfl rfl (Lo.callP (ps := []) (ps' := []) rfl (fn := Tryz.f46) (by kernel_rfl) rfl (mc rfl mn) O32 (fun L' O' => g_rat_told_ok K c35 x28 f36 O' _ i42)) ?_
 rintro v50 H51 ⟨G44, O45, s46, sm49, rfl⟩
 replace O45 : Ow G44 H51 (L) := O45
 refine W.pure (v := (.string x41.1)) rfl rfl (v_extract (oo rfl rfl) rfl) (W.pure (v := (.int .i64 x41.2)) rfl rfl (v_extract (oo rfl rfl) rfl) (W.q1 (.string x41.1) rfl (W.q1 (.int .i64 x41.2) rfl (.nil (.ret ?_)))))
 obtain rfl := Option.some.inj h43
 refine ret2R (P := Tryz.prog) (fn := Tryz.f22) (n := 16) (R := fun v H' => ∃ G', Ow G' H' (L) ∧ G.le G' ∧ v = .tuple #[.string (x41.1, x41.2).1, .int .i64 (x41.1, x41.2).2]) (v1 := (.string x41.1)) (v2 := (.int .i64 x41.2)) (by rfl) (rr_tmp (by rfl) (by exact rfl)) (rr_tmp (by rfl) (by exact rfl)) ?_
 exact ⟨_, O45, (GM.le.trans s6 (GM.le.trans s20 (GM.le.trans s33 s46))), rfl⟩
def g_rat_Ceil (K : Nat) (p0 : ByteArray) : Option (ByteArray × Int) := ((g_rat_Check K p0).bind fun x1 => (if (x1 != 0) = true then some ((⟨#[]⟩ : ByteArray), x1) else ((g_rat_In K p0).bind fun x15 => ((g_rat_Q_Neg K x15).bind fun x28 => ((g_rat_Q_down K x28).bind fun x41 => ((g_rat_Q_Neg K x41).bind fun x54 => ((g_rat_told K x54).bind fun x67 => some (x67.1, x67.2))))))))
set_option maxHeartbeats 4000000 in
theorem g_rat_Ceil_ok (K : Nat) {G : GM} {H : AH} {L : List Pc} (p0 : ByteArray) (O : Ow G H (L)) (r : ByteArray × Int) (h : g_rat_Ceil K p0 = some r) :
    CR Tryz.prog 23 [(.string p0)] G H (L) (fun v G' _ => v = .tuple #[.string r.1, .int .i64 r.2]) := by
 unfold g_rat_Ceil at h
 refine CR.of (calls_of_AW (n := 18) (fn := Tryz.f23) (R := fun v H' => ∃ G', Ow G' H' (L) ∧ G.le G' ∧ v = .tuple #[.string r.1, .int .i64 r.2]) (by kernel_rfl) rfl rfl ?_)
 refine .seq (.region (W.q1 (.string (⟨#[]⟩ : ByteArray)) rfl (W.q1 (.int .i64 0) rfl (.nil (.seq (.seq ?_))))))
 refine .region (W.q2 (.string p0) rfl ?_)
 obtain ⟨x1, i2, h3⟩ := bd_inv h
 refine W.lo rfl rfl (Lo.callP (ps := []) (ps' := []) rfl (fn := Tryz.f28) (by kernel_rfl) rfl (mc rfl mn) O (fun L' O' => g_rat_Check_ok K p0 O' _ i2)) ?_
 rintro v10 H11 ⟨G4, O5, s6, sm9, rfl⟩
 replace O5 : Ow G4 H11 (L) := O5
 refine W.q1 (.int .i64 x1) rfl (.nil (.seq (.region (W.q2 (.int .i64 x1) rfl (W.q3 (.bool (x1 != 0)) rfl rfl (.nil ?_))))))
 refine .cond (b := (x1 != 0)) rfl rfl (fun g12 => ?_) (fun g12 => ?_)
 ·have h13 := pos_inv g12 h3
  refine .seq (.region (W.q2 (.int .i64 x1) rfl (W.q1 (.string (⟨#[]⟩ : ByteArray)) rfl (W.q1 (.int .i64 x1) rfl (.nil (.ret ?_))))))
  obtain rfl := Option.some.inj h13
  refine ret2R (P := Tryz.prog) (fn := Tryz.f23) (n := 18) (R := fun v H' => ∃ G', Ow G' H' (L) ∧ G.le G' ∧ v = .tuple #[.string ((⟨#[]⟩ : ByteArray), x1).1, .int .i64 ((⟨#[]⟩ : ByteArray), x1).2]) (v1 := (.string (⟨#[]⟩ : ByteArray))) (v2 := (.int .i64 x1)) (by rfl) (rr_tmp (by rfl) (by exact rfl)) (rr_tmp (by rfl) (by exact rfl)) ?_
  exact ⟨_, O5, s6, rfl⟩
 have h14 := neg_b g12 h3
 refine .skip (.seq (.region (W.q2 (.string p0) rfl ?_)))
 obtain ⟨x15, i16, h17⟩ := bd_inv h14
 refine W.lo rfl rfl (Lo.callP (ps := []) (ps' := []) rfl (fn := Tryz.f30) (by kernel_rfl) rfl (mc rfl mn) O5 (fun L' O' => g_rat_In_ok K p0 O' _ i16)) ?_
 rintro v26 H27 ⟨G18, O19, s20, sm25, ⟨c22, rfl, f23⟩⟩
 replace O19 : Ow G18 H27 (L) := O19
 obtain ⟨x28, i29, h30⟩ := bd_inv h17
 refine W.lo rfl rfl (Lo.callP (ps := []) (ps' := []) rfl (fn := Tryz.f54) (by kernel_rfl) rfl (mc rfl mn) O19 (fun L' O' => g_rat_Q_Neg_ok K c22 x15 f23 O' _ i29)) ?_
 rintro v39 H40 ⟨G31, O32, s33, sm38, ⟨c35, rfl, f36⟩⟩
 replace O32 : Ow G31 H40 (L) := O32
 obtain ⟨x41, i42, h43⟩ := bd_inv h30
 refine W.lo rfl rfl (Lo.callP (ps := []) (ps' := []) rfl (fn := Tryz.f56) (by kernel_rfl) rfl (mc rfl mn) O32 (fun L' O' => g_rat_Q_down_ok K c35 x28 f36 O' _ i42)) ?_
 rintro v52 H53 ⟨G44, O45, s46, sm51, ⟨c48, rfl, f49⟩⟩
 replace O45 : Ow G44 H53 (L) := O45
 obtain ⟨x54, i55, h56⟩ := bd_inv h43
 refine W.lo rfl rfl (Lo.callP (ps := []) (ps' := []) rfl (fn := Tryz.f54) (by kernel_rfl) rfl (mc rfl mn) O45 (fun L' O' => g_rat_Q_Neg_ok K c48 x41 f49 O' _ i55)) ?_
 rintro v65 H66 ⟨G57, O58, s59, sm64, ⟨c61, rfl, f62⟩⟩
 replace O58 : Ow G57 H66 (L) := O58
 obtain ⟨x67, i68, h69⟩ := bd_inv h56
 refine W.lo rfl rfl (Lo.callP (ps := []) (ps' := []) rfl (fn := Tryz.f46) (by kernel_rfl) rfl (mc rfl mn) O58 (fun L' O' => g_rat_told_ok K c61 x54 f62 O' _ i68)) ?_
 rintro v76 H77 ⟨G70, O71, s72, sm75, rfl⟩
 replace O71 : Ow G70 H77 (L) := O71
 refine W.pure (v := (.string x67.1)) rfl rfl (v_extract (oo rfl rfl) rfl) (W.pure (v := (.int .i64 x67.2)) rfl rfl (v_extract (oo rfl rfl) rfl) (W.q1 (.string x67.1) rfl (W.q1 (.int .i64 x67.2) rfl (.nil (.ret ?_)))))
 obtain rfl := Option.some.inj h69
 refine ret2R (P := Tryz.prog) (fn := Tryz.f23) (n := 18) (R := fun v H' => ∃ G', Ow G' H' (L) ∧ G.le G' ∧ v = .tuple #[.string (x67.1, x67.2).1, .int .i64 (x67.1, x67.2).2]) (v1 := (.string x67.1)) (v2 := (.int .i64 x67.2)) (by rfl) (rr_tmp (by rfl) (by exact rfl)) (rr_tmp (by rfl) (by exact rfl)) ?_
 exact ⟨_, O71, (GM.le.trans s6 (GM.le.trans s20 (GM.le.trans s33 (GM.le.trans s46 (GM.le.trans s59 s72))))), rfl⟩
theorem bd_Q_1_2 {G : GM} (v1 : Value) {x1 : List Int} (v2 : Value) {x2 : List Int} (h1 : (rSl (rI .u32)).rep G v1.cells.toList x1) (h2 : (rSl (rI .u32)).rep G v2.cells.toList x2) : ∃ cs : List Value, (∀ {s : List Value} {d : Tmp} {ty : TypeId} {pos : String} {af : Array Edge} {g : Option (Nat × Bool)} {ps : Array (Nat × Operand)}, opndP s ps.toList = some [(1, v1), (2, v2)] → apure Tryz.prog s ⟨some d, .build 48 ps, ty, pos, af, g⟩ = some (.agg (List.toArray cs))) ∧ T_Q.rep G cs (Q.mk false x1 x2) := by
  have k1 := (u_Q_num G _ _ _ _ (z_Q G) h1).1
  have k2 := (u_Q_den G _ _ _ _ (k1) h2).1
  refine ⟨_, fun {s d ty pos af g ps} hps => v_buildS pl48 ze48 zo48 hps ?_, k2⟩
  refine (fill_cons' (off := 1) (sz := 1) (cs := _) rfl (RT.len _ h1) (Nat.le_trans (Nat.le_of_ble_eq_true (m := 3) rfl) (Nat.le_of_eq (RT.len _ (z_Q G)).symm))).trans ?_
  refine (fill_cons' (off := 2) (sz := 1) (cs := _) rfl (RT.len _ h2) (Nat.le_trans (Nat.le_of_ble_eq_true (m := 3) rfl) (Nat.le_of_eq (RT.len _ (k1)).symm))).trans ?_
  rfl
def g_rat_Int (K : Nat) (p0 : Int) : Option Q := (if (decide (p0 < 0)) = true then ((g_nat_Of K (kwrap .i64 (-p0))).bind fun x8 => ((g_nat_Of K 1).bind fun x21 => some (Q.mk true x8 x21))) else ((g_nat_Of K p0).bind fun x54 => ((g_nat_Of K 1).bind fun x67 => some (Q.mk false x54 x67))))
set_option maxHeartbeats 4000000 in
theorem g_rat_Int_ok (K : Nat) {G : GM} {H : AH} {L : List Pc} (p0 : Int) (O : Ow G H (L)) (r : Q) (h : g_rat_Int K p0 = some r) :
    CR Tryz.prog 57 [(.int .i64 p0)] G H (L) (fun v G' _ => ∃ (w0 : List Value), v = .agg (List.toArray w0) ∧ T_Q.rep G' w0 r) := by
 unfold g_rat_Int at h
 refine CR.of (calls_of_AW (n := 14) (fn := Tryz.f57) (R := fun v H' => ∃ G', Ow G' H' (L) ∧ G.le G' ∧ ∃ (w0 : List Value), v = .agg (List.toArray w0) ∧ T_Q.rep G' w0 r) (by kernel_rfl) rfl rfl ?_)
 refine .seq (.region (W.lo rfl rfl (Lo.alloc (r := T_Q) (x0 := (Q.mk false ([] : List Int) ([] : List Int))) ze48 (by kernel_rfl) z_Q O) ?_))
 rintro v4 H5 ⟨b2, rfl, O1, sm3⟩
 refine .nil (.seq (.seq (.region (W.q2 (.int .i64 p0) rfl (W.q3 (.bool (decide (p0 < 0))) rfl rfl (.nil ?_))))))
 refine .cond (b := decide (p0 < 0)) rfl rfl (fun g6 => ?_) (fun g6 => ?_)
 rotate_left
 ·have h53 := neg_b g6 h
  refine .skip (.seq (.region (W.q2 (.int .i64 p0) rfl ?_)))
  obtain ⟨x54, i55, h56⟩ := bd_inv h53
  refine W.lo rfl rfl (Lo.callPF (ps := []) (pw := fun w => [eSl w 64 (rI .u32) x54]) rfl (fn := Tryz.f41) (by kernel_rfl) rfl (mc rfl mn) O1 (fun L' O' => g_nat_Of_ok K p0 O' _ i55)) ?_
  rintro v65 H66 ⟨w62, G57, O58, s59, sm64, rfl⟩
  replace O58 : Ow G57 H66 (eSl w62 64 (rI .u32) x54 :: eVar b2 48 T_Q (Q.mk false ([] : List Int) ([] : List Int)) :: L) := O58
  obtain ⟨x67, i68, h69⟩ := bd_inv h56
  refine W.lo rfl rfl (Lo.callPF (ps := []) (pw := fun w => [eSl w 64 (rI .u32) x67]) rfl (fn := Tryz.f41) (by kernel_rfl) rfl (mc rfl mn) O58 (fun L' O' => g_nat_Of_ok K 1 O' _ i68)) ?_
  rintro v78 H79 ⟨w75, G70, O71, s72, sm77, rfl⟩
  replace O71 : Ow G70 H79 (eSl w75 64 (rI .u32) x67 :: eSl w62 64 (rI .u32) x54 :: eVar b2 48 T_Q (Q.mk false ([] : List Int) ([] : List Int)) :: L) := O71
  obtain ⟨G80, O81, s82, f83⟩ := O71.frzSl (j := 1) rfl
  replace O81 : Ow G80 H79 (eSl w75 64 (rI .u32) x67 :: eVar b2 48 T_Q (Q.mk false ([] : List Int) ([] : List Int)) :: L) := O81
  obtain ⟨G84, O85, s86, f87⟩ := O81.frzSl (j := 0) rfl
  replace O85 : Ow G84 H79 (eVar b2 48 T_Q (Q.mk false ([] : List Int) ([] : List Int)) :: L) := O85
  obtain ⟨c88, e90, f89⟩ := bd_Q_1_2 (w62) (w75) ((sl_cells (RT.mono _ s86 f83))) ((sl_cells f87))
  refine W.pure (v := .agg (List.toArray c88)) rfl rfl (e90 (opndP_oo rfl (qc' rfl (qc' rfl qn')))) (W.lo rfl rfl (Lo.storeVar (j := 0) (s := T_Q) (y0 := (Q.mk false x54 x67)) (v := (.agg (List.toArray c88))) (o := 0) rfl ((Put.at (Put.self _) _ _)) rfl sz48 rfl (by omega) rfl f89 O85) ?_)
  rintro v93 H94 ⟨O91, sm92⟩
  replace O91 : Ow G84 H94 (eVar b2 48 T_Q (Q.mk false x54 x67) :: L) := O91
  refine .nil (.ret ?_)
  obtain ⟨c95, p96, f97⟩ := (O91.atVar (j := 0) rfl)
  have O98 : Ow G84 H94 (L) := O91.drop 0
  obtain rfl := Option.some.inj h69
  refine ret1R (P := Tryz.prog) (fn := Tryz.f57) (n := 14) (R := fun v H' => ∃ G', Ow G' H' (L) ∧ G.le G' ∧ ∃ (w0 : List Value), v = .agg (List.toArray w0) ∧ T_Q.rep G' w0 (Q.mk false x54 x67)) (v1 := (.agg (List.toArray c95))) (by rfl) (rr_cellA (p := (.pointer (some ⟨b2, 0, none⟩))) (by rfl) ag48 sz48 (by exact rfl) p96 (RT.len _ f97)) ?_
  exact ⟨_, O98, (GM.le.trans s59 (GM.le.trans s72 (GM.le.trans s82 s86))), c95, rfl, f97⟩
 have h7 := pos_inv g6 h
 refine .seq (.region (W.q2 (.int .i64 p0) rfl (W.pure (v := (.int .i64 (kwrap .i64 (-p0)))) rfl rfl (v_neg (oo rfl rfl)) ?_)))
 obtain ⟨x8, i9, h10⟩ := bd_inv h7
 refine W.lo rfl rfl (Lo.callPF (ps := []) (pw := fun w => [eSl w 64 (rI .u32) x8]) rfl (fn := Tryz.f41) (by kernel_rfl) rfl (mc rfl mn) O1 (fun L' O' => g_nat_Of_ok K (kwrap .i64 (-p0)) O' _ i9)) ?_
 rintro v19 H20 ⟨w16, G11, O12, s13, sm18, rfl⟩
 replace O12 : Ow G11 H20 (eSl w16 64 (rI .u32) x8 :: eVar b2 48 T_Q (Q.mk false ([] : List Int) ([] : List Int)) :: L) := O12
 obtain ⟨x21, i22, h23⟩ := bd_inv h10
 refine W.lo rfl rfl (Lo.callPF (ps := []) (pw := fun w => [eSl w 64 (rI .u32) x21]) rfl (fn := Tryz.f41) (by kernel_rfl) rfl (mc rfl mn) O12 (fun L' O' => g_nat_Of_ok K 1 O' _ i22)) ?_
 rintro v32 H33 ⟨w29, G24, O25, s26, sm31, rfl⟩
 replace O25 : Ow G24 H33 (eSl w29 64 (rI .u32) x21 :: eSl w16 64 (rI .u32) x8 :: eVar b2 48 T_Q (Q.mk false ([] : List Int) ([] : List Int)) :: L) := O25
 obtain ⟨G34, O35, s36, f37⟩ := O25.frzSl (j := 1) rfl
 replace O35 : Ow G34 H33 (eSl w29 64 (rI .u32) x21 :: eVar b2 48 T_Q (Q.mk false ([] : List Int) ([] : List Int)) :: L) := O35
 obtain ⟨G38, O39, s40, f41⟩ := O35.frzSl (j := 0) rfl
 replace O39 : Ow G38 H33 (eVar b2 48 T_Q (Q.mk false ([] : List Int) ([] : List Int)) :: L) := O39
 obtain ⟨c42, e44, f43⟩ := bd_Q_0_1_2 ((.bool true)) (w16) (w29) (rfl) ((sl_cells (RT.mono _ s40 f37))) ((sl_cells f41))
 refine W.pure (v := .agg (List.toArray c42)) rfl rfl (e44 (opndP_oo rfl (qc' rfl (qc' rfl (qc' rfl qn'))))) (W.lo rfl rfl (Lo.storeVar (j := 0) (s := T_Q) (y0 := (Q.mk true x8 x21)) (v := (.agg (List.toArray c42))) (o := 0) rfl ((Put.at (Put.self _) _ _)) rfl sz48 rfl (by omega) rfl f43 O39) ?_)
 rintro v47 H48 ⟨O45, sm46⟩
 replace O45 : Ow G38 H48 (eVar b2 48 T_Q (Q.mk true x8 x21) :: L) := O45
 refine .nil (.ret ?_)
 obtain ⟨c49, p50, f51⟩ := (O45.atVar (j := 0) rfl)
 have O52 : Ow G38 H48 (L) := O45.drop 0
 obtain rfl := Option.some.inj h23
 refine ret1R (P := Tryz.prog) (fn := Tryz.f57) (n := 14) (R := fun v H' => ∃ G', Ow G' H' (L) ∧ G.le G' ∧ ∃ (w0 : List Value), v = .agg (List.toArray w0) ∧ T_Q.rep G' w0 (Q.mk true x8 x21)) (v1 := (.agg (List.toArray c49))) (by rfl) (rr_cellA (p := (.pointer (some ⟨b2, 0, none⟩))) (by rfl) ag48 sz48 (by exact rfl) p50 (RT.len _ f51)) ?_
 exact ⟨_, O52, (GM.le.trans s13 (GM.le.trans s26 (GM.le.trans s36 s40))), c49, rfl, f51⟩
def g_rat_Round (K : Nat) (p0 : ByteArray) : Option (ByteArray × Int) := ((g_rat_Check K p0).bind fun x1 => (if (x1 != 0) = true then some ((⟨#[]⟩ : ByteArray), x1) else ((g_rat_In K p0).bind fun x15 => ((g_rat_Q_down K x15).bind fun x40 => ((g_rat_Q_Sub K x15 x40).bind fun x68 => ((g_rat_Int K 1).bind fun x81 => ((g_rat_Int K 2).bind fun x94 => ((g_rat_Q_Quo K x81 x94).bind fun x107 => ((g_rat_Q_Cmp K x68 x107).bind fun x120 => ((g_nat_Of K 2).bind fun x139 => ((g_nat_N_Div K x40.num x139).bind fun x156 => (Option.bind ((if (decide (x120 > 0)) = true then some true else (if (x120 == 0) = true then some (decide ((List.length x156.2 : Int) > 0)) else some false))) (tu1 fun x182 => (Option.bind ((if x182 = true then ((g_rat_Int K 1).bind fun x205 => ((g_rat_Q_Add K x40 x205).bind fun x218 => some x218)) else some x40)) (tu1 fun x236 => ((g_rat_told K x236).bind fun x248 => some (x248.1, x248.2)))))))))))))))))
set_option maxHeartbeats 4000000 in
theorem g_rat_Round_ok (K : Nat) {G : GM} {H : AH} {L : List Pc} (p0 : ByteArray) (O : Ow G H (L)) (r : ByteArray × Int) (h : g_rat_Round K p0 = some r) :
    CR Tryz.prog 24 [(.string p0)] G H (L) (fun v G' _ => v = .tuple #[.string r.1, .int .i64 r.2]) := by
 unfold g_rat_Round at h
 refine CR.of (calls_of_AW (n := 51) (fn := Tryz.f24) (R := fun v H' => ∃ G', Ow G' H' (L) ∧ G.le G' ∧ v = .tuple #[.string r.1, .int .i64 r.2]) (by kernel_rfl) rfl rfl ?_)
 refine .seq (.region (W.q1 (.string (⟨#[]⟩ : ByteArray)) rfl (W.q1 (.int .i64 0) rfl (.nil (.seq (.seq ?_))))))
 refine .region (W.q2 (.string p0) rfl ?_)
 obtain ⟨x1, i2, h3⟩ := bd_inv h
 refine W.lo rfl rfl (Lo.callP (ps := []) (ps' := []) rfl (fn := Tryz.f28) (by kernel_rfl) rfl (mc rfl mn) O (fun L' O' => g_rat_Check_ok K p0 O' _ i2)) ?_
 rintro v10 H11 ⟨G4, O5, s6, sm9, rfl⟩
 replace O5 : Ow G4 H11 (L) := O5
 refine W.q1 (.int .i64 x1) rfl (.nil (.seq (.region (W.q2 (.int .i64 x1) rfl (W.q3 (.bool (x1 != 0)) rfl rfl (.nil ?_))))))
 refine .cond (b := (x1 != 0)) rfl rfl (fun g12 => ?_) (fun g12 => ?_)
 ·have h13 := pos_inv g12 h3
  refine .seq (.region (W.q2 (.int .i64 x1) rfl (W.q1 (.string (⟨#[]⟩ : ByteArray)) rfl (W.q1 (.int .i64 x1) rfl (.nil (.ret ?_))))))
  obtain rfl := Option.some.inj h13
  refine ret2R (P := Tryz.prog) (fn := Tryz.f24) (n := 51) (R := fun v H' => ∃ G', Ow G' H' (L) ∧ G.le G' ∧ v = .tuple #[.string ((⟨#[]⟩ : ByteArray), x1).1, .int .i64 ((⟨#[]⟩ : ByteArray), x1).2]) (v1 := (.string (⟨#[]⟩ : ByteArray))) (v2 := (.int .i64 x1)) (by rfl) (rr_tmp (by rfl) (by exact rfl)) (rr_tmp (by rfl) (by exact rfl)) ?_
  exact ⟨_, O5, s6, rfl⟩
 have h14 := neg_b g12 h3
 refine .skip (.seq (.region (W.q2 (.string p0) rfl ?_)))
 obtain ⟨x15, i16, h17⟩ := bd_inv h14
 refine W.lo rfl rfl (Lo.callP (ps := []) (ps' := []) rfl (fn := Tryz.f30) (by kernel_rfl) rfl (mc rfl mn) O5 (fun L' O' => g_rat_In_ok K p0 O' _ i16)) ?_
 rintro v26 H27 ⟨G18, O19, s20, sm25, ⟨c22, rfl, f23⟩⟩
 replace O19 : Ow G18 H27 (L) := O19
 refine W.lo rfl rfl (Lo.alloc (r := T_Q) (x0 := (Q.mk false ([] : List Int) ([] : List Int))) ze48 (by kernel_rfl) z_Q O19) ?_
 rintro v31 H32 ⟨b29, rfl, O28, sm30⟩
 refine W.lo rfl rfl (Lo.storeVar (j := 0) (s := T_Q) (y0 := x15) (v := (.agg (List.toArray c22))) (o := 0) rfl ((Put.at (Put.self _) _ _)) rfl sz48 rfl (by omega) rfl f23 O28) ?_
 rintro v35 H36 ⟨O33, sm34⟩
 replace O33 : Ow G18 H36 (eVar b29 48 T_Q x15 :: L) := O33
 refine .nil (.seq (.region ?_))
 obtain ⟨c37, p38, f39⟩ := (O33.atVar (j := 0) rfl)
 refine W.loadA (cs := c37) rfl rfl ag48 sz48 (pt_px rfl p38) (RT.len _ f39) ?_
 obtain ⟨x40, i41, h42⟩ := bd_inv h17
 refine W.lo rfl rfl (Lo.callP (ps := []) (ps' := []) rfl (fn := Tryz.f56) (by kernel_rfl) rfl (mc rfl mn) O33 (fun L' O' => g_rat_Q_down_ok K c37 x15 f39 O' _ i41)) ?_
 rintro v51 H52 ⟨G43, O44, s45, sm50, ⟨c47, rfl, f48⟩⟩
 replace O44 : Ow G43 H52 (eVar b29 48 T_Q x15 :: L) := O44
 refine W.lo rfl rfl (Lo.alloc (r := T_Q) (x0 := (Q.mk false ([] : List Int) ([] : List Int))) ze48 (by kernel_rfl) z_Q O44) ?_
 rintro v56 H57 ⟨b54, rfl, O53, sm55⟩
 refine W.lo rfl rfl (Lo.storeVar (j := 0) (s := T_Q) (y0 := x40) (v := (.agg (List.toArray c47))) (o := 0) rfl ((Put.at (Put.self _) _ _)) rfl sz48 rfl (by omega) rfl f48 O53) ?_
 rintro v60 H61 ⟨O58, sm59⟩
 replace O58 : Ow G43 H61 (eVar b54 48 T_Q x40 :: eVar b29 48 T_Q x15 :: L) := O58
 refine .nil (.seq (.region ?_))
 obtain ⟨c62, p63, f64⟩ := (O58.atVar (j := 1) rfl)
 refine W.loadA (cs := c62) rfl rfl ag48 sz48 (pt_px rfl p63) (RT.len _ f64) ?_
 obtain ⟨c65, p66, f67⟩ := (O58.atVar (j := 0) rfl)
 refine W.loadA (cs := c65) rfl rfl ag48 sz48 (pt_px rfl p66) (RT.len _ f67) ?_
 obtain ⟨x68, i69, h70⟩ := bd_inv h42
 refine W.lo rfl rfl (Lo.callP (ps := []) (ps' := []) rfl (fn := Tryz.f51) (by kernel_rfl) rfl (mc rfl (mc rfl mn)) O58 (fun L' O' => g_rat_Q_Sub_ok K c62 x15 f64 c65 x40 f67 O' _ i69)) ?_
 rintro v79 H80 ⟨G71, O72, s73, sm78, ⟨c75, rfl, f76⟩⟩
 replace O72 : Ow G71 H80 (eVar b54 48 T_Q x40 :: eVar b29 48 T_Q x15 :: L) := O72
 obtain ⟨x81, i82, h83⟩ := bd_inv h70
 refine W.lo rfl rfl (Lo.callP (ps := []) (ps' := []) rfl (fn := Tryz.f57) (by kernel_rfl) rfl (mc rfl mn) O72 (fun L' O' => g_rat_Int_ok K 1 O' _ i82)) ?_
 rintro v92 H93 ⟨G84, O85, s86, sm91, ⟨c88, rfl, f89⟩⟩
 replace O85 : Ow G84 H93 (eVar b54 48 T_Q x40 :: eVar b29 48 T_Q x15 :: L) := O85
 obtain ⟨x94, i95, h96⟩ := bd_inv h83
 refine W.lo rfl rfl (Lo.callP (ps := []) (ps' := []) rfl (fn := Tryz.f57) (by kernel_rfl) rfl (mc rfl mn) O85 (fun L' O' => g_rat_Int_ok K 2 O' _ i95)) ?_
 rintro v105 H106 ⟨G97, O98, s99, sm104, ⟨c101, rfl, f102⟩⟩
 replace O98 : Ow G97 H106 (eVar b54 48 T_Q x40 :: eVar b29 48 T_Q x15 :: L) := O98
 obtain ⟨x107, i108, h109⟩ := bd_inv h96
 refine W.lo rfl rfl (Lo.callP (ps := []) (ps' := []) rfl (fn := Tryz.f53) (by kernel_rfl) rfl (mc rfl (mc rfl mn)) O98 (fun L' O' => g_rat_Q_Quo_ok K c88 x81 (RT.mono _ s99 f89) c101 x94 f102 O' _ i108)) ?_
 rintro v118 H119 ⟨G110, O111, s112, sm117, ⟨c114, rfl, f115⟩⟩
 replace O111 : Ow G110 H119 (eVar b54 48 T_Q x40 :: eVar b29 48 T_Q x15 :: L) := O111
 obtain ⟨x120, i121, h122⟩ := bd_inv h109
 refine W.lo rfl rfl (Lo.callP (ps := []) (ps' := []) rfl (fn := Tryz.f31) (by kernel_rfl) rfl (mc rfl (mc rfl mn)) O111 (fun L' O' => g_rat_Q_Cmp_ok K c75 x68 (RT.mono _ (GM.le.trans s86 (GM.le.trans s99 s112)) f76) c114 x107 f115 O' _ i121)) ?_
 rintro v129 H130 ⟨G123, O124, s125, sm128, rfl⟩
 replace O124 : Ow G123 H130 (eVar b54 48 T_Q x40 :: eVar b29 48 T_Q x15 :: L) := O124
 refine W.q1 (.int .i64 x120) rfl (.nil (.seq (.draw2 (M := [0, 1, 0, 7, 15, 31, 31, 63, 255]) mixed (by kernel_rfl) (by kernel_rfl) fun H131 N135 x132 F134 => ?_)))
 have O133 := O124.ext x132
 refine D2.pure (v := (padd (.pointer (some ⟨b54, 0, none⟩)) 1)) rfl rfl (v_fldA fl48_1 (oo rfl rfl) (O133.atVar (j := 0) rfl)) ?_
 obtain ⟨w136, p137, f138⟩ := At.sl (At.proj (O133.atVar (j := 0) rfl) p_Q_num)
 refine D2.load1' (v := w136) (r := []) rfl rfl ag46 (pt_px rfl p137) fa_nil ?_
 obtain ⟨x139, i140, h141⟩ := bd_inv h122
 refine D2.lo rfl rfl (Lo.callPF (ps := []) (pw := fun w => [eSl w 64 (rI .u32) x139]) rfl (fn := Tryz.f41) (by kernel_rfl) rfl (mc rfl mn) O133 (fun L' O' => g_nat_Of_ok K 2 O' _ i140)) ?_ fa_nil ?_ ?_
 ·rintro v150 H151 ⟨w147, G142, O143, s144, sm149, rfl⟩; exact (faR1 (.inr (sm149 _ (Or.inr ⟨0, _, rfl, List.mem_singleton.2 rfl⟩))) fa_nil)
 ·rintro v150 H151 ⟨w147, G142, O143, s144, sm149, rfl⟩; exact fa_nil
 rintro v150 H151 ⟨w147, G142, O143, s144, sm149, rfl⟩
 replace O143 : Ow G142 H151 (eSl w147 64 (rI .u32) x139 :: eVar b54 48 T_Q x40 :: eVar b29 48 T_Q x15 :: L) := O143
 obtain ⟨G152, O153, s154, f155⟩ := O143.frzSl (j := 0) rfl
 replace O153 : Ow G152 H151 (eVar b54 48 T_Q x40 :: eVar b29 48 T_Q x15 :: L) := O153
 obtain ⟨x156, i157, h158⟩ := bd_inv h141
 refine D2.lo rfl rfl (Lo.callP (ps := []) (ps' := []) rfl (fn := Tryz.f58) (by kernel_rfl) rfl (mc rfl (mc rfl mn)) O153 (fun L' O' => g_nat_N_Div_ok K w136 x40.num (RT.mono _ (GM.le.trans s144 s154) f138) w147 x139 f155 O' _ i157)) ?_ (faL_bit (by decide) fa_nil) ?_ ?_
 ·rintro v169 H170 ⟨G159, O160, s161, sm168, ⟨w163, w165, rfl, f164, f166⟩⟩; exact (faR1 (.inl (by decide)) fa_nil)
 ·rintro v169 H170 ⟨G159, O160, s161, sm168, ⟨w163, w165, rfl, f164, f166⟩⟩; exact fa_nil
 rintro v169 H170 ⟨G159, O160, s161, sm168, ⟨w163, w165, rfl, f164, f166⟩⟩
 replace O160 : Ow G159 H170 (eVar b54 48 T_Q x40 :: eVar b29 48 T_Q x15 :: L) := O160
 refine D2.q2 (.tuple #[w163, w165]) rfl (D2.pure (v := w163) rfl rfl (v_extract (oo rfl rfl) rfl) (D2.pure (v := w165) rfl rfl (v_extract (oo rfl rfl) rfl) (D2.q1 w163 rfl (D2.q1 w165 rfl (.nil (.seq ?_))))))
 refine .seq ?_
 obtain ⟨q171, h172, h173⟩ := bd_inv h158
 refine AW.midT (fun σ' H' => ∃ (y1 : Bool) (G' : GM), y1 = q171 ∧ Ow G' H' (eVar b54 48 T_Q x40 :: eVar b29 48 T_Q x15 :: L) ∧ GM.le G159 G' ∧ σ' 43 = .bool y1) ?_ ?_
 ·refine .region (W.q2 (.int .i64 x120) rfl (W.q3 (.bool (decide (x120 > 0))) rfl rfl (W.q2 (.bool (decide (x120 > 0))) rfl (W.splitAt (t := 35) (b := decide (x120 > 0)) rfl (fun g174 gv175 => ?_) (fun g174 gv175 => ?_)))))
  ·have h176 := pos_inv g174 h172
   refine W.q6 rfl gv175 (W.q6 rfl gv175 (W.q6 rfl gv175 (W.skipU rfl rfl rfl rfl (W.skipU rfl rfl rfl rfl (W.skipU rfl rfl rfl rfl (W.q6 rfl gv175 ?_))))))
   refine W.q4 (.bool true) gv175 rfl (.nil ?_)
   obtain rfl := Option.some.inj h176
   exact ⟨true, _, rfl, O160, (GM.le.refl _), rfl⟩
  have h177 := neg_b g174 h172
  refine W.q2 (hg := gk rfl rfl gv175 rfl) (.int .i64 x120) rfl (W.q3 (hg := gk rfl rfl gv175 rfl) (.bool (x120 == 0)) rfl rfl (W.q2 (hg := gk rfl rfl gv175 rfl) (.bool (x120 == 0)) rfl (W.splitAt (t := 38) (b := (x120 == 0)) rfl (fun g178 gv179 => ?_) (fun g178 gv179 => ?_))))
  rotate_left
  ·have h181 := neg_b g178 h177
   refine W.q6 rfl gv179 (W.q6 rfl gv179 (W.q6 rfl gv179 (W.q5 (hg := gk rfl rfl gv175 rfl) (.bool false) gv179 rfl (W.q5 (.bool false) gv175 rfl (.nil ?_)))))
   obtain rfl := Option.some.inj h181
   exact ⟨false, _, rfl, O160, (GM.le.refl _), rfl⟩
  have h180 := pos_inv g178 h177
  refine W.q2 (hg := gk rfl rfl gv179 rfl) w165 rfl (W.pure (v := (.int .i64 (List.length x156.2 : Int))) (gk rfl rfl gv179 rfl) rfl (len_sl (oo rfl rfl) (sl_len f166) (elemT_inv el46)) (W.q3 (hg := gk rfl rfl gv179 rfl) (.bool (decide ((List.length x156.2 : Int) > 0))) rfl rfl (W.q4 (hg := gk rfl rfl gv175 rfl) (.bool (decide ((List.length x156.2 : Int) > 0))) gv179 rfl (W.q5 (.bool (decide ((List.length x156.2 : Int) > 0))) gv175 rfl (.nil ?_)))))
  obtain rfl := Option.some.inj h180
  exact ⟨decide ((List.length x156.2 : Int) > 0), _, rfl, O160, (GM.le.refl _), rfl⟩
 rintro σ183 H184 fr185 ⟨x182, G186, rfl, O187, s188, t190⟩
 have h191 := tu1_inv h173
 obtain ⟨q192, h193, h194⟩ := bd_inv h191
 refine AW.midT (fun σ' H' => ∃ (y1 : Q) (G' : GM), y1 = q192 ∧ Ow G' H' (eVar b54 48 T_Q y1 :: eVar b29 48 T_Q x15 :: L) ∧ GM.le G186 G') ?_ ?_
 rotate_left
 ·rintro σ237 H238 fr239 ⟨x236, G240, rfl, O241, s242⟩
  have h244 := tu1_inv h194
  refine .seq (.region ?_)
  obtain ⟨c245, p246, f247⟩ := (O241.atVar (j := 0) rfl)
  refine W.loadA (cs := c245) rfl rfl ag48 sz48 (pt_px ((fr239 6 rfl).trans ((fr185 6 rfl).trans rfl)) p246) (RT.len _ f247) ?_
  obtain ⟨x248, i249, h250⟩ := bd_inv h244
  refine W.lo rfl rfl (Lo.callP (ps := []) (ps' := []) rfl (fn := Tryz.f46) (by kernel_rfl) rfl (mc rfl mn) O241 (fun L' O' => g_rat_told_ok K c245 x236 f247 O' _ i249)) ?_
  rintro v257 H258 ⟨G251, O252, s253, sm256, rfl⟩
  replace O252 : Ow G251 H258 (eVar b54 48 T_Q x236 :: eVar b29 48 T_Q x15 :: L) := O252
  refine W.pure (v := (.string x248.1)) rfl rfl (v_extract (oo rfl rfl) rfl) (W.pure (v := (.int .i64 x248.2)) rfl rfl (v_extract (oo rfl rfl) rfl) (W.q1 (.string x248.1) rfl (W.q1 (.int .i64 x248.2) rfl (.nil (.ret ?_)))))
  have O259 : Ow G251 H258 (eVar b29 48 T_Q x15 :: L) := O252.drop 0
  have O260 : Ow G251 H258 (L) := O259.drop 0
  obtain rfl := Option.some.inj h250
  refine ret2R (P := Tryz.prog) (fn := Tryz.f24) (n := 51) (R := fun v H' => ∃ G', Ow G' H' (L) ∧ G.le G' ∧ v = .tuple #[.string (x248.1, x248.2).1, .int .i64 (x248.1, x248.2).2]) (v1 := (.string x248.1)) (v2 := (.int .i64 x248.2)) (by rfl) (rr_tmp (by rfl) (by exact rfl)) (rr_tmp (by rfl) (by exact rfl)) ?_
  exact ⟨_, O260, (GM.le.trans s6 (GM.le.trans s20 (GM.le.trans s45 (GM.le.trans s73 (GM.le.trans s86 (GM.le.trans s99 (GM.le.trans s112 (GM.le.trans s125 (GM.le.trans s144 (GM.le.trans s154 (GM.le.trans s161 (GM.le.trans s188 (GM.le.trans s242 s253))))))))))))), rfl⟩
 refine .cond (b := x182) rfl t190 (fun g195 => ?_) (fun g195 => ?_)
 rotate_left
 ·have h235 := neg_b g195 h193
  refine .skip ?_
  obtain rfl := Option.some.inj h235
  exact ⟨x40, _, rfl, O187, (GM.le.refl _)⟩
 have h196 := pos_inv g195 h193
 refine .draw2 (M := [0, 0, 3, 7]) mixed (by kernel_rfl) (by kernel_rfl) fun H197 N201 x198 F200 => ?_
 have O199 := O187.ext x198
 obtain ⟨c202, p203, f204⟩ := (O199.atVar (j := 0) rfl)
 refine D2.loadA' (cs := c202) rfl rfl ag48 sz48 (pt_px ((fr185 6 rfl).trans rfl) p203) (RT.len _ f204) fa_nil ?_
 obtain ⟨x205, i206, h207⟩ := bd_inv h196
 refine D2.lo rfl rfl (Lo.callP (ps := []) (ps' := []) rfl (fn := Tryz.f57) (by kernel_rfl) rfl (mc rfl mn) O199 (fun L' O' => g_rat_Int_ok K 1 O' _ i206)) ?_ fa_nil ?_ ?_
 ·rintro v216 H217 ⟨G208, O209, s210, sm215, ⟨c212, rfl, f213⟩⟩; exact (faR1 (.inr (fa_px ((fr185 6 rfl).trans rfl) (sm215 _ (Or.inr ⟨0, _, rfl, List.mem_singleton.2 rfl⟩)))) fa_nil)
 ·rintro v216 H217 ⟨G208, O209, s210, sm215, ⟨c212, rfl, f213⟩⟩; exact fa_nil
 rintro v216 H217 ⟨G208, O209, s210, sm215, ⟨c212, rfl, f213⟩⟩
 replace O209 : Ow G208 H217 (eVar b54 48 T_Q x40 :: eVar b29 48 T_Q x15 :: L) := O209
 obtain ⟨x218, i219, h220⟩ := bd_inv h207
 refine D2.lo rfl rfl (Lo.callP (ps := []) (ps' := []) rfl (fn := Tryz.f50) (by kernel_rfl) rfl (mc rfl (mc rfl mn)) O209 (fun L' O' => g_rat_Q_Add_ok K c202 x40 (RT.mono _ s210 f204) c212 x205 f213 O' _ i219)) ?_ (faL_bit (by decide) fa_nil) ?_ ?_
 ·rintro v229 H230 ⟨G221, O222, s223, sm228, ⟨c225, rfl, f226⟩⟩; exact (faR1 (.inl (by decide)) fa_nil)
 ·rintro v229 H230 ⟨G221, O222, s223, sm228, ⟨c225, rfl, f226⟩⟩; exact fa_nil
 rintro v229 H230 ⟨G221, O222, s223, sm228, ⟨c225, rfl, f226⟩⟩
 replace O222 : Ow G221 H230 (eVar b54 48 T_Q x40 :: eVar b29 48 T_Q x15 :: L) := O222
 refine D2.lo rfl rfl (Lo.storeVar (j := 0) (s := T_Q) (y0 := x218) (v := (.agg (List.toArray c225))) (o := 0) rfl ((Put.at (Put.self _) _ _)) rfl sz48 ((fr185 6 rfl).trans rfl) (by omega) rfl f226 O222) ?_ (faL_bit (by decide) (faL_bit (by decide) fa_nil)) ?_ ?_
 ·rintro v233 H234 ⟨O231, sm232⟩; exact (faR1 (.inl (by decide)) fa_nil)
 ·rintro v233 H234 ⟨O231, sm232⟩; exact fa_nil
 rintro v233 H234 ⟨O231, sm232⟩
 replace O231 : Ow G221 H234 (eVar b54 48 T_Q x218 :: eVar b29 48 T_Q x15 :: L) := O231
 refine .nil ?_
 obtain rfl := Option.some.inj h220
 exact ⟨x218, _, rfl, O231, (GM.le.trans s210 s223)⟩
end Go.Am.Tryz
