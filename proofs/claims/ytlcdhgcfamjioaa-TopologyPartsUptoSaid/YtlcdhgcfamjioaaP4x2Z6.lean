/- Typed functions with the same answers as the program's, and the walks that show it. -/
import Derived.Test.YtlcdhgcfamjioaaP4x1Z6
namespace Go.Am.Try
open Go Go.Am Go.Proofs
set_option linter.unusedVariables false
set_option linter.unusedSimpArgs false
set_option maxRecDepth 10000

def g_R_Switching_l0 (K : Nat) (p0 : Network) : Nat → List (List Int) → Int → Option (List (List Int))
 | 0, _, _ => none
 | k + 1, x14, x15 => (if (decide (x15 < (List.length p0.Switches : Int))) = true then ((idx p0.Switches x15).bind fun x26 => ((g_R_Place K p0.Nodes x26.A).bind fun x50 => ((g_R_Place K p0.Nodes x26.B).bind fun x64 => (if List.length x14 + List.length [[x50, x64]] ≤ 16777216 then g_R_Switching_l0 K p0 k (x14 ++ [[x50, x64]]) (kwrap .i64 (x15 + 1)) else none)))) else some x14)
def g_R_Switching (K : Nat) (p0 : Network) : Option (List (List Int)) := (Option.bind (g_R_Switching_l0 K p0 K [] 0) (tu1 fun x96 => some x96))
set_option maxHeartbeats 4000000 in
theorem g_R_Switching_ok (K : Nat) {G : GM} {H : AH} {L : List Pc} (v0 : List Value) (p0 : Network) (hp0 : T_Network.rep G v0 p0) (O : Ow G H (L)) (r : List (List Int)) (h : g_R_Switching K p0 = some r) :
  CRF Try.prog 47 [.agg (List.toArray v0)] G H (fun w0 => (eSl w0 29 (rArr 2 (rI .i64)) r :: L)) (fun w0 v G' => w0 = v) := by
 unfold g_R_Switching at h
 refine CRF.of (calls_of_AW (n := 29) (fn := Try.f47) (R := fun v H' => ∃ w0 G', Ow G' H' (eSl w0 29 (rArr 2 (rI .i64)) r :: L) ∧ G.le G' ∧ w0 = v) (by kernel_rfl) rfl rfl ?_)
 refine .seq ?_
 refine .region ?_
 refine W.lo rfl rfl (Lo.box (r := T_Network) (x0 := p0) (v := (.agg (List.toArray v0))) rfl rfl hp0 O) ?_
 rintro v4 H5 ⟨b2, rfl, O1, sm3⟩
 refine W.pure (v := (.slice none 0 0)) rfl rfl (v_assign (oo rfl rfl)) ?_
 refine .nil ?_
 refine .seq ?_
 refine .region ?_
 refine W.pure (v := (.slice none 0 0)) rfl rfl (v_assign (oo rfl rfl)) ?_
 refine .nil ?_
 refine .seq ?_
 refine .seq ?_
 refine .region ?_
 refine W.pure (v := (padd (.pointer (some ⟨b2, 0, none⟩)) 1)) rfl rfl (v_fldA fl48_1 (oo rfl rfl) (O1.atVar (j := 0) rfl)) ?_
 obtain ⟨w6, p7, f8⟩ := At.sl (At.proj (O1.atVar (j := 0) rfl) p_Network_Switches)
 refine W.load1 (v := w6) (r := []) rfl rfl ag42 (pt_px rfl p7) ?_
 refine W.pure (v := (.int .i64 (List.length p0.Switches : Int))) rfl rfl (len_sl (oo rfl rfl) (sl_len f8) (elemT_inv el42)) ?_
 refine W.pure (v := (.int .i64 0)) rfl rfl (v_move (oo rfl rfl)) ?_
 refine .nil ?_
 obtain ⟨q9, h10, h11⟩ := bd_inv h
 refine AW.midT (fun σ' H' => ∃ (y1 : List (List Int)) (G' : GM), y1 = q9 ∧ Ow G' H' (eVar b2 48 T_Network p0 :: eSl (σ' 3) 29 (rArr 2 (rI .i64)) y1 :: L) ∧ GM.le G G') ?_ ?_
 ·refine .block ?_
  have O12 := O1.nilSl 29 (rArr 2 (rI .i64))
  refine AW.loop (α := Nat) (fun k' σ' H' => ∃ (y1 : List (List Int)) (y2 : Int) (G' : GM), g_R_Switching_l0 K p0 k' y1 y2 = some q9 ∧ Ow G' H' (eSl (σ' 3) 29 (rArr 2 (rI .i64)) y1 :: eVar b2 48 T_Network p0 :: L) ∧ GM.le G G' ∧ σ' 9 = .int .i64 y2) (fun k' => k') K ⟨[], 0, _, h10, O12, (GM.le.refl _), rfl⟩ ?_
  rintro k13
  rintro σ16 H17 fr18 ⟨x14, x15, G19, h22, O20, s21, t23⟩
  rcases k13 with _ | k13
  ·exact none_absurd h22
  rw [g_R_Switching_l0] at h22
  refine .seq ?_
  refine .region ?_
  refine W.pure (v := (.bool (decide (x15 < (List.length p0.Switches : Int))))) rfl rfl (v_int (oo rfl t23) (oo rfl ((fr18 8 rfl).trans rfl)) rfl) ?_
  refine .nil ?_
  refine .seq ?_
  refine .cond (b := decide (x15 < (List.length p0.Switches : Int))) rfl rfl (fun g24 => ?_) (fun g24 => ?_)
  ·have h25 := pos_inv g24 h22
   refine .skip ?_
   refine .seq ?_
   refine .block ?_
   refine .seq ?_
   refine .region ?_
   obtain ⟨x26, i27, h28⟩ := bd_inv h25
   have j29 := idx_inv i27
   refine W.pure (v := (selem w6 (Int.toNat x15 * 5))) rfl rfl (v_idx el42 sz81 (oo rfl ((fr18 7 rfl).trans rfl)) (oo rfl t23) (sl_len (RT.mono _ s21 f8)) j29.1 j29.2.1) ?_
   obtain ⟨c30, p31, f32⟩ := (At.le (At.le (sl_idx f8 j29.2.2) s21 s21) (GM.le.refl _) O20.fro)
   refine W.loadA (cs := c30) rfl rfl ag81 sz81 (pt_px rfl p31) (RT.len _ f32) ?_
   refine W.lo rfl rfl (Lo.alloc (r := T_Switch) (x0 := (Switch.mk ByteArray.empty ByteArray.empty ByteArray.empty false false)) ze81 (by kernel_rfl) z_Switch O20) ?_
   rintro v36 H37 ⟨b34, rfl, O33, sm35⟩
   refine W.lo rfl rfl (Lo.storeVar (j := 0) (s := T_Switch) (y0 := x26) (v := (.agg (List.toArray c30))) (o := 0) rfl ((Put.at (Put.self _) _ _)) rfl sz81 rfl (by omega) rfl f32 O33) ?_
   rintro v40 H41 ⟨O38, sm39⟩
   replace O38 : Ow G19 H41 (eVar b34 81 T_Switch x26 :: eSl (σ16 3) 29 (rArr 2 (rI .i64)) x14 :: eVar b2 48 T_Network p0 :: L) := O38
   refine .nil ?_
   refine .draw2 (M := [0, 0, 2, 0, 8, 30, 0, 64, 0, 256, 1022, 2046, 4094, 8191, 16383]) mixed (by kernel_rfl) (by kernel_rfl) fun H42 N46 x43 F45 => ?_
   have O44 := O38.ext x43
   refine D2.pure (v := (σ16 3)) rfl rfl (v_move (oo rfl rfl)) ?_
   refine D2.pure (v := (padd (.pointer (some ⟨b2, 0, none⟩)) 0)) rfl rfl (v_fldA fl48_0 (oo rfl ((fr18 1 rfl).trans rfl)) (O44.atVar (j := 2) rfl)) ?_
   obtain ⟨w47, p48, f49⟩ := At.sl (At.proj (O44.atVar (j := 2) rfl) p_Network_Nodes)
   refine D2.load1' (v := w47) (r := []) rfl rfl ag41 (pt_px rfl p48) fa_nil ?_
   refine D2.pure (v := (padd (.pointer (some ⟨b34, 0, none⟩)) 1)) rfl rfl (v_fldA fl81_1 (oo rfl rfl) (O44.atVar (j := 0) rfl)) ?_
   refine D2.load1' (v := (.string x26.A)) (r := []) rfl rfl ag9 (pt_px rfl (At.str (At.proj (O44.atVar (j := 0) rfl) p_Switch_A))) fa_nil ?_
   obtain ⟨x50, i51, h52⟩ := bd_inv h28
   refine D2.lo rfl rfl (Lo.callP (ps := []) (ps' := []) rfl (fn := Try.f46) (by kernel_rfl) rfl (mc rfl (mc rfl mn)) O44 (fun L' O' => g_R_Place_ok K w47 p0.Nodes f49 x26.A O' _ i51)) ?_ fa_nil ?_ ?_
   ·rintro v59 H60 ⟨G53, O54, s55, sm58, rfl⟩; exact (faR1 (.inl (by decide)) (faR1 (.inl (by decide)) fa_nil))
   ·rintro v59 H60 ⟨G53, O54, s55, sm58, rfl⟩; exact fa_nil
   rintro v59 H60 ⟨G53, O54, s55, sm58, rfl⟩
   replace O54 : Ow G53 H60 (eVar b34 81 T_Switch x26 :: eSl (σ16 3) 29 (rArr 2 (rI .i64)) x14 :: eVar b2 48 T_Network p0 :: L) := O54
   refine D2.pure (v := (padd (.pointer (some ⟨b2, 0, none⟩)) 0)) rfl rfl (v_fldA fl48_0 (oo rfl ((fr18 1 rfl).trans rfl)) (O54.atVar (j := 2) rfl)) ?_
   obtain ⟨w61, p62, f63⟩ := At.sl (At.proj (O54.atVar (j := 2) rfl) p_Network_Nodes)
   refine D2.load1' (v := w61) (r := []) rfl rfl ag41 (pt_px rfl p62) (faQ_eq (sm58 _ (Or.inr ⟨2, _, rfl, List.mem_singleton.2 rfl⟩)) fa_nil) ?_
   refine D2.pure (v := (padd (.pointer (some ⟨b34, 0, none⟩)) 2)) rfl rfl (v_fldA fl81_2 (oo rfl rfl) (O54.atVar (j := 0) rfl)) ?_
   refine D2.load1' (v := (.string x26.B)) (r := []) rfl rfl ag9 (pt_px rfl (At.str (At.proj (O54.atVar (j := 0) rfl) p_Switch_B))) (faQ_eq (sm58 _ (Or.inr ⟨0, _, rfl, List.mem_singleton.2 rfl⟩)) fa_nil) ?_
   obtain ⟨x64, i65, h66⟩ := bd_inv h52
   refine D2.lo rfl rfl (Lo.callP (ps := []) (ps' := []) rfl (fn := Try.f46) (by kernel_rfl) rfl (mc rfl (mc rfl mn)) O54 (fun L' O' => g_R_Place_ok K w61 p0.Nodes f63 x26.B O' _ i65)) ?_ (faL_bit (by decide) fa_nil) ?_ ?_
   ·rintro v73 H74 ⟨G67, O68, s69, sm72, rfl⟩; exact (faR1 (.inl (by decide)) (faR1 (.inl (by decide)) (faR1 (.inl (by decide)) (faR1 (.inl (by decide)) fa_nil))))
   ·rintro v73 H74 ⟨G67, O68, s69, sm72, rfl⟩; exact fa_nil
   rintro v73 H74 ⟨G67, O68, s69, sm72, rfl⟩
   replace O68 : Ow G67 H74 (eVar b34 81 T_Switch x26 :: eSl (σ16 3) 29 (rArr 2 (rI .i64)) x14 :: eVar b2 48 T_Network p0 :: L) := O68
   obtain ⟨c75, e77, f76⟩ := v_buildAA (P := Try.prog) (r := (rI .i64)) (vs := [(.int .i64 x50), (.int .i64 x64)]) (xs := [x50, x64]) ar29 sz3 ze29 zo29 rfl (by kernel_rfl) (.cons rfl (.cons rfl .nil))
   refine D2.pure (v := .agg (List.toArray c75)) rfl rfl (e77 (opndP_oo rfl (qc rfl (qc rfl qn)))) ?_
   refine D2.lo rfl rfl (Lo.buildSlice (r := (rArr 2 (rI .i64))) (vs := [(.agg (List.toArray c75))]) (xs := [[x50, x64]]) el22 ze29 sz29 (by kernel_rfl) rfl (qc rfl qn) rfl (.cons f76 .nil) O68) ?_ (faL_bit (by decide) (faL_bit (by decide) fa_nil)) ?_ ?_
   ·rintro v80 H81 ⟨O78, sm79⟩; exact (faR1 (.inl (by decide)) (faR1 (.inl (by decide)) (faR1 (.inl (by decide)) (faR1 (.inl (by decide)) fa_nil))))
   ·rintro v80 H81 ⟨O78, sm79⟩; exact fa_nil
   rintro v80 H81 ⟨O78, sm79⟩
   obtain ⟨es83, e84, e85⟩ := src_own (j := 0) rfl O78
   obtain ⟨g86, h87⟩ := gd_inv h66
   refine D2.lo rfl rfl (Lo.append (j := 2) (v := (σ16 3)) rfl rfl el22 ni22 ze29 sz29 by29 (by decide) (by decide) rfl e84 e85 g86 O78) ?_ (faL_bit (by decide) (faL_bit (by decide) (faL_bit (by decide) fa_nil))) ?_ ?_
   ·rintro v89 H90 ⟨O82, sm88⟩; exact (faR1 (.inl (by decide)) (faR1 (.inl (by decide)) (faR1 (.inl (by decide)) (faR1 (.inl (by decide)) fa_nil))))
   ·rintro v89 H90 ⟨O82, sm88⟩; exact fa_nil
   rintro v89 H90 ⟨O82, sm88⟩
   replace O82 : Ow G67 H90 (eSl v80 29 (rArr 2 (rI .i64)) [[x50, x64]] :: eVar b34 81 T_Switch x26 :: eSl v89 29 (rArr 2 (rI .i64)) (x14 ++ [[x50, x64]]) :: eVar b2 48 T_Network p0 :: L) := O82
   refine D2.pure (v := v89) rfl rfl (v_assign (oo rfl rfl)) ?_
   refine .nil ?_
   refine .region ?_
   refine W.pure (v := (.int .i64 (kwrap .i64 (x15 + 1)))) rfl rfl (v_int (oo rfl t23) (oo rfl rfl) rfl) ?_
   refine W.pure (v := (.int .i64 (kwrap .i64 (x15 + 1)))) rfl rfl (v_move (oo rfl rfl)) ?_
   refine .nil ?_
   have O91 : Ow G67 H90 (eVar b34 81 T_Switch x26 :: eSl v89 29 (rArr 2 (rI .i64)) (x14 ++ [[x50, x64]]) :: eVar b2 48 T_Network p0 :: L) := O82.drop 0
   have O92 : Ow G67 H90 (eSl v89 29 (rArr 2 (rI .i64)) (x14 ++ [[x50, x64]]) :: eVar b2 48 T_Network p0 :: L) := O91.drop 0
   exact ⟨k13, Nat.lt_succ_self _, ⟨(x14 ++ [[x50, x64]]), kwrap .i64 (x15 + 1), _, h87, O92, (GM.le.trans s21 (GM.le.trans s55 s69)), rfl⟩⟩
  ·have h93 := neg_b g24 h22
   refine .exit ?_
   have O94 : Ow G19 H17 (eSl (σ16 3) 29 (rArr 2 (rI .i64)) x14 :: eVar b2 48 T_Network p0 :: L) := O20.front (j := 0) rfl
   have O95 : Ow G19 H17 (eVar b2 48 T_Network p0 :: eSl (σ16 3) 29 (rArr 2 (rI .i64)) x14 :: L) := O94.front (j := 1) rfl
   obtain rfl := Option.some.inj h93
   exact ⟨x14, _, rfl, O95, s21⟩
 ·rintro σ97 H98 fr99 ⟨x96, G100, rfl, O101, s102⟩
  have h104 := tu1_inv h11
  refine .seq ?_
  refine .region ?_
  refine W.pure (v := (σ97 3)) rfl rfl (v_move (oo rfl rfl)) ?_
  refine W.pure (v := (σ97 3)) rfl rfl (v_assign (oo rfl rfl)) ?_
  refine .nil ?_
  refine .ret ?_
  have O105 : Ow G100 H98 (eSl (σ97 3) 29 (rArr 2 (rI .i64)) x96 :: L) := O101.drop 0
  obtain rfl := Option.some.inj h104
  refine ret1R (P := Try.prog) (fn := Try.f47) (n := 29) (R := fun v H' => ∃ w0 G', Ow G' H' (eSl w0 29 (rArr 2 (rI .i64)) x96 :: L) ∧ G.le G' ∧ w0 = v) (v1 := (σ97 3)) (by rfl) (rr_tmp (by rfl) (by exact rfl)) ?_
  exact ⟨(σ97 3), _, O105, s102, rfl⟩
def g_R_Closed_1 (K : Nat) (p0 : Int) (p1 : Network) : Option Bool := ((idx p1.Switches p0).bind fun x4 => some (!x4.Open))
set_option maxHeartbeats 4000000 in
theorem g_R_Closed_1_ok (K : Nat) {G : GM} {H : AH} {L : List Pc} (p0 : Int) (v1 : Value) (p1 : Network) (hp1 : At G G v1 T_Network p1) (O : Ow G H (L)) (r : Bool) (h : g_R_Closed_1 K p0 p1 = some r) :
  CR Try.prog 91 [(.int .i64 p0), v1] G H (L) (fun v G' _ => v = .bool r) := by
 unfold g_R_Closed_1 at h
 refine CR.of (calls_of_AW (n := 11) (fn := Try.f91) (R := fun v H' => ∃ G', Ow G' H' (L) ∧ G.le G' ∧ v = .bool r) (by kernel_rfl) rfl rfl ?_)
 refine .seq ?_
 refine .region ?_
 refine W.pure (v := (.bool false)) rfl rfl (v_assign (oo rfl rfl)) ?_
 refine .nil ?_
 refine .seq ?_
 refine .region ?_
 refine W.pure (v := (padd v1 1)) rfl rfl (v_fldA fl48_1 (oo rfl rfl) (At.le hp1 (GM.le.refl _) O.fro)) ?_
 obtain ⟨w1, p2, f3⟩ := At.sl (At.proj hp1 p_Network_Switches)
 replace p2 := PtG.le p2 O.fro
 refine W.load1 (v := w1) (r := []) rfl rfl ag42 (pt_px rfl p2) ?_
 refine W.pure (v := (.int .i64 p0)) rfl rfl (v_move (oo rfl rfl)) ?_
 obtain ⟨x4, i5, h6⟩ := bd_inv h
 have j7 := idx_inv i5
 refine W.pure (v := (selem w1 (Int.toNat p0 * 5))) rfl rfl (v_idx el42 sz81 (oo rfl rfl) (oo rfl rfl) (sl_len f3) j7.1 j7.2.1) ?_
 refine W.pure (v := (padd (selem w1 (Int.toNat p0 * 5)) 4)) rfl rfl (v_fldA fl81_4 (oo rfl rfl) (At.le (sl_idx f3 j7.2.2) (GM.le.refl _) O.fro)) ?_
 refine W.load1 (v := (.bool x4.Open)) (r := []) rfl rfl ag4 (pt_px rfl (At.bool (At.le (At.proj (sl_idx f3 j7.2.2) p_Switch_Open) (GM.le.refl _) O.fro))) ?_
 refine W.pure (v := (.bool (!x4.Open))) rfl rfl (bool_not (a := x4.Open) (oo rfl rfl)) ?_
 refine W.pure (v := (.bool (!x4.Open))) rfl rfl (v_assign (oo rfl rfl)) ?_
 refine .nil ?_
 refine .ret ?_
 obtain rfl := Option.some.inj h6
 refine ret1R (P := Try.prog) (fn := Try.f91) (n := 11) (R := fun v H' => ∃ G', Ow G' H' (L) ∧ G.le G' ∧ v = .bool (!x4.Open)) (v1 := (.bool (!x4.Open))) (by rfl) (rr_tmp (by rfl) (by exact rfl)) ?_
 exact ⟨_, O, (GM.le.refl _), rfl⟩
def g_R_Closed (K : Nat) (p0 : Network) : Option (Int → Option Bool) := some (fun x => g_R_Closed_1 K x p0)
set_option maxHeartbeats 4000000 in
theorem g_R_Closed_ok (K : Nat) {G : GM} {H : AH} {L : List Pc} (v0 : List Value) (p0 : Network) (hp0 : T_Network.rep G v0 p0) (O : Ow G H (L)) (r : Int → Option Bool) (h : g_R_Closed K p0 = some r) :
  CR Try.prog 48 [.agg (List.toArray v0)] G H (L) (fun v G' _ => ∃ (w0 : Value), w0 = v ∧ FnOk Try.prog G' w0 (fun _ vs (x : (Int)) => vs = [.int .i64 x]) (fun _ v (rr : (Bool)) => v = .bool rr) r) := by
 unfold g_R_Closed at h
 refine CR.of (calls_of_AW (n := 4) (fn := Try.f48) (R := fun v H' => ∃ G', Ow G' H' (L) ∧ G.le G' ∧ ∃ (w0 : Value), w0 = v ∧ FnOk Try.prog G' w0 (fun _ vs (x : (Int)) => vs = [.int .i64 x]) (fun _ v (rr : (Bool)) => v = .bool rr) r) (by kernel_rfl) rfl rfl ?_)
 refine .seq ?_
 refine .region ?_
 refine W.lo rfl rfl (Lo.box (r := T_Network) (x0 := p0) (v := (.agg (List.toArray v0))) rfl rfl hp0 O) ?_
 rintro v4 H5 ⟨b2, rfl, O1, sm3⟩
 refine W.pure (v := Value.nilFunc) rfl rfl (v_assign (oo rfl rfl)) ?_
 refine .nil ?_
 refine .seq ?_
 refine .region ?_
 refine W.pure (v := (.func (.func 91) #[] #[(.pointer (some ⟨b2, 0, none⟩))])) rfl rfl (v_makeFunc (opndL_ooL rfl mn) (opndL_ooL rfl (mc rfl mn))) ?_
 refine W.pure (v := (.func (.func 91) #[] #[(.pointer (some ⟨b2, 0, none⟩))])) rfl rfl (v_assign (oo rfl rfl)) ?_
 refine .nil ?_
 refine .ret ?_
 obtain ⟨G6, O7, s8, f9⟩ := O1.frzVar (j := 0) rfl
 replace O7 : Ow G6 H5 (L) := O7
 obtain rfl := Option.some.inj h
 refine ret1R (P := Try.prog) (fn := Try.f48) (n := 4) (R := fun v H' => ∃ G', Ow G' H' (L) ∧ G.le G' ∧ ∃ (w0 : Value), w0 = v ∧ FnOk Try.prog G' w0 (fun _ vs (x : (Int)) => vs = [.int .i64 x]) (fun _ v (rr : (Bool)) => v = .bool rr) (fun x => g_R_Closed_1 K x p0)) (v1 := (.func (.func 91) #[] #[(.pointer (some ⟨b2, 0, none⟩))])) (by rfl) (rr_tmp (by rfl) (by exact rfl)) ?_
 exact ⟨_, O7, s8, (.func (.func 91) #[] #[(.pointer (some ⟨b2, 0, none⟩))]), rfl, ⟨91, _, _, Try.f91, rfl, by kernel_rfl, rfl, fun G1 H L vs x r hG O hA hF => by obtain rfl := hA; exact g_R_Closed_1_ok K x (.pointer (some ⟨b2, 0, none⟩)) p0 (At.le f9 hG hG) O _ hF⟩⟩
def g_R_Joined_l0 (K : Nat) (p0 : Int) : Nat → List (List Bool) → Int → Option (List (List Bool))
 | 0, _, _ => none
 | k + 1, x12, x13 => (lt (decide (x13 < (List.length (List.replicate (Int.toNat p0) ([] : List Bool)) : Int))) fun x23 => (if x23 = true then (if 0 ≤ p0 ∧ p0 ≤ p0 ∧ p0 ≤ 16777216 then ((idx x12 x13).bind fun x34 => ((idx (List.set x12 (Int.toNat x13) (List.replicate (Int.toNat p0) false)) x13).bind fun x50 => ((idx x50 x13).bind fun x59 => g_R_Joined_l0 K p0 k (List.set (List.set x12 (Int.toNat x13) (List.replicate (Int.toNat p0) false)) (Int.toNat x13) (List.set x50 (Int.toNat x13) true)) (kwrap .i64 (x13 + 1))))) else none) else some x12))
def g_R_Joined_l2 (K : Nat) (p1 : List (List Int)) (p2 : Int → Option Bool) : Nat → List (List Bool) → Int → Option (List (List Bool))
 | 0, _, _ => none
 | k + 1, x83, x84 => (if (decide (x84 < (List.length p1 : Int))) = true then (Option.bind (((idx p1 x84).bind fun x98 => ((p2 x84).bind fun x114 => (if x114 = true then ((idx x98 0).bind fun x130 => ((idx x83 x130).bind fun x134 => ((idx x98 1).bind fun x142 => ((idx x98 1).bind fun x146 => ((idx x83 x146).bind fun x150 => ((idx x98 0).bind fun x158 => ((idx x134 x142).bind fun x163 => ((idx (List.set x83 (Int.toNat x130) (List.set x134 (Int.toNat x142) true)) x146).bind fun x172 => ((idx x172 x158).bind fun x177 => some (List.set (List.set x83 (Int.toNat x130) (List.set x134 (Int.toNat x142) true)) (Int.toNat x146) (List.set x172 (Int.toNat x158) true))))))))))) else some x83)))) (tu1 fun x189 => g_R_Joined_l2 K p1 p2 k x189 (kwrap .i64 (x84 + 1)))) else some x83)
def g_R_Joined_l8 (K : Nat) (p0 : Int) (x213 : Int) (x229 : Int) : Nat → List (List Bool) → Int → Option (List (List Bool))
 | 0, _, _ => none
 | k + 1, x244, x245 => (if (decide (x245 < p0)) = true then (Option.bind (((idx x244 x229).bind fun x264 => ((idx x244 x229).bind fun x272 => ((idx x272 x245).bind fun x281 => (if x281 = true then ((idx x264 x245).bind fun x290 => some (List.set x244 (Int.toNat x229) (List.set x264 (Int.toNat x245) true))) else ((idx x244 x229).bind fun x301 => ((idx x301 x213).bind fun x310 => (if x310 = true then ((idx x244 x213).bind fun x318 => ((idx x318 x245).bind fun x327 => ((idx x264 x245).bind fun x333 => some (List.set x244 (Int.toNat x229) (List.set x264 (Int.toNat x245) x327))))) else ((idx x264 x245).bind fun x345 => some (List.set x244 (Int.toNat x229) (List.set x264 (Int.toNat x245) false))))))))))) (tu1 fun x354 => g_R_Joined_l8 K p0 x213 x229 k x354 (kwrap .i64 (x245 + 1)))) else some x244)
def g_R_Joined_l6 (K : Nat) (p0 : Int) (x213 : Int) : Nat → List (List Bool) → Int → Option (List (List Bool))
 | 0, _, _ => none
 | k + 1, x228, x229 => (if (decide (x229 < p0)) = true then (Option.bind (g_R_Joined_l8 K p0 x213 x229 K x228 0) (tu1 fun x364 => g_R_Joined_l6 K p0 x213 k x364 (kwrap .i64 (x229 + 1)))) else some x228)
def g_R_Joined_l4 (K : Nat) (p0 : Int) : Nat → List (List Bool) → Int → Option (List (List Bool))
 | 0, _, _ => none
 | k + 1, x212, x213 => (if (decide (x213 < p0)) = true then (Option.bind (g_R_Joined_l6 K p0 x213 K x212 0) (tu1 fun x374 => g_R_Joined_l4 K p0 k x374 (kwrap .i64 (x213 + 1)))) else some x212)
def g_R_Joined (K : Nat) (p0 : Int) (p1 : List (List Int)) (p2 : Int → Option Bool) : Option (List (List Bool)) := (if 0 ≤ p0 ∧ p0 ≤ p0 ∧ p0 ≤ 16777216 then (Option.bind (g_R_Joined_l0 K p0 K (List.replicate (Int.toNat p0) ([] : List Bool)) 0) (tu1 fun x69 => (Option.bind (g_R_Joined_l2 K p1 p2 K x69 0) (tu1 fun x199 => (Option.bind (g_R_Joined_l4 K p0 K x199 0) (tu1 fun x384 => some x384)))))) else none)
set_option maxHeartbeats 4000000 in
theorem g_R_Joined_ok (K : Nat) {G : GM} {H : AH} {L : List Pc} (p0 : Int) (v1 : Value) (p1 : List (List Int)) (hp1 : (rSl (rArr 2 (rI .i64))).rep G [v1] p1) (v2 : Value) (p2 : Int → Option Bool) (hp2 : FnOk Try.prog G v2 (fun _ vs (x : (Int)) => vs = [.int .i64 x]) (fun _ v (rr : (Bool)) => v = .bool rr) p2) (O : Ow G H (L)) (r : List (List Bool)) (h : g_R_Joined K p0 p1 p2 = some r) :
  CR Try.prog 14 [(.int .i64 p0), v1, v2] G H (L) (fun v G' _ => ∃ (w0 : Value), w0 = v ∧ (rSl (rSl rB)).rep G' [w0] r) := by
 unfold g_R_Joined at h
 refine CR.of (calls_of_AW (n := 107) (fn := Try.f14) (R := fun v H' => ∃ G', Ow G' H' (L) ∧ G.le G' ∧ ∃ (w0 : Value), w0 = v ∧ (rSl (rSl rB)).rep G' [w0] r) (by kernel_rfl) rfl rfl ?_)
 refine .seq ?_
 refine .region ?_
 refine W.pure (v := (.slice none 0 0)) rfl rfl (v_assign (oo rfl rfl)) ?_
 refine .nil ?_
 refine .seq ?_
 refine .region ?_
 refine W.pure (v := (.int .i64 p0)) rfl rfl (v_move (oo rfl rfl)) ?_
 obtain ⟨g2, h3⟩ := gd_inv h
 refine W.lo rfl rfl (Lo.makeRows (a := p0) (c := p0) rB 4 rfl el31 ze30 sz30 by30 (by decide) rfl rfl g2 O) ?_
 rintro v6 H7 ⟨ws4, O1, sm5⟩
 refine W.pure (v := v6) rfl rfl (v_assign (oo rfl rfl)) ?_
 refine .nil ?_
 refine .seq ?_
 refine .seq ?_
 refine .region ?_
 refine W.pure (v := v6) rfl rfl (v_move (oo rfl rfl)) ?_
 refine W.pure (v := (.int .i64 (List.length (List.replicate (Int.toNat p0) ([] : List Bool)) : Int))) rfl rfl (len_sl (oo rfl rfl) (O1.rowsLen (j := 0) rfl) (elemT_inv el31)) ?_
 refine W.pure (v := (.int .i64 0)) rfl rfl (v_move (oo rfl rfl)) ?_
 refine .nil ?_
 obtain ⟨q8, h9, h10⟩ := bd_inv h3
 refine AW.midT (fun σ' H' => ∃ (y1 : List (List Bool)) (ws_p15 : List Value) (G' : GM), y1 = q8 ∧ Ow G' H' (eRows v6 30 ws_p15 [] 4 rB y1 :: L) ∧ GM.le G G') ?_ ?_
 ·refine .block ?_
  refine AW.loop (α := Nat) (fun k' σ' H' => ∃ (y1 : List (List Bool)) (y2 : Int) (ws_p15 : List Value) (G' : GM), g_R_Joined_l0 K p0 k' y1 y2 = some q8 ∧ Ow G' H' (eRows v6 30 ws_p15 [] 4 rB y1 :: L) ∧ GM.le G G' ∧ σ' 18 = .int .i64 y2) (fun k' => k') K ⟨(List.replicate (Int.toNat p0) ([] : List Bool)), 0, ws4, _, h9, O1, (GM.le.refl _), rfl⟩ ?_
  rintro k11
  rintro σ14 H15 fr16 ⟨x12, x13, ws21, G17, h20, O18, s19, t22⟩
  rcases k11 with _ | k11
  ·exact none_absurd h20
  rw [g_R_Joined_l0] at h20
  refine .seq ?_
  refine .region ?_
  refine W.pure (v := (.bool (decide (x13 < (List.length (List.replicate (Int.toNat p0) ([] : List Bool)) : Int))))) rfl rfl (v_int (oo rfl t22) (oo rfl ((fr16 17 rfl).trans rfl)) rfl) ?_
  obtain ⟨x23, e24, h25⟩ := lt_inv h20
  refine .nil ?_
  refine .seq ?_
  refine .cond (b := x23) rfl (congrArg (Value.bool) e24) (fun g26 => ?_) (fun g26 => ?_)
  ·have h27 := pos_inv g26 h25
   refine .skip ?_
   refine .seq ?_
   refine .block ?_
   refine .seq ?_
   refine .region ?_
   refine W.pure (v := (.int .i64 x13)) rfl rfl (v_move (oo rfl t22)) ?_
   refine W.pure (v := (.int .i64 x13)) rfl rfl (v_assign (oo rfl rfl)) ?_
   refine .nil ?_
   refine .seq ?_
   refine .region ?_
   refine W.pure (v := v6) rfl rfl (v_move (oo rfl ((fr16 7 rfl).trans rfl))) ?_
   refine W.pure (v := (.int .i64 x13)) rfl rfl (v_move (oo rfl rfl)) ?_
   refine W.pure (v := (.int .i64 p0)) rfl rfl (v_move (oo rfl ((fr16 0 rfl).trans rfl))) ?_
   obtain ⟨g29, h30⟩ := gd_inv h27
   refine W.lo rfl rfl (Lo.makeSlice (r := rB) (x0 := false) (a := p0) (c := p0) rfl el30 ze4 sz4 (by kernel_rfl) rfl by4 (by decide) rfl rfl g29 zB O18) ?_
   rintro v32 H33 ⟨O28, sm31⟩
   obtain ⟨x34, i35, h36⟩ := bd_inv h30
   have j37 := idx_inv i35
   refine W.pure (v := (selem v6 (Int.toNat x13 * 1))) rfl rfl (v_idx el31 sz30 (oo rfl rfl) (oo rfl rfl) (O28.rowsLen (j := 1) rfl) j37.1 j37.2.1) ?_
   obtain ⟨w38, e39, p40, k41⟩ := O28.rowVal (j := 1) rfl j37.2.2
   have O42 := O28.takeRow (j := 1) rfl e39 j37.2.2 List.not_mem_nil
   replace O42 : Ow G17 H33 (eSl w38 4 rB x34 :: eSl v32 4 rB (List.replicate (Int.toNat p0) false) :: eRows v6 30 ws21 [Int.toNat x13] 4 rB x12 :: L) := O42
   have O43 : Ow G17 H33 (eSl v32 4 rB (List.replicate (Int.toNat p0) false) :: eRows v6 30 ws21 [Int.toNat x13] 4 rB x12 :: L) := O42.drop 0
   have e45 := O43.cellsSl (j := 0) rfl
   refine W.lo rfl rfl (Lo.storeRow (j := 1) (i := Int.toNat x13) rfl (List.getElem?_eq_some_iff.1 j37.2.2).1 rfl sz30 rfl rfl e45.1 e45.2 O43) ?_
   rintro v47 H48 ⟨O44, sm46⟩
   replace O44 : Ow G17 H48 (eSl v32 4 rB (List.replicate (Int.toNat p0) false) :: eRows v6 30 (List.set ws21 (Int.toNat x13) v32) [Int.toNat x13] 4 rB x12 :: L) := O44
   refine .nil ?_
   refine .region ?_
   refine W.pure (v := v6) rfl rfl (v_move (oo rfl ((fr16 7 rfl).trans rfl))) ?_
   refine W.pure (v := (.int .i64 x13)) rfl rfl (v_move (oo rfl rfl)) ?_
   have O49 := O44.putRow (j := 0) rfl (set_at e39)
   replace O49 : Ow G17 H48 (eRows v6 30 (List.set ws21 (Int.toNat x13) v32) [] 4 rB (List.set x12 (Int.toNat x13) (List.replicate (Int.toNat p0) false)) :: L) := O49
   obtain ⟨x50, i51, h52⟩ := bd_inv h36
   have j53 := idx_inv i51
   refine W.pure (v := (selem v6 (Int.toNat x13 * 1))) rfl rfl (v_idx el31 sz30 (oo rfl rfl) (oo rfl rfl) (O49.rowsLen (j := 0) rfl) j53.1 j53.2.1) ?_
   obtain ⟨w54, e55, p56, k57⟩ := O49.rowVal (j := 0) rfl j53.2.2
   refine W.load1 (v := w54) (r := []) rfl rfl ag30 (pt_px rfl p56) ?_
   refine W.pure (v := (.int .i64 x13)) rfl rfl (v_move (oo rfl rfl)) ?_
   have O58 := O49.takeRow (j := 0) rfl e55 j53.2.2 List.not_mem_nil
   replace O58 : Ow G17 H48 (eSl w54 4 rB x50 :: eRows v6 30 (List.set ws21 (Int.toNat x13) v32) [Int.toNat x13] 4 rB (List.set x12 (Int.toNat x13) (List.replicate (Int.toNat p0) false)) :: L) := O58
   obtain ⟨x59, i60, h61⟩ := bd_inv h52
   have j62 := idx_inv i60
   refine W.pure (v := (selem w54 (Int.toNat x13 * 1))) rfl rfl (v_idx el30 sz4 (oo rfl rfl) (oo rfl rfl) (O58.slLen (j := 0) rfl) j62.1 j62.2.1) ?_
   refine W.lo rfl rfl (Lo.storeSl0 (j := 0) (y0 := true) (v := (.bool true)) rfl j62.2.2  rfl sz4 rfl rfl rfl O58) ?_
   rintro v65 H66 ⟨O63, sm64⟩
   replace O63 : Ow G17 H66 (eSl w54 4 rB (List.set x50 (Int.toNat x13) true) :: eRows v6 30 (List.set ws21 (Int.toNat x13) v32) [Int.toNat x13] 4 rB (List.set x12 (Int.toNat x13) (List.replicate (Int.toNat p0) false)) :: L) := O63
   refine .nil ?_
   refine .region ?_
   refine W.pure (v := (.int .i64 (kwrap .i64 (x13 + 1)))) rfl rfl (v_int (oo rfl t22) (oo rfl rfl) rfl) ?_
   refine W.pure (v := (.int .i64 (kwrap .i64 (x13 + 1)))) rfl rfl (v_move (oo rfl rfl)) ?_
   refine .nil ?_
   have O67 := O63.putRow (j := 0) rfl e55
   replace O67 : Ow G17 H66 (eRows v6 30 (List.set ws21 (Int.toNat x13) v32) [] 4 rB (List.set (List.set x12 (Int.toNat x13) (List.replicate (Int.toNat p0) false)) (Int.toNat x13) (List.set x50 (Int.toNat x13) true)) :: L) := O67
   exact ⟨k11, Nat.lt_succ_self _, ⟨(List.set (List.set x12 (Int.toNat x13) (List.replicate (Int.toNat p0) false)) (Int.toNat x13) (List.set x50 (Int.toNat x13) true)), kwrap .i64 (x13 + 1), (List.set ws21 (Int.toNat x13) v32), _, h61, O67, s19, rfl⟩⟩
  ·have h68 := neg_b g26 h25
   refine .exit ?_
   obtain rfl := Option.some.inj h68
   exact ⟨x12, ws21, _, rfl, O18, s19⟩
 ·rintro σ70 H71 fr72 ⟨x69, ws77, G73, rfl, O74, s75⟩
  have h78 := tu1_inv h10
  refine .seq ?_
  refine .seq ?_
  refine .region ?_
  refine W.pure (v := v1) rfl rfl (v_move (oo rfl ((fr72 1 rfl).trans rfl))) ?_
  refine W.pure (v := (.int .i64 (List.length p1 : Int))) rfl rfl (len_sl (oo rfl rfl) (sl_len (RT.mono _ s75 hp1)) (elemT_inv el22)) ?_
  refine W.pure (v := (.int .i64 0)) rfl rfl (v_move (oo rfl rfl)) ?_
  refine .nil ?_
  obtain ⟨q79, h80, h81⟩ := bd_inv h78
  refine AW.midT (fun σ' H' => ∃ (y1 : List (List Bool)) (G' : GM), y1 = q79 ∧ Ow G' H' (eRows v6 30 ws77 [] 4 rB y1 :: L) ∧ GM.le G73 G') ?_ ?_
  ·refine .block ?_
   refine AW.loop (α := Nat) (fun k' σ' H' => ∃ (y1 : List (List Bool)) (y2 : Int) (G' : GM), g_R_Joined_l2 K p1 p2 k' y1 y2 = some q79 ∧ Ow G' H' (eRows v6 30 ws77 [] 4 rB y1 :: L) ∧ GM.le G73 G' ∧ σ' 35 = .int .i64 y2) (fun k' => k') K ⟨x69, 0, _, h80, O74, (GM.le.refl _), rfl⟩ ?_
   rintro k82
   rintro σ85 H86 fr87 ⟨x83, x84, G88, h91, O89, s90, t92⟩
   rcases k82 with _ | k82
   ·exact none_absurd h91
   rw [g_R_Joined_l2] at h91
   refine .seq ?_
   refine .region ?_
   refine W.pure (v := (.bool (decide (x84 < (List.length p1 : Int))))) rfl rfl (v_int (oo rfl t92) (oo rfl ((fr87 34 rfl).trans rfl)) rfl) ?_
   refine .nil ?_
   refine .seq ?_
   refine .cond (b := decide (x84 < (List.length p1 : Int))) rfl rfl (fun g93 => ?_) (fun g93 => ?_)
   ·have h94 := pos_inv g93 h91
    refine .skip ?_
    refine .seq ?_
    obtain ⟨q95, h96, h97⟩ := bd_inv h94
    refine AW.midT (fun σ' H' => ∃ (y1 : List (List Bool)) (G' : GM), y1 = q95 ∧ Ow G' H' (eRows v6 30 ws77 [] 4 rB y1 :: L) ∧ GM.le G88 G') ?_ ?_
    ·refine .block ?_
     refine .seq ?_
     refine .region ?_
     refine W.pure (v := (.int .i64 x84)) rfl rfl (v_move (oo rfl t92)) ?_
     obtain ⟨x98, i99, h100⟩ := bd_inv h96
     have j101 := idx_inv i99
     refine W.pure (v := (selem v1 (Int.toNat x84 * 2))) rfl rfl (v_idx el22 sz29 (oo rfl ((fr87 33 rfl).trans rfl)) (oo rfl t92) (sl_len (RT.mono _ (GM.le.trans s75 s90) hp1)) j101.1 j101.2.1) ?_
     obtain ⟨c102, p103, f104⟩ := (At.le (At.le (sl_idx hp1 j101.2.2) (GM.le.trans s75 s90) (GM.le.trans s75 s90)) (GM.le.refl _) O89.fro)
     refine W.loadA (cs := c102) rfl rfl ag29 sz29 (pt_px rfl p103) (RT.len _ f104) ?_
     refine W.lo rfl rfl (Lo.alloc (r := (rArr 2 (rI .i64))) (x0 := (List.replicate 2 0)) ze29 (by kernel_rfl) (fun G => ⟨by simp, List.replicate 2 [.int .i64 0], rfl, All2.replicate ((zI .i64) G) 2⟩) O89) ?_
     rintro v108 H109 ⟨b106, rfl, O105, sm107⟩
     refine W.pure (v := (.int .i64 x84)) rfl rfl (v_assign (oo rfl rfl)) ?_
     refine W.lo rfl rfl (Lo.storeVar (j := 0) (s := (rArr 2 (rI .i64))) (y0 := x98) (v := (.agg (List.toArray c102))) (o := 0) rfl ((Put.at (Put.self _) _ _)) rfl sz29 rfl (by omega) rfl f104 O105) ?_
     rintro v112 H113 ⟨O110, sm111⟩
     replace O110 : Ow G88 H113 (eVar b106 29 (rArr 2 (rI .i64)) x98 :: eRows v6 30 ws77 [] 4 rB x83 :: L) := O110
     refine .nil ?_
     refine .seq ?_
     refine .region ?_
     refine W.pure (v := v2) rfl rfl (v_move (oo rfl ((fr87 2 rfl).trans ((fr72 2 rfl).trans rfl)))) ?_
     refine W.pure (v := (.int .i64 x84)) rfl rfl (v_move (oo rfl rfl)) ?_
     obtain ⟨x114, i115, h116⟩ := bd_inv h100
     refine W.lo rfl rfl (Lo.callF (x0 := x84) rfl rfl (FnOk.le hp2 (GM.le.trans s75 s90)) (mc rfl mn) rfl i115 O110) ?_
     rintro v121 H122 ⟨G117, O118, s119, sm120, rfl⟩
     refine .nil ?_
     refine .cond (b := x114) rfl rfl (fun g123 => ?_) (fun g123 => ?_)
     ·have h124 := pos_inv g123 h116
      refine .draw2 (M := [0, 0, 2, 7, 15, 0, 32, 0, 0, 256, 896, 1920, 0, 4096, 4095, 20479, 65535, 131071]) mixed (by kernel_rfl) (by kernel_rfl) fun H125 N129 x126 F128 => ?_
      have O127 := O118.ext x126
      refine D2.pure (v := v6) rfl rfl (v_move (oo rfl ((fr87 7 rfl).trans ((fr72 7 rfl).trans rfl)))) ?_
      obtain ⟨x130, i131, h132⟩ := bd_inv h124
      have j133 := idx_inv i131
      refine D2.pure (v := (padd (.pointer (some ⟨b106, 0, none⟩)) (Int.toNat 0 * 1))) rfl rfl (v_idxAA ar29 sz3 (oo rfl rfl) (oo rfl rfl) (O127.atVar (j := 0) rfl) j133.1 j133.2.1) ?_
      refine D2.load1' (v := (.int .i64 x130)) (r := []) rfl rfl ag3 (pt_px rfl (At.int (At.aidx (O127.atVar (j := 0) rfl) j133.2.2))) fa_nil ?_
      obtain ⟨x134, i135, h136⟩ := bd_inv h132
      have j137 := idx_inv i135
      refine D2.pure (v := (selem v6 (Int.toNat x130 * 1))) rfl rfl (v_idx el31 sz30 (oo rfl rfl) (oo rfl rfl) (O127.rowsLen (j := 1) rfl) j137.1 j137.2.1) ?_
      obtain ⟨w138, e139, p140, k141⟩ := O127.rowVal (j := 1) rfl j137.2.2
      refine D2.load1' (v := w138) (r := []) rfl rfl ag30 (pt_px rfl p140) fa_nil ?_
      obtain ⟨x142, i143, h144⟩ := bd_inv h136
      have j145 := idx_inv i143
      refine D2.pure (v := (padd (.pointer (some ⟨b106, 0, none⟩)) (Int.toNat 1 * 1))) rfl rfl (v_idxAA ar29 sz3 (oo rfl rfl) (oo rfl rfl) (O127.atVar (j := 0) rfl) j145.1 j145.2.1) ?_
      refine D2.load1' (v := (.int .i64 x142)) (r := []) rfl rfl ag3 (pt_px rfl (At.int (At.aidx (O127.atVar (j := 0) rfl) j145.2.2))) fa_nil ?_
      refine D2.pure (v := v6) rfl rfl (v_move (oo rfl ((fr87 7 rfl).trans ((fr72 7 rfl).trans rfl)))) ?_
      obtain ⟨x146, i147, h148⟩ := bd_inv h144
      have j149 := idx_inv i147
      refine D2.pure (v := (padd (.pointer (some ⟨b106, 0, none⟩)) (Int.toNat 1 * 1))) rfl rfl (v_idxAA ar29 sz3 (oo rfl rfl) (oo rfl rfl) (O127.atVar (j := 0) rfl) j149.1 j149.2.1) ?_
      refine D2.load1' (v := (.int .i64 x146)) (r := []) rfl rfl ag3 (pt_px rfl (At.int (At.aidx (O127.atVar (j := 0) rfl) j149.2.2))) fa_nil ?_
      obtain ⟨x150, i151, h152⟩ := bd_inv h148
      have j153 := idx_inv i151
      refine D2.pure (v := (selem v6 (Int.toNat x146 * 1))) rfl rfl (v_idx el31 sz30 (oo rfl rfl) (oo rfl rfl) (O127.rowsLen (j := 1) rfl) j153.1 j153.2.1) ?_
      obtain ⟨w154, e155, p156, k157⟩ := O127.rowVal (j := 1) rfl j153.2.2
      refine D2.load1' (v := w154) (r := []) rfl rfl ag30 (pt_px rfl p156) fa_nil ?_
      obtain ⟨x158, i159, h160⟩ := bd_inv h152
      have j161 := idx_inv i159
      refine D2.pure (v := (padd (.pointer (some ⟨b106, 0, none⟩)) (Int.toNat 0 * 1))) rfl rfl (v_idxAA ar29 sz3 (oo rfl rfl) (oo rfl rfl) (O127.atVar (j := 0) rfl) j161.1 j161.2.1) ?_
      refine D2.load1' (v := (.int .i64 x158)) (r := []) rfl rfl ag3 (pt_px rfl (At.int (At.aidx (O127.atVar (j := 0) rfl) j161.2.2))) fa_nil ?_
      have O162 := O127.takeRow (j := 1) rfl e139 j137.2.2 List.not_mem_nil
      replace O162 : Ow G117 H125 (eSl w138 4 rB x134 :: eVar b106 29 (rArr 2 (rI .i64)) x98 :: eRows v6 30 ws77 [Int.toNat x130] 4 rB x83 :: L) := O162
      obtain ⟨x163, i164, h165⟩ := bd_inv h160
      have j166 := idx_inv i164
      refine D2.pure (v := (selem w138 (Int.toNat x142 * 1))) rfl rfl (v_idx el30 sz4 (oo rfl rfl) (oo rfl rfl) (O162.slLen (j := 0) rfl) j166.1 j166.2.1) ?_
      refine D2.lo rfl rfl (Lo.storeSl0 (j := 0) (y0 := true) (v := (.bool true)) rfl j166.2.2  rfl sz4 rfl rfl rfl O162) ?_ fa_nil ?_ ?_
      ·rintro v169 H170 ⟨O167, sm168⟩; exact (faR1 (.inr (sm168 _ (O162.neP (i := 1) (j := 0) (by decide) rfl rfl (List.mem_singleton.2 rfl) (O162.footSl' (j := 0) rfl j166.2.2)))) (faR1 (.inl (by decide)) (faR1 (.inl (by decide)) (faR1 (.inl (by decide)) (faR1 (.inl (by decide)) (faR1 (.inl (by decide)) fa_nil))))))
      ·rintro v169 H170 ⟨O167, sm168⟩; exact fa_nil
      rintro v169 H170 ⟨O167, sm168⟩
      replace O167 : Ow G117 H170 (eSl w138 4 rB (List.set x134 (Int.toNat x142) true) :: eVar b106 29 (rArr 2 (rI .i64)) x98 :: eRows v6 30 ws77 [Int.toNat x130] 4 rB x83 :: L) := O167
      have O171 := O167.putRow (j := 1) rfl e139
      replace O171 : Ow G117 H170 (eVar b106 29 (rArr 2 (rI .i64)) x98 :: eRows v6 30 ws77 [] 4 rB (List.set x83 (Int.toNat x130) (List.set x134 (Int.toNat x142) true)) :: L) := O171
      obtain ⟨x172, i173, h174⟩ := bd_inv h165
      have j175 := idx_inv i173
      have O176 := O171.takeRow (j := 1) rfl e155 j175.2.2 List.not_mem_nil
      replace O176 : Ow G117 H170 (eSl w154 4 rB x172 :: eVar b106 29 (rArr 2 (rI .i64)) x98 :: eRows v6 30 ws77 [Int.toNat x146] 4 rB (List.set x83 (Int.toNat x130) (List.set x134 (Int.toNat x142) true)) :: L) := O176
      obtain ⟨x177, i178, h179⟩ := bd_inv h174
      have j180 := idx_inv i178
      refine D2.pure (v := (selem w154 (Int.toNat x158 * 1))) rfl rfl (v_idx el30 sz4 (oo rfl rfl) (oo rfl rfl) (O176.slLen (j := 0) rfl) j180.1 j180.2.1) ?_
      refine D2.lo rfl rfl (Lo.storeSl0 (j := 0) (y0 := true) (v := (.bool true)) rfl j180.2.2  rfl sz4 rfl rfl rfl O176) ?_ (faL_bit (by decide) fa_nil) ?_ ?_
      ·rintro v183 H184 ⟨O181, sm182⟩; exact (faR1 (.inl (by decide)) (faR1 (.inl (by decide)) (faR1 (.inl (by decide)) (faR1 (.inl (by decide)) (faR1 (.inl (by decide)) (faR1 (.inl (by decide)) fa_nil))))))
      ·rintro v183 H184 ⟨O181, sm182⟩; exact fa_nil
      rintro v183 H184 ⟨O181, sm182⟩
      replace O181 : Ow G117 H184 (eSl w154 4 rB (List.set x172 (Int.toNat x158) true) :: eVar b106 29 (rArr 2 (rI .i64)) x98 :: eRows v6 30 ws77 [Int.toNat x146] 4 rB (List.set x83 (Int.toNat x130) (List.set x134 (Int.toNat x142) true)) :: L) := O181
      refine .nil ?_
      have O185 := O181.putRow (j := 1) rfl e155
      replace O185 : Ow G117 H184 (eVar b106 29 (rArr 2 (rI .i64)) x98 :: eRows v6 30 ws77 [] 4 rB (List.set (List.set x83 (Int.toNat x130) (List.set x134 (Int.toNat x142) true)) (Int.toNat x146) (List.set x172 (Int.toNat x158) true)) :: L) := O185
      have O186 : Ow G117 H184 (eRows v6 30 ws77 [] 4 rB (List.set (List.set x83 (Int.toNat x130) (List.set x134 (Int.toNat x142) true)) (Int.toNat x146) (List.set x172 (Int.toNat x158) true)) :: L) := O185.drop 0
      obtain rfl := Option.some.inj h179
      exact ⟨(List.set (List.set x83 (Int.toNat x130) (List.set x134 (Int.toNat x142) true)) (Int.toNat x146) (List.set x172 (Int.toNat x158) true)), _, rfl, O186, s119⟩
     ·have h187 := neg_b g123 h116
      refine .skip ?_
      have O188 : Ow G117 H122 (eRows v6 30 ws77 [] 4 rB x83 :: L) := O118.drop 0
      obtain rfl := Option.some.inj h187
      exact ⟨x83, _, rfl, O188, s119⟩
    ·rintro σ190 H191 fr192 ⟨x189, G193, rfl, O194, s195⟩
     have h197 := tu1_inv h97
     refine .region ?_
     refine W.pure (v := (.int .i64 (kwrap .i64 (x84 + 1)))) rfl rfl (v_int (oo rfl ((fr192 35 rfl).trans t92)) (oo rfl rfl) rfl) ?_
     refine W.pure (v := (.int .i64 (kwrap .i64 (x84 + 1)))) rfl rfl (v_move (oo rfl rfl)) ?_
     refine .nil ?_
     exact ⟨k82, Nat.lt_succ_self _, ⟨x189, kwrap .i64 (x84 + 1), _, h197, O194, (GM.le.trans s90 s195), rfl⟩⟩
   ·have h198 := neg_b g93 h91
    refine .exit ?_
    obtain rfl := Option.some.inj h198
    exact ⟨x83, _, rfl, O89, s90⟩
  ·rintro σ200 H201 fr202 ⟨x199, G203, rfl, O204, s205⟩
   have h207 := tu1_inv h81
   refine .seq ?_
   refine .seq ?_
   refine .region ?_
   refine W.pure (v := (.int .i64 p0)) rfl rfl (v_move (oo rfl ((fr202 0 rfl).trans ((fr72 0 rfl).trans rfl)))) ?_
   refine W.pure (v := (.int .i64 0)) rfl rfl (v_move (oo rfl rfl)) ?_
   refine .nil ?_
   obtain ⟨q208, h209, h210⟩ := bd_inv h207
   refine AW.midT (fun σ' H' => ∃ (y1 : List (List Bool)) (G' : GM), y1 = q208 ∧ Ow G' H' (eRows v6 30 ws77 [] 4 rB y1 :: L) ∧ GM.le G203 G') ?_ ?_
   ·refine .block ?_
    refine AW.loop (α := Nat) (fun k' σ' H' => ∃ (y1 : List (List Bool)) (y2 : Int) (G' : GM), g_R_Joined_l4 K p0 k' y1 y2 = some q208 ∧ Ow G' H' (eRows v6 30 ws77 [] 4 rB y1 :: L) ∧ GM.le G203 G' ∧ σ' 61 = .int .i64 y2) (fun k' => k') K ⟨x199, 0, _, h209, O204, (GM.le.refl _), rfl⟩ ?_
    rintro k211
    rintro σ214 H215 fr216 ⟨x212, x213, G217, h220, O218, s219, t221⟩
    rcases k211 with _ | k211
    ·exact none_absurd h220
    rw [g_R_Joined_l4] at h220
    refine .seq ?_
    refine .region ?_
    refine W.pure (v := (.bool (decide (x213 < p0)))) rfl rfl (v_int (oo rfl t221) (oo rfl ((fr216 60 rfl).trans rfl)) rfl) ?_
    refine .nil ?_
    refine .seq ?_
    refine .cond (b := decide (x213 < p0)) rfl rfl (fun g222 => ?_) (fun g222 => ?_)
    ·have h223 := pos_inv g222 h220
     refine .skip ?_
     refine .seq ?_
     refine .block ?_
     refine .seq ?_
     refine .region ?_
     refine W.pure (v := (.int .i64 x213)) rfl rfl (v_move (oo rfl t221)) ?_
     refine W.pure (v := (.int .i64 x213)) rfl rfl (v_assign (oo rfl rfl)) ?_
     refine .nil ?_
     refine .seq ?_
     refine .region ?_
     refine W.pure (v := (.int .i64 p0)) rfl rfl (v_move (oo rfl ((fr216 0 rfl).trans ((fr202 0 rfl).trans ((fr72 0 rfl).trans rfl))))) ?_
     refine W.pure (v := (.int .i64 0)) rfl rfl (v_move (oo rfl rfl)) ?_
     refine .nil ?_
     obtain ⟨q224, h225, h226⟩ := bd_inv h223
     refine AW.midT (fun σ' H' => ∃ (y1 : List (List Bool)) (G' : GM), y1 = q224 ∧ Ow G' H' (eRows v6 30 ws77 [] 4 rB y1 :: L) ∧ GM.le G217 G') ?_ ?_
     ·refine .block ?_
      refine AW.loop (α := Nat) (fun k' σ' H' => ∃ (y1 : List (List Bool)) (y2 : Int) (G' : GM), g_R_Joined_l6 K p0 x213 k' y1 y2 = some q224 ∧ Ow G' H' (eRows v6 30 ws77 [] 4 rB y1 :: L) ∧ GM.le G217 G' ∧ σ' 65 = .int .i64 y2) (fun k' => k') K ⟨x212, 0, _, h225, O218, (GM.le.refl _), rfl⟩ ?_
      rintro k227
      rintro σ230 H231 fr232 ⟨x228, x229, G233, h236, O234, s235, t237⟩
      rcases k227 with _ | k227
      ·exact none_absurd h236
      rw [g_R_Joined_l6] at h236
      refine .seq ?_
      refine .region ?_
      refine W.pure (v := (.bool (decide (x229 < p0)))) rfl rfl (v_int (oo rfl t237) (oo rfl ((fr232 64 rfl).trans rfl)) rfl) ?_
      refine .nil ?_
      refine .seq ?_
      refine .cond (b := decide (x229 < p0)) rfl rfl (fun g238 => ?_) (fun g238 => ?_)
      ·have h239 := pos_inv g238 h236
       refine .skip ?_
       refine .seq ?_
       refine .block ?_
       refine .seq ?_
       refine .region ?_
       refine W.pure (v := (.int .i64 x229)) rfl rfl (v_move (oo rfl t237)) ?_
       refine W.pure (v := (.int .i64 x229)) rfl rfl (v_assign (oo rfl rfl)) ?_
       refine .nil ?_
       refine .seq ?_
       refine .region ?_
       refine W.pure (v := (.int .i64 p0)) rfl rfl (v_move (oo rfl ((fr232 0 rfl).trans ((fr216 0 rfl).trans ((fr202 0 rfl).trans ((fr72 0 rfl).trans rfl)))))) ?_
       refine W.pure (v := (.int .i64 0)) rfl rfl (v_move (oo rfl rfl)) ?_
       refine .nil ?_
       obtain ⟨q240, h241, h242⟩ := bd_inv h239
       refine AW.midT (fun σ' H' => ∃ (y1 : List (List Bool)) (G' : GM), y1 = q240 ∧ Ow G' H' (eRows v6 30 ws77 [] 4 rB y1 :: L) ∧ GM.le G233 G') ?_ ?_
       ·refine .block ?_
        refine AW.loop (α := Nat) (fun k' σ' H' => ∃ (y1 : List (List Bool)) (y2 : Int) (G' : GM), g_R_Joined_l8 K p0 x213 x229 k' y1 y2 = some q240 ∧ Ow G' H' (eRows v6 30 ws77 [] 4 rB y1 :: L) ∧ GM.le G233 G' ∧ σ' 69 = .int .i64 y2) (fun k' => k') K ⟨x228, 0, _, h241, O234, (GM.le.refl _), rfl⟩ ?_
        rintro k243
        rintro σ246 H247 fr248 ⟨x244, x245, G249, h252, O250, s251, t253⟩
        rcases k243 with _ | k243
        ·exact none_absurd h252
        rw [g_R_Joined_l8] at h252
        refine .seq ?_
        refine .region ?_
        refine W.pure (v := (.bool (decide (x245 < p0)))) rfl rfl (v_int (oo rfl t253) (oo rfl ((fr248 68 rfl).trans rfl)) rfl) ?_
        refine .nil ?_
        refine .seq ?_
        refine .cond (b := decide (x245 < p0)) rfl rfl (fun g254 => ?_) (fun g254 => ?_)
        ·have h255 := pos_inv g254 h252
         refine .skip ?_
         refine .seq ?_
         obtain ⟨q256, h257, h258⟩ := bd_inv h255
         refine AW.midT (fun σ' H' => ∃ (y1 : List (List Bool)) (G' : GM), y1 = q256 ∧ Ow G' H' (eRows v6 30 ws77 [] 4 rB y1 :: L) ∧ GM.le G249 G') ?_ ?_
         ·refine .block ?_
          refine .seq ?_
          refine .region ?_
          refine W.pure (v := (.int .i64 x245)) rfl rfl (v_move (oo rfl t253)) ?_
          refine W.pure (v := (.int .i64 x245)) rfl rfl (v_assign (oo rfl rfl)) ?_
          refine .nil ?_
          refine .draw2 (M := [0, 0, 3, 7, 0, 0, 0, 96, 224, 0, 992, 2016, 4064, 8160, 8160, 32736, 65504, 8160, 262112, 524256, 1048544, 2097120, 2097120, 8388576, 16777184, 2097120, 67108832, 134217696, 268435424, 536870880, 1073741823, 2147483647]) mixed (by kernel_rfl) (by kernel_rfl) fun H259 N263 x260 F262 => ?_
          have O261 := O250.ext x260
          refine D2.pure (v := v6) rfl rfl (v_move (oo rfl ((fr248 7 rfl).trans ((fr232 7 rfl).trans ((fr216 7 rfl).trans ((fr202 7 rfl).trans ((fr72 7 rfl).trans rfl))))))) ?_
          refine D2.pure (v := (.int .i64 x229)) rfl rfl (v_move (oo rfl ((fr248 12 rfl).trans rfl))) ?_
          obtain ⟨x264, i265, h266⟩ := bd_inv h257
          have j267 := idx_inv i265
          refine D2.pure (v := (selem v6 (Int.toNat x229 * 1))) rfl rfl (v_idx el31 sz30 (oo rfl rfl) (oo rfl rfl) (O261.rowsLen (j := 0) rfl) j267.1 j267.2.1) ?_
          obtain ⟨w268, e269, p270, k271⟩ := O261.rowVal (j := 0) rfl j267.2.2
          refine D2.load1' (v := w268) (r := []) rfl rfl ag30 (pt_px rfl p270) fa_nil ?_
          refine D2.pure (v := (.int .i64 x245)) rfl rfl (v_move (oo rfl rfl)) ?_
          refine D2.pure (v := v6) rfl rfl (v_move (oo rfl ((fr248 7 rfl).trans ((fr232 7 rfl).trans ((fr216 7 rfl).trans ((fr202 7 rfl).trans ((fr72 7 rfl).trans rfl))))))) ?_
          refine D2.pure (v := (.int .i64 x229)) rfl rfl (v_move (oo rfl ((fr248 12 rfl).trans rfl))) ?_
          obtain ⟨x272, i273, h274⟩ := bd_inv h266
          have j275 := idx_inv i273
          refine D2.pure (v := (selem v6 (Int.toNat x229 * 1))) rfl rfl (v_idx el31 sz30 (oo rfl rfl) (oo rfl rfl) (O261.rowsLen (j := 0) rfl) j275.1 j275.2.1) ?_
          obtain ⟨w276, e277, p278, k279⟩ := O261.rowVal (j := 0) rfl j275.2.2
          refine D2.load1' (v := w276) (r := []) rfl rfl ag30 (pt_px rfl p278) fa_nil ?_
          refine D2.pure (v := (.int .i64 x245)) rfl rfl (v_move (oo rfl rfl)) ?_
          have O280 := O261.takeRow (j := 0) rfl e277 j275.2.2 List.not_mem_nil
          replace O280 : Ow G249 H259 (eSl w276 4 rB x272 :: eRows v6 30 ws77 [Int.toNat x229] 4 rB x244 :: L) := O280
          obtain ⟨x281, i282, h283⟩ := bd_inv h274
          have j284 := idx_inv i282
          refine D2.pure (v := (selem w276 (Int.toNat x245 * 1))) rfl rfl (v_idx el30 sz4 (oo rfl rfl) (oo rfl rfl) (O280.slLen (j := 0) rfl) j284.1 j284.2.1) ?_
          refine D2.load1' (v := (.bool x281)) (r := []) rfl rfl ag4 (pt_px rfl (At.bool (O280.atSl (j := 0) rfl j284.2.2))) fa_nil ?_
          refine D2.pure (v := (.bool x281)) rfl rfl (v_move (oo rfl rfl)) ?_
          refine D2.splitAt (t := 84) (b := x281) rfl (fun g285 gv286 => ?_) (fun g285 gv286 => ?_)
          ·have h287 := pos_inv g285 h283
           refine D2.skip (gk rfl rfl gv286 rfl) rfl ?_
           refine D2.skip (gk rfl rfl gv286 rfl) rfl ?_
           refine D2.skip (gk rfl rfl gv286 rfl) rfl ?_
           refine D2.skip (gk rfl rfl gv286 rfl) rfl ?_
           refine D2.skip (gk rfl rfl gv286 rfl) rfl ?_
           refine D2.skip (gk rfl rfl gv286 rfl) rfl ?_
           refine D2.skip (gk rfl rfl gv286 rfl) rfl ?_
           refine D2.skip (gk rfl rfl gv286 rfl) rfl ?_
           refine D2.skipU rfl rfl rfl rfl ?_
           refine D2.skipU rfl rfl rfl rfl ?_
           refine D2.skipU rfl rfl rfl rfl ?_
           refine D2.skipU rfl rfl rfl rfl ?_
           refine D2.skipU rfl rfl rfl rfl ?_
           refine D2.skipU rfl rfl rfl rfl ?_
           refine D2.skipU rfl rfl rfl rfl ?_
           refine D2.skip (gk rfl rfl gv286 rfl) rfl ?_
           refine D2.pure (v := (.bool true)) rfl rfl (v_pickT (oo rfl gv286) (oo rfl rfl)) ?_
           have O288 := O280.putRow0 (j := 0) rfl e277 j275.2.2
           replace O288 : Ow G249 H259 (eRows v6 30 ws77 [] 4 rB x244 :: L) := O288
           have O289 := O288.takeRow (j := 0) rfl e269 j267.2.2 List.not_mem_nil
           replace O289 : Ow G249 H259 (eSl w268 4 rB x264 :: eRows v6 30 ws77 [Int.toNat x229] 4 rB x244 :: L) := O289
           obtain ⟨x290, i291, h292⟩ := bd_inv h287
           have j293 := idx_inv i291
           refine D2.pure (v := (selem w268 (Int.toNat x245 * 1))) rfl rfl (v_idx el30 sz4 (oo rfl rfl) (oo rfl rfl) (O289.slLen (j := 0) rfl) j293.1 j293.2.1) ?_
           refine D2.lo rfl rfl (Lo.storeSl0 (j := 0) (y0 := true) (v := (.bool true)) rfl j293.2.2  rfl sz4 rfl rfl rfl O289) ?_ fa_nil ?_ ?_
           ·rintro v296 H297 ⟨O294, sm295⟩; exact (faR1 (.inl (by decide)) (faR1 (.inl (by decide)) (faR1 (.inl (by decide)) fa_nil)))
           ·rintro v296 H297 ⟨O294, sm295⟩; exact fa_nil
           rintro v296 H297 ⟨O294, sm295⟩
           replace O294 : Ow G249 H297 (eSl w268 4 rB (List.set x264 (Int.toNat x245) true) :: eRows v6 30 ws77 [Int.toNat x229] 4 rB x244 :: L) := O294
           refine .nil ?_
           have O298 := O294.putRow (j := 0) rfl e269
           replace O298 : Ow G249 H297 (eRows v6 30 ws77 [] 4 rB (List.set x244 (Int.toNat x229) (List.set x264 (Int.toNat x245) true)) :: L) := O298
           obtain rfl := Option.some.inj h292
           exact ⟨(List.set x244 (Int.toNat x229) (List.set x264 (Int.toNat x245) true)), _, rfl, O298, (GM.le.refl _)⟩
          ·have h299 := neg_b g285 h283
           refine D2.pure (v := v6) (gk rfl rfl gv286 rfl) rfl (v_move (oo rfl ((fr248 7 rfl).trans ((fr232 7 rfl).trans ((fr216 7 rfl).trans ((fr202 7 rfl).trans ((fr72 7 rfl).trans rfl))))))) ?_
           refine D2.pure (v := (.int .i64 x229)) (gk rfl rfl gv286 rfl) rfl (v_move (oo rfl ((fr248 12 rfl).trans rfl))) ?_
           have O300 := O280.putRow0 (j := 0) rfl e277 j275.2.2
           replace O300 : Ow G249 H259 (eRows v6 30 ws77 [] 4 rB x244 :: L) := O300
           obtain ⟨x301, i302, h303⟩ := bd_inv h299
           have j304 := idx_inv i302
           refine D2.pure (v := (selem v6 (Int.toNat x229 * 1))) (gk rfl rfl gv286 rfl) rfl (v_idx el31 sz30 (oo rfl rfl) (oo rfl rfl) (O300.rowsLen (j := 0) rfl) j304.1 j304.2.1) ?_
           obtain ⟨w305, e306, p307, k308⟩ := O300.rowVal (j := 0) rfl j304.2.2
           refine D2.load1' (v := w305) (r := []) (gk rfl rfl gv286 rfl) rfl ag30 (pt_px rfl p307) fa_nil ?_
           refine D2.pure (v := (.int .i64 x213)) (gk rfl rfl gv286 rfl) rfl (v_move (oo rfl ((fr248 11 rfl).trans ((fr232 11 rfl).trans rfl)))) ?_
           have O309 := O300.takeRow (j := 0) rfl e306 j304.2.2 List.not_mem_nil
           replace O309 : Ow G249 H259 (eSl w305 4 rB x301 :: eRows v6 30 ws77 [Int.toNat x229] 4 rB x244 :: L) := O309
           obtain ⟨x310, i311, h312⟩ := bd_inv h303
           have j313 := idx_inv i311
           refine D2.pure (v := (selem w305 (Int.toNat x213 * 1))) (gk rfl rfl gv286 rfl) rfl (v_idx el30 sz4 (oo rfl rfl) (oo rfl rfl) (O309.slLen (j := 0) rfl) j313.1 j313.2.1) ?_
           refine D2.load1' (v := (.bool x310)) (r := []) (gk rfl rfl gv286 rfl) rfl ag4 (pt_px rfl (At.bool (O309.atSl (j := 0) rfl j313.2.2))) fa_nil ?_
           refine D2.pure (v := (.bool x310)) (gk rfl rfl gv286 rfl) rfl (v_move (oo rfl rfl)) ?_
           refine D2.splitAt (t := 92) (b := x310) rfl (fun g314 gv315 => ?_) (fun g314 gv315 => ?_)
           ·have h316 := pos_inv g314 h312
            refine D2.pure (v := v6) (gk rfl rfl gv315 rfl) rfl (v_move (oo rfl ((fr248 7 rfl).trans ((fr232 7 rfl).trans ((fr216 7 rfl).trans ((fr202 7 rfl).trans ((fr72 7 rfl).trans rfl))))))) ?_
            refine D2.pure (v := (.int .i64 x213)) (gk rfl rfl gv315 rfl) rfl (v_move (oo rfl ((fr248 11 rfl).trans ((fr232 11 rfl).trans rfl)))) ?_
            have O317 := O309.putRow0 (j := 0) rfl e306 j304.2.2
            replace O317 : Ow G249 H259 (eRows v6 30 ws77 [] 4 rB x244 :: L) := O317
            obtain ⟨x318, i319, h320⟩ := bd_inv h316
            have j321 := idx_inv i319
            refine D2.pure (v := (selem v6 (Int.toNat x213 * 1))) (gk rfl rfl gv315 rfl) rfl (v_idx el31 sz30 (oo rfl rfl) (oo rfl rfl) (O317.rowsLen (j := 0) rfl) j321.1 j321.2.1) ?_
            obtain ⟨w322, e323, p324, k325⟩ := O317.rowVal (j := 0) rfl j321.2.2
            refine D2.load1' (v := w322) (r := []) (gk rfl rfl gv315 rfl) rfl ag30 (pt_px rfl p324) fa_nil ?_
            refine D2.pure (v := (.int .i64 x245)) (gk rfl rfl gv315 rfl) rfl (v_move (oo rfl rfl)) ?_
            have O326 := O317.takeRow (j := 0) rfl e323 j321.2.2 List.not_mem_nil
            replace O326 : Ow G249 H259 (eSl w322 4 rB x318 :: eRows v6 30 ws77 [Int.toNat x213] 4 rB x244 :: L) := O326
            obtain ⟨x327, i328, h329⟩ := bd_inv h320
            have j330 := idx_inv i328
            refine D2.pure (v := (selem w322 (Int.toNat x245 * 1))) (gk rfl rfl gv315 rfl) rfl (v_idx el30 sz4 (oo rfl rfl) (oo rfl rfl) (O326.slLen (j := 0) rfl) j330.1 j330.2.1) ?_
            refine D2.load1' (v := (.bool x327)) (r := []) (gk rfl rfl gv315 rfl) rfl ag4 (pt_px rfl (At.bool (O326.atSl (j := 0) rfl j330.2.2))) fa_nil ?_
            refine D2.pure (v := (.bool x327)) (gk rfl rfl gv286 rfl) rfl (v_pickT (oo rfl gv315) (oo rfl rfl)) ?_
            refine D2.pure (v := (.bool x327)) rfl rfl (v_pickF (oo rfl gv286) (oo rfl rfl)) ?_
            have O331 := O326.putRow0 (j := 0) rfl e323 j321.2.2
            replace O331 : Ow G249 H259 (eRows v6 30 ws77 [] 4 rB x244 :: L) := O331
            have O332 := O331.takeRow (j := 0) rfl e269 j267.2.2 List.not_mem_nil
            replace O332 : Ow G249 H259 (eSl w268 4 rB x264 :: eRows v6 30 ws77 [Int.toNat x229] 4 rB x244 :: L) := O332
            obtain ⟨x333, i334, h335⟩ := bd_inv h329
            have j336 := idx_inv i334
            refine D2.pure (v := (selem w268 (Int.toNat x245 * 1))) rfl rfl (v_idx el30 sz4 (oo rfl rfl) (oo rfl rfl) (O332.slLen (j := 0) rfl) j336.1 j336.2.1) ?_
            refine D2.lo rfl rfl (Lo.storeSl0 (j := 0) (y0 := x327) (v := (.bool x327)) rfl j336.2.2  rfl sz4 rfl rfl rfl O332) ?_ fa_nil ?_ ?_
            ·rintro v339 H340 ⟨O337, sm338⟩; exact (faR1 (.inl (by decide)) (faR1 (.inl (by decide)) (faR1 (.inl (by decide)) (faR1 (.inl (by decide)) (faR1 (.inl (by decide)) (faR1 (.inl (by decide)) (faR1 (.inl (by decide)) fa_nil)))))))
            ·rintro v339 H340 ⟨O337, sm338⟩; exact fa_nil
            rintro v339 H340 ⟨O337, sm338⟩
            replace O337 : Ow G249 H340 (eSl w268 4 rB (List.set x264 (Int.toNat x245) x327) :: eRows v6 30 ws77 [Int.toNat x229] 4 rB x244 :: L) := O337
            refine .nil ?_
            have O341 := O337.putRow (j := 0) rfl e269
            replace O341 : Ow G249 H340 (eRows v6 30 ws77 [] 4 rB (List.set x244 (Int.toNat x229) (List.set x264 (Int.toNat x245) x327)) :: L) := O341
            obtain rfl := Option.some.inj h335
            exact ⟨(List.set x244 (Int.toNat x229) (List.set x264 (Int.toNat x245) x327)), _, rfl, O341, (GM.le.refl _)⟩
           ·have h342 := neg_b g314 h312
            refine D2.skip (gk rfl rfl gv315 rfl) rfl ?_
            refine D2.skip (gk rfl rfl gv315 rfl) rfl ?_
            refine D2.skip (gk rfl rfl gv315 rfl) rfl ?_
            refine D2.skip (gk rfl rfl gv315 rfl) rfl ?_
            refine D2.skip (gk rfl rfl gv315 rfl) rfl ?_
            refine D2.skip (gk rfl rfl gv315 rfl) rfl ?_
            refine D2.skip (gk rfl rfl gv315 rfl) rfl ?_
            refine D2.pure (v := (.bool false)) (gk rfl rfl gv286 rfl) rfl (v_pickF (oo rfl gv315) (oo rfl rfl)) ?_
            refine D2.pure (v := (.bool false)) rfl rfl (v_pickF (oo rfl gv286) (oo rfl rfl)) ?_
            have O343 := O309.putRow0 (j := 0) rfl e306 j304.2.2
            replace O343 : Ow G249 H259 (eRows v6 30 ws77 [] 4 rB x244 :: L) := O343
            have O344 := O343.takeRow (j := 0) rfl e269 j267.2.2 List.not_mem_nil
            replace O344 : Ow G249 H259 (eSl w268 4 rB x264 :: eRows v6 30 ws77 [Int.toNat x229] 4 rB x244 :: L) := O344
            obtain ⟨x345, i346, h347⟩ := bd_inv h342
            have j348 := idx_inv i346
            refine D2.pure (v := (selem w268 (Int.toNat x245 * 1))) rfl rfl (v_idx el30 sz4 (oo rfl rfl) (oo rfl rfl) (O344.slLen (j := 0) rfl) j348.1 j348.2.1) ?_
            refine D2.lo rfl rfl (Lo.storeSl0 (j := 0) (y0 := false) (v := (.bool false)) rfl j348.2.2  rfl sz4 rfl rfl rfl O344) ?_ fa_nil ?_ ?_
            ·rintro v351 H352 ⟨O349, sm350⟩; exact (faR1 (.inl (by decide)) (faR1 (.inl (by decide)) (faR1 (.inl (by decide)) (faR1 (.inl (by decide)) (faR1 (.inl (by decide)) fa_nil)))))
            ·rintro v351 H352 ⟨O349, sm350⟩; exact fa_nil
            rintro v351 H352 ⟨O349, sm350⟩
            replace O349 : Ow G249 H352 (eSl w268 4 rB (List.set x264 (Int.toNat x245) false) :: eRows v6 30 ws77 [Int.toNat x229] 4 rB x244 :: L) := O349
            refine .nil ?_
            have O353 := O349.putRow (j := 0) rfl e269
            replace O353 : Ow G249 H352 (eRows v6 30 ws77 [] 4 rB (List.set x244 (Int.toNat x229) (List.set x264 (Int.toNat x245) false)) :: L) := O353
            obtain rfl := Option.some.inj h347
            exact ⟨(List.set x244 (Int.toNat x229) (List.set x264 (Int.toNat x245) false)), _, rfl, O353, (GM.le.refl _)⟩
         ·rintro σ355 H356 fr357 ⟨x354, G358, rfl, O359, s360⟩
          have h362 := tu1_inv h258
          refine .region ?_
          refine W.pure (v := (.int .i64 (kwrap .i64 (x245 + 1)))) rfl rfl (v_int (oo rfl ((fr357 69 rfl).trans t253)) (oo rfl rfl) rfl) ?_
          refine W.pure (v := (.int .i64 (kwrap .i64 (x245 + 1)))) rfl rfl (v_move (oo rfl rfl)) ?_
          refine .nil ?_
          exact ⟨k243, Nat.lt_succ_self _, ⟨x354, kwrap .i64 (x245 + 1), _, h362, O359, (GM.le.trans s251 s360), rfl⟩⟩
        ·have h363 := neg_b g254 h252
         refine .exit ?_
         obtain rfl := Option.some.inj h363
         exact ⟨x244, _, rfl, O250, s251⟩
       ·rintro σ365 H366 fr367 ⟨x364, G368, rfl, O369, s370⟩
        have h372 := tu1_inv h242
        refine .region ?_
        refine W.pure (v := (.int .i64 (kwrap .i64 (x229 + 1)))) rfl rfl (v_int (oo rfl ((fr367 65 rfl).trans t237)) (oo rfl rfl) rfl) ?_
        refine W.pure (v := (.int .i64 (kwrap .i64 (x229 + 1)))) rfl rfl (v_move (oo rfl rfl)) ?_
        refine .nil ?_
        exact ⟨k227, Nat.lt_succ_self _, ⟨x364, kwrap .i64 (x229 + 1), _, h372, O369, (GM.le.trans s235 s370), rfl⟩⟩
      ·have h373 := neg_b g238 h236
       refine .exit ?_
       obtain rfl := Option.some.inj h373
       exact ⟨x228, _, rfl, O234, s235⟩
     ·rintro σ375 H376 fr377 ⟨x374, G378, rfl, O379, s380⟩
      have h382 := tu1_inv h226
      refine .region ?_
      refine W.pure (v := (.int .i64 (kwrap .i64 (x213 + 1)))) rfl rfl (v_int (oo rfl ((fr377 61 rfl).trans t221)) (oo rfl rfl) rfl) ?_
      refine W.pure (v := (.int .i64 (kwrap .i64 (x213 + 1)))) rfl rfl (v_move (oo rfl rfl)) ?_
      refine .nil ?_
      exact ⟨k211, Nat.lt_succ_self _, ⟨x374, kwrap .i64 (x213 + 1), _, h382, O379, (GM.le.trans s219 s380), rfl⟩⟩
    ·have h383 := neg_b g222 h220
     refine .exit ?_
     obtain rfl := Option.some.inj h383
     exact ⟨x212, _, rfl, O218, s219⟩
   ·rintro σ385 H386 fr387 ⟨x384, G388, rfl, O389, s390⟩
    have h392 := tu1_inv h210
    refine .seq ?_
    refine .region ?_
    refine W.pure (v := v6) rfl rfl (v_move (oo rfl ((fr387 7 rfl).trans ((fr202 7 rfl).trans ((fr72 7 rfl).trans rfl))))) ?_
    refine W.pure (v := v6) rfl rfl (v_assign (oo rfl rfl)) ?_
    refine .nil ?_
    refine .ret ?_
    obtain ⟨G393, O394, s395, f396⟩ := O389.frzRows (j := 0) rfl
    replace O394 : Ow G393 H386 (L) := O394
    obtain rfl := Option.some.inj h392
    refine ret1R (P := Try.prog) (fn := Try.f14) (n := 107) (R := fun v H' => ∃ G', Ow G' H' (L) ∧ G.le G' ∧ ∃ (w0 : Value), w0 = v ∧ (rSl (rSl rB)).rep G' [w0] x384) (v1 := v6) (by rfl) (rr_tmp (by rfl) (by exact rfl)) ?_
    exact ⟨_, O394, (GM.le.trans s75 (GM.le.trans s205 (GM.le.trans s390 s395))), v6, rfl, f396⟩
def g_R_Numbers_l2 (K : Nat) (p0 : List (List Bool)) (x6 : List Int) (x8 : Int) : Nat → Int → Int → Option (Int)
 | 0, _, _ => none
 | k + 1, x24, x25 => (if (decide (x25 < x8)) = true then (Option.bind ((Option.bind (((idx p0 x8).bind fun x43 => ((idx x43 x25).bind fun x50 => (if x50 = true then some (decide (x24 < 0)) else some false)))) (tu1 fun x58 => (if x58 = true then ((idx x6 x25).bind fun x70 => some x70) else some x24)))) (tu1 fun x75 => g_R_Numbers_l2 K p0 x6 x8 k x75 (kwrap .i64 (x25 + 1)))) else some x24)
def g_R_Numbers_l0 (K : Nat) (p0 : List (List Bool)) : Nat → List Int → Int → Int → Option (List Int)
 | 0, _, _, _ => none
 | k + 1, x6, x7, x8 => (if (decide (x8 < (List.length p0 : Int))) = true then (Option.bind (g_R_Numbers_l2 K p0 x6 x8 K (-1) 0) (tu1 fun x86 => (Option.bind ((if (decide (x86 < 0)) = true then some (kwrap .i64 (x7 + 1), x7) else some (x7, x86))) (tu2 fun x102 x103 => (if List.length x6 + List.length [x103] ≤ 16777216 then g_R_Numbers_l0 K p0 k (x6 ++ [x103]) x102 (kwrap .i64 (x8 + 1)) else none))))) else some x6)
def g_R_Numbers (K : Nat) (p0 : List (List Bool)) : Option (List Int) := (Option.bind (g_R_Numbers_l0 K p0 K [] 0 0) (tu1 fun x129 => some x129))
set_option maxHeartbeats 4000000 in
theorem g_R_Numbers_ok (K : Nat) {G : GM} {H : AH} {L : List Pc} (v0 : Value) (p0 : List (List Bool)) (hp0 : (rSl (rSl rB)).rep G [v0] p0) (O : Ow G H (L)) (r : List Int) (h : g_R_Numbers K p0 = some r) :
  CRF Try.prog 17 [v0] G H (fun w0 => (eSl w0 3 (rI .i64) r :: L)) (fun w0 v G' => w0 = v) := by
 unfold g_R_Numbers at h
 refine CRF.of (calls_of_AW (n := 44) (fn := Try.f17) (R := fun v H' => ∃ w0 G', Ow G' H' (eSl w0 3 (rI .i64) r :: L) ∧ G.le G' ∧ w0 = v) (by kernel_rfl) rfl rfl ?_)
 refine .seq ?_
 refine .region ?_
 refine W.pure (v := (.slice none 0 0)) rfl rfl (v_assign (oo rfl rfl)) ?_
 refine .nil ?_
 refine .seq ?_
 refine .region ?_
 refine W.pure (v := (.slice none 0 0)) rfl rfl (v_assign (oo rfl rfl)) ?_
 refine .nil ?_
 refine .seq ?_
 refine .region ?_
 refine W.pure (v := (.int .i64 0)) rfl rfl (v_assign (oo rfl rfl)) ?_
 refine .nil ?_
 refine .seq ?_
 refine .seq ?_
 refine .region ?_
 refine W.pure (v := v0) rfl rfl (v_move (oo rfl rfl)) ?_
 refine W.pure (v := (.int .i64 (List.length p0 : Int))) rfl rfl (len_sl (oo rfl rfl) (sl_len hp0) (elemT_inv el31)) ?_
 refine W.pure (v := (.int .i64 0)) rfl rfl (v_move (oo rfl rfl)) ?_
 refine .nil ?_
 obtain ⟨q1, h2, h3⟩ := bd_inv h
 refine AW.midT (fun σ' H' => ∃ (y1 : List Int) (G' : GM), y1 = q1 ∧ Ow G' H' (eSl (σ' 3) 3 (rI .i64) y1 :: L) ∧ GM.le G G') ?_ ?_
 ·refine .block ?_
  have O4 := O.nilSl 3 (rI .i64)
  refine AW.loop (α := Nat) (fun k' σ' H' => ∃ (y1 : List Int) (y2 : Int) (y3 : Int) (G' : GM), g_R_Numbers_l0 K p0 k' y1 y2 y3 = some q1 ∧ Ow G' H' (eSl (σ' 3) 3 (rI .i64) y1 :: L) ∧ GM.le G G' ∧ σ' 4 = .int .i64 y2 ∧ σ' 10 = .int .i64 y3) (fun k' => k') K ⟨[], 0, 0, _, h2, O4, (GM.le.refl _), rfl, rfl⟩ ?_
  rintro k5
  rintro σ9 H10 fr11 ⟨x6, x7, x8, G12, h15, O13, s14, t16, t17⟩
  rcases k5 with _ | k5
  ·exact none_absurd h15
  rw [g_R_Numbers_l0] at h15
  refine .seq ?_
  refine .region ?_
  refine W.pure (v := (.bool (decide (x8 < (List.length p0 : Int))))) rfl rfl (v_int (oo rfl t17) (oo rfl ((fr11 9 rfl).trans rfl)) rfl) ?_
  refine .nil ?_
  refine .seq ?_
  refine .cond (b := decide (x8 < (List.length p0 : Int))) rfl rfl (fun g18 => ?_) (fun g18 => ?_)
  ·have h19 := pos_inv g18 h15
   refine .skip ?_
   refine .seq ?_
   refine .block ?_
   refine .seq ?_
   refine .region ?_
   refine W.pure (v := (.int .i64 x8)) rfl rfl (v_move (oo rfl t17)) ?_
   refine W.pure (v := (.int .i64 x8)) rfl rfl (v_assign (oo rfl rfl)) ?_
   refine .nil ?_
   refine .seq ?_
   refine .region ?_
   refine W.pure (v := (.int .i64 (-1))) rfl rfl (v_assign (oo rfl rfl)) ?_
   refine .nil ?_
   refine .seq ?_
   refine .seq ?_
   refine .region ?_
   refine W.pure (v := (.int .i64 x8)) rfl rfl (v_move (oo rfl rfl)) ?_
   refine W.pure (v := (.int .i64 0)) rfl rfl (v_move (oo rfl rfl)) ?_
   refine .nil ?_
   obtain ⟨q20, h21, h22⟩ := bd_inv h19
   refine AW.midT (fun σ' H' => ∃ (y1 : Int) (G' : GM), y1 = q20 ∧ Ow G' H' (eSl (σ9 3) 3 (rI .i64) x6 :: L) ∧ GM.le G12 G' ∧ σ' 6 = .int .i64 y1) ?_ ?_
   ·refine .block ?_
    refine AW.loop (α := Nat) (fun k' σ' H' => ∃ (y1 : Int) (y2 : Int) (G' : GM), g_R_Numbers_l2 K p0 x6 x8 k' y1 y2 = some q20 ∧ Ow G' H' (eSl (σ9 3) 3 (rI .i64) x6 :: L) ∧ GM.le G12 G' ∧ σ' 6 = .int .i64 y1 ∧ σ' 14 = .int .i64 y2) (fun k' => k') K ⟨(-1), 0, _, h21, O13, (GM.le.refl _), rfl, rfl⟩ ?_
    rintro k23
    rintro σ26 H27 fr28 ⟨x24, x25, G29, h32, O30, s31, t33, t34⟩
    rcases k23 with _ | k23
    ·exact none_absurd h32
    rw [g_R_Numbers_l2] at h32
    refine .seq ?_
    refine .region ?_
    refine W.pure (v := (.bool (decide (x25 < x8)))) rfl rfl (v_int (oo rfl t34) (oo rfl ((fr28 13 rfl).trans rfl)) rfl) ?_
    refine .nil ?_
    refine .seq ?_
    refine .cond (b := decide (x25 < x8)) rfl rfl (fun g35 => ?_) (fun g35 => ?_)
    ·have h36 := pos_inv g35 h32
     refine .skip ?_
     refine .seq ?_
     obtain ⟨q37, h38, h39⟩ := bd_inv h36
     refine AW.midT (fun σ' H' => ∃ (y1 : Int) (G' : GM), y1 = q37 ∧ Ow G' H' (eSl (σ9 3) 3 (rI .i64) x6 :: L) ∧ GM.le G29 G' ∧ σ' 6 = .int .i64 y1) ?_ ?_
     ·refine .block ?_
      refine .seq ?_
      refine .region ?_
      refine W.pure (v := (.int .i64 x25)) rfl rfl (v_move (oo rfl t34)) ?_
      refine W.pure (v := (.int .i64 x25)) rfl rfl (v_assign (oo rfl rfl)) ?_
      refine .nil ?_
      refine .seq ?_
      obtain ⟨q40, h41, h42⟩ := bd_inv h38
      refine AW.midT (fun σ' H' => ∃ (y1 : Bool) (G' : GM), y1 = q40 ∧ Ow G' H' (eSl (σ9 3) 3 (rI .i64) x6 :: L) ∧ GM.le G29 G' ∧ σ' 27 = .bool y1) ?_ ?_
      ·refine .region ?_
       refine W.pure (v := v0) rfl rfl (v_move (oo rfl ((fr28 0 rfl).trans ((fr11 0 rfl).trans rfl)))) ?_
       refine W.pure (v := (.int .i64 x8)) rfl rfl (v_move (oo rfl ((fr28 5 rfl).trans rfl))) ?_
       obtain ⟨x43, i44, h45⟩ := bd_inv h41
       have j46 := idx_inv i44
       refine W.pure (v := (selem v0 (Int.toNat x8 * 1))) rfl rfl (v_idx el31 sz30 (oo rfl rfl) (oo rfl rfl) (sl_len (RT.mono _ (GM.le.trans s14 s31) hp0)) j46.1 j46.2.1) ?_
       obtain ⟨w47, p48, f49⟩ := At.sl (At.le (sl_idx hp0 j46.2.2) (GM.le.trans s14 s31) (GM.le.trans s14 s31))
       replace p48 := PtG.le p48 O30.fro
       refine W.load1 (v := w47) (r := []) rfl rfl ag30 (pt_px rfl p48) ?_
       refine W.pure (v := (.int .i64 x25)) rfl rfl (v_move (oo rfl rfl)) ?_
       obtain ⟨x50, i51, h52⟩ := bd_inv h45
       have j53 := idx_inv i51
       refine W.pure (v := (selem w47 (Int.toNat x25 * 1))) rfl rfl (v_idx el30 sz4 (oo rfl rfl) (oo rfl rfl) (sl_len f49) j53.1 j53.2.1) ?_
       refine W.load1 (v := (.bool x50)) (r := []) rfl rfl ag4 (pt_px rfl (At.bool (At.le (sl_idx f49 j53.2.2) (GM.le.refl _) O30.fro))) ?_
       refine W.pure (v := (.bool x50)) rfl rfl (v_move (oo rfl rfl)) ?_
       refine W.splitAt (t := 24) (b := x50) rfl (fun g54 gv55 => ?_) (fun g54 gv55 => ?_)
       ·have h56 := pos_inv g54 h52
        refine W.pure (v := (.int .i64 x24)) (gk rfl rfl gv55 rfl) rfl (v_move (oo rfl t33)) ?_
        refine W.pure (v := (.bool (decide (x24 < 0)))) (gk rfl rfl gv55 rfl) rfl (v_int (oo rfl rfl) (oo rfl rfl) rfl) ?_
        refine W.pure (v := (.bool (decide (x24 < 0)))) rfl rfl (v_pickT (oo rfl gv55) (oo rfl rfl)) ?_
        refine .nil ?_
        obtain rfl := Option.some.inj h56
        exact ⟨decide (x24 < 0), _, rfl, O30, (GM.le.refl _), rfl⟩
       ·have h57 := neg_b g54 h52
        refine W.skip (gk rfl rfl gv55 rfl) rfl ?_
        refine W.skip (gk rfl rfl gv55 rfl) rfl ?_
        refine W.pure (v := (.bool false)) rfl rfl (v_pickF (oo rfl gv55) (oo rfl rfl)) ?_
        refine .nil ?_
        obtain rfl := Option.some.inj h57
        exact ⟨false, _, rfl, O30, (GM.le.refl _), rfl⟩
      ·rintro σ59 H60 fr61 ⟨x58, G62, rfl, O63, s64, t66⟩
       have h67 := tu1_inv h42
       refine .cond (b := x58) rfl t66 (fun g68 => ?_) (fun g68 => ?_)
       ·have h69 := pos_inv g68 h67
        refine .region ?_
        refine W.pure (v := (σ9 3)) rfl rfl (v_move (oo rfl ((fr61 3 rfl).trans ((fr28 3 rfl).trans rfl)))) ?_
        refine W.pure (v := (.int .i64 x25)) rfl rfl (v_move (oo rfl ((fr61 7 rfl).trans rfl))) ?_
        obtain ⟨x70, i71, h72⟩ := bd_inv h69
        have j73 := idx_inv i71
        refine W.pure (v := (selem (σ9 3) (Int.toNat x25 * 1))) rfl rfl (v_idx el24 sz3 (oo rfl rfl) (oo rfl rfl) (O63.slLen (j := 0) rfl) j73.1 j73.2.1) ?_
        refine W.load1 (v := (.int .i64 x70)) (r := []) rfl rfl ag3 (pt_px rfl (At.int (O63.atSl (j := 0) rfl j73.2.2))) ?_
        refine W.pure (v := (.int .i64 x70)) rfl rfl (v_assign (oo rfl rfl)) ?_
        refine .nil ?_
        obtain rfl := Option.some.inj h72
        exact ⟨x70, _, rfl, O63, s64, rfl⟩
       ·have h74 := neg_b g68 h67
        refine .skip ?_
        obtain rfl := Option.some.inj h74
        exact ⟨x24, _, rfl, O63, s64, ((fr61 6 rfl).trans t33)⟩
     ·rintro σ76 H77 fr78 ⟨x75, G79, rfl, O80, s81, t83⟩
      have h84 := tu1_inv h39
      refine .region ?_
      refine W.pure (v := (.int .i64 (kwrap .i64 (x25 + 1)))) rfl rfl (v_int (oo rfl ((fr78 14 rfl).trans t34)) (oo rfl rfl) rfl) ?_
      refine W.pure (v := (.int .i64 (kwrap .i64 (x25 + 1)))) rfl rfl (v_move (oo rfl rfl)) ?_
      refine .nil ?_
      exact ⟨k23, Nat.lt_succ_self _, ⟨x75, kwrap .i64 (x25 + 1), _, h84, O80, (GM.le.trans s31 s81), t83, rfl⟩⟩
    ·have h85 := neg_b g35 h32
     refine .exit ?_
     obtain rfl := Option.some.inj h85
     exact ⟨x24, _, rfl, O30, s31, t33⟩
   ·rintro σ87 H88 fr89 ⟨x86, G90, rfl, O91, s92, t94⟩
    have h95 := tu1_inv h22
    refine .seq ?_
    refine .seq ?_
    refine .region ?_
    refine W.pure (v := (.int .i64 x86)) rfl rfl (v_move (oo rfl t94)) ?_
    refine W.pure (v := (.bool (decide (x86 < 0)))) rfl rfl (v_int (oo rfl rfl) (oo rfl rfl) rfl) ?_
    refine .nil ?_
    obtain ⟨q96, h97, h98⟩ := bd_inv h95
    refine AW.midT (fun σ' H' => ∃ (y1 : Int) (y2 : Int) (G' : GM), (y1, y2) = q96 ∧ Ow G' H' (eSl (σ9 3) 3 (rI .i64) x6 :: L) ∧ GM.le G90 G' ∧ σ' 4 = .int .i64 y1 ∧ σ' 6 = .int .i64 y2) ?_ ?_
    ·refine .cond (b := decide (x86 < 0)) rfl rfl (fun g99 => ?_) (fun g99 => ?_)
     ·have h100 := pos_inv g99 h97
      refine .seq ?_
      refine .region ?_
      refine W.pure (v := (.int .i64 x7)) rfl rfl (v_move (oo rfl ((fr89 4 rfl).trans t16))) ?_
      refine W.pure (v := (.int .i64 x7)) rfl rfl (v_assign (oo rfl rfl)) ?_
      refine .nil ?_
      refine .region ?_
      refine W.pure (v := (.int .i64 x7)) rfl rfl (v_move (oo rfl ((fr89 4 rfl).trans t16))) ?_
      refine W.pure (v := (.int .i64 (kwrap .i64 (x7 + 1)))) rfl rfl (v_int (oo rfl rfl) (oo rfl rfl) rfl) ?_
      refine W.pure (v := (.int .i64 (kwrap .i64 (x7 + 1)))) rfl rfl (v_assign (oo rfl rfl)) ?_
      refine .nil ?_
      obtain rfl := Option.some.inj h100
      exact ⟨kwrap .i64 (x7 + 1), x7, _, rfl, O91, (GM.le.refl _), rfl, rfl⟩
     ·have h101 := neg_b g99 h97
      refine .skip ?_
      obtain rfl := Option.some.inj h101
      exact ⟨x7, x86, _, rfl, O91, (GM.le.refl _), ((fr89 4 rfl).trans t16), t94⟩
    ·rintro σ104 H105 fr106 ⟨x102, x103, G107, rfl, O108, s109, t111, t112⟩
     have h113 := tu2_inv h98
     refine .region ?_
     refine W.pure (v := (σ9 3)) rfl rfl (v_move (oo rfl ((fr106 3 rfl).trans ((fr89 3 rfl).trans rfl)))) ?_
     refine W.pure (v := (.int .i64 x103)) rfl rfl (v_move (oo rfl t112)) ?_
     refine W.lo rfl rfl (Lo.buildSlice (r := (rI .i64)) (vs := [(.int .i64 x103)]) (xs := [x103]) el24 ze3 sz3 (by kernel_rfl) rfl (qc rfl qn) rfl (.cons rfl .nil) O108) ?_
     rintro v116 H117 ⟨O114, sm115⟩
     obtain ⟨es119, e120, e121⟩ := src_own (j := 0) rfl O114
     obtain ⟨g122, h123⟩ := gd_inv h113
     refine W.lo rfl rfl (Lo.append (j := 1) (v := (σ9 3)) rfl rfl el24 ni24 ze3 sz3 by3 (by decide) (by decide) rfl e120 e121 g122 O114) ?_
     rintro v125 H126 ⟨O118, sm124⟩
     replace O118 : Ow G107 H126 (eSl v116 3 (rI .i64) [x103] :: eSl v125 3 (rI .i64) (x6 ++ [x103]) :: L) := O118
     refine W.pure (v := v125) rfl rfl (v_assign (oo rfl rfl)) ?_
     refine .nil ?_
     refine .region ?_
     refine W.pure (v := (.int .i64 (kwrap .i64 (x8 + 1)))) rfl rfl (v_int (oo rfl ((fr106 10 rfl).trans ((fr89 10 rfl).trans t17))) (oo rfl rfl) rfl) ?_
     refine W.pure (v := (.int .i64 (kwrap .i64 (x8 + 1)))) rfl rfl (v_move (oo rfl rfl)) ?_
     refine .nil ?_
     have O127 : Ow G107 H126 (eSl v125 3 (rI .i64) (x6 ++ [x103]) :: L) := O118.drop 0
     exact ⟨k5, Nat.lt_succ_self _, ⟨(x6 ++ [x103]), x102, kwrap .i64 (x8 + 1), _, h123, O127, (GM.le.trans s14 (GM.le.trans s92 s109)), t111, rfl⟩⟩
  ·have h128 := neg_b g18 h15
   refine .exit ?_
   obtain rfl := Option.some.inj h128
   exact ⟨x6, _, rfl, O13, s14⟩
 ·rintro σ130 H131 fr132 ⟨x129, G133, rfl, O134, s135⟩
  have h137 := tu1_inv h3
  refine .seq ?_
  refine .region ?_
  refine W.pure (v := (σ130 3)) rfl rfl (v_move (oo rfl rfl)) ?_
  refine W.pure (v := (σ130 3)) rfl rfl (v_assign (oo rfl rfl)) ?_
  refine .nil ?_
  refine .ret ?_
  obtain rfl := Option.some.inj h137
  refine ret1R (P := Try.prog) (fn := Try.f17) (n := 44) (R := fun v H' => ∃ w0 G', Ow G' H' (eSl w0 3 (rI .i64) x129 :: L) ∧ G.le G' ∧ w0 = v) (v1 := (σ130 3)) (by rfl) (rr_tmp (by rfl) (by exact rfl)) ?_
  exact ⟨(σ130 3), _, O134, s135, rfl⟩
def g_R_Buses (K : Nat) (p0 : Network) : Option (List Int) := ((g_R_Switching K p0).bind fun x17 => ((g_R_Closed K p0).bind fun x33 => ((g_R_Joined K (List.length p0.Nodes : Int) x17 x33).bind fun x50 => ((g_R_Numbers K x50).bind fun x63 => some x63))))
set_option maxHeartbeats 4000000 in
theorem g_R_Buses_ok (K : Nat) {G : GM} {H : AH} {L : List Pc} (v0 : List Value) (p0 : Network) (hp0 : T_Network.rep G v0 p0) (O : Ow G H (L)) (r : List Int) (h : g_R_Buses K p0 = some r) :
  CRF Try.prog 40 [.agg (List.toArray v0)] G H (fun w0 => (eSl w0 3 (rI .i64) r :: L)) (fun w0 v G' => w0 = v) := by
 unfold g_R_Buses at h
 refine CRF.of (calls_of_AW (n := 12) (fn := Try.f40) (R := fun v H' => ∃ w0 G', Ow G' H' (eSl w0 3 (rI .i64) r :: L) ∧ G.le G' ∧ w0 = v) (by kernel_rfl) rfl rfl ?_)
 refine .seq ?_
 refine .region ?_
 refine W.lo rfl rfl (Lo.box (r := T_Network) (x0 := p0) (v := (.agg (List.toArray v0))) rfl rfl hp0 O) ?_
 rintro v4 H5 ⟨b2, rfl, O1, sm3⟩
 refine W.pure (v := (.slice none 0 0)) rfl rfl (v_assign (oo rfl rfl)) ?_
 refine .nil ?_
 refine .seq ?_
 refine .draw2 (M := [0, 1, 3, 0, 8, 0, 56, 127, 255, 511]) mixed (by kernel_rfl) (by kernel_rfl) fun H6 N10 x7 F9 => ?_
 have O8 := O1.ext x7
 refine D2.pure (v := (padd (.pointer (some ⟨b2, 0, none⟩)) 0)) rfl rfl (v_fldA fl48_0 (oo rfl rfl) (O8.atVar (j := 0) rfl)) ?_
 obtain ⟨w11, p12, f13⟩ := At.sl (At.proj (O8.atVar (j := 0) rfl) p_Network_Nodes)
 refine D2.load1' (v := w11) (r := []) rfl rfl ag41 (pt_px rfl p12) fa_nil ?_
 refine D2.pure (v := (.int .i64 (List.length p0.Nodes : Int))) rfl rfl (len_sl (oo rfl rfl) (sl_len f13) (elemT_inv el41)) ?_
 obtain ⟨c14, p15, f16⟩ := (O8.atVar (j := 0) rfl)
 refine D2.loadA' (cs := c14) rfl rfl ag48 sz48 (pt_px rfl p15) (RT.len _ f16) fa_nil ?_
 obtain ⟨x17, i18, h19⟩ := bd_inv h
 refine D2.lo rfl rfl (Lo.callPF (ps := []) (pw := fun w => [eSl w 29 (rArr 2 (rI .i64)) x17]) rfl (fn := Try.f47) (by kernel_rfl) rfl (mc rfl mn) O8 (fun L' O' => g_R_Switching_ok K c14 p0 f16 O' _ i18)) ?_ fa_nil ?_ ?_
 ·rintro v28 H29 ⟨w25, G20, O21, s22, sm27, rfl⟩; exact (faR1 (.inl (by decide)) (faR1 (.inr (sm27 _ (Or.inr ⟨0, _, rfl, List.mem_singleton.2 rfl⟩))) fa_nil))
 ·rintro v28 H29 ⟨w25, G20, O21, s22, sm27, rfl⟩; exact fa_nil
 rintro v28 H29 ⟨w25, G20, O21, s22, sm27, rfl⟩
 replace O21 : Ow G20 H29 (eSl w25 29 (rArr 2 (rI .i64)) x17 :: eVar b2 48 T_Network p0 :: L) := O21
 obtain ⟨c30, p31, f32⟩ := (O21.atVar (j := 1) rfl)
 refine D2.loadA' (cs := c30) rfl rfl ag48 sz48 (pt_px rfl p31) (RT.len _ f32) (faQ_eq (sm27 _ (Or.inr ⟨0, _, rfl, List.mem_singleton.2 rfl⟩)) fa_nil) ?_
 obtain ⟨x33, i34, h35⟩ := bd_inv h19
 refine D2.lo rfl rfl (Lo.callP (ps := []) (ps' := []) rfl (fn := Try.f48) (by kernel_rfl) rfl (mc rfl mn) O21 (fun L' O' => g_R_Closed_ok K c30 p0 f32 O' _ i34)) ?_ (faL_bit (by decide) fa_nil) ?_ ?_
 ·rintro v44 H45 ⟨G36, O37, s38, sm43, ⟨w40, rfl, f41⟩⟩; exact (faR1 (.inl (by decide)) (faR1 (.inl (by decide)) (faR1 (.inr (sm43 _ (Or.inr ⟨1, _, rfl, List.mem_singleton.2 rfl⟩))) fa_nil)))
 ·rintro v44 H45 ⟨G36, O37, s38, sm43, ⟨w40, rfl, f41⟩⟩; exact fa_nil
 rintro v44 H45 ⟨G36, O37, s38, sm43, ⟨w40, rfl, f41⟩⟩
 replace O37 : Ow G36 H45 (eSl w25 29 (rArr 2 (rI .i64)) x17 :: eVar b2 48 T_Network p0 :: L) := O37
 obtain ⟨G46, O47, s48, f49⟩ := O37.frzSl (j := 0) rfl
 replace O47 : Ow G46 H45 (eVar b2 48 T_Network p0 :: L) := O47
 obtain ⟨x50, i51, h52⟩ := bd_inv h35
 refine D2.lo rfl rfl (Lo.callP (ps := []) (ps' := []) rfl (fn := Try.f14) (by kernel_rfl) rfl (mc rfl (mc rfl (mc rfl mn))) O47 (fun L' O' => g_R_Joined_ok K (List.length p0.Nodes : Int) w25 x17 f49 w40 x33 (FnOk.le f41 s48) O' _ i51)) ?_ (faL_bit (by decide) (faL_bit (by decide) fa_nil)) ?_ ?_
 ·rintro v61 H62 ⟨G53, O54, s55, sm60, ⟨w57, rfl, f58⟩⟩; exact (faR1 (.inl (by decide)) (faR1 (.inl (by decide)) (faR1 (.inl (by decide)) fa_nil)))
 ·rintro v61 H62 ⟨G53, O54, s55, sm60, ⟨w57, rfl, f58⟩⟩; exact fa_nil
 rintro v61 H62 ⟨G53, O54, s55, sm60, ⟨w57, rfl, f58⟩⟩
 replace O54 : Ow G53 H62 (eVar b2 48 T_Network p0 :: L) := O54
 obtain ⟨x63, i64, h65⟩ := bd_inv h52
 refine D2.lo rfl rfl (Lo.callPF (ps := []) (pw := fun w => [eSl w 3 (rI .i64) x63]) rfl (fn := Try.f17) (by kernel_rfl) rfl (mc rfl mn) O54 (fun L' O' => g_R_Numbers_ok K w57 x50 f58 O' _ i64)) ?_ (faL_bit (by decide) (faL_bit (by decide) (faL_bit (by decide) fa_nil))) ?_ ?_
 ·rintro v74 H75 ⟨w71, G66, O67, s68, sm73, rfl⟩; exact (faR1 (.inl (by decide)) (faR1 (.inl (by decide)) (faR1 (.inl (by decide)) fa_nil)))
 ·rintro v74 H75 ⟨w71, G66, O67, s68, sm73, rfl⟩; exact fa_nil
 rintro v74 H75 ⟨w71, G66, O67, s68, sm73, rfl⟩
 replace O67 : Ow G66 H75 (eSl w71 3 (rI .i64) x63 :: eVar b2 48 T_Network p0 :: L) := O67
 refine D2.pure (v := w71) rfl rfl (v_assign (oo rfl rfl)) ?_
 refine .nil ?_
 refine .ret ?_
 have O76 : Ow G66 H75 (eSl w71 3 (rI .i64) x63 :: L) := O67.drop 1
 obtain rfl := Option.some.inj h65
 refine ret1R (P := Try.prog) (fn := Try.f40) (n := 12) (R := fun v H' => ∃ w0 G', Ow G' H' (eSl w0 3 (rI .i64) x63 :: L) ∧ G.le G' ∧ w0 = v) (v1 := w71) (by rfl) (rr_tmp (by rfl) (by exact rfl)) ?_
 exact ⟨w71, _, O76, (GM.le.trans s22 (GM.le.trans s38 (GM.le.trans s48 (GM.le.trans s55 s68)))), rfl⟩
def g_R_Topology_1 (K : Nat) (p0 : Int) (p1 : Int) (p2 : Network) : Option Bool := (Option.bind ((if (decide (p0 ≥ p1)) = true then some true else ((idx p2.Switches p0).bind fun x11 => some (!x11.Open)))) (tu1 fun x15 => some x15))
set_option maxHeartbeats 4000000 in
theorem g_R_Topology_1_ok (K : Nat) {G : GM} {H : AH} {L : List Pc} (p0 : Int) (v1 : Value) (p1 : Int) (hp1 : At G G v1 (rI .i64) p1) (v2 : Value) (p2 : Network) (hp2 : At G G v2 T_Network p2) (O : Ow G H (L)) (r : Bool) (h : g_R_Topology_1 K p0 p1 p2 = some r) :
  CR Try.prog 83 [(.int .i64 p0), v1, v2] G H (L) (fun v G' _ => v = .bool r) := by
 unfold g_R_Topology_1 at h
 refine CR.of (calls_of_AW (n := 17) (fn := Try.f83) (R := fun v H' => ∃ G', Ow G' H' (L) ∧ G.le G' ∧ v = .bool r) (by kernel_rfl) rfl rfl ?_)
 refine .seq ?_
 refine .region ?_
 refine W.pure (v := (.bool false)) rfl rfl (v_assign (oo rfl rfl)) ?_
 refine .nil ?_
 refine .seq ?_
 obtain ⟨q1, h2, h3⟩ := bd_inv h
 refine AW.midT (fun σ' H' => ∃ (y1 : Bool) (G' : GM), y1 = q1 ∧ Ow G' H' (L) ∧ GM.le G G' ∧ σ' 4 = .bool y1) ?_ ?_
 ·refine .region ?_
  refine W.pure (v := (.int .i64 p0)) rfl rfl (v_move (oo rfl rfl)) ?_
  refine W.load1 (v := (.int .i64 p1)) (r := []) rfl rfl ag3 (pt_px rfl (At.int (At.le hp1 (GM.le.refl _) O.fro))) ?_
  refine W.pure (v := (.bool (decide (p0 ≥ p1)))) rfl rfl (v_int (oo rfl rfl) (oo rfl rfl) rfl) ?_
  refine W.pure (v := (.bool (decide (p0 ≥ p1)))) rfl rfl (v_move (oo rfl rfl)) ?_
  refine W.splitAt (t := 8) (b := decide (p0 ≥ p1)) rfl (fun g4 gv5 => ?_) (fun g4 gv5 => ?_)
  ·have h6 := pos_inv g4 h2
   refine W.skip (gk rfl rfl gv5 rfl) rfl ?_
   refine W.skip (gk rfl rfl gv5 rfl) rfl ?_
   refine W.skip (gk rfl rfl gv5 rfl) rfl ?_
   refine W.skip (gk rfl rfl gv5 rfl) rfl ?_
   refine W.skip (gk rfl rfl gv5 rfl) rfl ?_
   refine W.skip (gk rfl rfl gv5 rfl) rfl ?_
   refine W.skip (gk rfl rfl gv5 rfl) rfl ?_
   refine W.pure (v := (.bool true)) rfl rfl (v_pickT (oo rfl gv5) (oo rfl rfl)) ?_
   refine W.pure (v := (.bool true)) rfl rfl (v_assign (oo rfl rfl)) ?_
   refine .nil ?_
   obtain rfl := Option.some.inj h6
   exact ⟨true, _, rfl, O, (GM.le.refl _), rfl⟩
  ·have h7 := neg_b g4 h2
   refine W.pure (v := (padd v2 1)) (gk rfl rfl gv5 rfl) rfl (v_fldA fl48_1 (oo rfl rfl) (At.le hp2 (GM.le.refl _) O.fro)) ?_
   obtain ⟨w8, p9, f10⟩ := At.sl (At.proj hp2 p_Network_Switches)
   replace p9 := PtG.le p9 O.fro
   refine W.load1 (v := w8) (r := []) (gk rfl rfl gv5 rfl) rfl ag42 (pt_px rfl p9) ?_
   refine W.pure (v := (.int .i64 p0)) (gk rfl rfl gv5 rfl) rfl (v_move (oo rfl rfl)) ?_
   obtain ⟨x11, i12, h13⟩ := bd_inv h7
   have j14 := idx_inv i12
   refine W.pure (v := (selem w8 (Int.toNat p0 * 5))) (gk rfl rfl gv5 rfl) rfl (v_idx el42 sz81 (oo rfl rfl) (oo rfl rfl) (sl_len f10) j14.1 j14.2.1) ?_
   refine W.pure (v := (padd (selem w8 (Int.toNat p0 * 5)) 4)) (gk rfl rfl gv5 rfl) rfl (v_fldA fl81_4 (oo rfl rfl) (At.le (sl_idx f10 j14.2.2) (GM.le.refl _) O.fro)) ?_
   refine W.load1 (v := (.bool x11.Open)) (r := []) (gk rfl rfl gv5 rfl) rfl ag4 (pt_px rfl (At.bool (At.le (At.proj (sl_idx f10 j14.2.2) p_Switch_Open) (GM.le.refl _) O.fro))) ?_
   refine W.pure (v := (.bool (!x11.Open))) (gk rfl rfl gv5 rfl) rfl (bool_not (a := x11.Open) (oo rfl rfl)) ?_
   refine W.pure (v := (.bool (!x11.Open))) rfl rfl (v_pickF (oo rfl gv5) (oo rfl rfl)) ?_
   refine W.pure (v := (.bool (!x11.Open))) rfl rfl (v_assign (oo rfl rfl)) ?_
   refine .nil ?_
   obtain rfl := Option.some.inj h13
   exact ⟨(!x11.Open), _, rfl, O, (GM.le.refl _), rfl⟩
 ·rintro σ16 H17 fr18 ⟨x15, G19, rfl, O20, s21, t23⟩
  have h24 := tu1_inv h3
  refine .ret ?_
  obtain rfl := Option.some.inj h24
  refine ret1R (P := Try.prog) (fn := Try.f83) (n := 17) (R := fun v H' => ∃ G', Ow G' H' (L) ∧ G.le G' ∧ v = .bool x15) (v1 := (.bool x15)) (by rfl) (rr_tmp (by rfl) (by exact t23)) ?_
  exact ⟨_, O20, s21, rfl⟩
def g_R_Most_l0 (K : Nat) (p0 : List Int) : Nat → Int → Int → Option (Int)
 | 0, _, _ => none
 | k + 1, x5, x6 => (if (decide (x6 < (List.length p0 : Int))) = true then (Option.bind (((idx p0 x6).bind fun x21 => (if (decide (x21 ≥ x5)) = true then some (kwrap .i64 (x21 + 1)) else some x5))) (tu1 fun x28 => g_R_Most_l0 K p0 k x28 (kwrap .i64 (x6 + 1)))) else some x5)
def g_R_Most (K : Nat) (p0 : List Int) : Option Int := (Option.bind (g_R_Most_l0 K p0 K 0 0) (tu1 fun x39 => some x39))
set_option maxHeartbeats 4000000 in
theorem g_R_Most_ok (K : Nat) {G : GM} {H : AH} {L : List Pc} (v0 : Value) (p0 : List Int) (hp0 : (rSl (rI .i64)).rep G [v0] p0) (O : Ow G H (L)) (r : Int) (h : g_R_Most K p0 = some r) :
  CR Try.prog 32 [v0] G H (L) (fun v G' _ => v = .int .i64 r) := by
 unfold g_R_Most at h
 refine CR.of (calls_of_AW (n := 19) (fn := Try.f32) (R := fun v H' => ∃ G', Ow G' H' (L) ∧ G.le G' ∧ v = .int .i64 r) (by kernel_rfl) rfl rfl ?_)
 refine .seq ?_
 refine .region ?_
 refine W.pure (v := (.int .i64 0)) rfl rfl (v_assign (oo rfl rfl)) ?_
 refine .nil ?_
 refine .seq ?_
 refine .region ?_
 refine W.pure (v := (.int .i64 0)) rfl rfl (v_assign (oo rfl rfl)) ?_
 refine .nil ?_
 refine .seq ?_
 refine .seq ?_
 refine .region ?_
 refine W.pure (v := v0) rfl rfl (v_move (oo rfl rfl)) ?_
 refine W.pure (v := (.int .i64 (List.length p0 : Int))) rfl rfl (len_sl (oo rfl rfl) (sl_len hp0) (elemT_inv el24)) ?_
 refine W.pure (v := (.int .i64 0)) rfl rfl (v_move (oo rfl rfl)) ?_
 refine .nil ?_
 obtain ⟨q1, h2, h3⟩ := bd_inv h
 refine AW.midT (fun σ' H' => ∃ (y1 : Int) (G' : GM), y1 = q1 ∧ Ow G' H' (L) ∧ GM.le G G' ∧ σ' 3 = .int .i64 y1) ?_ ?_
 ·refine .block ?_
  refine AW.loop (α := Nat) (fun k' σ' H' => ∃ (y1 : Int) (y2 : Int) (G' : GM), g_R_Most_l0 K p0 k' y1 y2 = some q1 ∧ Ow G' H' (L) ∧ GM.le G G' ∧ σ' 3 = .int .i64 y1 ∧ σ' 8 = .int .i64 y2) (fun k' => k') K ⟨0, 0, _, h2, O, (GM.le.refl _), rfl, rfl⟩ ?_
  rintro k4
  rintro σ7 H8 fr9 ⟨x5, x6, G10, h13, O11, s12, t14, t15⟩
  rcases k4 with _ | k4
  ·exact none_absurd h13
  rw [g_R_Most_l0] at h13
  refine .seq ?_
  refine .region ?_
  refine W.pure (v := (.bool (decide (x6 < (List.length p0 : Int))))) rfl rfl (v_int (oo rfl t15) (oo rfl ((fr9 7 rfl).trans rfl)) rfl) ?_
  refine .nil ?_
  refine .seq ?_
  refine .cond (b := decide (x6 < (List.length p0 : Int))) rfl rfl (fun g16 => ?_) (fun g16 => ?_)
  ·have h17 := pos_inv g16 h13
   refine .skip ?_
   refine .seq ?_
   obtain ⟨q18, h19, h20⟩ := bd_inv h17
   refine AW.midT (fun σ' H' => ∃ (y1 : Int) (G' : GM), y1 = q18 ∧ Ow G' H' (L) ∧ GM.le G10 G' ∧ σ' 3 = .int .i64 y1) ?_ ?_
   ·refine .block ?_
    refine .seq ?_
    refine .region ?_
    obtain ⟨x21, i22, h23⟩ := bd_inv h19
    have j24 := idx_inv i22
    refine W.pure (v := (selem v0 (Int.toNat x6 * 1))) rfl rfl (v_idx el24 sz3 (oo rfl ((fr9 6 rfl).trans rfl)) (oo rfl t15) (sl_len (RT.mono _ s12 hp0)) j24.1 j24.2.1) ?_
    refine W.load1 (v := (.int .i64 x21)) (r := []) rfl rfl ag3 (pt_px rfl (At.int (At.le (At.le (sl_idx hp0 j24.2.2) s12 s12) (GM.le.refl _) O11.fro))) ?_
    refine W.pure (v := (.int .i64 x21)) rfl rfl (v_assign (oo rfl rfl)) ?_
    refine .nil ?_
    refine .seq ?_
    refine .region ?_
    refine W.pure (v := (.int .i64 x21)) rfl rfl (v_move (oo rfl rfl)) ?_
    refine W.pure (v := (.int .i64 x5)) rfl rfl (v_move (oo rfl t14)) ?_
    refine W.pure (v := (.bool (decide (x21 ≥ x5)))) rfl rfl (v_int (oo rfl rfl) (oo rfl rfl) rfl) ?_
    refine .nil ?_
    refine .cond (b := decide (x21 ≥ x5)) rfl rfl (fun g25 => ?_) (fun g25 => ?_)
    ·have h26 := pos_inv g25 h23
     refine .region ?_
     refine W.pure (v := (.int .i64 x21)) rfl rfl (v_move (oo rfl rfl)) ?_
     refine W.pure (v := (.int .i64 (kwrap .i64 (x21 + 1)))) rfl rfl (v_int (oo rfl rfl) (oo rfl rfl) rfl) ?_
     refine W.pure (v := (.int .i64 (kwrap .i64 (x21 + 1)))) rfl rfl (v_assign (oo rfl rfl)) ?_
     refine .nil ?_
     obtain rfl := Option.some.inj h26
     exact ⟨kwrap .i64 (x21 + 1), _, rfl, O11, (GM.le.refl _), rfl⟩
    ·have h27 := neg_b g25 h23
     refine .skip ?_
     obtain rfl := Option.some.inj h27
     exact ⟨x5, _, rfl, O11, (GM.le.refl _), t14⟩
   ·rintro σ29 H30 fr31 ⟨x28, G32, rfl, O33, s34, t36⟩
    have h37 := tu1_inv h20
    refine .region ?_
    refine W.pure (v := (.int .i64 (kwrap .i64 (x6 + 1)))) rfl rfl (v_int (oo rfl ((fr31 8 rfl).trans t15)) (oo rfl rfl) rfl) ?_
    refine W.pure (v := (.int .i64 (kwrap .i64 (x6 + 1)))) rfl rfl (v_move (oo rfl rfl)) ?_
    refine .nil ?_
    exact ⟨k4, Nat.lt_succ_self _, ⟨x28, kwrap .i64 (x6 + 1), _, h37, O33, (GM.le.trans s12 s34), t36, rfl⟩⟩
  ·have h38 := neg_b g16 h13
   refine .exit ?_
   obtain rfl := Option.some.inj h38
   exact ⟨x5, _, rfl, O11, s12, t14⟩
 ·rintro σ40 H41 fr42 ⟨x39, G43, rfl, O44, s45, t47⟩
  have h48 := tu1_inv h3
  refine .seq ?_
  refine .region ?_
  refine W.pure (v := (.int .i64 x39)) rfl rfl (v_move (oo rfl t47)) ?_
  refine W.pure (v := (.int .i64 x39)) rfl rfl (v_assign (oo rfl rfl)) ?_
  refine .nil ?_
  refine .ret ?_
  obtain rfl := Option.some.inj h48
  refine ret1R (P := Try.prog) (fn := Try.f32) (n := 19) (R := fun v H' => ∃ G', Ow G' H' (L) ∧ G.le G' ∧ v = .int .i64 x39) (v1 := (.int .i64 x39)) (by rfl) (rr_tmp (by rfl) (by exact rfl)) ?_
  exact ⟨_, O44, s45, rfl⟩
def g_R_Topology_l0 (K : Nat) (p0 : Network) : Nat → List (List Int) → Int → Option (List (List Int))
 | 0, _, _ => none
 | k + 1, x59, x60 => (if (decide (x60 < (List.length p0.Branches : Int))) = true then ((idx p0.Branches x60).bind fun x71 => ((g_R_Place K p0.Nodes x71.From).bind fun x95 => ((g_R_Place K p0.Nodes x71.To).bind fun x109 => (if List.length x59 + List.length [[x95, x109]] ≤ 16777216 then g_R_Topology_l0 K p0 k (x59 ++ [[x95, x109]]) (kwrap .i64 (x60 + 1)) else none)))) else some x59)
def g_R_Topology_l2 (K : Nat) (x14 : List Int) (x176 : List Int) : Nat → List Int → Int → Option (List Int)
 | 0, _, _ => none
 | k + 1, x210, x211 => (if (decide (x211 < (List.length x14 : Int))) = true then ((idx x14 x211).bind fun x222 => ((idx x176 x211).bind fun x226 => ((idx x210 x222).bind fun x230 => g_R_Topology_l2 K x14 x176 k (List.set x210 (Int.toNat x222) x226) (kwrap .i64 (x211 + 1))))) else some x210)
def g_R_Topology (K : Nat) (p0 : Network) : Option Topology := ((g_R_Buses K p0).bind fun x14 => ((g_R_Switching K p0).bind fun x30 => (Option.bind (g_R_Topology_l0 K p0 K x30 0) (tu1 fun x139 => ((g_R_Joined K (List.length p0.Nodes : Int) x139 (fun x => g_R_Topology_1 K x (List.length x30 : Int) p0)).bind fun x163 => ((g_R_Numbers K x163).bind fun x176 => ((g_R_Most K x14).bind fun x189 => (if 0 ≤ x189 ∧ x189 ≤ x189 ∧ x189 ≤ 16777216 then (Option.bind (g_R_Topology_l2 K x14 x176 K (List.replicate (Int.toNat x189) 0) 0) (tu1 fun x239 => some (Topology.mk x14 x239))) else none))))))))
set_option maxHeartbeats 4000000 in
theorem g_R_Topology_ok (K : Nat) {G : GM} {H : AH} {L : List Pc} (v0 : List Value) (p0 : Network) (hp0 : T_Network.rep G v0 p0) (O : Ow G H (L)) (r : Topology) (h : g_R_Topology K p0 = some r) :
  CR Try.prog 31 [.agg (List.toArray v0)] G H (L) (fun v G' _ => ∃ (w0 : List Value), v = .agg (List.toArray w0) ∧ T_Topology.rep G' w0 r) := by
 unfold g_R_Topology at h
 refine CR.of (calls_of_AW (n := 70) (fn := Try.f31) (R := fun v H' => ∃ G', Ow G' H' (L) ∧ G.le G' ∧ ∃ (w0 : List Value), v = .agg (List.toArray w0) ∧ T_Topology.rep G' w0 r) (by kernel_rfl) rfl rfl ?_)
 refine .seq ?_
 refine .region ?_
 refine W.lo rfl rfl (Lo.box (r := T_Network) (x0 := p0) (v := (.agg (List.toArray v0))) rfl rfl hp0 O) ?_
 rintro v4 H5 ⟨b2, rfl, O1, sm3⟩
 refine W.lo rfl rfl (Lo.alloc (r := T_Topology) (x0 := (Topology.mk ([] : List Int) ([] : List Int))) ze56 (by kernel_rfl) z_Topology O1) ?_
 rintro v9 H10 ⟨b7, rfl, O6, sm8⟩
 refine .nil ?_
 refine .seq ?_
 refine .region ?_
 obtain ⟨c11, p12, f13⟩ := (O6.atVar (j := 1) rfl)
 refine W.loadA (cs := c11) rfl rfl ag48 sz48 (pt_px rfl p12) (RT.len _ f13) ?_
 obtain ⟨x14, i15, h16⟩ := bd_inv h
 refine W.lo rfl rfl (Lo.callPF (ps := []) (pw := fun w => [eSl w 3 (rI .i64) x14]) rfl (fn := Try.f40) (by kernel_rfl) rfl (mc rfl mn) O6 (fun L' O' => g_R_Buses_ok K c11 p0 f13 O' _ i15)) ?_
 rintro v25 H26 ⟨w22, G17, O18, s19, sm24, rfl⟩
 replace O18 : Ow G17 H26 (eSl w22 3 (rI .i64) x14 :: eVar b7 56 T_Topology (Topology.mk ([] : List Int) ([] : List Int)) :: eVar b2 48 T_Network p0 :: L) := O18
 refine W.pure (v := w22) rfl rfl (v_assign (oo rfl rfl)) ?_
 refine .nil ?_
 refine .seq ?_
 refine .region ?_
 obtain ⟨c27, p28, f29⟩ := (O18.atVar (j := 2) rfl)
 refine W.loadA (cs := c27) rfl rfl ag48 sz48 (pt_px rfl p28) (RT.len _ f29) ?_
 obtain ⟨x30, i31, h32⟩ := bd_inv h16
 refine W.lo rfl rfl (Lo.callPF (ps := []) (pw := fun w => [eSl w 29 (rArr 2 (rI .i64)) x30]) rfl (fn := Try.f47) (by kernel_rfl) rfl (mc rfl mn) O18 (fun L' O' => g_R_Switching_ok K c27 p0 f29 O' _ i31)) ?_
 rintro v41 H42 ⟨w38, G33, O34, s35, sm40, rfl⟩
 replace O34 : Ow G33 H42 (eSl w38 29 (rArr 2 (rI .i64)) x30 :: eSl w22 3 (rI .i64) x14 :: eVar b7 56 T_Topology (Topology.mk ([] : List Int) ([] : List Int)) :: eVar b2 48 T_Network p0 :: L) := O34
 refine W.pure (v := w38) rfl rfl (v_assign (oo rfl rfl)) ?_
 refine .nil ?_
 refine .seq ?_
 refine .region ?_
 refine W.pure (v := w38) rfl rfl (v_move (oo rfl rfl)) ?_
 refine W.pure (v := (.int .i64 (List.length x30 : Int))) rfl rfl (len_sl (oo rfl rfl) (O34.slLen (j := 0) rfl) (elemT_inv el22)) ?_
 refine W.lo rfl rfl (Lo.alloc (r := (rI .i64)) (x0 := 0) ze3 (by kernel_rfl) (zI .i64) O34) ?_
 rintro v46 H47 ⟨b44, rfl, O43, sm45⟩
 refine W.lo rfl rfl (Lo.storeVar (j := 0) (s := (rI .i64)) (y0 := (List.length x30 : Int)) (v := (.int .i64 (List.length x30 : Int))) (o := 0) rfl ((Put.at (Put.self _) _ _)) rfl sz3 rfl (by omega) rfl rfl O43) ?_
 rintro v50 H51 ⟨O48, sm49⟩
 replace O48 : Ow G33 H51 (eVar b44 3 (rI .i64) (List.length x30 : Int) :: eSl w38 29 (rArr 2 (rI .i64)) x30 :: eSl w22 3 (rI .i64) x14 :: eVar b7 56 T_Topology (Topology.mk ([] : List Int) ([] : List Int)) :: eVar b2 48 T_Network p0 :: L) := O48
 refine .nil ?_
 refine .seq ?_
 refine .seq ?_
 refine .region ?_
 refine W.pure (v := (padd (.pointer (some ⟨b2, 0, none⟩)) 2)) rfl rfl (v_fldA fl48_2 (oo rfl rfl) (O48.atVar (j := 4) rfl)) ?_
 obtain ⟨w52, p53, f54⟩ := At.sl (At.proj (O48.atVar (j := 4) rfl) p_Network_Branches)
 refine W.load1 (v := w52) (r := []) rfl rfl ag43 (pt_px rfl p53) ?_
 refine W.pure (v := (.int .i64 (List.length p0.Branches : Int))) rfl rfl (len_sl (oo rfl rfl) (sl_len f54) (elemT_inv el43)) ?_
 refine W.pure (v := (.int .i64 0)) rfl rfl (v_move (oo rfl rfl)) ?_
 refine .nil ?_
 obtain ⟨q55, h56, h57⟩ := bd_inv h32
 refine AW.midT (fun σ' H' => ∃ (y1 : List (List Int)) (G' : GM), y1 = q55 ∧ Ow G' H' (eVar b44 3 (rI .i64) (List.length x30 : Int) :: eSl (σ' 4) 29 (rArr 2 (rI .i64)) y1 :: eSl w22 3 (rI .i64) x14 :: eVar b7 56 T_Topology (Topology.mk ([] : List Int) ([] : List Int)) :: eVar b2 48 T_Network p0 :: L) ∧ GM.le G33 G') ?_ ?_
 ·refine .block ?_
  refine AW.loop (α := Nat) (fun k' σ' H' => ∃ (y1 : List (List Int)) (y2 : Int) (G' : GM), g_R_Topology_l0 K p0 k' y1 y2 = some q55 ∧ Ow G' H' (eVar b44 3 (rI .i64) (List.length x30 : Int) :: eSl (σ' 4) 29 (rArr 2 (rI .i64)) y1 :: eSl w22 3 (rI .i64) x14 :: eVar b7 56 T_Topology (Topology.mk ([] : List Int) ([] : List Int)) :: eVar b2 48 T_Network p0 :: L) ∧ GM.le G33 G' ∧ σ' 22 = .int .i64 y2) (fun k' => k') K ⟨x30, 0, _, h56, O48, (GM.le.refl _), rfl⟩ ?_
  rintro k58
  rintro σ61 H62 fr63 ⟨x59, x60, G64, h67, O65, s66, t68⟩
  rcases k58 with _ | k58
  ·exact none_absurd h67
  rw [g_R_Topology_l0] at h67
  refine .seq ?_
  refine .region ?_
  refine W.pure (v := (.bool (decide (x60 < (List.length p0.Branches : Int))))) rfl rfl (v_int (oo rfl t68) (oo rfl ((fr63 21 rfl).trans rfl)) rfl) ?_
  refine .nil ?_
  refine .seq ?_
  refine .cond (b := decide (x60 < (List.length p0.Branches : Int))) rfl rfl (fun g69 => ?_) (fun g69 => ?_)
  ·have h70 := pos_inv g69 h67
   refine .skip ?_
   refine .seq ?_
   refine .block ?_
   refine .seq ?_
   refine .region ?_
   obtain ⟨x71, i72, h73⟩ := bd_inv h70
   have j74 := idx_inv i72
   refine W.pure (v := (selem w52 (Int.toNat x60 * 9))) rfl rfl (v_idx el43 sz50 (oo rfl ((fr63 20 rfl).trans rfl)) (oo rfl t68) (sl_len (RT.mono _ s66 f54)) j74.1 j74.2.1) ?_
   obtain ⟨c75, p76, f77⟩ := (At.le (At.le (sl_idx f54 j74.2.2) s66 s66) (GM.le.refl _) O65.fro)
   refine W.loadA (cs := c75) rfl rfl ag50 sz50 (pt_px rfl p76) (RT.len _ f77) ?_
   refine W.lo rfl rfl (Lo.alloc (r := T_Branch) (x0 := (Branch.mk ByteArray.empty ByteArray.empty ByteArray.empty 0 0 0 0 0 0)) ze50 (by kernel_rfl) z_Branch O65) ?_
   rintro v81 H82 ⟨b79, rfl, O78, sm80⟩
   refine W.lo rfl rfl (Lo.storeVar (j := 0) (s := T_Branch) (y0 := x71) (v := (.agg (List.toArray c75))) (o := 0) rfl ((Put.at (Put.self _) _ _)) rfl sz50 rfl (by omega) rfl f77 O78) ?_
   rintro v85 H86 ⟨O83, sm84⟩
   replace O83 : Ow G64 H86 (eVar b79 50 T_Branch x71 :: eVar b44 3 (rI .i64) (List.length x30 : Int) :: eSl (σ61 4) 29 (rArr 2 (rI .i64)) x59 :: eSl w22 3 (rI .i64) x14 :: eVar b7 56 T_Topology (Topology.mk ([] : List Int) ([] : List Int)) :: eVar b2 48 T_Network p0 :: L) := O83
   refine .nil ?_
   refine .draw2 (M := [0, 0, 2, 0, 8, 30, 0, 64, 0, 256, 1022, 2046, 4094, 8191, 16383]) mixed (by kernel_rfl) (by kernel_rfl) fun H87 N91 x88 F90 => ?_
   have O89 := O83.ext x88
   refine D2.pure (v := (σ61 4)) rfl rfl (v_move (oo rfl rfl)) ?_
   refine D2.pure (v := (padd (.pointer (some ⟨b2, 0, none⟩)) 0)) rfl rfl (v_fldA fl48_0 (oo rfl ((fr63 1 rfl).trans rfl)) (O89.atVar (j := 5) rfl)) ?_
   obtain ⟨w92, p93, f94⟩ := At.sl (At.proj (O89.atVar (j := 5) rfl) p_Network_Nodes)
   refine D2.load1' (v := w92) (r := []) rfl rfl ag41 (pt_px rfl p93) fa_nil ?_
   refine D2.pure (v := (padd (.pointer (some ⟨b79, 0, none⟩)) 1)) rfl rfl (v_fldA fl50_1 (oo rfl rfl) (O89.atVar (j := 0) rfl)) ?_
   refine D2.load1' (v := (.string x71.From)) (r := []) rfl rfl ag9 (pt_px rfl (At.str (At.proj (O89.atVar (j := 0) rfl) p_Branch_From))) fa_nil ?_
   obtain ⟨x95, i96, h97⟩ := bd_inv h73
   refine D2.lo rfl rfl (Lo.callP (ps := []) (ps' := []) rfl (fn := Try.f46) (by kernel_rfl) rfl (mc rfl (mc rfl mn)) O89 (fun L' O' => g_R_Place_ok K w92 p0.Nodes f94 x71.From O' _ i96)) ?_ fa_nil ?_ ?_
   ·rintro v104 H105 ⟨G98, O99, s100, sm103, rfl⟩; exact (faR1 (.inl (by decide)) (faR1 (.inl (by decide)) fa_nil))
   ·rintro v104 H105 ⟨G98, O99, s100, sm103, rfl⟩; exact fa_nil
   rintro v104 H105 ⟨G98, O99, s100, sm103, rfl⟩
   replace O99 : Ow G98 H105 (eVar b79 50 T_Branch x71 :: eVar b44 3 (rI .i64) (List.length x30 : Int) :: eSl (σ61 4) 29 (rArr 2 (rI .i64)) x59 :: eSl w22 3 (rI .i64) x14 :: eVar b7 56 T_Topology (Topology.mk ([] : List Int) ([] : List Int)) :: eVar b2 48 T_Network p0 :: L) := O99
   refine D2.pure (v := (padd (.pointer (some ⟨b2, 0, none⟩)) 0)) rfl rfl (v_fldA fl48_0 (oo rfl ((fr63 1 rfl).trans rfl)) (O99.atVar (j := 5) rfl)) ?_
   obtain ⟨w106, p107, f108⟩ := At.sl (At.proj (O99.atVar (j := 5) rfl) p_Network_Nodes)
   refine D2.load1' (v := w106) (r := []) rfl rfl ag41 (pt_px rfl p107) (faQ_eq (sm103 _ (Or.inr ⟨5, _, rfl, List.mem_singleton.2 rfl⟩)) fa_nil) ?_
   refine D2.pure (v := (padd (.pointer (some ⟨b79, 0, none⟩)) 2)) rfl rfl (v_fldA fl50_2 (oo rfl rfl) (O99.atVar (j := 0) rfl)) ?_
   refine D2.load1' (v := (.string x71.To)) (r := []) rfl rfl ag9 (pt_px rfl (At.str (At.proj (O99.atVar (j := 0) rfl) p_Branch_To))) (faQ_eq (sm103 _ (Or.inr ⟨0, _, rfl, List.mem_singleton.2 rfl⟩)) fa_nil) ?_
   obtain ⟨x109, i110, h111⟩ := bd_inv h97
   refine D2.lo rfl rfl (Lo.callP (ps := []) (ps' := []) rfl (fn := Try.f46) (by kernel_rfl) rfl (mc rfl (mc rfl mn)) O99 (fun L' O' => g_R_Place_ok K w106 p0.Nodes f108 x71.To O' _ i110)) ?_ (faL_bit (by decide) fa_nil) ?_ ?_
   ·rintro v118 H119 ⟨G112, O113, s114, sm117, rfl⟩; exact (faR1 (.inl (by decide)) (faR1 (.inl (by decide)) (faR1 (.inl (by decide)) (faR1 (.inl (by decide)) fa_nil))))
   ·rintro v118 H119 ⟨G112, O113, s114, sm117, rfl⟩; exact fa_nil
   rintro v118 H119 ⟨G112, O113, s114, sm117, rfl⟩
   replace O113 : Ow G112 H119 (eVar b79 50 T_Branch x71 :: eVar b44 3 (rI .i64) (List.length x30 : Int) :: eSl (σ61 4) 29 (rArr 2 (rI .i64)) x59 :: eSl w22 3 (rI .i64) x14 :: eVar b7 56 T_Topology (Topology.mk ([] : List Int) ([] : List Int)) :: eVar b2 48 T_Network p0 :: L) := O113
   obtain ⟨c120, e122, f121⟩ := v_buildAA (P := Try.prog) (r := (rI .i64)) (vs := [(.int .i64 x95), (.int .i64 x109)]) (xs := [x95, x109]) ar29 sz3 ze29 zo29 rfl (by kernel_rfl) (.cons rfl (.cons rfl .nil))
   refine D2.pure (v := .agg (List.toArray c120)) rfl rfl (e122 (opndP_oo rfl (qc rfl (qc rfl qn)))) ?_
   refine D2.lo rfl rfl (Lo.buildSlice (r := (rArr 2 (rI .i64))) (vs := [(.agg (List.toArray c120))]) (xs := [[x95, x109]]) el22 ze29 sz29 (by kernel_rfl) rfl (qc rfl qn) rfl (.cons f121 .nil) O113) ?_ (faL_bit (by decide) (faL_bit (by decide) fa_nil)) ?_ ?_
   ·rintro v125 H126 ⟨O123, sm124⟩; exact (faR1 (.inl (by decide)) (faR1 (.inl (by decide)) (faR1 (.inl (by decide)) (faR1 (.inl (by decide)) fa_nil))))
   ·rintro v125 H126 ⟨O123, sm124⟩; exact fa_nil
   rintro v125 H126 ⟨O123, sm124⟩
   obtain ⟨es128, e129, e130⟩ := src_own (j := 0) rfl O123
   obtain ⟨g131, h132⟩ := gd_inv h111
   refine D2.lo rfl rfl (Lo.append (j := 3) (v := (σ61 4)) rfl rfl el22 ni22 ze29 sz29 by29 (by decide) (by decide) rfl e129 e130 g131 O123) ?_ (faL_bit (by decide) (faL_bit (by decide) (faL_bit (by decide) fa_nil))) ?_ ?_
   ·rintro v134 H135 ⟨O127, sm133⟩; exact (faR1 (.inl (by decide)) (faR1 (.inl (by decide)) (faR1 (.inl (by decide)) (faR1 (.inl (by decide)) fa_nil))))
   ·rintro v134 H135 ⟨O127, sm133⟩; exact fa_nil
   rintro v134 H135 ⟨O127, sm133⟩
   replace O127 : Ow G112 H135 (eSl v125 29 (rArr 2 (rI .i64)) [[x95, x109]] :: eVar b79 50 T_Branch x71 :: eVar b44 3 (rI .i64) (List.length x30 : Int) :: eSl v134 29 (rArr 2 (rI .i64)) (x59 ++ [[x95, x109]]) :: eSl w22 3 (rI .i64) x14 :: eVar b7 56 T_Topology (Topology.mk ([] : List Int) ([] : List Int)) :: eVar b2 48 T_Network p0 :: L) := O127
   refine D2.pure (v := v134) rfl rfl (v_assign (oo rfl rfl)) ?_
   refine .nil ?_
   refine .region ?_
   refine W.pure (v := (.int .i64 (kwrap .i64 (x60 + 1)))) rfl rfl (v_int (oo rfl t68) (oo rfl rfl) rfl) ?_
   refine W.pure (v := (.int .i64 (kwrap .i64 (x60 + 1)))) rfl rfl (v_move (oo rfl rfl)) ?_
   refine .nil ?_
   have O136 : Ow G112 H135 (eVar b79 50 T_Branch x71 :: eVar b44 3 (rI .i64) (List.length x30 : Int) :: eSl v134 29 (rArr 2 (rI .i64)) (x59 ++ [[x95, x109]]) :: eSl w22 3 (rI .i64) x14 :: eVar b7 56 T_Topology (Topology.mk ([] : List Int) ([] : List Int)) :: eVar b2 48 T_Network p0 :: L) := O127.drop 0
   have O137 : Ow G112 H135 (eVar b44 3 (rI .i64) (List.length x30 : Int) :: eSl v134 29 (rArr 2 (rI .i64)) (x59 ++ [[x95, x109]]) :: eSl w22 3 (rI .i64) x14 :: eVar b7 56 T_Topology (Topology.mk ([] : List Int) ([] : List Int)) :: eVar b2 48 T_Network p0 :: L) := O136.drop 0
   exact ⟨k58, Nat.lt_succ_self _, ⟨(x59 ++ [[x95, x109]]), kwrap .i64 (x60 + 1), _, h132, O137, (GM.le.trans s66 (GM.le.trans s100 s114)), rfl⟩⟩
  ·have h138 := neg_b g69 h67
   refine .exit ?_
   obtain rfl := Option.some.inj h138
   exact ⟨x59, _, rfl, O65, s66⟩
 ·rintro σ140 H141 fr142 ⟨x139, G143, rfl, O144, s145⟩
  have h147 := tu1_inv h57
  refine .seq ?_
  refine .region ?_
  refine W.pure (v := (padd (.pointer (some ⟨b2, 0, none⟩)) 0)) rfl rfl (v_fldA fl48_0 (oo rfl ((fr142 1 rfl).trans rfl)) (O144.atVar (j := 4) rfl)) ?_
  obtain ⟨w148, p149, f150⟩ := At.sl (At.proj (O144.atVar (j := 4) rfl) p_Network_Nodes)
  refine W.load1 (v := w148) (r := []) rfl rfl ag41 (pt_px rfl p149) ?_
  refine W.pure (v := (.int .i64 (List.length p0.Nodes : Int))) rfl rfl (len_sl (oo rfl rfl) (sl_len f150) (elemT_inv el41)) ?_
  refine W.pure (v := (σ140 4)) rfl rfl (v_move (oo rfl rfl)) ?_
  refine W.pure (v := (.func (.func 83) #[] #[(.pointer (some ⟨b44, 0, none⟩)), (.pointer (some ⟨b2, 0, none⟩))])) rfl rfl (v_makeFunc (opndL_ooL rfl mn) (opndL_ooL rfl (mc ((fr142 5 rfl).trans rfl) (mc ((fr142 1 rfl).trans rfl) mn)))) ?_
  obtain ⟨G151, O152, s153, f154⟩ := O144.frzSl (j := 1) rfl
  replace O152 : Ow G151 H141 (eVar b44 3 (rI .i64) (List.length x30 : Int) :: eSl w22 3 (rI .i64) x14 :: eVar b7 56 T_Topology (Topology.mk ([] : List Int) ([] : List Int)) :: eVar b2 48 T_Network p0 :: L) := O152
  obtain ⟨G155, O156, s157, f158⟩ := O152.frzVar (j := 0) rfl
  replace O156 : Ow G155 H141 (eSl w22 3 (rI .i64) x14 :: eVar b7 56 T_Topology (Topology.mk ([] : List Int) ([] : List Int)) :: eVar b2 48 T_Network p0 :: L) := O156
  obtain ⟨G159, O160, s161, f162⟩ := O156.frzVar (j := 2) rfl
  replace O160 : Ow G159 H141 (eSl w22 3 (rI .i64) x14 :: eVar b7 56 T_Topology (Topology.mk ([] : List Int) ([] : List Int)) :: L) := O160
  obtain ⟨x163, i164, h165⟩ := bd_inv h147
  refine W.lo rfl rfl (Lo.callP (ps := []) (ps' := []) rfl (fn := Try.f14) (by kernel_rfl) rfl (mc rfl (mc rfl (mc rfl mn))) O160 (fun L' O' => g_R_Joined_ok K (List.length p0.Nodes : Int) (σ140 4) x139 (RT.mono _ (GM.le.trans s157 s161) f154) (.func (.func 83) #[] #[(.pointer (some ⟨b44, 0, none⟩)), (.pointer (some ⟨b2, 0, none⟩))]) (fun x => g_R_Topology_1 K x (List.length x30 : Int) p0) ⟨83, _, _, Try.f83, rfl, by kernel_rfl, rfl, fun G1 H L vs x r hG O hA hF => by obtain rfl := hA; exact g_R_Topology_1_ok K x (.pointer (some ⟨b44, 0, none⟩)) (List.length x30 : Int) (At.le (At.le f158 s161 s161) hG hG) (.pointer (some ⟨b2, 0, none⟩)) p0 (At.le f162 hG hG) O _ hF⟩ O' _ i164)) ?_
  rintro v174 H175 ⟨G166, O167, s168, sm173, ⟨w170, rfl, f171⟩⟩
  replace O167 : Ow G166 H175 (eSl w22 3 (rI .i64) x14 :: eVar b7 56 T_Topology (Topology.mk ([] : List Int) ([] : List Int)) :: L) := O167
  refine W.pure (v := w170) rfl rfl (v_assign (oo rfl rfl)) ?_
  refine .nil ?_
  refine .seq ?_
  refine .region ?_
  refine W.pure (v := w170) rfl rfl (v_move (oo rfl rfl)) ?_
  obtain ⟨x176, i177, h178⟩ := bd_inv h165
  refine W.lo rfl rfl (Lo.callPF (ps := []) (pw := fun w => [eSl w 3 (rI .i64) x176]) rfl (fn := Try.f17) (by kernel_rfl) rfl (mc rfl mn) O167 (fun L' O' => g_R_Numbers_ok K w170 x163 f171 O' _ i177)) ?_
  rintro v187 H188 ⟨w184, G179, O180, s181, sm186, rfl⟩
  replace O180 : Ow G179 H188 (eSl w184 3 (rI .i64) x176 :: eSl w22 3 (rI .i64) x14 :: eVar b7 56 T_Topology (Topology.mk ([] : List Int) ([] : List Int)) :: L) := O180
  refine W.pure (v := w184) rfl rfl (v_assign (oo rfl rfl)) ?_
  refine .nil ?_
  refine .seq ?_
  refine .region ?_
  refine W.pure (v := w22) rfl rfl (v_move (oo rfl ((fr142 3 rfl).trans rfl))) ?_
  obtain ⟨x189, i190, h191⟩ := bd_inv h178
  refine W.lo rfl rfl (Lo.callB (j := 1) rfl rfl (fn := Try.f32) (by kernel_rfl) rfl (mc rfl mn) O180 (fun G' L' hG O' hB => g_R_Most_ok K w22 x14 hB O' _ i190)) ?_
  rintro v198 H199 ⟨G192, O193, s194, sm197, rfl⟩
  replace O193 : Ow G192 H199 (eSl w184 3 (rI .i64) x176 :: eSl w22 3 (rI .i64) x14 :: eVar b7 56 T_Topology (Topology.mk ([] : List Int) ([] : List Int)) :: L) := O193
  obtain ⟨g201, h202⟩ := gd_inv h191
  refine W.lo rfl rfl (Lo.makeSlice (r := (rI .i64)) (x0 := 0) (a := x189) (c := x189) rfl el24 ze3 sz3 (by kernel_rfl) rfl by3 (by decide) rfl rfl g201 (zI .i64) O193) ?_
  rintro v204 H205 ⟨O200, sm203⟩
  refine W.pure (v := v204) rfl rfl (v_assign (oo rfl rfl)) ?_
  refine .nil ?_
  refine .seq ?_
  refine .seq ?_
  refine .region ?_
  refine W.pure (v := w22) rfl rfl (v_move (oo rfl ((fr142 3 rfl).trans rfl))) ?_
  refine W.pure (v := (.int .i64 (List.length x14 : Int))) rfl rfl (len_sl (oo rfl rfl) (O200.slLen (j := 2) rfl) (elemT_inv el24)) ?_
  refine W.pure (v := (.int .i64 0)) rfl rfl (v_move (oo rfl rfl)) ?_
  refine .nil ?_
  obtain ⟨q206, h207, h208⟩ := bd_inv h202
  refine AW.midT (fun σ' H' => ∃ (y1 : List Int) (G' : GM), y1 = q206 ∧ Ow G' H' (eSl v204 3 (rI .i64) y1 :: eSl w184 3 (rI .i64) x176 :: eSl w22 3 (rI .i64) x14 :: eVar b7 56 T_Topology (Topology.mk ([] : List Int) ([] : List Int)) :: L) ∧ GM.le G192 G') ?_ ?_
  ·refine .block ?_
   refine AW.loop (α := Nat) (fun k' σ' H' => ∃ (y1 : List Int) (y2 : Int) (G' : GM), g_R_Topology_l2 K x14 x176 k' y1 y2 = some q206 ∧ Ow G' H' (eSl v204 3 (rI .i64) y1 :: eSl w184 3 (rI .i64) x176 :: eSl w22 3 (rI .i64) x14 :: eVar b7 56 T_Topology (Topology.mk ([] : List Int) ([] : List Int)) :: L) ∧ GM.le G192 G' ∧ σ' 54 = .int .i64 y2) (fun k' => k') K ⟨(List.replicate (Int.toNat x189) 0), 0, _, h207, O200, (GM.le.refl _), rfl⟩ ?_
   rintro k209
   rintro σ212 H213 fr214 ⟨x210, x211, G215, h218, O216, s217, t219⟩
   rcases k209 with _ | k209
   ·exact none_absurd h218
   rw [g_R_Topology_l2] at h218
   refine .seq ?_
   refine .region ?_
   refine W.pure (v := (.bool (decide (x211 < (List.length x14 : Int))))) rfl rfl (v_int (oo rfl t219) (oo rfl ((fr214 53 rfl).trans rfl)) rfl) ?_
   refine .nil ?_
   refine .seq ?_
   refine .cond (b := decide (x211 < (List.length x14 : Int))) rfl rfl (fun g220 => ?_) (fun g220 => ?_)
   ·have h221 := pos_inv g220 h218
    refine .skip ?_
    refine .seq ?_
    refine .block ?_
    refine .seq ?_
    refine .region ?_
    refine W.pure (v := (.int .i64 x211)) rfl rfl (v_move (oo rfl t219)) ?_
    obtain ⟨x222, i223, h224⟩ := bd_inv h221
    have j225 := idx_inv i223
    refine W.pure (v := (selem w22 (Int.toNat x211 * 1))) rfl rfl (v_idx el24 sz3 (oo rfl ((fr214 52 rfl).trans rfl)) (oo rfl t219) (O216.slLen (j := 2) rfl) j225.1 j225.2.1) ?_
    refine W.load1 (v := (.int .i64 x222)) (r := []) rfl rfl ag3 (pt_px rfl (At.int (O216.atSl (j := 2) rfl j225.2.2))) ?_
    refine W.pure (v := (.int .i64 x211)) rfl rfl (v_assign (oo rfl rfl)) ?_
    refine W.pure (v := (.int .i64 x222)) rfl rfl (v_assign (oo rfl rfl)) ?_
    refine .nil ?_
    refine .region ?_
    refine W.pure (v := v204) rfl rfl (v_move (oo rfl ((fr214 10 rfl).trans rfl))) ?_
    refine W.pure (v := (.int .i64 x222)) rfl rfl (v_move (oo rfl rfl)) ?_
    refine W.pure (v := w184) rfl rfl (v_move (oo rfl ((fr214 9 rfl).trans rfl))) ?_
    refine W.pure (v := (.int .i64 x211)) rfl rfl (v_move (oo rfl rfl)) ?_
    obtain ⟨x226, i227, h228⟩ := bd_inv h224
    have j229 := idx_inv i227
    refine W.pure (v := (selem w184 (Int.toNat x211 * 1))) rfl rfl (v_idx el24 sz3 (oo rfl rfl) (oo rfl rfl) (O216.slLen (j := 1) rfl) j229.1 j229.2.1) ?_
    refine W.load1 (v := (.int .i64 x226)) (r := []) rfl rfl ag3 (pt_px rfl (At.int (O216.atSl (j := 1) rfl j229.2.2))) ?_
    obtain ⟨x230, i231, h232⟩ := bd_inv h228
    have j233 := idx_inv i231
    refine W.pure (v := (selem v204 (Int.toNat x222 * 1))) rfl rfl (v_idx el24 sz3 (oo rfl rfl) (oo rfl rfl) (O216.slLen (j := 0) rfl) j233.1 j233.2.1) ?_
    refine W.lo rfl rfl (Lo.storeSl0 (j := 0) (y0 := x226) (v := (.int .i64 x226)) rfl j233.2.2  rfl sz3 rfl rfl rfl O216) ?_
    rintro v236 H237 ⟨O234, sm235⟩
    replace O234 : Ow G215 H237 (eSl v204 3 (rI .i64) (List.set x210 (Int.toNat x222) x226) :: eSl w184 3 (rI .i64) x176 :: eSl w22 3 (rI .i64) x14 :: eVar b7 56 T_Topology (Topology.mk ([] : List Int) ([] : List Int)) :: L) := O234
    refine .nil ?_
    refine .region ?_
    refine W.pure (v := (.int .i64 (kwrap .i64 (x211 + 1)))) rfl rfl (v_int (oo rfl t219) (oo rfl rfl) rfl) ?_
    refine W.pure (v := (.int .i64 (kwrap .i64 (x211 + 1)))) rfl rfl (v_move (oo rfl rfl)) ?_
    refine .nil ?_
    exact ⟨k209, Nat.lt_succ_self _, ⟨(List.set x210 (Int.toNat x222) x226), kwrap .i64 (x211 + 1), _, h232, O234, s217, rfl⟩⟩
   ·have h238 := neg_b g220 h218
    refine .exit ?_
    obtain rfl := Option.some.inj h238
    exact ⟨x210, _, rfl, O216, s217⟩
  ·rintro σ240 H241 fr242 ⟨x239, G243, rfl, O244, s245⟩
   have h247 := tu1_inv h208
   refine .seq ?_
   refine .region ?_
   refine W.pure (v := w22) rfl rfl (v_move (oo rfl ((fr242 3 rfl).trans ((fr142 3 rfl).trans rfl)))) ?_
   refine W.pure (v := v204) rfl rfl (v_move (oo rfl ((fr242 10 rfl).trans rfl))) ?_
   obtain ⟨G248, O249, s250, f251⟩ := O244.frzSl (j := 2) rfl
   replace O249 : Ow G248 H241 (eSl v204 3 (rI .i64) x239 :: eSl w184 3 (rI .i64) x176 :: eVar b7 56 T_Topology (Topology.mk ([] : List Int) ([] : List Int)) :: L) := O249
   obtain ⟨G252, O253, s254, f255⟩ := O249.frzSl (j := 0) rfl
   replace O253 : Ow G252 H241 (eSl w184 3 (rI .i64) x176 :: eVar b7 56 T_Topology (Topology.mk ([] : List Int) ([] : List Int)) :: L) := O253
   obtain ⟨c256, e258, f257⟩ := bd_Topology_0_1 (w22) (v204) ((sl_cells (RT.mono _ s254 f251))) ((sl_cells f255))
   refine W.pure (v := .agg (List.toArray c256)) rfl rfl (e258 (opndP_oo rfl (qc' rfl (qc' rfl qn')))) ?_
   refine W.lo rfl rfl (Lo.storeVar (j := 1) (s := T_Topology) (y0 := (Topology.mk x14 x239)) (v := (.agg (List.toArray c256))) (o := 0) rfl ((Put.at (Put.self _) _ _)) rfl sz56 ((fr242 2 rfl).trans ((fr142 2 rfl).trans rfl)) (by omega) rfl f257 O253) ?_
   rintro v261 H262 ⟨O259, sm260⟩
   replace O259 : Ow G252 H262 (eSl w184 3 (rI .i64) x176 :: eVar b7 56 T_Topology (Topology.mk x14 x239) :: L) := O259
   refine .nil ?_
   refine .ret ?_
   obtain ⟨c263, p264, f265⟩ := (O259.atVar (j := 1) rfl)
   have O266 : Ow G252 H262 (eVar b7 56 T_Topology (Topology.mk x14 x239) :: L) := O259.drop 0
   have O267 : Ow G252 H262 (L) := O266.drop 0
   obtain rfl := Option.some.inj h247
   refine ret1R (P := Try.prog) (fn := Try.f31) (n := 70) (R := fun v H' => ∃ G', Ow G' H' (L) ∧ G.le G' ∧ ∃ (w0 : List Value), v = .agg (List.toArray w0) ∧ T_Topology.rep G' w0 (Topology.mk x14 x239)) (v1 := (.agg (List.toArray c263))) (by rfl) (rr_cellA (p := (.pointer (some ⟨b7, 0, none⟩))) (by rfl) ag56 sz56 (by exact ((fr242 2 rfl).trans ((fr142 2 rfl).trans rfl))) p264 (RT.len _ f265)) ?_
   exact ⟨_, O267, (GM.le.trans s19 (GM.le.trans s35 (GM.le.trans s145 (GM.le.trans s153 (GM.le.trans s157 (GM.le.trans s161 (GM.le.trans s168 (GM.le.trans s181 (GM.le.trans s194 (GM.le.trans s245 (GM.le.trans s250 s254))))))))))), c263, rfl, f265⟩
def g_slices_Equal_int_int_l0 (K : Nat) (p0 : List Int) (p1 : List Int) : Nat → Int → Option (Bool ⊕ Unit)
 | 0, _ => none
 | k + 1, x8 => (if (decide (x8 < (List.length p0 : Int))) = true then ((idx p0 x8).bind fun x24 => ((idx p1 x8).bind fun x28 => (if (x24 != x28) = true then some (.inl false) else g_slices_Equal_int_int_l0 K p0 p1 k (kwrap .i64 (x8 + 1))))) else some (.inr ()))
def g_slices_Equal_int_int (K : Nat) (p0 : List Int) (p1 : List Int) : Option Bool := (if ((List.length p0 : Int) != (List.length p1 : Int)) = true then some false else (bindS (g_slices_Equal_int_int_l0 K p0 p1 K 0) (tu1 fun a45 => some a45) (tu0 (some true))))
set_option maxHeartbeats 4000000 in
theorem g_slices_Equal_int_int_ok (K : Nat) {G : GM} {H : AH} {L : List Pc} (v0 : Value) (p0 : List Int) (hp0 : (rSl (rI .i64)).rep G [v0] p0) (v1 : Value) (p1 : List Int) (hp1 : (rSl (rI .i64)).rep G [v1] p1) (O : Ow G H (L)) (r : Bool) (h : g_slices_Equal_int_int K p0 p1 = some r) :
  CR Try.prog 16 [v0, v1] G H (L) (fun v G' _ => v = .bool r) := by
 unfold g_slices_Equal_int_int at h
 refine CR.of (calls_of_AW (n := 26) (fn := Try.f16) (R := fun v H' => ∃ G', Ow G' H' (L) ∧ G.le G' ∧ v = .bool r) (by kernel_rfl) rfl rfl ?_)
 refine .seq ?_
 refine .region ?_
 refine W.pure (v := (.bool false)) rfl rfl (v_assign (oo rfl rfl)) ?_
 refine .nil ?_
 refine .seq ?_
 refine .seq ?_
 refine .region ?_
 refine W.pure (v := v0) rfl rfl (v_move (oo rfl rfl)) ?_
 refine W.pure (v := (.int .i64 (List.length p0 : Int))) rfl rfl (len_sl (oo rfl rfl) (sl_len hp0) (elemT_inv el24)) ?_
 refine W.pure (v := v1) rfl rfl (v_move (oo rfl rfl)) ?_
 refine W.pure (v := (.int .i64 (List.length p1 : Int))) rfl rfl (len_sl (oo rfl rfl) (sl_len hp1) (elemT_inv el24)) ?_
 refine W.pure (v := (.bool ((List.length p0 : Int) != (List.length p1 : Int)))) rfl rfl (v_int (oo rfl rfl) (oo rfl rfl) rfl) ?_
 refine .nil ?_
 refine .cond (b := ((List.length p0 : Int) != (List.length p1 : Int))) rfl rfl (fun g1 => ?_) (fun g1 => ?_)
 ·have h2 := pos_inv g1 h
  refine .seq ?_
  refine .region ?_
  refine W.pure (v := (.bool false)) rfl rfl (v_assign (oo rfl rfl)) ?_
  refine .nil ?_
  refine .ret ?_
  obtain rfl := Option.some.inj h2
  refine ret1R (P := Try.prog) (fn := Try.f16) (n := 26) (R := fun v H' => ∃ G', Ow G' H' (L) ∧ G.le G' ∧ v = .bool false) (v1 := (.bool false)) (by rfl) (rr_tmp (by rfl) (by exact rfl)) ?_
  exact ⟨_, O, (GM.le.refl _), rfl⟩
 ·have h3 := neg_b g1 h
  refine .skip ?_
  refine .seq ?_
  refine .seq ?_
  refine .region ?_
  refine W.pure (v := v0) rfl rfl (v_move (oo rfl rfl)) ?_
  refine W.pure (v := (.int .i64 (List.length p0 : Int))) rfl rfl (len_sl (oo rfl rfl) (sl_len hp0) (elemT_inv el24)) ?_
  refine W.pure (v := (.int .i64 0)) rfl rfl (v_move (oo rfl rfl)) ?_
  refine .nil ?_
  obtain ⟨q4, h5, h6⟩ := bindS_inv h3
  refine AW.midT (fun σ' H' => ∃  (G' : GM), (.inr ()) = q4 ∧ Ow G' H' (L) ∧ GM.le G G') ?_ ?_
  ·refine .block ?_
   refine AW.loop (α := Nat) (fun k' σ' H' => ∃ (y1 : Int) (G' : GM), g_slices_Equal_int_int_l0 K p0 p1 k' y1 = some q4 ∧ Ow G' H' (L) ∧ GM.le G G' ∧ σ' 13 = .int .i64 y1) (fun k' => k') K ⟨0, _, h5, O, (GM.le.refl _), rfl⟩ ?_
   rintro k7
   rintro σ9 H10 fr11 ⟨x8, G12, h15, O13, s14, t16⟩
   rcases k7 with _ | k7
   ·exact none_absurd h15
   rw [g_slices_Equal_int_int_l0] at h15
   refine .seq ?_
   refine .region ?_
   refine W.pure (v := (.bool (decide (x8 < (List.length p0 : Int))))) rfl rfl (v_int (oo rfl t16) (oo rfl ((fr11 12 rfl).trans rfl)) rfl) ?_
   refine .nil ?_
   refine .seq ?_
   refine .cond (b := decide (x8 < (List.length p0 : Int))) rfl rfl (fun g17 => ?_) (fun g17 => ?_)
   ·have h18 := pos_inv g17 h15
    refine .skip ?_
    refine .seq ?_
    refine .block ?_
    refine .seq ?_
    refine .region ?_
    refine W.pure (v := (.int .i64 x8)) rfl rfl (v_move (oo rfl t16)) ?_
    refine W.pure (v := (.int .i64 x8)) rfl rfl (v_assign (oo rfl rfl)) ?_
    refine .nil ?_
    refine .seq ?_
    refine .draw2 (M := [0, 0, 3, 7, 0, 0, 48, 112, 255]) mixed (by kernel_rfl) (by kernel_rfl) fun H19 N23 x20 F22 => ?_
    have O21 := O13.ext x20
    refine D2.pure (v := v0) rfl rfl (v_move (oo rfl ((fr11 0 rfl).trans rfl))) ?_
    refine D2.pure (v := (.int .i64 x8)) rfl rfl (v_move (oo rfl rfl)) ?_
    obtain ⟨x24, i25, h26⟩ := bd_inv h18
    have j27 := idx_inv i25
    refine D2.pure (v := (selem v0 (Int.toNat x8 * 1))) rfl rfl (v_idx el24 sz3 (oo rfl rfl) (oo rfl rfl) (sl_len (RT.mono _ s14 hp0)) j27.1 j27.2.1) ?_
    refine D2.load1' (v := (.int .i64 x24)) (r := []) rfl rfl ag3 (pt_px rfl (At.int (At.le (At.le (sl_idx hp0 j27.2.2) s14 s14) (GM.le.refl _) O21.fro))) fa_nil ?_
    refine D2.pure (v := v1) rfl rfl (v_move (oo rfl ((fr11 1 rfl).trans rfl))) ?_
    refine D2.pure (v := (.int .i64 x8)) rfl rfl (v_move (oo rfl rfl)) ?_
    obtain ⟨x28, i29, h30⟩ := bd_inv h26
    have j31 := idx_inv i29
    refine D2.pure (v := (selem v1 (Int.toNat x8 * 1))) rfl rfl (v_idx el24 sz3 (oo rfl rfl) (oo rfl rfl) (sl_len (RT.mono _ s14 hp1)) j31.1 j31.2.1) ?_
    refine D2.load1' (v := (.int .i64 x28)) (r := []) rfl rfl ag3 (pt_px rfl (At.int (At.le (At.le (sl_idx hp1 j31.2.2) s14 s14) (GM.le.refl _) O21.fro))) fa_nil ?_
    refine D2.pure (v := (.bool (x24 != x28))) rfl rfl (v_int (oo rfl rfl) (oo rfl rfl) rfl) ?_
    refine .nil ?_
    refine .cond (b := (x24 != x28)) rfl rfl (fun g32 => ?_) (fun g32 => ?_)
    ·have h33 := pos_inv g32 h30
     refine .seq ?_
     refine .region ?_
     refine W.pure (v := (.bool false)) rfl rfl (v_assign (oo rfl rfl)) ?_
     refine .nil ?_
     refine .ret ?_
     obtain rfl := Option.some.inj h33
     have h34 := tu1_inv (outS_l h6)
     obtain rfl := Option.some.inj h34
     refine ret1R (P := Try.prog) (fn := Try.f16) (n := 26) (R := fun v H' => ∃ G', Ow G' H' (L) ∧ G.le G' ∧ v = .bool false) (v1 := (.bool false)) (by rfl) (rr_tmp (by rfl) (by exact rfl)) ?_
     exact ⟨_, O21, s14, rfl⟩
    ·have h35 := neg_b g32 h30
     refine .skip ?_
     refine .region ?_
     refine W.pure (v := (.int .i64 (kwrap .i64 (x8 + 1)))) rfl rfl (v_int (oo rfl t16) (oo rfl rfl) rfl) ?_
     refine W.pure (v := (.int .i64 (kwrap .i64 (x8 + 1)))) rfl rfl (v_move (oo rfl rfl)) ?_
     refine .nil ?_
     exact ⟨k7, Nat.lt_succ_self _, ⟨kwrap .i64 (x8 + 1), _, h35, O21, s14, rfl⟩⟩
   ·have h36 := neg_b g17 h15
    refine .exit ?_
    obtain rfl := Option.some.inj h36
    exact ⟨_, rfl, O13, s14⟩
  ·rintro σ37 H38 fr39 ⟨G40, rfl, O41, s42⟩
   have h44 := tu0_inv (outS_r h6)
   refine .seq ?_
   refine .region ?_
   refine W.pure (v := (.bool true)) rfl rfl (v_assign (oo rfl rfl)) ?_
   refine .nil ?_
   refine .ret ?_
   obtain rfl := Option.some.inj h44
   refine ret1R (P := Try.prog) (fn := Try.f16) (n := 26) (R := fun v H' => ∃ G', Ow G' H' (L) ∧ G.le G' ∧ v = .bool true) (v1 := (.bool true)) (by rfl) (rr_tmp (by rfl) (by exact rfl)) ?_
   exact ⟨_, O41, s42, rfl⟩
def g_law_TopologyParts_1 (K : Nat) (p0 : Gen) (p1 : ByteArray) : Option Bool := some (sEq p0.Node p1)
set_option maxHeartbeats 4000000 in
theorem g_law_TopologyParts_1_ok (K : Nat) {G : GM} {H : AH} {L : List Pc} (v0 : List Value) (p0 : Gen) (hp0 : T_Gen.rep G v0 p0) (v1 : Value) (p1 : ByteArray) (hp1 : At G G v1 rS p1) (O : Ow G H (L)) (r : Bool) (h : g_law_TopologyParts_1 K p0 p1 = some r) :
  CR Try.prog 34 [.agg (List.toArray v0), v1] G H (L) (fun v G' _ => v = .bool r) := by
 unfold g_law_TopologyParts_1 at h
 refine CR.of (calls_of_AW (n := 8) (fn := Try.f34) (R := fun v H' => ∃ G', Ow G' H' (L) ∧ G.le G' ∧ v = .bool r) (by kernel_rfl) rfl rfl ?_)
 refine .seq ?_
 refine .region ?_
 refine W.lo rfl rfl (Lo.box (r := T_Gen) (x0 := p0) (v := (.agg (List.toArray v0))) rfl rfl hp0 O) ?_
 rintro v4 H5 ⟨b2, rfl, O1, sm3⟩
 refine W.pure (v := (.bool false)) rfl rfl (v_assign (oo rfl rfl)) ?_
 refine .nil ?_
 refine .seq ?_
 refine .region ?_
 refine W.pure (v := (padd (.pointer (some ⟨b2, 0, none⟩)) 1)) rfl rfl (v_fldA fl65_1 (oo rfl rfl) (O1.atVar (j := 0) rfl)) ?_
 refine W.load1 (v := (.string p0.Node)) (r := []) rfl rfl ag9 (pt_px rfl (At.str (At.proj (O1.atVar (j := 0) rfl) p_Gen_Node))) ?_
 refine W.load1 (v := (.string p1)) (r := []) rfl rfl ag9 (pt_px rfl (At.str (At.le hp1 (GM.le.refl _) O1.fro))) ?_
 refine W.pure (v := (.bool (sEq p0.Node p1))) rfl rfl (vs_eql (oo rfl rfl) (oo rfl rfl)) ?_
 refine W.pure (v := (.bool (sEq p0.Node p1))) rfl rfl (v_assign (oo rfl rfl)) ?_
 refine .nil ?_
 refine .ret ?_
 have O6 : Ow G H5 (L) := O1.drop 0
 obtain rfl := Option.some.inj h
 refine ret1R (P := Try.prog) (fn := Try.f34) (n := 8) (R := fun v H' => ∃ G', Ow G' H' (L) ∧ G.le G' ∧ v = .bool (sEq p0.Node p1)) (v1 := (.bool (sEq p0.Node p1))) (by rfl) (rr_tmp (by rfl) (by exact rfl)) ?_
 exact ⟨_, O6, (GM.le.refl _), rfl⟩
def g_slices_IndexFunc_api_Gen_api_Gen_l0 (K : Nat) (p0 : List Gen) (p1 : Gen → Option Bool) : Nat → Int → Option (Int ⊕ Unit)
 | 0, _ => none
 | k + 1, x5 => (if (decide (x5 < (List.length p0 : Int))) = true then ((idx p0 x5).bind fun x16 => ((p1 x16).bind fun x23 => (if x23 = true then some (.inl x5) else g_slices_IndexFunc_api_Gen_api_Gen_l0 K p0 p1 k (kwrap .i64 (x5 + 1))))) else some (.inr ()))
def g_slices_IndexFunc_api_Gen_api_Gen (K : Nat) (p0 : List Gen) (p1 : Gen → Option Bool) : Option Int := (bindS (g_slices_IndexFunc_api_Gen_api_Gen_l0 K p0 p1 K 0) (tu1 fun a45 => some a45) (tu0 (some (-1))))
set_option maxHeartbeats 4000000 in
theorem g_slices_IndexFunc_api_Gen_api_Gen_ok (K : Nat) {G : GM} {H : AH} {L : List Pc} (v0 : Value) (p0 : List Gen) (hp0 : (rSl T_Gen).rep G [v0] p0) (v1 : Value) (p1 : Gen → Option Bool) (hp1 : FnOk Try.prog G v1 (fun G vs (x : (Gen)) => ∃ (v0 : List Value), vs = [.agg (List.toArray v0)] ∧ T_Gen.rep G v0 x) (fun _ v (rr : (Bool)) => v = .bool rr) p1) (O : Ow G H (L)) (r : Int) (h : g_slices_IndexFunc_api_Gen_api_Gen K p0 p1 = some r) :
  CR Try.prog 84 [v0, v1] G H (L) (fun v G' _ => v = .int .i64 r) := by
 unfold g_slices_IndexFunc_api_Gen_api_Gen at h
 refine CR.of (calls_of_AW (n := 19) (fn := Try.f84) (R := fun v H' => ∃ G', Ow G' H' (L) ∧ G.le G' ∧ v = .int .i64 r) (by kernel_rfl) rfl rfl ?_)
 refine .seq ?_
 refine .region ?_
 refine W.pure (v := (.int .i64 0)) rfl rfl (v_assign (oo rfl rfl)) ?_
 refine .nil ?_
 refine .seq ?_
 refine .seq ?_
 refine .region ?_
 refine W.pure (v := v0) rfl rfl (v_move (oo rfl rfl)) ?_
 refine W.pure (v := (.int .i64 (List.length p0 : Int))) rfl rfl (len_sl (oo rfl rfl) (sl_len hp0) (elemT_inv el44)) ?_
 refine W.pure (v := (.int .i64 0)) rfl rfl (v_move (oo rfl rfl)) ?_
 refine .nil ?_
 obtain ⟨q1, h2, h3⟩ := bindS_inv h
 refine AW.midT (fun σ' H' => ∃  (G' : GM), (.inr ()) = q1 ∧ Ow G' H' (L) ∧ GM.le G G') ?_ ?_
 ·refine .block ?_
  refine AW.loop (α := Nat) (fun k' σ' H' => ∃ (y1 : Int) (G' : GM), g_slices_IndexFunc_api_Gen_api_Gen_l0 K p0 p1 k' y1 = some q1 ∧ Ow G' H' (L) ∧ GM.le G G' ∧ σ' 8 = .int .i64 y1) (fun k' => k') K ⟨0, _, h2, O, (GM.le.refl _), rfl⟩ ?_
  rintro k4
  rintro σ6 H7 fr8 ⟨x5, G9, h12, O10, s11, t13⟩
  rcases k4 with _ | k4
  ·exact none_absurd h12
  rw [g_slices_IndexFunc_api_Gen_api_Gen_l0] at h12
  refine .seq ?_
  refine .region ?_
  refine W.pure (v := (.bool (decide (x5 < (List.length p0 : Int))))) rfl rfl (v_int (oo rfl t13) (oo rfl ((fr8 7 rfl).trans rfl)) rfl) ?_
  refine .nil ?_
  refine .seq ?_
  refine .cond (b := decide (x5 < (List.length p0 : Int))) rfl rfl (fun g14 => ?_) (fun g14 => ?_)
  ·have h15 := pos_inv g14 h12
   refine .skip ?_
   refine .seq ?_
   refine .block ?_
   refine .seq ?_
   refine .region ?_
   refine W.pure (v := (.int .i64 x5)) rfl rfl (v_move (oo rfl t13)) ?_
   refine W.pure (v := (.int .i64 x5)) rfl rfl (v_assign (oo rfl rfl)) ?_
   refine .nil ?_
   refine .seq ?_
   refine .region ?_
   refine W.pure (v := v1) rfl rfl (v_move (oo rfl ((fr8 1 rfl).trans rfl))) ?_
   refine W.pure (v := v0) rfl rfl (v_move (oo rfl ((fr8 0 rfl).trans rfl))) ?_
   refine W.pure (v := (.int .i64 x5)) rfl rfl (v_move (oo rfl rfl)) ?_
   obtain ⟨x16, i17, h18⟩ := bd_inv h15
   have j19 := idx_inv i17
   refine W.pure (v := (selem v0 (Int.toNat x5 * 5))) rfl rfl (v_idx el44 sz65 (oo rfl rfl) (oo rfl rfl) (sl_len (RT.mono _ s11 hp0)) j19.1 j19.2.1) ?_
   obtain ⟨c20, p21, f22⟩ := (At.le (At.le (sl_idx hp0 j19.2.2) s11 s11) (GM.le.refl _) O10.fro)
   refine W.loadA (cs := c20) rfl rfl ag65 sz65 (pt_px rfl p21) (RT.len _ f22) ?_
   obtain ⟨x23, i24, h25⟩ := bd_inv h18
   refine W.lo rfl rfl (Lo.callF (x0 := x16) rfl rfl (FnOk.le hp1 s11) (mc rfl mn) ⟨c20, rfl, f22⟩ i24 O10) ?_
   rintro v30 H31 ⟨G26, O27, s28, sm29, rfl⟩
   refine .nil ?_
   refine .cond (b := x23) rfl rfl (fun g32 => ?_) (fun g32 => ?_)
   ·have h33 := pos_inv g32 h25
    refine .seq ?_
    refine .region ?_
    refine W.pure (v := (.int .i64 x5)) rfl rfl (v_move (oo rfl rfl)) ?_
    refine W.pure (v := (.int .i64 x5)) rfl rfl (v_assign (oo rfl rfl)) ?_
    refine .nil ?_
    refine .ret ?_
    obtain rfl := Option.some.inj h33
    have h34 := tu1_inv (outS_l h3)
    obtain rfl := Option.some.inj h34
    refine ret1R (P := Try.prog) (fn := Try.f84) (n := 19) (R := fun v H' => ∃ G', Ow G' H' (L) ∧ G.le G' ∧ v = .int .i64 x5) (v1 := (.int .i64 x5)) (by rfl) (rr_tmp (by rfl) (by exact rfl)) ?_
    exact ⟨_, O27, (GM.le.trans s11 s28), rfl⟩
   ·have h35 := neg_b g32 h25
    refine .skip ?_
    refine .region ?_
    refine W.pure (v := (.int .i64 (kwrap .i64 (x5 + 1)))) rfl rfl (v_int (oo rfl t13) (oo rfl rfl) rfl) ?_
    refine W.pure (v := (.int .i64 (kwrap .i64 (x5 + 1)))) rfl rfl (v_move (oo rfl rfl)) ?_
    refine .nil ?_
    exact ⟨k4, Nat.lt_succ_self _, ⟨kwrap .i64 (x5 + 1), _, h35, O27, (GM.le.trans s11 s28), rfl⟩⟩
  ·have h36 := neg_b g14 h12
   refine .exit ?_
   obtain rfl := Option.some.inj h36
   exact ⟨_, rfl, O10, s11⟩
 ·rintro σ37 H38 fr39 ⟨G40, rfl, O41, s42⟩
  have h44 := tu0_inv (outS_r h3)
  refine .seq ?_
  refine .region ?_
  refine W.pure (v := (.int .i64 (-1))) rfl rfl (v_assign (oo rfl rfl)) ?_
  refine .nil ?_
  refine .ret ?_
  obtain rfl := Option.some.inj h44
  refine ret1R (P := Try.prog) (fn := Try.f84) (n := 19) (R := fun v H' => ∃ G', Ow G' H' (L) ∧ G.le G' ∧ v = .int .i64 (-1)) (v1 := (.int .i64 (-1))) (by rfl) (rr_tmp (by rfl) (by exact rfl)) ?_
  exact ⟨_, O41, s42, rfl⟩
def g_slices_ContainsFunc_api_Gen_api_Gen (K : Nat) (p0 : List Gen) (p1 : Gen → Option Bool) : Option Bool := ((g_slices_IndexFunc_api_Gen_api_Gen K p0 p1).bind fun x1 => some (decide (x1 ≥ 0)))
set_option maxHeartbeats 4000000 in
theorem g_slices_ContainsFunc_api_Gen_api_Gen_ok (K : Nat) {G : GM} {H : AH} {L : List Pc} (v0 : Value) (p0 : List Gen) (hp0 : (rSl T_Gen).rep G [v0] p0) (v1 : Value) (p1 : Gen → Option Bool) (hp1 : FnOk Try.prog G v1 (fun G vs (x : (Gen)) => ∃ (v0 : List Value), vs = [.agg (List.toArray v0)] ∧ T_Gen.rep G v0 x) (fun _ v (rr : (Bool)) => v = .bool rr) p1) (O : Ow G H (L)) (r : Bool) (h : g_slices_ContainsFunc_api_Gen_api_Gen K p0 p1 = some r) :
  CR Try.prog 33 [v0, v1] G H (L) (fun v G' _ => v = .bool r) := by
 unfold g_slices_ContainsFunc_api_Gen_api_Gen at h
 refine CR.of (calls_of_AW (n := 9) (fn := Try.f33) (R := fun v H' => ∃ G', Ow G' H' (L) ∧ G.le G' ∧ v = .bool r) (by kernel_rfl) rfl rfl ?_)
 refine .seq ?_
 refine .region ?_
 refine W.pure (v := (.bool false)) rfl rfl (v_assign (oo rfl rfl)) ?_
 refine .nil ?_
 refine .seq ?_
 refine .region ?_
 refine W.pure (v := v0) rfl rfl (v_move (oo rfl rfl)) ?_
 refine W.pure (v := v1) rfl rfl (v_move (oo rfl rfl)) ?_
 obtain ⟨x1, i2, h3⟩ := bd_inv h
 refine W.lo rfl rfl (Lo.callP (ps := []) (ps' := []) rfl (fn := Try.f84) (by kernel_rfl) rfl (mc rfl (mc rfl mn)) O (fun L' O' => g_slices_IndexFunc_api_Gen_api_Gen_ok K v0 p0 hp0 v1 p1 hp1 O' _ i2)) ?_
 rintro v10 H11 ⟨G4, O5, s6, sm9, rfl⟩
 replace O5 : Ow G4 H11 (L) := O5
 refine W.pure (v := (.bool (decide (x1 ≥ 0)))) rfl rfl (v_int (oo rfl rfl) (oo rfl rfl) rfl) ?_
 refine W.pure (v := (.bool (decide (x1 ≥ 0)))) rfl rfl (v_assign (oo rfl rfl)) ?_
 refine .nil ?_
 refine .ret ?_
 obtain rfl := Option.some.inj h3
 refine ret1R (P := Try.prog) (fn := Try.f33) (n := 9) (R := fun v H' => ∃ G', Ow G' H' (L) ∧ G.le G' ∧ v = .bool (decide (x1 ≥ 0))) (v1 := (.bool (decide (x1 ≥ 0)))) (by rfl) (rr_tmp (by rfl) (by exact rfl)) ?_
 exact ⟨_, O5, s6, rfl⟩
def g_law_TopologyParts_2 (K : Nat) (p0 : Store) (p1 : ByteArray) : Option Bool := some (sEq p0.Node p1)
set_option maxHeartbeats 4000000 in
theorem g_law_TopologyParts_2_ok (K : Nat) {G : GM} {H : AH} {L : List Pc} (v0 : List Value) (p0 : Store) (hp0 : T_Store.rep G v0 p0) (v1 : Value) (p1 : ByteArray) (hp1 : At G G v1 rS p1) (O : Ow G H (L)) (r : Bool) (h : g_law_TopologyParts_2 K p0 p1 = some r) :
  CR Try.prog 36 [.agg (List.toArray v0), v1] G H (L) (fun v G' _ => v = .bool r) := by
 unfold g_law_TopologyParts_2 at h
 refine CR.of (calls_of_AW (n := 8) (fn := Try.f36) (R := fun v H' => ∃ G', Ow G' H' (L) ∧ G.le G' ∧ v = .bool r) (by kernel_rfl) rfl rfl ?_)
 refine .seq ?_
 refine .region ?_
 refine W.lo rfl rfl (Lo.box (r := T_Store) (x0 := p0) (v := (.agg (List.toArray v0))) rfl rfl hp0 O) ?_
 rintro v4 H5 ⟨b2, rfl, O1, sm3⟩
 refine W.pure (v := (.bool false)) rfl rfl (v_assign (oo rfl rfl)) ?_
 refine .nil ?_
 refine .seq ?_
 refine .region ?_
 refine W.pure (v := (padd (.pointer (some ⟨b2, 0, none⟩)) 1)) rfl rfl (v_fldA fl69_1 (oo rfl rfl) (O1.atVar (j := 0) rfl)) ?_
 refine W.load1 (v := (.string p0.Node)) (r := []) rfl rfl ag9 (pt_px rfl (At.str (At.proj (O1.atVar (j := 0) rfl) p_Store_Node))) ?_
 refine W.load1 (v := (.string p1)) (r := []) rfl rfl ag9 (pt_px rfl (At.str (At.le hp1 (GM.le.refl _) O1.fro))) ?_
 refine W.pure (v := (.bool (sEq p0.Node p1))) rfl rfl (vs_eql (oo rfl rfl) (oo rfl rfl)) ?_
 refine W.pure (v := (.bool (sEq p0.Node p1))) rfl rfl (v_assign (oo rfl rfl)) ?_
 refine .nil ?_
 refine .ret ?_
 have O6 : Ow G H5 (L) := O1.drop 0
 obtain rfl := Option.some.inj h
 refine ret1R (P := Try.prog) (fn := Try.f36) (n := 8) (R := fun v H' => ∃ G', Ow G' H' (L) ∧ G.le G' ∧ v = .bool (sEq p0.Node p1)) (v1 := (.bool (sEq p0.Node p1))) (by rfl) (rr_tmp (by rfl) (by exact rfl)) ?_
 exact ⟨_, O6, (GM.le.refl _), rfl⟩
def g_slices_IndexFunc_api_Store_api_Store_l0 (K : Nat) (p0 : List Store) (p1 : Store → Option Bool) : Nat → Int → Option (Int ⊕ Unit)
 | 0, _ => none
 | k + 1, x5 => (if (decide (x5 < (List.length p0 : Int))) = true then ((idx p0 x5).bind fun x16 => ((p1 x16).bind fun x23 => (if x23 = true then some (.inl x5) else g_slices_IndexFunc_api_Store_api_Store_l0 K p0 p1 k (kwrap .i64 (x5 + 1))))) else some (.inr ()))
def g_slices_IndexFunc_api_Store_api_Store (K : Nat) (p0 : List Store) (p1 : Store → Option Bool) : Option Int := (bindS (g_slices_IndexFunc_api_Store_api_Store_l0 K p0 p1 K 0) (tu1 fun a45 => some a45) (tu0 (some (-1))))
set_option maxHeartbeats 4000000 in
theorem g_slices_IndexFunc_api_Store_api_Store_ok (K : Nat) {G : GM} {H : AH} {L : List Pc} (v0 : Value) (p0 : List Store) (hp0 : (rSl T_Store).rep G [v0] p0) (v1 : Value) (p1 : Store → Option Bool) (hp1 : FnOk Try.prog G v1 (fun G vs (x : (Store)) => ∃ (v0 : List Value), vs = [.agg (List.toArray v0)] ∧ T_Store.rep G v0 x) (fun _ v (rr : (Bool)) => v = .bool rr) p1) (O : Ow G H (L)) (r : Int) (h : g_slices_IndexFunc_api_Store_api_Store K p0 p1 = some r) :
  CR Try.prog 85 [v0, v1] G H (L) (fun v G' _ => v = .int .i64 r) := by
 unfold g_slices_IndexFunc_api_Store_api_Store at h
 refine CR.of (calls_of_AW (n := 19) (fn := Try.f85) (R := fun v H' => ∃ G', Ow G' H' (L) ∧ G.le G' ∧ v = .int .i64 r) (by kernel_rfl) rfl rfl ?_)
 refine .seq ?_
 refine .region ?_
 refine W.pure (v := (.int .i64 0)) rfl rfl (v_assign (oo rfl rfl)) ?_
 refine .nil ?_
 refine .seq ?_
 refine .seq ?_
 refine .region ?_
 refine W.pure (v := v0) rfl rfl (v_move (oo rfl rfl)) ?_
 refine W.pure (v := (.int .i64 (List.length p0 : Int))) rfl rfl (len_sl (oo rfl rfl) (sl_len hp0) (elemT_inv el46)) ?_
 refine W.pure (v := (.int .i64 0)) rfl rfl (v_move (oo rfl rfl)) ?_
 refine .nil ?_
 obtain ⟨q1, h2, h3⟩ := bindS_inv h
 refine AW.midT (fun σ' H' => ∃  (G' : GM), (.inr ()) = q1 ∧ Ow G' H' (L) ∧ GM.le G G') ?_ ?_
 ·refine .block ?_
  refine AW.loop (α := Nat) (fun k' σ' H' => ∃ (y1 : Int) (G' : GM), g_slices_IndexFunc_api_Store_api_Store_l0 K p0 p1 k' y1 = some q1 ∧ Ow G' H' (L) ∧ GM.le G G' ∧ σ' 8 = .int .i64 y1) (fun k' => k') K ⟨0, _, h2, O, (GM.le.refl _), rfl⟩ ?_
  rintro k4
  rintro σ6 H7 fr8 ⟨x5, G9, h12, O10, s11, t13⟩
  rcases k4 with _ | k4
  ·exact none_absurd h12
  rw [g_slices_IndexFunc_api_Store_api_Store_l0] at h12
  refine .seq ?_
  refine .region ?_
  refine W.pure (v := (.bool (decide (x5 < (List.length p0 : Int))))) rfl rfl (v_int (oo rfl t13) (oo rfl ((fr8 7 rfl).trans rfl)) rfl) ?_
  refine .nil ?_
  refine .seq ?_
  refine .cond (b := decide (x5 < (List.length p0 : Int))) rfl rfl (fun g14 => ?_) (fun g14 => ?_)
  ·have h15 := pos_inv g14 h12
   refine .skip ?_
   refine .seq ?_
   refine .block ?_
   refine .seq ?_
   refine .region ?_
   refine W.pure (v := (.int .i64 x5)) rfl rfl (v_move (oo rfl t13)) ?_
   refine W.pure (v := (.int .i64 x5)) rfl rfl (v_assign (oo rfl rfl)) ?_
   refine .nil ?_
   refine .seq ?_
   refine .region ?_
   refine W.pure (v := v1) rfl rfl (v_move (oo rfl ((fr8 1 rfl).trans rfl))) ?_
   refine W.pure (v := v0) rfl rfl (v_move (oo rfl ((fr8 0 rfl).trans rfl))) ?_
   refine W.pure (v := (.int .i64 x5)) rfl rfl (v_move (oo rfl rfl)) ?_
   obtain ⟨x16, i17, h18⟩ := bd_inv h15
   have j19 := idx_inv i17
   refine W.pure (v := (selem v0 (Int.toNat x5 * 5))) rfl rfl (v_idx el46 sz69 (oo rfl rfl) (oo rfl rfl) (sl_len (RT.mono _ s11 hp0)) j19.1 j19.2.1) ?_
   obtain ⟨c20, p21, f22⟩ := (At.le (At.le (sl_idx hp0 j19.2.2) s11 s11) (GM.le.refl _) O10.fro)
   refine W.loadA (cs := c20) rfl rfl ag69 sz69 (pt_px rfl p21) (RT.len _ f22) ?_
   obtain ⟨x23, i24, h25⟩ := bd_inv h18
   refine W.lo rfl rfl (Lo.callF (x0 := x16) rfl rfl (FnOk.le hp1 s11) (mc rfl mn) ⟨c20, rfl, f22⟩ i24 O10) ?_
   rintro v30 H31 ⟨G26, O27, s28, sm29, rfl⟩
   refine .nil ?_
   refine .cond (b := x23) rfl rfl (fun g32 => ?_) (fun g32 => ?_)
   ·have h33 := pos_inv g32 h25
    refine .seq ?_
    refine .region ?_
    refine W.pure (v := (.int .i64 x5)) rfl rfl (v_move (oo rfl rfl)) ?_
    refine W.pure (v := (.int .i64 x5)) rfl rfl (v_assign (oo rfl rfl)) ?_
    refine .nil ?_
    refine .ret ?_
    obtain rfl := Option.some.inj h33
    have h34 := tu1_inv (outS_l h3)
    obtain rfl := Option.some.inj h34
    refine ret1R (P := Try.prog) (fn := Try.f85) (n := 19) (R := fun v H' => ∃ G', Ow G' H' (L) ∧ G.le G' ∧ v = .int .i64 x5) (v1 := (.int .i64 x5)) (by rfl) (rr_tmp (by rfl) (by exact rfl)) ?_
    exact ⟨_, O27, (GM.le.trans s11 s28), rfl⟩
   ·have h35 := neg_b g32 h25
    refine .skip ?_
    refine .region ?_
    refine W.pure (v := (.int .i64 (kwrap .i64 (x5 + 1)))) rfl rfl (v_int (oo rfl t13) (oo rfl rfl) rfl) ?_
    refine W.pure (v := (.int .i64 (kwrap .i64 (x5 + 1)))) rfl rfl (v_move (oo rfl rfl)) ?_
    refine .nil ?_
    exact ⟨k4, Nat.lt_succ_self _, ⟨kwrap .i64 (x5 + 1), _, h35, O27, (GM.le.trans s11 s28), rfl⟩⟩
  ·have h36 := neg_b g14 h12
   refine .exit ?_
   obtain rfl := Option.some.inj h36
   exact ⟨_, rfl, O10, s11⟩
 ·rintro σ37 H38 fr39 ⟨G40, rfl, O41, s42⟩
  have h44 := tu0_inv (outS_r h3)
  refine .seq ?_
  refine .region ?_
  refine W.pure (v := (.int .i64 (-1))) rfl rfl (v_assign (oo rfl rfl)) ?_
  refine .nil ?_
  refine .ret ?_
  obtain rfl := Option.some.inj h44
  refine ret1R (P := Try.prog) (fn := Try.f85) (n := 19) (R := fun v H' => ∃ G', Ow G' H' (L) ∧ G.le G' ∧ v = .int .i64 (-1)) (v1 := (.int .i64 (-1))) (by rfl) (rr_tmp (by rfl) (by exact rfl)) ?_
  exact ⟨_, O41, s42, rfl⟩
def g_slices_ContainsFunc_api_Store_api_Store (K : Nat) (p0 : List Store) (p1 : Store → Option Bool) : Option Bool := ((g_slices_IndexFunc_api_Store_api_Store K p0 p1).bind fun x1 => some (decide (x1 ≥ 0)))
set_option maxHeartbeats 4000000 in
theorem g_slices_ContainsFunc_api_Store_api_Store_ok (K : Nat) {G : GM} {H : AH} {L : List Pc} (v0 : Value) (p0 : List Store) (hp0 : (rSl T_Store).rep G [v0] p0) (v1 : Value) (p1 : Store → Option Bool) (hp1 : FnOk Try.prog G v1 (fun G vs (x : (Store)) => ∃ (v0 : List Value), vs = [.agg (List.toArray v0)] ∧ T_Store.rep G v0 x) (fun _ v (rr : (Bool)) => v = .bool rr) p1) (O : Ow G H (L)) (r : Bool) (h : g_slices_ContainsFunc_api_Store_api_Store K p0 p1 = some r) :
  CR Try.prog 35 [v0, v1] G H (L) (fun v G' _ => v = .bool r) := by
 unfold g_slices_ContainsFunc_api_Store_api_Store at h
 refine CR.of (calls_of_AW (n := 9) (fn := Try.f35) (R := fun v H' => ∃ G', Ow G' H' (L) ∧ G.le G' ∧ v = .bool r) (by kernel_rfl) rfl rfl ?_)
 refine .seq ?_
 refine .region ?_
 refine W.pure (v := (.bool false)) rfl rfl (v_assign (oo rfl rfl)) ?_
 refine .nil ?_
 refine .seq ?_
 refine .region ?_
 refine W.pure (v := v0) rfl rfl (v_move (oo rfl rfl)) ?_
 refine W.pure (v := v1) rfl rfl (v_move (oo rfl rfl)) ?_
 obtain ⟨x1, i2, h3⟩ := bd_inv h
 refine W.lo rfl rfl (Lo.callP (ps := []) (ps' := []) rfl (fn := Try.f85) (by kernel_rfl) rfl (mc rfl (mc rfl mn)) O (fun L' O' => g_slices_IndexFunc_api_Store_api_Store_ok K v0 p0 hp0 v1 p1 hp1 O' _ i2)) ?_
 rintro v10 H11 ⟨G4, O5, s6, sm9, rfl⟩
 replace O5 : Ow G4 H11 (L) := O5
 refine W.pure (v := (.bool (decide (x1 ≥ 0)))) rfl rfl (v_int (oo rfl rfl) (oo rfl rfl) rfl) ?_
 refine W.pure (v := (.bool (decide (x1 ≥ 0)))) rfl rfl (v_assign (oo rfl rfl)) ?_
 refine .nil ?_
 refine .ret ?_
 obtain rfl := Option.some.inj h3
 refine ret1R (P := Try.prog) (fn := Try.f35) (n := 9) (R := fun v H' => ∃ G', Ow G' H' (L) ∧ G.le G' ∧ v = .bool (decide (x1 ≥ 0))) (v1 := (.bool (decide (x1 ≥ 0)))) (by rfl) (rr_tmp (by rfl) (by exact rfl)) ?_
 exact ⟨_, O5, s6, rfl⟩
def g_law_TopologyParts_l2 (K : Nat) (p0 : Network) (x115 : Topology) (x225 : Int) : Nat → Bool → Int → Option (Bool)
 | 0, _, _ => none
 | k + 1, x247, x248 => (if (decide (x248 < (List.length p0.Nodes : Int))) = true then (Option.bind (((idx p0.Nodes x248).bind fun x263 => ((idx x115.Bus x248).bind fun x287 => ((idx x115.Island x287).bind fun x291 => (if x247 = true then some true else (if (x291 == x225) = true then ((g_slices_ContainsFunc_api_Gen_api_Gen K p0.Gens (fun x => g_law_TopologyParts_1 K x x263)).bind fun x312 => (if x312 = true then some true else ((g_slices_ContainsFunc_api_Store_api_Store K p0.Stores (fun x => g_law_TopologyParts_2 K x x263)).bind fun x332 => some x332))) else some false)))))) (tu1 fun x345 => g_law_TopologyParts_l2 K p0 x115 x225 k x345 (kwrap .i64 (x248 + 1)))) else some x247)
def g_law_TopologyParts_l0 (K : Nat) (x49 : List Bool × Int) (p0 : Network) (x115 : Topology) : Nat → Int → Option (Bool ⊕ Unit)
 | 0, _ => none
 | k + 1, x225 => (if (decide (x225 < (List.length x49.1 : Int))) = true then ((idx x49.1 x225).bind fun x236 => (Option.bind (g_law_TopologyParts_l2 K p0 x115 x225 K false 0) (tu1 fun x356 => (if (!(x356 == x236)) = true then some (.inl false) else g_law_TopologyParts_l0 K x49 p0 x115 k (kwrap .i64 (x225 + 1)))))) else some (.inr ()))
def g_law_TopologyParts (K : Nat) (p0 : Network) : Option Bool := ((g_law_topologyFact K ).bind fun x6 => (if (!x6) = true then some false else ((g_topology_Of K p0).bind fun x24 => ((g_topology_Live K p0).bind fun x49 => ((g_R_NetError K p0).bind fun x65 => (if (x65 != 0) = true then (Option.bind ((if (x24.2 == x65) = true then (if (x49.2 == x65) = true then (lt (kwrap .i64 ((List.length x24.1.Bus : Int) + (List.length x24.1.Island : Int))) fun x93 => some ((kwrap .i64 (x93 + (List.length x49.1 : Int))) == 0)) else some false) else some false)) (tu1 fun x98 => some x98)) else ((g_R_Topology K p0).bind fun x115 => (Option.bind ((if (x24.2 != 0) = true then some true else (if (x49.2 != 0) = true then some true else ((g_slices_Equal_int_int K x24.1.Bus x115.Bus).bind fun x154 => (if (!x154) = true then some true else ((g_slices_Equal_int_int K x24.1.Island x115.Island).bind fun x175 => (if (!x175) = true then some true else ((g_R_Most K x115.Island).bind fun x193 => some ((List.length x49.1 : Int) != x193))))))))) (tu1 fun x204 => (if x204 = true then some false else (bindS (g_law_TopologyParts_l0 K x49 p0 x115 K 0) (tu1 fun a387 => some a387) (tu0 (some true)))))))))))))
set_option maxHeartbeats 4000000 in
theorem g_law_TopologyParts_ok (K : Nat) {G : GM} {H : AH} {L : List Pc} (v0 : List Value) (p0 : Network) (hp0 : T_Network.rep G v0 p0) (O : Ow G H (L)) (r : Bool) (h : g_law_TopologyParts K p0 = some r) :
  CR Try.prog 6 [.agg (List.toArray v0)] G H (L) (fun v G' _ => v = .bool r) := by
 unfold g_law_TopologyParts at h
 refine CR.of (calls_of_AW (n := 134) (fn := Try.f6) (R := fun v H' => ∃ G', Ow G' H' (L) ∧ G.le G' ∧ v = .bool r) (by kernel_rfl) rfl rfl ?_)
 refine .seq ?_
 refine .region ?_
 refine W.lo rfl rfl (Lo.box (r := T_Network) (x0 := p0) (v := (.agg (List.toArray v0))) rfl rfl hp0 O) ?_
 rintro v4 H5 ⟨b2, rfl, O1, sm3⟩
 refine W.pure (v := (.bool false)) rfl rfl (v_assign (oo rfl rfl)) ?_
 refine .nil ?_
 refine .seq ?_
 refine .seq ?_
 refine .region ?_
 obtain ⟨x6, i7, h8⟩ := bd_inv h
 refine W.lo rfl rfl (Lo.callP (ps := []) (ps' := []) rfl (fn := Try.f28) (by kernel_rfl) rfl mn O1 (fun L' O' => g_law_topologyFact_ok K  O' _ i7)) ?_
 rintro v15 H16 ⟨G9, O10, s11, sm14, rfl⟩
 replace O10 : Ow G9 H16 (eVar b2 48 T_Network p0 :: L) := O10
 refine W.pure (v := (.bool (!x6))) rfl rfl (bool_not (a := x6) (oo rfl rfl)) ?_
 refine .nil ?_
 refine .cond (b := (!x6)) rfl rfl (fun g17 => ?_) (fun g17 => ?_)
 ·have h18 := pos_inv g17 h8
  refine .seq ?_
  refine .region ?_
  refine W.pure (v := (.bool false)) rfl rfl (v_assign (oo rfl rfl)) ?_
  refine .nil ?_
  refine .ret ?_
  have O19 : Ow G9 H16 (L) := O10.drop 0
  obtain rfl := Option.some.inj h18
  refine ret1R (P := Try.prog) (fn := Try.f6) (n := 134) (R := fun v H' => ∃ G', Ow G' H' (L) ∧ G.le G' ∧ v = .bool false) (v1 := (.bool false)) (by rfl) (rr_tmp (by rfl) (by exact rfl)) ?_
  exact ⟨_, O19, s11, rfl⟩
 ·have h20 := neg_b g17 h8
  refine .skip ?_
  refine .seq ?_
  refine .region ?_
  obtain ⟨c21, p22, f23⟩ := (O10.atVar (j := 0) rfl)
  refine W.loadA (cs := c21) rfl rfl ag48 sz48 (pt_px rfl p22) (RT.len _ f23) ?_
  obtain ⟨x24, i25, h26⟩ := bd_inv h20
  refine W.lo rfl rfl (Lo.callP (ps := []) (ps' := []) rfl (fn := Try.f29) (by kernel_rfl) rfl (mc rfl mn) O10 (fun L' O' => g_topology_Of_ok K c21 p0 f23 O' _ i25)) ?_
  rintro v35 H36 ⟨G27, O28, s29, sm34, ⟨c31, rfl, f32⟩⟩
  replace O28 : Ow G27 H36 (eVar b2 48 T_Network p0 :: L) := O28
  refine W.pure (v := (.tuple #[(.agg (List.toArray c31)), (.int .i64 x24.2)])) rfl rfl (v_move (oo rfl rfl)) ?_
  refine W.pure (v := (.agg (List.toArray c31))) rfl rfl (v_extract (oo rfl rfl) rfl) ?_
  refine W.pure (v := (.int .i64 x24.2)) rfl rfl (v_extract (oo rfl rfl) rfl) ?_
  refine W.lo rfl rfl (Lo.alloc (r := T_Topology) (x0 := (Topology.mk ([] : List Int) ([] : List Int))) ze56 (by kernel_rfl) z_Topology O28) ?_
  rintro v40 H41 ⟨b38, rfl, O37, sm39⟩
  refine W.lo rfl rfl (Lo.storeVar (j := 0) (s := T_Topology) (y0 := x24.1) (v := (.agg (List.toArray c31))) (o := 0) rfl ((Put.at (Put.self _) _ _)) rfl sz56 rfl (by omega) rfl f32 O37) ?_
  rintro v44 H45 ⟨O42, sm43⟩
  replace O42 : Ow G27 H45 (eVar b38 56 T_Topology x24.1 :: eVar b2 48 T_Network p0 :: L) := O42
  refine W.pure (v := (.int .i64 x24.2)) rfl rfl (v_assign (oo rfl rfl)) ?_
  refine .nil ?_
  refine .seq ?_
  refine .region ?_
  obtain ⟨c46, p47, f48⟩ := (O42.atVar (j := 1) rfl)
  refine W.loadA (cs := c46) rfl rfl ag48 sz48 (pt_px rfl p47) (RT.len _ f48) ?_
  obtain ⟨x49, i50, h51⟩ := bd_inv h26
  refine W.lo rfl rfl (Lo.callPF (ps := []) (pw := fun w => [eSl w 4 rB x49.1]) rfl (fn := Try.f30) (by kernel_rfl) rfl (mc rfl mn) O42 (fun L' O' => g_topology_Live_ok K c46 p0 f48 O' _ i50)) ?_
  rintro v60 H61 ⟨w57, G52, O53, s54, sm59, rfl⟩
  replace O53 : Ow G52 H61 (eSl w57 4 rB x49.1 :: eVar b38 56 T_Topology x24.1 :: eVar b2 48 T_Network p0 :: L) := O53
  refine W.pure (v := (.tuple #[w57, (.int .i64 x49.2)])) rfl rfl (v_move (oo rfl rfl)) ?_
  refine W.pure (v := w57) rfl rfl (v_extract (oo rfl rfl) rfl) ?_
  refine W.pure (v := (.int .i64 x49.2)) rfl rfl (v_extract (oo rfl rfl) rfl) ?_
  refine W.pure (v := w57) rfl rfl (v_assign (oo rfl rfl)) ?_
  refine W.pure (v := (.int .i64 x49.2)) rfl rfl (v_assign (oo rfl rfl)) ?_
  refine .nil ?_
  refine .seq ?_
  refine .seq ?_
  refine .region ?_
  obtain ⟨c62, p63, f64⟩ := (O53.atVar (j := 2) rfl)
  refine W.loadA (cs := c62) rfl rfl ag48 sz48 (pt_px rfl p63) (RT.len _ f64) ?_
  obtain ⟨x65, i66, h67⟩ := bd_inv h51
  refine W.lo rfl rfl (Lo.callP (ps := []) (ps' := []) rfl (fn := Try.f23) (by kernel_rfl) rfl (mc rfl mn) O53 (fun L' O' => g_R_NetError_ok K c62 p0 f64 O' _ i66)) ?_
  rintro v74 H75 ⟨G68, O69, s70, sm73, rfl⟩
  replace O69 : Ow G68 H75 (eSl w57 4 rB x49.1 :: eVar b38 56 T_Topology x24.1 :: eVar b2 48 T_Network p0 :: L) := O69
  refine W.pure (v := (.int .i64 x65)) rfl rfl (v_assign (oo rfl rfl)) ?_
  refine .nil ?_
  refine .seq ?_
  refine .region ?_
  refine W.pure (v := (.int .i64 x65)) rfl rfl (v_move (oo rfl rfl)) ?_
  refine W.pure (v := (.bool (x65 != 0))) rfl rfl (v_int (oo rfl rfl) (oo rfl rfl) rfl) ?_
  refine .nil ?_
  refine .cond (b := (x65 != 0)) rfl rfl (fun g76 => ?_) (fun g76 => ?_)
  ·have h77 := pos_inv g76 h67
   refine .seq ?_
   obtain ⟨q78, h79, h80⟩ := bd_inv h77
   refine AW.midT (fun σ' H' => ∃ (y1 : Bool) (G' : GM), y1 = q78 ∧ Ow G' H' (eSl w57 4 rB x49.1 :: eVar b38 56 T_Topology x24.1 :: eVar b2 48 T_Network p0 :: L) ∧ GM.le G68 G' ∧ σ' 2 = .bool y1) ?_ ?_
   ·refine .region ?_
    refine W.pure (v := (.int .i64 x24.2)) rfl rfl (v_move (oo rfl rfl)) ?_
    refine W.pure (v := (.int .i64 x65)) rfl rfl (v_move (oo rfl rfl)) ?_
    refine W.pure (v := (.bool (x24.2 == x65))) rfl rfl (v_int (oo rfl rfl) (oo rfl rfl) rfl) ?_
    refine W.pure (v := (.bool (x24.2 == x65))) rfl rfl (v_move (oo rfl rfl)) ?_
    refine W.splitAt (t := 34) (b := (x24.2 == x65)) rfl (fun g81 gv82 => ?_) (fun g81 gv82 => ?_)
    ·have h83 := pos_inv g81 h79
     refine W.pure (v := (.int .i64 x49.2)) (gk rfl rfl gv82 rfl) rfl (v_move (oo rfl rfl)) ?_
     refine W.pure (v := (.int .i64 x65)) (gk rfl rfl gv82 rfl) rfl (v_move (oo rfl rfl)) ?_
     refine W.pure (v := (.bool (x49.2 == x65))) (gk rfl rfl gv82 rfl) rfl (v_int (oo rfl rfl) (oo rfl rfl) rfl) ?_
     refine W.pure (v := (.bool (x49.2 == x65))) rfl rfl (v_pickT (oo rfl gv82) (oo rfl rfl)) ?_
     refine W.pure (v := (.bool (x49.2 == x65))) rfl rfl (v_move (oo rfl rfl)) ?_
     refine W.splitAt (t := 39) (b := (x49.2 == x65)) rfl (fun g84 gv85 => ?_) (fun g84 gv85 => ?_)
     ·have h86 := pos_inv g84 h83
      refine W.pure (v := (padd (.pointer (some ⟨b38, 0, none⟩)) 0)) (gk rfl rfl gv85 rfl) rfl (v_fldA fl56_0 (oo rfl rfl) (O69.atVar (j := 1) rfl)) ?_
      obtain ⟨w87, p88, f89⟩ := At.sl (At.proj (O69.atVar (j := 1) rfl) p_Topology_Bus)
      refine W.load1 (v := w87) (r := []) (gk rfl rfl gv85 rfl) rfl ag24 (pt_px rfl p88) ?_
      refine W.pure (v := (.int .i64 (List.length x24.1.Bus : Int))) (gk rfl rfl gv85 rfl) rfl (len_sl (oo rfl rfl) (sl_len f89) (elemT_inv el24)) ?_
      refine W.pure (v := (padd (.pointer (some ⟨b38, 0, none⟩)) 1)) (gk rfl rfl gv85 rfl) rfl (v_fldA fl56_1 (oo rfl rfl) (O69.atVar (j := 1) rfl)) ?_
      obtain ⟨w90, p91, f92⟩ := At.sl (At.proj (O69.atVar (j := 1) rfl) p_Topology_Island)
      refine W.load1 (v := w90) (r := []) (gk rfl rfl gv85 rfl) rfl ag24 (pt_px rfl p91) ?_
      refine W.pure (v := (.int .i64 (List.length x24.1.Island : Int))) (gk rfl rfl gv85 rfl) rfl (len_sl (oo rfl rfl) (sl_len f92) (elemT_inv el24)) ?_
      refine W.pure (v := (.int .i64 (kwrap .i64 ((List.length x24.1.Bus : Int) + (List.length x24.1.Island : Int))))) (gk rfl rfl gv85 rfl) rfl (v_int (oo rfl rfl) (oo rfl rfl) rfl) ?_
      obtain ⟨x93, e94, h95⟩ := lt_inv h86
      refine W.pure (v := w57) (gk rfl rfl gv85 rfl) rfl (v_move (oo rfl rfl)) ?_
      refine W.pure (v := (.int .i64 (List.length x49.1 : Int))) (gk rfl rfl gv85 rfl) rfl (len_sl (oo rfl rfl) (O69.slLen (j := 0) rfl) (elemT_inv el30)) ?_
      refine W.pure (v := (.int .i64 (kwrap .i64 (x93 + (List.length x49.1 : Int))))) (gk rfl rfl gv85 rfl) rfl (v_int (oo rfl (congrArg (Value.int .i64) e94)) (oo rfl rfl) rfl) ?_
      refine W.pure (v := (.bool ((kwrap .i64 (x93 + (List.length x49.1 : Int))) == 0))) (gk rfl rfl gv85 rfl) rfl (v_int (oo rfl rfl) (oo rfl rfl) rfl) ?_
      refine W.pure (v := (.bool ((kwrap .i64 (x93 + (List.length x49.1 : Int))) == 0))) rfl rfl (v_pickT (oo rfl gv85) (oo rfl rfl)) ?_
      refine W.pure (v := (.bool ((kwrap .i64 (x93 + (List.length x49.1 : Int))) == 0))) rfl rfl (v_assign (oo rfl rfl)) ?_
      refine .nil ?_
      obtain rfl := Option.some.inj h95
      exact ⟨((kwrap .i64 (x93 + (List.length x49.1 : Int))) == 0), _, rfl, O69, (GM.le.refl _), rfl⟩
     ·have h96 := neg_b g84 h83
      refine W.skip (gk rfl rfl gv85 rfl) rfl ?_
      refine W.skip (gk rfl rfl gv85 rfl) rfl ?_
      refine W.skip (gk rfl rfl gv85 rfl) rfl ?_
      refine W.skip (gk rfl rfl gv85 rfl) rfl ?_
      refine W.skip (gk rfl rfl gv85 rfl) rfl ?_
      refine W.skip (gk rfl rfl gv85 rfl) rfl ?_
      refine W.skip (gk rfl rfl gv85 rfl) rfl ?_
      refine W.skip (gk rfl rfl gv85 rfl) rfl ?_
      refine W.skip (gk rfl rfl gv85 rfl) rfl ?_
      refine W.skip (gk rfl rfl gv85 rfl) rfl ?_
      refine W.skip (gk rfl rfl gv85 rfl) rfl ?_
      refine W.pure (v := (.bool false)) rfl rfl (v_pickF (oo rfl gv85) (oo rfl rfl)) ?_
      refine W.pure (v := (.bool false)) rfl rfl (v_assign (oo rfl rfl)) ?_
      refine .nil ?_
      obtain rfl := Option.some.inj h96
      exact ⟨false, _, rfl, O69, (GM.le.refl _), rfl⟩
    ·have h97 := neg_b g81 h79
     refine W.skip (gk rfl rfl gv82 rfl) rfl ?_
     refine W.skip (gk rfl rfl gv82 rfl) rfl ?_
     refine W.skip (gk rfl rfl gv82 rfl) rfl ?_
     refine W.pure (v := (.bool false)) rfl rfl (v_pickF (oo rfl gv82) (oo rfl rfl)) ?_
     refine W.pure (v := (.bool false)) rfl rfl (v_move (oo rfl rfl)) ?_
     refine W.skip (gk rfl rfl rfl rfl) rfl ?_
     refine W.skip (gk rfl rfl rfl rfl) rfl ?_
     refine W.skip (gk rfl rfl rfl rfl) rfl ?_
     refine W.skip (gk rfl rfl rfl rfl) rfl ?_
     refine W.skip (gk rfl rfl rfl rfl) rfl ?_
     refine W.skip (gk rfl rfl rfl rfl) rfl ?_
     refine W.skip (gk rfl rfl rfl rfl) rfl ?_
     refine W.skip (gk rfl rfl rfl rfl) rfl ?_
     refine W.skip (gk rfl rfl rfl rfl) rfl ?_
     refine W.skip (gk rfl rfl rfl rfl) rfl ?_
     refine W.skip (gk rfl rfl rfl rfl) rfl ?_
     refine W.pure (v := (.bool false)) rfl rfl (v_pickF (oo rfl rfl) (oo rfl rfl)) ?_
     refine W.pure (v := (.bool false)) rfl rfl (v_assign (oo rfl rfl)) ?_
     refine .nil ?_
     obtain rfl := Option.some.inj h97
     exact ⟨false, _, rfl, O69, (GM.le.refl _), rfl⟩
   ·rintro σ99 H100 fr101 ⟨x98, G102, rfl, O103, s104, t106⟩
    have h107 := tu1_inv h80
    refine .ret ?_
    have O108 : Ow G102 H100 (eVar b38 56 T_Topology x24.1 :: eVar b2 48 T_Network p0 :: L) := O103.drop 0
    have O109 : Ow G102 H100 (eVar b2 48 T_Network p0 :: L) := O108.drop 0
    have O110 : Ow G102 H100 (L) := O109.drop 0
    obtain rfl := Option.some.inj h107
    refine ret1R (P := Try.prog) (fn := Try.f6) (n := 134) (R := fun v H' => ∃ G', Ow G' H' (L) ∧ G.le G' ∧ v = .bool x98) (v1 := (.bool x98)) (by rfl) (rr_tmp (by rfl) (by exact t106)) ?_
    exact ⟨_, O110, (GM.le.trans s11 (GM.le.trans s29 (GM.le.trans s54 (GM.le.trans s70 s104)))), rfl⟩
  ·have h111 := neg_b g76 h67
   refine .skip ?_
   refine .seq ?_
   refine .region ?_
   obtain ⟨c112, p113, f114⟩ := (O69.atVar (j := 2) rfl)
   refine W.loadA (cs := c112) rfl rfl ag48 sz48 (pt_px rfl p113) (RT.len _ f114) ?_
   obtain ⟨x115, i116, h117⟩ := bd_inv h111
   refine W.lo rfl rfl (Lo.callP (ps := []) (ps' := []) rfl (fn := Try.f31) (by kernel_rfl) rfl (mc rfl mn) O69 (fun L' O' => g_R_Topology_ok K c112 p0 f114 O' _ i116)) ?_
   rintro v126 H127 ⟨G118, O119, s120, sm125, ⟨c122, rfl, f123⟩⟩
   replace O119 : Ow G118 H127 (eSl w57 4 rB x49.1 :: eVar b38 56 T_Topology x24.1 :: eVar b2 48 T_Network p0 :: L) := O119
   refine W.lo rfl rfl (Lo.alloc (r := T_Topology) (x0 := (Topology.mk ([] : List Int) ([] : List Int))) ze56 (by kernel_rfl) z_Topology O119) ?_
   rintro v131 H132 ⟨b129, rfl, O128, sm130⟩
   refine W.lo rfl rfl (Lo.storeVar (j := 0) (s := T_Topology) (y0 := x115) (v := (.agg (List.toArray c122))) (o := 0) rfl ((Put.at (Put.self _) _ _)) rfl sz56 rfl (by omega) rfl f123 O128) ?_
   rintro v135 H136 ⟨O133, sm134⟩
   replace O133 : Ow G118 H136 (eVar b129 56 T_Topology x115 :: eSl w57 4 rB x49.1 :: eVar b38 56 T_Topology x24.1 :: eVar b2 48 T_Network p0 :: L) := O133
   refine .nil ?_
   refine .seq ?_
   refine .seq ?_
   obtain ⟨q137, h138, h139⟩ := bd_inv h117
   refine AW.midT (fun σ' H' => ∃ (y1 : Bool) (G' : GM), y1 = q137 ∧ Ow G' H' (eVar b129 56 T_Topology x115 :: eSl w57 4 rB x49.1 :: eVar b38 56 T_Topology x24.1 :: eVar b2 48 T_Network p0 :: L) ∧ GM.le G118 G' ∧ σ' 83 = .bool y1) ?_ ?_
   ·refine .region ?_
    refine W.pure (v := (.int .i64 x24.2)) rfl rfl (v_move (oo rfl rfl)) ?_
    refine W.pure (v := (.bool (x24.2 != 0))) rfl rfl (v_int (oo rfl rfl) (oo rfl rfl) rfl) ?_
    refine W.pure (v := (.bool (x24.2 != 0))) rfl rfl (v_move (oo rfl rfl)) ?_
    refine W.splitAt (t := 56) (b := (x24.2 != 0)) rfl (fun g140 gv141 => ?_) (fun g140 gv141 => ?_)
    ·have h142 := pos_inv g140 h138
     refine W.skip (gk rfl rfl gv141 rfl) rfl ?_
     refine W.skip (gk rfl rfl gv141 rfl) rfl ?_
     refine W.pure (v := (.bool true)) rfl rfl (v_pickT (oo rfl gv141) (oo rfl rfl)) ?_
     refine W.pure (v := (.bool true)) rfl rfl (v_move (oo rfl rfl)) ?_
     refine W.skip (gk rfl rfl rfl rfl) rfl ?_
     refine W.skip (gk rfl rfl rfl rfl) rfl ?_
     refine W.skip (gk rfl rfl rfl rfl) rfl ?_
     refine W.skip (gk rfl rfl rfl rfl) rfl ?_
     refine W.skip (gk rfl rfl rfl rfl) rfl ?_
     refine W.skip (gk rfl rfl rfl rfl) rfl ?_
     refine W.pure (v := (.bool true)) rfl rfl (v_pickT (oo rfl rfl) (oo rfl rfl)) ?_
     refine W.pure (v := (.bool true)) rfl rfl (v_move (oo rfl rfl)) ?_
     refine W.skip (gk rfl rfl rfl rfl) rfl ?_
     refine W.skip (gk rfl rfl rfl rfl) rfl ?_
     refine W.skip (gk rfl rfl rfl rfl) rfl ?_
     refine W.skip (gk rfl rfl rfl rfl) rfl ?_
     refine W.skip (gk rfl rfl rfl rfl) rfl ?_
     refine W.skip (gk rfl rfl rfl rfl) rfl ?_
     refine W.pure (v := (.bool true)) rfl rfl (v_pickT (oo rfl rfl) (oo rfl rfl)) ?_
     refine W.pure (v := (.bool true)) rfl rfl (v_move (oo rfl rfl)) ?_
     refine W.skip (gk rfl rfl rfl rfl) rfl ?_
     refine W.skip (gk rfl rfl rfl rfl) rfl ?_
     refine W.skip (gk rfl rfl rfl rfl) rfl ?_
     refine W.skip (gk rfl rfl rfl rfl) rfl ?_
     refine W.skip (gk rfl rfl rfl rfl) rfl ?_
     refine W.skip (gk rfl rfl rfl rfl) rfl ?_
     refine W.pure (v := (.bool true)) rfl rfl (v_pickT (oo rfl rfl) (oo rfl rfl)) ?_
     refine .nil ?_
     obtain rfl := Option.some.inj h142
     exact ⟨true, _, rfl, O133, (GM.le.refl _), rfl⟩
    ·have h143 := neg_b g140 h138
     refine W.pure (v := (.int .i64 x49.2)) (gk rfl rfl gv141 rfl) rfl (v_move (oo rfl rfl)) ?_
     refine W.pure (v := (.bool (x49.2 != 0))) (gk rfl rfl gv141 rfl) rfl (v_int (oo rfl rfl) (oo rfl rfl) rfl) ?_
     refine W.pure (v := (.bool (x49.2 != 0))) rfl rfl (v_pickF (oo rfl gv141) (oo rfl rfl)) ?_
     refine W.pure (v := (.bool (x49.2 != 0))) rfl rfl (v_move (oo rfl rfl)) ?_
     refine W.splitAt (t := 60) (b := (x49.2 != 0)) rfl (fun g144 gv145 => ?_) (fun g144 gv145 => ?_)
     ·have h146 := pos_inv g144 h143
      refine W.skip (gk rfl rfl gv145 rfl) rfl ?_
      refine W.skip (gk rfl rfl gv145 rfl) rfl ?_
      refine W.skip (gk rfl rfl gv145 rfl) rfl ?_
      refine W.skip (gk rfl rfl gv145 rfl) rfl ?_
      refine W.skip (gk rfl rfl gv145 rfl) rfl ?_
      refine W.skip (gk rfl rfl gv145 rfl) rfl ?_
      refine W.pure (v := (.bool true)) rfl rfl (v_pickT (oo rfl gv145) (oo rfl rfl)) ?_
      refine W.pure (v := (.bool true)) rfl rfl (v_move (oo rfl rfl)) ?_
      refine W.skip (gk rfl rfl rfl rfl) rfl ?_
      refine W.skip (gk rfl rfl rfl rfl) rfl ?_
      refine W.skip (gk rfl rfl rfl rfl) rfl ?_
      refine W.skip (gk rfl rfl rfl rfl) rfl ?_
      refine W.skip (gk rfl rfl rfl rfl) rfl ?_
      refine W.skip (gk rfl rfl rfl rfl) rfl ?_
      refine W.pure (v := (.bool true)) rfl rfl (v_pickT (oo rfl rfl) (oo rfl rfl)) ?_
      refine W.pure (v := (.bool true)) rfl rfl (v_move (oo rfl rfl)) ?_
      refine W.skip (gk rfl rfl rfl rfl) rfl ?_
      refine W.skip (gk rfl rfl rfl rfl) rfl ?_
      refine W.skip (gk rfl rfl rfl rfl) rfl ?_
      refine W.skip (gk rfl rfl rfl rfl) rfl ?_
      refine W.skip (gk rfl rfl rfl rfl) rfl ?_
      refine W.skip (gk rfl rfl rfl rfl) rfl ?_
      refine W.pure (v := (.bool true)) rfl rfl (v_pickT (oo rfl rfl) (oo rfl rfl)) ?_
      refine .nil ?_
      obtain rfl := Option.some.inj h146
      exact ⟨true, _, rfl, O133, (GM.le.refl _), rfl⟩
     ·have h147 := neg_b g144 h143
      refine W.pure (v := (padd (.pointer (some ⟨b38, 0, none⟩)) 0)) (gk rfl rfl gv145 rfl) rfl (v_fldA fl56_0 (oo rfl rfl) (O133.atVar (j := 2) rfl)) ?_
      obtain ⟨w148, p149, f150⟩ := At.sl (At.proj (O133.atVar (j := 2) rfl) p_Topology_Bus)
      refine W.load1 (v := w148) (r := []) (gk rfl rfl gv145 rfl) rfl ag24 (pt_px rfl p149) ?_
      refine W.pure (v := (padd (.pointer (some ⟨b129, 0, none⟩)) 0)) (gk rfl rfl gv145 rfl) rfl (v_fldA fl56_0 (oo rfl rfl) (O133.atVar (j := 0) rfl)) ?_
      obtain ⟨w151, p152, f153⟩ := At.sl (At.proj (O133.atVar (j := 0) rfl) p_Topology_Bus)
      refine W.load1 (v := w151) (r := []) (gk rfl rfl gv145 rfl) rfl ag24 (pt_px rfl p152) ?_
      obtain ⟨x154, i155, h156⟩ := bd_inv h147
      refine W.lo (gk rfl rfl gv145 rfl) rfl (Lo.callP (ps := []) (ps' := []) rfl (fn := Try.f16) (by kernel_rfl) rfl (mc rfl (mc rfl mn)) O133 (fun L' O' => g_slices_Equal_int_int_ok K w148 x24.1.Bus f150 w151 x115.Bus f153 O' _ i155)) ?_
      rintro v163 H164 ⟨G157, O158, s159, sm162, rfl⟩
      replace O158 : Ow G157 H164 (eVar b129 56 T_Topology x115 :: eSl w57 4 rB x49.1 :: eVar b38 56 T_Topology x24.1 :: eVar b2 48 T_Network p0 :: L) := O158
      refine W.pure (v := (.bool (!x154))) (gk rfl rfl gv145 rfl) rfl (bool_not (a := x154) (oo rfl rfl)) ?_
      refine W.pure (v := (.bool (!x154))) rfl rfl (v_pickF (oo rfl gv145) (oo rfl rfl)) ?_
      refine W.pure (v := (.bool (!x154))) rfl rfl (v_move (oo rfl rfl)) ?_
      refine W.splitAt (t := 68) (b := (!x154)) rfl (fun g165 gv166 => ?_) (fun g165 gv166 => ?_)
      ·have h167 := pos_inv g165 h156
       refine W.skip (gk rfl rfl gv166 rfl) rfl ?_
       refine W.skip (gk rfl rfl gv166 rfl) rfl ?_
       refine W.skip (gk rfl rfl gv166 rfl) rfl ?_
       refine W.skip (gk rfl rfl gv166 rfl) rfl ?_
       refine W.skip (gk rfl rfl gv166 rfl) rfl ?_
       refine W.skip (gk rfl rfl gv166 rfl) rfl ?_
       refine W.pure (v := (.bool true)) rfl rfl (v_pickT (oo rfl gv166) (oo rfl rfl)) ?_
       refine W.pure (v := (.bool true)) rfl rfl (v_move (oo rfl rfl)) ?_
       refine W.skip (gk rfl rfl rfl rfl) rfl ?_
       refine W.skip (gk rfl rfl rfl rfl) rfl ?_
       refine W.skip (gk rfl rfl rfl rfl) rfl ?_
       refine W.skip (gk rfl rfl rfl rfl) rfl ?_
       refine W.skip (gk rfl rfl rfl rfl) rfl ?_
       refine W.skip (gk rfl rfl rfl rfl) rfl ?_
       refine W.pure (v := (.bool true)) rfl rfl (v_pickT (oo rfl rfl) (oo rfl rfl)) ?_
       refine .nil ?_
       obtain rfl := Option.some.inj h167
       exact ⟨true, _, rfl, O158, s159, rfl⟩
      ·have h168 := neg_b g165 h156
       refine W.pure (v := (padd (.pointer (some ⟨b38, 0, none⟩)) 1)) (gk rfl rfl gv166 rfl) rfl (v_fldA fl56_1 (oo rfl rfl) (O158.atVar (j := 2) rfl)) ?_
       obtain ⟨w169, p170, f171⟩ := At.sl (At.proj (O158.atVar (j := 2) rfl) p_Topology_Island)
       refine W.load1 (v := w169) (r := []) (gk rfl rfl gv166 rfl) rfl ag24 (pt_px rfl p170) ?_
       refine W.pure (v := (padd (.pointer (some ⟨b129, 0, none⟩)) 1)) (gk rfl rfl gv166 rfl) rfl (v_fldA fl56_1 (oo rfl rfl) (O158.atVar (j := 0) rfl)) ?_
       obtain ⟨w172, p173, f174⟩ := At.sl (At.proj (O158.atVar (j := 0) rfl) p_Topology_Island)
       refine W.load1 (v := w172) (r := []) (gk rfl rfl gv166 rfl) rfl ag24 (pt_px rfl p173) ?_
       obtain ⟨x175, i176, h177⟩ := bd_inv h168
       refine W.lo (gk rfl rfl gv166 rfl) rfl (Lo.callP (ps := []) (ps' := []) rfl (fn := Try.f16) (by kernel_rfl) rfl (mc rfl (mc rfl mn)) O158 (fun L' O' => g_slices_Equal_int_int_ok K w169 x24.1.Island f171 w172 x115.Island f174 O' _ i176)) ?_
       rintro v184 H185 ⟨G178, O179, s180, sm183, rfl⟩
       replace O179 : Ow G178 H185 (eVar b129 56 T_Topology x115 :: eSl w57 4 rB x49.1 :: eVar b38 56 T_Topology x24.1 :: eVar b2 48 T_Network p0 :: L) := O179
       refine W.pure (v := (.bool (!x175))) (gk rfl rfl gv166 rfl) rfl (bool_not (a := x175) (oo rfl rfl)) ?_
       refine W.pure (v := (.bool (!x175))) rfl rfl (v_pickF (oo rfl gv166) (oo rfl rfl)) ?_
       refine W.pure (v := (.bool (!x175))) rfl rfl (v_move (oo rfl rfl)) ?_
       refine W.splitAt (t := 76) (b := (!x175)) rfl (fun g186 gv187 => ?_) (fun g186 gv187 => ?_)
       ·have h188 := pos_inv g186 h177
        refine W.skip (gk rfl rfl gv187 rfl) rfl ?_
        refine W.skip (gk rfl rfl gv187 rfl) rfl ?_
        refine W.skip (gk rfl rfl gv187 rfl) rfl ?_
        refine W.skip (gk rfl rfl gv187 rfl) rfl ?_
        refine W.skip (gk rfl rfl gv187 rfl) rfl ?_
        refine W.skip (gk rfl rfl gv187 rfl) rfl ?_
        refine W.pure (v := (.bool true)) rfl rfl (v_pickT (oo rfl gv187) (oo rfl rfl)) ?_
        refine .nil ?_
        obtain rfl := Option.some.inj h188
        exact ⟨true, _, rfl, O179, (GM.le.trans s159 s180), rfl⟩
       ·have h189 := neg_b g186 h177
        refine W.pure (v := w57) (gk rfl rfl gv187 rfl) rfl (v_move (oo rfl rfl)) ?_
        refine W.pure (v := (.int .i64 (List.length x49.1 : Int))) (gk rfl rfl gv187 rfl) rfl (len_sl (oo rfl rfl) (O179.slLen (j := 1) rfl) (elemT_inv el30)) ?_
        refine W.pure (v := (padd (.pointer (some ⟨b129, 0, none⟩)) 1)) (gk rfl rfl gv187 rfl) rfl (v_fldA fl56_1 (oo rfl rfl) (O179.atVar (j := 0) rfl)) ?_
        obtain ⟨w190, p191, f192⟩ := At.sl (At.proj (O179.atVar (j := 0) rfl) p_Topology_Island)
        refine W.load1 (v := w190) (r := []) (gk rfl rfl gv187 rfl) rfl ag24 (pt_px rfl p191) ?_
        obtain ⟨x193, i194, h195⟩ := bd_inv h189
        refine W.lo (gk rfl rfl gv187 rfl) rfl (Lo.callP (ps := []) (ps' := []) rfl (fn := Try.f32) (by kernel_rfl) rfl (mc rfl mn) O179 (fun L' O' => g_R_Most_ok K w190 x115.Island f192 O' _ i194)) ?_
        rintro v202 H203 ⟨G196, O197, s198, sm201, rfl⟩
        replace O197 : Ow G196 H203 (eVar b129 56 T_Topology x115 :: eSl w57 4 rB x49.1 :: eVar b38 56 T_Topology x24.1 :: eVar b2 48 T_Network p0 :: L) := O197
        refine W.pure (v := (.bool ((List.length x49.1 : Int) != x193))) (gk rfl rfl gv187 rfl) rfl (v_int (oo rfl rfl) (oo rfl rfl) rfl) ?_
        refine W.pure (v := (.bool ((List.length x49.1 : Int) != x193))) rfl rfl (v_pickF (oo rfl gv187) (oo rfl rfl)) ?_
        refine .nil ?_
        obtain rfl := Option.some.inj h195
        exact ⟨((List.length x49.1 : Int) != x193), _, rfl, O197, (GM.le.trans s159 (GM.le.trans s180 s198)), rfl⟩
   ·rintro σ205 H206 fr207 ⟨x204, G208, rfl, O209, s210, t212⟩
    have h213 := tu1_inv h139
    refine .cond (b := x204) rfl t212 (fun g214 => ?_) (fun g214 => ?_)
    ·have h215 := pos_inv g214 h213
     refine .seq ?_
     refine .region ?_
     refine W.pure (v := (.bool false)) rfl rfl (v_assign (oo rfl rfl)) ?_
     refine .nil ?_
     refine .ret ?_
     have O216 : Ow G208 H206 (eSl w57 4 rB x49.1 :: eVar b38 56 T_Topology x24.1 :: eVar b2 48 T_Network p0 :: L) := O209.drop 0
     have O217 : Ow G208 H206 (eVar b38 56 T_Topology x24.1 :: eVar b2 48 T_Network p0 :: L) := O216.drop 0
     have O218 : Ow G208 H206 (eVar b2 48 T_Network p0 :: L) := O217.drop 0
     have O219 : Ow G208 H206 (L) := O218.drop 0
     obtain rfl := Option.some.inj h215
     refine ret1R (P := Try.prog) (fn := Try.f6) (n := 134) (R := fun v H' => ∃ G', Ow G' H' (L) ∧ G.le G' ∧ v = .bool false) (v1 := (.bool false)) (by rfl) (rr_tmp (by rfl) (by exact rfl)) ?_
     exact ⟨_, O219, (GM.le.trans s11 (GM.le.trans s29 (GM.le.trans s54 (GM.le.trans s70 (GM.le.trans s120 s210))))), rfl⟩
    ·have h220 := neg_b g214 h213
     refine .skip ?_
     refine .seq ?_
     refine .seq ?_
     refine .region ?_
     refine W.pure (v := w57) rfl rfl (v_move (oo rfl ((fr207 5 rfl).trans rfl))) ?_
     refine W.pure (v := (.int .i64 (List.length x49.1 : Int))) rfl rfl (len_sl (oo rfl rfl) (O209.slLen (j := 1) rfl) (elemT_inv el30)) ?_
     refine W.pure (v := (.int .i64 0)) rfl rfl (v_move (oo rfl rfl)) ?_
     refine .nil ?_
     obtain ⟨q221, h222, h223⟩ := bindS_inv h220
     refine AW.midT (fun σ' H' => ∃  (G' : GM), (.inr ()) = q221 ∧ Ow G' H' (eVar b129 56 T_Topology x115 :: eSl w57 4 rB x49.1 :: eVar b38 56 T_Topology x24.1 :: eVar b2 48 T_Network p0 :: L) ∧ GM.le G208 G') ?_ ?_
     ·refine .block ?_
      refine AW.loop (α := Nat) (fun k' σ' H' => ∃ (y1 : Int) (G' : GM), g_law_TopologyParts_l0 K x49 p0 x115 k' y1 = some q221 ∧ Ow G' H' (eVar b129 56 T_Topology x115 :: eSl w57 4 rB x49.1 :: eVar b38 56 T_Topology x24.1 :: eVar b2 48 T_Network p0 :: L) ∧ GM.le G208 G' ∧ σ' 86 = .int .i64 y1) (fun k' => k') K ⟨0, _, h222, O209, (GM.le.refl _), rfl⟩ ?_
      rintro k224
      rintro σ226 H227 fr228 ⟨x225, G229, h232, O230, s231, t233⟩
      rcases k224 with _ | k224
      ·exact none_absurd h232
      rw [g_law_TopologyParts_l0] at h232
      refine .seq ?_
      refine .region ?_
      refine W.pure (v := (.bool (decide (x225 < (List.length x49.1 : Int))))) rfl rfl (v_int (oo rfl t233) (oo rfl ((fr228 85 rfl).trans rfl)) rfl) ?_
      refine .nil ?_
      refine .seq ?_
      refine .cond (b := decide (x225 < (List.length x49.1 : Int))) rfl rfl (fun g234 => ?_) (fun g234 => ?_)
      ·have h235 := pos_inv g234 h232
       refine .skip ?_
       refine .seq ?_
       refine .block ?_
       refine .seq ?_
       refine .region ?_
       refine W.pure (v := (.int .i64 x225)) rfl rfl (v_move (oo rfl t233)) ?_
       obtain ⟨x236, i237, h238⟩ := bd_inv h235
       have j239 := idx_inv i237
       refine W.pure (v := (selem w57 (Int.toNat x225 * 1))) rfl rfl (v_idx el30 sz4 (oo rfl ((fr228 84 rfl).trans rfl)) (oo rfl t233) (O230.slLen (j := 1) rfl) j239.1 j239.2.1) ?_
       refine W.load1 (v := (.bool x236)) (r := []) rfl rfl ag4 (pt_px rfl (At.bool (O230.atSl (j := 1) rfl j239.2.2))) ?_
       refine W.pure (v := (.int .i64 x225)) rfl rfl (v_assign (oo rfl rfl)) ?_
       refine W.pure (v := (.bool x236)) rfl rfl (v_assign (oo rfl rfl)) ?_
       refine .nil ?_
       refine .seq ?_
       refine .region ?_
       refine W.pure (v := (.bool false)) rfl rfl (v_assign (oo rfl rfl)) ?_
       refine .nil ?_
       refine .seq ?_
       refine .seq ?_
       refine .region ?_
       refine W.pure (v := (padd (.pointer (some ⟨b2, 0, none⟩)) 0)) rfl rfl (v_fldA fl48_0 (oo rfl ((fr228 1 rfl).trans ((fr207 1 rfl).trans rfl))) (O230.atVar (j := 3) rfl)) ?_
       obtain ⟨w240, p241, f242⟩ := At.sl (At.proj (O230.atVar (j := 3) rfl) p_Network_Nodes)
       refine W.load1 (v := w240) (r := []) rfl rfl ag41 (pt_px rfl p241) ?_
       refine W.pure (v := (.int .i64 (List.length p0.Nodes : Int))) rfl rfl (len_sl (oo rfl rfl) (sl_len f242) (elemT_inv el41)) ?_
       refine W.pure (v := (.int .i64 0)) rfl rfl (v_move (oo rfl rfl)) ?_
       refine .nil ?_
       obtain ⟨q243, h244, h245⟩ := bd_inv h238
       refine AW.midT (fun σ' H' => ∃ (y1 : Bool) (G' : GM), y1 = q243 ∧ Ow G' H' (eVar b129 56 T_Topology x115 :: eSl w57 4 rB x49.1 :: eVar b38 56 T_Topology x24.1 :: eVar b2 48 T_Network p0 :: L) ∧ GM.le G229 G' ∧ σ' 11 = .bool y1) ?_ ?_
       ·refine .block ?_
        refine AW.loop (α := Nat) (fun k' σ' H' => ∃ (y1 : Bool) (y2 : Int) (G' : GM), g_law_TopologyParts_l2 K p0 x115 x225 k' y1 y2 = some q243 ∧ Ow G' H' (eVar b129 56 T_Topology x115 :: eSl w57 4 rB x49.1 :: eVar b38 56 T_Topology x24.1 :: eVar b2 48 T_Network p0 :: L) ∧ GM.le G229 G' ∧ σ' 11 = .bool y1 ∧ σ' 94 = .int .i64 y2) (fun k' => k') K ⟨false, 0, _, h244, O230, (GM.le.refl _), rfl, rfl⟩ ?_
        rintro k246
        rintro σ249 H250 fr251 ⟨x247, x248, G252, h255, O253, s254, t256, t257⟩
        rcases k246 with _ | k246
        ·exact none_absurd h255
        rw [g_law_TopologyParts_l2] at h255
        refine .seq ?_
        refine .region ?_
        refine W.pure (v := (.bool (decide (x248 < (List.length p0.Nodes : Int))))) rfl rfl (v_int (oo rfl t257) (oo rfl ((fr251 93 rfl).trans rfl)) rfl) ?_
        refine .nil ?_
        refine .seq ?_
        refine .cond (b := decide (x248 < (List.length p0.Nodes : Int))) rfl rfl (fun g258 => ?_) (fun g258 => ?_)
        ·have h259 := pos_inv g258 h255
         refine .skip ?_
         refine .seq ?_
         obtain ⟨q260, h261, h262⟩ := bd_inv h259
         refine AW.midT (fun σ' H' => ∃ (y1 : Bool) (G' : GM), y1 = q260 ∧ Ow G' H' (eVar b129 56 T_Topology x115 :: eSl w57 4 rB x49.1 :: eVar b38 56 T_Topology x24.1 :: eVar b2 48 T_Network p0 :: L) ∧ GM.le G252 G' ∧ σ' 11 = .bool y1) ?_ ?_
         ·refine .block ?_
          refine .seq ?_
          refine .region ?_
          refine W.pure (v := (.int .i64 x248)) rfl rfl (v_move (oo rfl t257)) ?_
          obtain ⟨x263, i264, h265⟩ := bd_inv h261
          have j266 := idx_inv i264
          refine W.pure (v := (selem w240 (Int.toNat x248 * 1))) rfl rfl (v_idx el41 sz9 (oo rfl ((fr251 92 rfl).trans rfl)) (oo rfl t257) (sl_len (RT.mono _ s254 f242)) j266.1 j266.2.1) ?_
          refine W.load1 (v := (.string x263)) (r := []) rfl rfl ag9 (pt_px rfl (At.str (At.le (At.le (sl_idx f242 j266.2.2) s254 s254) (GM.le.refl _) O253.fro))) ?_
          refine W.lo rfl rfl (Lo.alloc (r := rS) (x0 := ByteArray.empty) ze9 (by kernel_rfl) zS O253) ?_
          rintro v270 H271 ⟨b268, rfl, O267, sm269⟩
          refine W.pure (v := (.int .i64 x248)) rfl rfl (v_assign (oo rfl rfl)) ?_
          refine W.lo rfl rfl (Lo.storeVar (j := 0) (s := rS) (y0 := x263) (v := (.string x263)) (o := 0) rfl ((Put.at (Put.self _) _ _)) rfl sz9 rfl (by omega) rfl rfl O267) ?_
          rintro v274 H275 ⟨O272, sm273⟩
          replace O272 : Ow G252 H275 (eVar b268 9 rS x263 :: eVar b129 56 T_Topology x115 :: eSl w57 4 rB x49.1 :: eVar b38 56 T_Topology x24.1 :: eVar b2 48 T_Network p0 :: L) := O272
          refine .nil ?_
          refine .seq ?_
          refine .draw2 (M := [0, 1, 0, 4, 0, 28, 60, 127, 255, 0, 1023, 2047]) mixed (by kernel_rfl) (by kernel_rfl) fun H276 N280 x277 F279 => ?_
          have O278 := O272.ext x277
          refine D2.pure (v := (padd (.pointer (some ⟨b129, 0, none⟩)) 1)) rfl rfl (v_fldA fl56_1 (oo rfl ((fr251 8 rfl).trans ((fr228 8 rfl).trans ((fr207 8 rfl).trans rfl)))) (O278.atVar (j := 1) rfl)) ?_
          obtain ⟨w281, p282, f283⟩ := At.sl (At.proj (O278.atVar (j := 1) rfl) p_Topology_Island)
          refine D2.load1' (v := w281) (r := []) rfl rfl ag24 (pt_px rfl p282) fa_nil ?_
          refine D2.pure (v := (padd (.pointer (some ⟨b129, 0, none⟩)) 0)) rfl rfl (v_fldA fl56_0 (oo rfl ((fr251 8 rfl).trans ((fr228 8 rfl).trans ((fr207 8 rfl).trans rfl)))) (O278.atVar (j := 1) rfl)) ?_
          obtain ⟨w284, p285, f286⟩ := At.sl (At.proj (O278.atVar (j := 1) rfl) p_Topology_Bus)
          refine D2.load1' (v := w284) (r := []) rfl rfl ag24 (pt_px rfl p285) fa_nil ?_
          refine D2.pure (v := (.int .i64 x248)) rfl rfl (v_move (oo rfl rfl)) ?_
          obtain ⟨x287, i288, h289⟩ := bd_inv h265
          have j290 := idx_inv i288
          refine D2.pure (v := (selem w284 (Int.toNat x248 * 1))) rfl rfl (v_idx el24 sz3 (oo rfl rfl) (oo rfl rfl) (sl_len f286) j290.1 j290.2.1) ?_
          refine D2.load1' (v := (.int .i64 x287)) (r := []) rfl rfl ag3 (pt_px rfl (At.int (At.le (sl_idx f286 j290.2.2) (GM.le.refl _) O278.fro))) fa_nil ?_
          obtain ⟨x291, i292, h293⟩ := bd_inv h289
          have j294 := idx_inv i292
          refine D2.pure (v := (selem w281 (Int.toNat x287 * 1))) rfl rfl (v_idx el24 sz3 (oo rfl rfl) (oo rfl rfl) (sl_len f283) j294.1 j294.2.1) ?_
          refine D2.load1' (v := (.int .i64 x291)) (r := []) rfl rfl ag3 (pt_px rfl (At.int (At.le (sl_idx f283 j294.2.2) (GM.le.refl _) O278.fro))) fa_nil ?_
          refine D2.pure (v := (.int .i64 x225)) rfl rfl (v_move (oo rfl ((fr251 9 rfl).trans rfl))) ?_
          refine D2.pure (v := (.bool (x291 == x225))) rfl rfl (v_int (oo rfl rfl) (oo rfl rfl) rfl) ?_
          refine D2.pure (v := (.bool (x291 == x225))) rfl rfl (v_assign (oo rfl rfl)) ?_
          refine .nil ?_
          refine .region ?_
          refine W.pure (v := (.bool x247)) rfl rfl (v_move (oo rfl t256)) ?_
          refine W.pure (v := (.bool x247)) rfl rfl (v_move (oo rfl rfl)) ?_
          refine W.splitAt (t := 111) (b := x247) rfl (fun g295 gv296 => ?_) (fun g295 gv296 => ?_)
          ·have h297 := pos_inv g295 h293
           refine W.skip (gk rfl rfl gv296 rfl) rfl ?_
           refine W.skip (gk rfl rfl gv296 rfl) rfl ?_
           refine W.skipU rfl rfl rfl rfl ?_
           refine W.skipU rfl rfl rfl rfl ?_
           refine W.skipU rfl rfl rfl rfl ?_
           refine W.skipU rfl rfl rfl rfl ?_
           refine W.skip (gk rfl rfl gv296 rfl) rfl ?_
           refine W.pure (v := (.bool true)) rfl rfl (v_pickT (oo rfl gv296) (oo rfl rfl)) ?_
           refine W.pure (v := (.bool true)) rfl rfl (v_move (oo rfl rfl)) ?_
           refine W.skip (gk rfl rfl rfl rfl) rfl ?_
           refine W.skip (gk rfl rfl rfl rfl) rfl ?_
           refine W.skipU rfl rfl rfl rfl ?_
           refine W.skipU rfl rfl rfl rfl ?_
           refine W.skipU rfl rfl rfl rfl ?_
           refine W.skipU rfl rfl rfl rfl ?_
           refine W.skip (gk rfl rfl rfl rfl) rfl ?_
           refine W.pure (v := (.bool true)) rfl rfl (v_pickT (oo rfl rfl) (oo rfl rfl)) ?_
           refine W.pure (v := (.bool true)) rfl rfl (v_assign (oo rfl rfl)) ?_
           refine .nil ?_
           have O298 : Ow G252 H276 (eVar b129 56 T_Topology x115 :: eSl w57 4 rB x49.1 :: eVar b38 56 T_Topology x24.1 :: eVar b2 48 T_Network p0 :: L) := O278.drop 0
           obtain rfl := Option.some.inj h297
           exact ⟨true, _, rfl, O298, (GM.le.refl _), rfl⟩
          ·have h299 := neg_b g295 h293
           refine W.pure (v := (.bool (x291 == x225))) (gk rfl rfl gv296 rfl) rfl (v_move (oo rfl rfl)) ?_
           refine W.pure (v := (.bool (x291 == x225))) (gk rfl rfl gv296 rfl) rfl (v_move (oo rfl rfl)) ?_
           refine W.splitAt (t := 113) (b := (x291 == x225)) rfl (fun g300 gv301 => ?_) (fun g300 gv301 => ?_)
           ·have h302 := pos_inv g300 h299
            refine W.pure (v := (padd (.pointer (some ⟨b2, 0, none⟩)) 3)) (gk rfl rfl gv301 rfl) rfl (v_fldA fl48_3 (oo rfl ((fr251 1 rfl).trans ((fr228 1 rfl).trans ((fr207 1 rfl).trans rfl)))) (O278.atVar (j := 4) rfl)) ?_
            obtain ⟨w303, p304, f305⟩ := At.sl (At.proj (O278.atVar (j := 4) rfl) p_Network_Gens)
            refine W.load1 (v := w303) (r := []) (gk rfl rfl gv301 rfl) rfl ag44 (pt_px rfl p304) ?_
            refine W.pure (v := (.func (.func 34) #[] #[(.pointer (some ⟨b268, 0, none⟩))])) (gk rfl rfl gv301 rfl) rfl (v_makeFunc (opndL_ooL rfl mn) (opndL_ooL rfl (mc rfl mn))) ?_
            obtain ⟨G306, O307, s308, f309⟩ := O278.frzVar (j := 0) rfl
            replace O307 : Ow G306 H276 (eVar b129 56 T_Topology x115 :: eSl w57 4 rB x49.1 :: eVar b38 56 T_Topology x24.1 :: eVar b2 48 T_Network p0 :: L) := O307
            obtain ⟨x312, i313, h314⟩ := bd_inv h302
            refine W.lo (gk rfl rfl gv301 rfl) rfl (Lo.callP (ps := []) (ps' := []) rfl (fn := Try.f33) (by kernel_rfl) rfl (mc rfl (mc rfl mn)) O307 (fun L' O' => g_slices_ContainsFunc_api_Gen_api_Gen_ok K w303 p0.Gens (RT.mono _ s308 f305) (.func (.func 34) #[] #[(.pointer (some ⟨b268, 0, none⟩))]) (fun x => g_law_TopologyParts_1 K x x263) ⟨34, _, _, Try.f34, rfl, by kernel_rfl, rfl, fun G1 H L vs x r hG O hA hF => by obtain ⟨w310, rfl, f311⟩ := hA; exact g_law_TopologyParts_1_ok K w310 x f311 (.pointer (some ⟨b268, 0, none⟩)) x263 (At.le f309 hG hG) O _ hF⟩ O' _ i313)) ?_
            rintro v321 H322 ⟨G315, O316, s317, sm320, rfl⟩
            replace O316 : Ow G315 H322 (eVar b129 56 T_Topology x115 :: eSl w57 4 rB x49.1 :: eVar b38 56 T_Topology x24.1 :: eVar b2 48 T_Network p0 :: L) := O316
            refine W.pure (v := (.bool x312)) (gk rfl rfl gv296 rfl) rfl (v_pickT (oo rfl gv301) (oo rfl rfl)) ?_
            refine W.pure (v := (.bool x312)) rfl rfl (v_pickF (oo rfl gv296) (oo rfl rfl)) ?_
            refine W.pure (v := (.bool x312)) rfl rfl (v_move (oo rfl rfl)) ?_
            refine W.splitAt (t := 120) (b := x312) rfl (fun g323 gv324 => ?_) (fun g323 gv324 => ?_)
            ·have h325 := pos_inv g323 h314
             refine W.skip (gk rfl rfl gv324 rfl) rfl ?_
             refine W.skip (gk rfl rfl gv324 rfl) rfl ?_
             refine W.skipU rfl rfl rfl rfl ?_
             refine W.skipU rfl rfl rfl rfl ?_
             refine W.skipU rfl rfl rfl rfl ?_
             refine W.skipU rfl rfl rfl rfl ?_
             refine W.skip (gk rfl rfl gv324 rfl) rfl ?_
             refine W.pure (v := (.bool true)) rfl rfl (v_pickT (oo rfl gv324) (oo rfl rfl)) ?_
             refine W.pure (v := (.bool true)) rfl rfl (v_assign (oo rfl rfl)) ?_
             refine .nil ?_
             obtain rfl := Option.some.inj h325
             exact ⟨true, _, rfl, O316, (GM.le.trans s308 s317), rfl⟩
            ·have h326 := neg_b g323 h314
             refine W.pure (v := (.bool true)) (gk rfl rfl gv324 rfl) rfl (v_move (oo rfl (((rfl : _ = Value.bool (x291 == x225))).trans (congrArg Value.bool g300)))) ?_
             refine W.pure (v := (.bool true)) (gk rfl rfl gv324 rfl) rfl (v_move (oo rfl rfl)) ?_
             refine W.pure (v := (padd (.pointer (some ⟨b2, 0, none⟩)) 5)) (gk rfl rfl rfl rfl) rfl (v_fldA fl48_5 (oo rfl ((fr251 1 rfl).trans ((fr228 1 rfl).trans ((fr207 1 rfl).trans rfl)))) (O316.atVar (j := 3) rfl)) ?_
             obtain ⟨w327, p328, f329⟩ := At.sl (At.proj (O316.atVar (j := 3) rfl) p_Network_Stores)
             refine W.load1 (v := w327) (r := []) (gk rfl rfl rfl rfl) rfl ag46 (pt_px rfl p328) ?_
             refine W.pure (v := (.func (.func 36) #[] #[(.pointer (some ⟨b268, 0, none⟩))])) (gk rfl rfl rfl rfl) rfl (v_makeFunc (opndL_ooL rfl mn) (opndL_ooL rfl (mc rfl mn))) ?_
             obtain ⟨x332, i333, h334⟩ := bd_inv h326
             refine W.lo (gk rfl rfl rfl rfl) rfl (Lo.callP (ps := []) (ps' := []) rfl (fn := Try.f35) (by kernel_rfl) rfl (mc rfl (mc rfl mn)) O316 (fun L' O' => g_slices_ContainsFunc_api_Store_api_Store_ok K w327 p0.Stores f329 (.func (.func 36) #[] #[(.pointer (some ⟨b268, 0, none⟩))]) (fun x => g_law_TopologyParts_2 K x x263) ⟨36, _, _, Try.f36, rfl, by kernel_rfl, rfl, fun G1 H L vs x r hG O hA hF => by obtain ⟨w330, rfl, f331⟩ := hA; exact g_law_TopologyParts_2_ok K w330 x f331 (.pointer (some ⟨b268, 0, none⟩)) x263 (At.le (At.le f309 s317 s317) hG hG) O _ hF⟩ O' _ i333)) ?_
             rintro v341 H342 ⟨G335, O336, s337, sm340, rfl⟩
             replace O336 : Ow G335 H342 (eVar b129 56 T_Topology x115 :: eSl w57 4 rB x49.1 :: eVar b38 56 T_Topology x24.1 :: eVar b2 48 T_Network p0 :: L) := O336
             refine W.pure (v := (.bool x332)) (gk rfl rfl gv324 rfl) rfl (v_pickT (oo rfl rfl) (oo rfl rfl)) ?_
             refine W.pure (v := (.bool x332)) rfl rfl (v_pickF (oo rfl gv324) (oo rfl rfl)) ?_
             refine W.pure (v := (.bool x332)) rfl rfl (v_assign (oo rfl rfl)) ?_
             refine .nil ?_
             obtain rfl := Option.some.inj h334
             exact ⟨x332, _, rfl, O336, (GM.le.trans s308 (GM.le.trans s317 s337)), rfl⟩
           ·have h343 := neg_b g300 h299
            refine W.skip (gk rfl rfl gv301 rfl) rfl ?_
            refine W.skip (gk rfl rfl gv301 rfl) rfl ?_
            refine W.skip (gk rfl rfl gv301 rfl) rfl ?_
            refine W.skip (gk rfl rfl gv301 rfl) rfl ?_
            refine W.pure (v := (.bool false)) (gk rfl rfl gv296 rfl) rfl (v_pickF (oo rfl gv301) (oo rfl rfl)) ?_
            refine W.pure (v := (.bool false)) rfl rfl (v_pickF (oo rfl gv296) (oo rfl rfl)) ?_
            refine W.pure (v := (.bool false)) rfl rfl (v_move (oo rfl rfl)) ?_
            refine W.pure (v := (.bool false)) (gk rfl rfl rfl rfl) rfl (v_move (oo rfl (((rfl : _ = Value.bool (x291 == x225))).trans (congrArg Value.bool g300)))) ?_
            refine W.pure (v := (.bool false)) (gk rfl rfl rfl rfl) rfl (v_move (oo rfl rfl)) ?_
            refine W.skip (gk rfl rfl rfl rfl) rfl ?_
            refine W.skip (gk rfl rfl rfl rfl) rfl ?_
            refine W.skip (gk rfl rfl rfl rfl) rfl ?_
            refine W.skip (gk rfl rfl rfl rfl) rfl ?_
            refine W.pure (v := (.bool false)) (gk rfl rfl rfl rfl) rfl (v_pickF (oo rfl rfl) (oo rfl rfl)) ?_
            refine W.pure (v := (.bool false)) rfl rfl (v_pickF (oo rfl rfl) (oo rfl rfl)) ?_
            refine W.pure (v := (.bool false)) rfl rfl (v_assign (oo rfl rfl)) ?_
            refine .nil ?_
            have O344 : Ow G252 H276 (eVar b129 56 T_Topology x115 :: eSl w57 4 rB x49.1 :: eVar b38 56 T_Topology x24.1 :: eVar b2 48 T_Network p0 :: L) := O278.drop 0
            obtain rfl := Option.some.inj h343
            exact ⟨false, _, rfl, O344, (GM.le.refl _), rfl⟩
         ·rintro σ346 H347 fr348 ⟨x345, G349, rfl, O350, s351, t353⟩
          have h354 := tu1_inv h262
          refine .region ?_
          refine W.pure (v := (.int .i64 (kwrap .i64 (x248 + 1)))) rfl rfl (v_int (oo rfl ((fr348 94 rfl).trans t257)) (oo rfl rfl) rfl) ?_
          refine W.pure (v := (.int .i64 (kwrap .i64 (x248 + 1)))) rfl rfl (v_move (oo rfl rfl)) ?_
          refine .nil ?_
          exact ⟨k246, Nat.lt_succ_self _, ⟨x345, kwrap .i64 (x248 + 1), _, h354, O350, (GM.le.trans s254 s351), t353, rfl⟩⟩
        ·have h355 := neg_b g258 h255
         refine .exit ?_
         obtain rfl := Option.some.inj h355
         exact ⟨x247, _, rfl, O253, s254, t256⟩
       ·rintro σ357 H358 fr359 ⟨x356, G360, rfl, O361, s362, t364⟩
        have h365 := tu1_inv h245
        refine .seq ?_
        refine .region ?_
        refine W.pure (v := (.bool x356)) rfl rfl (v_move (oo rfl t364)) ?_
        refine W.pure (v := (.bool x236)) rfl rfl (v_move (oo rfl ((fr359 10 rfl).trans rfl))) ?_
        refine W.pure (v := (.bool (!(x356 == x236)))) rfl rfl (bool_neq (oo rfl rfl) (oo rfl rfl) un4) ?_
        refine .nil ?_
        refine .cond (b := (!(x356 == x236))) rfl rfl (fun g366 => ?_) (fun g366 => ?_)
        ·have h367 := pos_inv g366 h365
         refine .seq ?_
         refine .region ?_
         refine W.pure (v := (.bool false)) rfl rfl (v_assign (oo rfl rfl)) ?_
         refine .nil ?_
         refine .ret ?_
         have O368 : Ow G360 H358 (eSl w57 4 rB x49.1 :: eVar b38 56 T_Topology x24.1 :: eVar b2 48 T_Network p0 :: L) := O361.drop 0
         have O369 : Ow G360 H358 (eVar b38 56 T_Topology x24.1 :: eVar b2 48 T_Network p0 :: L) := O368.drop 0
         have O370 : Ow G360 H358 (eVar b2 48 T_Network p0 :: L) := O369.drop 0
         have O371 : Ow G360 H358 (L) := O370.drop 0
         obtain rfl := Option.some.inj h367
         have h372 := tu1_inv (outS_l h223)
         obtain rfl := Option.some.inj h372
         refine ret1R (P := Try.prog) (fn := Try.f6) (n := 134) (R := fun v H' => ∃ G', Ow G' H' (L) ∧ G.le G' ∧ v = .bool false) (v1 := (.bool false)) (by rfl) (rr_tmp (by rfl) (by exact rfl)) ?_
         exact ⟨_, O371, (GM.le.trans s11 (GM.le.trans s29 (GM.le.trans s54 (GM.le.trans s70 (GM.le.trans s120 (GM.le.trans s210 (GM.le.trans s231 s362))))))), rfl⟩
        ·have h373 := neg_b g366 h365
         refine .skip ?_
         refine .region ?_
         refine W.pure (v := (.int .i64 (kwrap .i64 (x225 + 1)))) rfl rfl (v_int (oo rfl ((fr359 86 rfl).trans t233)) (oo rfl rfl) rfl) ?_
         refine W.pure (v := (.int .i64 (kwrap .i64 (x225 + 1)))) rfl rfl (v_move (oo rfl rfl)) ?_
         refine .nil ?_
         exact ⟨k224, Nat.lt_succ_self _, ⟨kwrap .i64 (x225 + 1), _, h373, O361, (GM.le.trans s231 s362), rfl⟩⟩
      ·have h374 := neg_b g234 h232
       refine .exit ?_
       obtain rfl := Option.some.inj h374
       exact ⟨_, rfl, O230, s231⟩
     ·rintro σ375 H376 fr377 ⟨G378, rfl, O379, s380⟩
      have h382 := tu0_inv (outS_r h223)
      refine .seq ?_
      refine .region ?_
      refine W.pure (v := (.bool true)) rfl rfl (v_assign (oo rfl rfl)) ?_
      refine .nil ?_
      refine .ret ?_
      have O383 : Ow G378 H376 (eSl w57 4 rB x49.1 :: eVar b38 56 T_Topology x24.1 :: eVar b2 48 T_Network p0 :: L) := O379.drop 0
      have O384 : Ow G378 H376 (eVar b38 56 T_Topology x24.1 :: eVar b2 48 T_Network p0 :: L) := O383.drop 0
      have O385 : Ow G378 H376 (eVar b2 48 T_Network p0 :: L) := O384.drop 0
      have O386 : Ow G378 H376 (L) := O385.drop 0
      obtain rfl := Option.some.inj h382
      refine ret1R (P := Try.prog) (fn := Try.f6) (n := 134) (R := fun v H' => ∃ G', Ow G' H' (L) ∧ G.le G' ∧ v = .bool true) (v1 := (.bool true)) (by rfl) (rr_tmp (by rfl) (by exact rfl)) ?_
      exact ⟨_, O386, (GM.le.trans s11 (GM.le.trans s29 (GM.le.trans s54 (GM.le.trans s70 (GM.le.trans s120 (GM.le.trans s210 s380)))))), rfl⟩
end Go.Am.Try
