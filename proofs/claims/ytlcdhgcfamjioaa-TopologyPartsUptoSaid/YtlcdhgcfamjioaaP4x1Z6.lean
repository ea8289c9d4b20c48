/- Typed functions with the same answers as the program's, and the walks that show it. -/
import Derived.Test.YtlcdhgcfamjioaaP4x0Z6
namespace Go.Am.Try
open Go Go.Am Go.Proofs
set_option linter.unusedVariables false
set_option linter.unusedSimpArgs false
set_option maxRecDepth 10000

def g_graph_Count_l0 (K : Nat) (p0 : List Int) : Nat → Int → Int → Option (Int)
 | 0, _, _ => none
 | k + 1, x5, x6 => (if (decide (x6 < (List.length p0 : Int))) = true then ((idx p0 x6).bind fun x18 => g_graph_Count_l0 K p0 k (imax x5 (kwrap .i64 (x18 + 1))) (kwrap .i64 (x6 + 1))) else some x5)
def g_graph_Count (K : Nat) (p0 : List Int) : Option Int := (Option.bind (g_graph_Count_l0 K p0 K 0 0) (tu1 fun x23 => some x23))
set_option maxHeartbeats 4000000 in
theorem g_graph_Count_ok (K : Nat) {G : GM} {H : AH} {L : List Pc} (v0 : Value) (p0 : List Int) (hp0 : (rSl (rI .i64)).rep G [v0] p0) (O : Ow G H (L)) (r : Int) (h : g_graph_Count K p0 = some r) :
  CR Try.prog 80 [v0] G H (L) (fun v G' _ => v = .int .i64 r) := by
 unfold g_graph_Count at h
 refine CR.of (calls_of_AW (n := 18) (fn := Try.f80) (R := fun v H' => ∃ G', Ow G' H' (L) ∧ G.le G' ∧ v = .int .i64 r) (by kernel_rfl) rfl rfl ?_)
 refine .seq ?_
 refine .region ?_
 refine W.pure (v := (.int .i64 0)) rfl rfl (v_assign (oo rfl rfl)) ?_
 refine .nil ?_
 refine .seq ?_
 refine .region ?_
 refine W.pure (v := (.int .i64 0)) rfl rfl (v_assign (oo rfl rfl)) ?_
 refine .nil ?_
 refine .seq ?_
 refine .seq ?_
 refine .region ?_
 refine W.pure (v := v0) rfl rfl (v_move (oo rfl rfl)) ?_
 refine W.pure (v := (.int .i64 (List.length p0 : Int))) rfl rfl (len_sl (oo rfl rfl) (sl_len hp0) (elemT_inv el24)) ?_
 refine W.pure (v := (.int .i64 0)) rfl rfl (v_move (oo rfl rfl)) ?_
 refine .nil ?_
 obtain ⟨q1, h2, h3⟩ := bd_inv h
 refine AW.midT (fun σ' H' => ∃ (y1 : Int) (G' : GM), y1 = q1 ∧ Ow G' H' (L) ∧ GM.le G G' ∧ σ' 3 = .int .i64 y1) ?_ ?_
 ·refine .block ?_
  refine AW.loop (α := Nat) (fun k' σ' H' => ∃ (y1 : Int) (y2 : Int) (G' : GM), g_graph_Count_l0 K p0 k' y1 y2 = some q1 ∧ Ow G' H' (L) ∧ GM.le G G' ∧ σ' 3 = .int .i64 y1 ∧ σ' 8 = .int .i64 y2) (fun k' => k') K ⟨0, 0, _, h2, O, (GM.le.refl _), rfl, rfl⟩ ?_
  rintro k4
  rintro σ7 H8 fr9 ⟨x5, x6, G10, h13, O11, s12, t14, t15⟩
  rcases k4 with _ | k4
  ·exact none_absurd h13
  rw [g_graph_Count_l0] at h13
  refine .seq ?_
  refine .region ?_
  refine W.pure (v := (.bool (decide (x6 < (List.length p0 : Int))))) rfl rfl (v_int (oo rfl t15) (oo rfl ((fr9 7 rfl).trans rfl)) rfl) ?_
  refine .nil ?_
  refine .seq ?_
  refine .cond (b := decide (x6 < (List.length p0 : Int))) rfl rfl (fun g16 => ?_) (fun g16 => ?_)
  ·have h17 := pos_inv g16 h13
   refine .skip ?_
   refine .seq ?_
   refine .block ?_
   refine .seq ?_
   refine .region ?_
   obtain ⟨x18, i19, h20⟩ := bd_inv h17
   have j21 := idx_inv i19
   refine W.pure (v := (selem v0 (Int.toNat x6 * 1))) rfl rfl (v_idx el24 sz3 (oo rfl ((fr9 6 rfl).trans rfl)) (oo rfl t15) (sl_len (RT.mono _ s12 hp0)) j21.1 j21.2.1) ?_
   refine W.load1 (v := (.int .i64 x18)) (r := []) rfl rfl ag3 (pt_px rfl (At.int (At.le (At.le (sl_idx hp0 j21.2.2) s12 s12) (GM.le.refl _) O11.fro))) ?_
   refine W.pure (v := (.int .i64 x18)) rfl rfl (v_assign (oo rfl rfl)) ?_
   refine .nil ?_
   refine .region ?_
   refine W.pure (v := (.int .i64 x5)) rfl rfl (v_move (oo rfl t14)) ?_
   refine W.pure (v := (.int .i64 x18)) rfl rfl (v_move (oo rfl rfl)) ?_
   refine W.pure (v := (.int .i64 (kwrap .i64 (x18 + 1)))) rfl rfl (v_int (oo rfl rfl) (oo rfl rfl) rfl) ?_
   refine W.pure (v := (.int .i64 (imax x5 (kwrap .i64 (x18 + 1))))) rfl rfl (v_max2 (oo rfl rfl) (oo rfl rfl)) ?_
   refine W.pure (v := (.int .i64 (imax x5 (kwrap .i64 (x18 + 1))))) rfl rfl (v_assign (oo rfl rfl)) ?_
   refine .nil ?_
   refine .region ?_
   refine W.pure (v := (.int .i64 (kwrap .i64 (x6 + 1)))) rfl rfl (v_int (oo rfl t15) (oo rfl rfl) rfl) ?_
   refine W.pure (v := (.int .i64 (kwrap .i64 (x6 + 1)))) rfl rfl (v_move (oo rfl rfl)) ?_
   refine .nil ?_
   exact ⟨k4, Nat.lt_succ_self _, ⟨imax x5 (kwrap .i64 (x18 + 1)), kwrap .i64 (x6 + 1), _, h20, O11, s12, rfl, rfl⟩⟩
  ·have h22 := neg_b g16 h13
   refine .exit ?_
   obtain rfl := Option.some.inj h22
   exact ⟨x5, _, rfl, O11, s12, t14⟩
 ·rintro σ24 H25 fr26 ⟨x23, G27, rfl, O28, s29, t31⟩
  have h32 := tu1_inv h3
  refine .seq ?_
  refine .region ?_
  refine W.pure (v := (.int .i64 x23)) rfl rfl (v_move (oo rfl t31)) ?_
  refine W.pure (v := (.int .i64 x23)) rfl rfl (v_assign (oo rfl rfl)) ?_
  refine .nil ?_
  refine .ret ?_
  obtain rfl := Option.some.inj h32
  refine ret1R (P := Try.prog) (fn := Try.f80) (n := 18) (R := fun v H' => ∃ G', Ow G' H' (L) ∧ G.le G' ∧ v = .int .i64 x23) (v1 := (.int .i64 x23)) (by rfl) (rr_tmp (by rfl) (by exact rfl)) ?_
  exact ⟨_, O28, s29, rfl⟩
def g_topology_Wires_l0 (K : Nat) (p0 : Network) (p1 : List Int) : Nat → List (List Int) → Int → Option (List (List Int))
 | 0, _, _ => none
 | k + 1, x14, x15 => (if (decide (x15 < (List.length p0.Branches : Int))) = true then ((idx p0.Branches x15).bind fun x26 => ((g_slices_Index_string_string K p0.Nodes x26.From).bind fun x50 => ((idx p1 x50).bind fun x61 => ((g_slices_Index_string_string K p0.Nodes x26.To).bind fun x68 => ((idx p1 x68).bind fun x79 => (if List.length x14 + List.length [[x61, x79]] ≤ 16777216 then g_topology_Wires_l0 K p0 p1 k (x14 ++ [[x61, x79]]) (kwrap .i64 (x15 + 1)) else none)))))) else some x14)
def g_topology_Wires (K : Nat) (p0 : Network) (p1 : List Int) : Option (List (List Int)) := (Option.bind (g_topology_Wires_l0 K p0 p1 K [] 0) (tu1 fun x104 => some x104))
set_option maxHeartbeats 4000000 in
theorem g_topology_Wires_ok (K : Nat) {G : GM} {H : AH} {L : List Pc} (v0 : List Value) (p0 : Network) (hp0 : T_Network.rep G v0 p0) (v1 : Value) (p1 : List Int) (hp1 : (rSl (rI .i64)).rep G [v1] p1) (O : Ow G H (L)) (r : List (List Int)) (h : g_topology_Wires K p0 p1 = some r) :
  CRF Try.prog 121 [.agg (List.toArray v0), v1] G H (fun w0 => (eSl w0 29 (rArr 2 (rI .i64)) r :: L)) (fun w0 v G' => w0 = v) := by
 unfold g_topology_Wires at h
 refine CRF.of (calls_of_AW (n := 37) (fn := Try.f121) (R := fun v H' => ∃ w0 G', Ow G' H' (eSl w0 29 (rArr 2 (rI .i64)) r :: L) ∧ G.le G' ∧ w0 = v) (by kernel_rfl) rfl rfl ?_)
 refine .seq ?_
 refine .region ?_
 refine W.lo rfl rfl (Lo.box (r := T_Network) (x0 := p0) (v := (.agg (List.toArray v0))) rfl rfl hp0 O) ?_
 rintro v4 H5 ⟨b2, rfl, O1, sm3⟩
 refine W.pure (v := (.slice none 0 0)) rfl rfl (v_assign (oo rfl rfl)) ?_
 refine .nil ?_
 refine .seq ?_
 refine .region ?_
 refine W.pure (v := (.slice none 0 0)) rfl rfl (v_assign (oo rfl rfl)) ?_
 refine .nil ?_
 refine .seq ?_
 refine .seq ?_
 refine .region ?_
 refine W.pure (v := (padd (.pointer (some ⟨b2, 0, none⟩)) 2)) rfl rfl (v_fldA fl48_2 (oo rfl rfl) (O1.atVar (j := 0) rfl)) ?_
 obtain ⟨w6, p7, f8⟩ := At.sl (At.proj (O1.atVar (j := 0) rfl) p_Network_Branches)
 refine W.load1 (v := w6) (r := []) rfl rfl ag43 (pt_px rfl p7) ?_
 refine W.pure (v := (.int .i64 (List.length p0.Branches : Int))) rfl rfl (len_sl (oo rfl rfl) (sl_len f8) (elemT_inv el43)) ?_
 refine W.pure (v := (.int .i64 0)) rfl rfl (v_move (oo rfl rfl)) ?_
 refine .nil ?_
 obtain ⟨q9, h10, h11⟩ := bd_inv h
 refine AW.midT (fun σ' H' => ∃ (y1 : List (List Int)) (G' : GM), y1 = q9 ∧ Ow G' H' (eVar b2 48 T_Network p0 :: eSl (σ' 5) 29 (rArr 2 (rI .i64)) y1 :: L) ∧ GM.le G G') ?_ ?_
 ·refine .block ?_
  have O12 := O1.nilSl 29 (rArr 2 (rI .i64))
  refine AW.loop (α := Nat) (fun k' σ' H' => ∃ (y1 : List (List Int)) (y2 : Int) (G' : GM), g_topology_Wires_l0 K p0 p1 k' y1 y2 = some q9 ∧ Ow G' H' (eSl (σ' 5) 29 (rArr 2 (rI .i64)) y1 :: eVar b2 48 T_Network p0 :: L) ∧ GM.le G G' ∧ σ' 11 = .int .i64 y2) (fun k' => k') K ⟨[], 0, _, h10, O12, (GM.le.refl _), rfl⟩ ?_
  rintro k13
  rintro σ16 H17 fr18 ⟨x14, x15, G19, h22, O20, s21, t23⟩
  rcases k13 with _ | k13
  ·exact none_absurd h22
  rw [g_topology_Wires_l0] at h22
  refine .seq ?_
  refine .region ?_
  refine W.pure (v := (.bool (decide (x15 < (List.length p0.Branches : Int))))) rfl rfl (v_int (oo rfl t23) (oo rfl ((fr18 10 rfl).trans rfl)) rfl) ?_
  refine .nil ?_
  refine .seq ?_
  refine .cond (b := decide (x15 < (List.length p0.Branches : Int))) rfl rfl (fun g24 => ?_) (fun g24 => ?_)
  ·have h25 := pos_inv g24 h22
   refine .skip ?_
   refine .seq ?_
   refine .block ?_
   refine .seq ?_
   refine .region ?_
   obtain ⟨x26, i27, h28⟩ := bd_inv h25
   have j29 := idx_inv i27
   refine W.pure (v := (selem w6 (Int.toNat x15 * 9))) rfl rfl (v_idx el43 sz50 (oo rfl ((fr18 9 rfl).trans rfl)) (oo rfl t23) (sl_len (RT.mono _ s21 f8)) j29.1 j29.2.1) ?_
   obtain ⟨c30, p31, f32⟩ := (At.le (At.le (sl_idx f8 j29.2.2) s21 s21) (GM.le.refl _) O20.fro)
   refine W.loadA (cs := c30) rfl rfl ag50 sz50 (pt_px rfl p31) (RT.len _ f32) ?_
   refine W.lo rfl rfl (Lo.alloc (r := T_Branch) (x0 := (Branch.mk ByteArray.empty ByteArray.empty ByteArray.empty 0 0 0 0 0 0)) ze50 (by kernel_rfl) z_Branch O20) ?_
   rintro v36 H37 ⟨b34, rfl, O33, sm35⟩
   refine W.lo rfl rfl (Lo.storeVar (j := 0) (s := T_Branch) (y0 := x26) (v := (.agg (List.toArray c30))) (o := 0) rfl ((Put.at (Put.self _) _ _)) rfl sz50 rfl (by omega) rfl f32 O33) ?_
   rintro v40 H41 ⟨O38, sm39⟩
   replace O38 : Ow G19 H41 (eVar b34 50 T_Branch x26 :: eSl (σ16 5) 29 (rArr 2 (rI .i64)) x14 :: eVar b2 48 T_Network p0 :: L) := O38
   refine .nil ?_
   refine .draw2 (M := [0, 0, 0, 4, 0, 16, 60, 126, 254, 0, 0, 1024, 0, 4096, 15484, 32380, 65148, 131070, 262142, 524287, 1048575]) mixed (by kernel_rfl) (by kernel_rfl) fun H42 N46 x43 F45 => ?_
   have O44 := O38.ext x43
   refine D2.pure (v := (σ16 5)) rfl rfl (v_move (oo rfl rfl)) ?_
   refine D2.pure (v := v1) rfl rfl (v_move (oo rfl ((fr18 1 rfl).trans rfl))) ?_
   refine D2.pure (v := (padd (.pointer (some ⟨b2, 0, none⟩)) 0)) rfl rfl (v_fldA fl48_0 (oo rfl ((fr18 2 rfl).trans rfl)) (O44.atVar (j := 2) rfl)) ?_
   obtain ⟨w47, p48, f49⟩ := At.sl (At.proj (O44.atVar (j := 2) rfl) p_Network_Nodes)
   refine D2.load1' (v := w47) (r := []) rfl rfl ag41 (pt_px rfl p48) fa_nil ?_
   refine D2.pure (v := (padd (.pointer (some ⟨b34, 0, none⟩)) 1)) rfl rfl (v_fldA fl50_1 (oo rfl rfl) (O44.atVar (j := 0) rfl)) ?_
   refine D2.load1' (v := (.string x26.From)) (r := []) rfl rfl ag9 (pt_px rfl (At.str (At.proj (O44.atVar (j := 0) rfl) p_Branch_From))) fa_nil ?_
   obtain ⟨x50, i51, h52⟩ := bd_inv h28
   refine D2.lo rfl rfl (Lo.callP (ps := []) (ps' := []) rfl (fn := Try.f82) (by kernel_rfl) rfl (mc rfl (mc rfl mn)) O44 (fun L' O' => g_slices_Index_string_string_ok K w47 p0.Nodes f49 x26.From O' _ i51)) ?_ fa_nil ?_ ?_
   ·rintro v59 H60 ⟨G53, O54, s55, sm58, rfl⟩; exact (faR1 (.inl (by decide)) (faR1 (.inl (by decide)) fa_nil))
   ·rintro v59 H60 ⟨G53, O54, s55, sm58, rfl⟩; exact fa_nil
   rintro v59 H60 ⟨G53, O54, s55, sm58, rfl⟩
   replace O54 : Ow G53 H60 (eVar b34 50 T_Branch x26 :: eSl (σ16 5) 29 (rArr 2 (rI .i64)) x14 :: eVar b2 48 T_Network p0 :: L) := O54
   obtain ⟨x61, i62, h63⟩ := bd_inv h52
   have j64 := idx_inv i62
   refine D2.pure (v := (selem v1 (Int.toNat x50 * 1))) rfl rfl (v_idx el24 sz3 (oo rfl rfl) (oo rfl rfl) (sl_len (RT.mono _ (GM.le.trans s21 s55) hp1)) j64.1 j64.2.1) ?_
   refine D2.load1' (v := (.int .i64 x61)) (r := []) rfl rfl ag3 (pt_px rfl (At.int (At.le (At.le (sl_idx hp1 j64.2.2) (GM.le.trans s21 s55) (GM.le.trans s21 s55)) (GM.le.refl _) O54.fro))) (faQ_bit (by decide) fa_nil) ?_
   refine D2.pure (v := v1) rfl rfl (v_move (oo rfl ((fr18 1 rfl).trans rfl))) ?_
   refine D2.pure (v := (padd (.pointer (some ⟨b2, 0, none⟩)) 0)) rfl rfl (v_fldA fl48_0 (oo rfl ((fr18 2 rfl).trans rfl)) (O54.atVar (j := 2) rfl)) ?_
   obtain ⟨w65, p66, f67⟩ := At.sl (At.proj (O54.atVar (j := 2) rfl) p_Network_Nodes)
   refine D2.load1' (v := w65) (r := []) rfl rfl ag41 (pt_px rfl p66) (faQ_eq (sm58 _ (Or.inr ⟨2, _, rfl, List.mem_singleton.2 rfl⟩)) fa_nil) ?_
   refine D2.pure (v := (padd (.pointer (some ⟨b34, 0, none⟩)) 2)) rfl rfl (v_fldA fl50_2 (oo rfl rfl) (O54.atVar (j := 0) rfl)) ?_
   refine D2.load1' (v := (.string x26.To)) (r := []) rfl rfl ag9 (pt_px rfl (At.str (At.proj (O54.atVar (j := 0) rfl) p_Branch_To))) (faQ_eq (sm58 _ (Or.inr ⟨0, _, rfl, List.mem_singleton.2 rfl⟩)) fa_nil) ?_
   obtain ⟨x68, i69, h70⟩ := bd_inv h63
   refine D2.lo rfl rfl (Lo.callP (ps := []) (ps' := []) rfl (fn := Try.f82) (by kernel_rfl) rfl (mc rfl (mc rfl mn)) O54 (fun L' O' => g_slices_Index_string_string_ok K w65 p0.Nodes f67 x26.To O' _ i69)) ?_ (faL_bit (by decide) fa_nil) ?_ ?_
   ·rintro v77 H78 ⟨G71, O72, s73, sm76, rfl⟩; exact (faR1 (.inl (by decide)) (faR1 (.inl (by decide)) (faR1 (.inr (sm76 _ (vis_at (M := G53) (At.le (sl_idx hp1 j64.2.2) (GM.le.trans s21 s55) (GM.le.trans s21 s55)) rfl))) (faR1 (.inl (by decide)) (faR1 (.inl (by decide)) fa_nil)))))
   ·rintro v77 H78 ⟨G71, O72, s73, sm76, rfl⟩; exact fa_nil
   rintro v77 H78 ⟨G71, O72, s73, sm76, rfl⟩
   replace O72 : Ow G71 H78 (eVar b34 50 T_Branch x26 :: eSl (σ16 5) 29 (rArr 2 (rI .i64)) x14 :: eVar b2 48 T_Network p0 :: L) := O72
   obtain ⟨x79, i80, h81⟩ := bd_inv h70
   have j82 := idx_inv i80
   refine D2.pure (v := (selem v1 (Int.toNat x68 * 1))) rfl rfl (v_idx el24 sz3 (oo rfl rfl) (oo rfl rfl) (sl_len (RT.mono _ (GM.le.trans s21 (GM.le.trans s55 s73)) hp1)) j82.1 j82.2.1) ?_
   refine D2.load1' (v := (.int .i64 x79)) (r := []) rfl rfl ag3 (pt_px rfl (At.int (At.le (At.le (sl_idx hp1 j82.2.2) (GM.le.trans s21 (GM.le.trans s55 s73)) (GM.le.trans s21 (GM.le.trans s55 s73))) (GM.le.refl _) O72.fro))) (faQ_bit (by decide) (faQ_bit (by decide) fa_nil)) ?_
   obtain ⟨c83, e85, f84⟩ := v_buildAA (P := Try.prog) (r := (rI .i64)) (vs := [(.int .i64 x61), (.int .i64 x79)]) (xs := [x61, x79]) ar29 sz3 ze29 zo29 rfl (by kernel_rfl) (.cons rfl (.cons rfl .nil))
   refine D2.pure (v := .agg (List.toArray c83)) rfl rfl (e85 (opndP_oo rfl (qc rfl (qc rfl qn)))) ?_
   refine D2.lo rfl rfl (Lo.buildSlice (r := (rArr 2 (rI .i64))) (vs := [(.agg (List.toArray c83))]) (xs := [[x61, x79]]) el22 ze29 sz29 (by kernel_rfl) rfl (qc rfl qn) rfl (.cons f84 .nil) O72) ?_ (faL_bit (by decide) (faL_bit (by decide) fa_nil)) ?_ ?_
   ·rintro v88 H89 ⟨O86, sm87⟩; exact (faR1 (.inl (by decide)) (faR1 (.inl (by decide)) (faR1 (.inl (by decide)) (faR1 (.inl (by decide)) (faR1 (.inl (by decide)) (faR1 (.inl (by decide)) fa_nil))))))
   ·rintro v88 H89 ⟨O86, sm87⟩; exact fa_nil
   rintro v88 H89 ⟨O86, sm87⟩
   obtain ⟨es91, e92, e93⟩ := src_own (j := 0) rfl O86
   obtain ⟨g94, h95⟩ := gd_inv h81
   refine D2.lo rfl rfl (Lo.append (j := 2) (v := (σ16 5)) rfl rfl el22 ni22 ze29 sz29 by29 (by decide) (by decide) rfl e92 e93 g94 O86) ?_ (faL_bit (by decide) (faL_bit (by decide) (faL_bit (by decide) fa_nil))) ?_ ?_
   ·rintro v97 H98 ⟨O90, sm96⟩; exact (faR1 (.inl (by decide)) (faR1 (.inl (by decide)) (faR1 (.inl (by decide)) (faR1 (.inl (by decide)) (faR1 (.inl (by decide)) (faR1 (.inl (by decide)) fa_nil))))))
   ·rintro v97 H98 ⟨O90, sm96⟩; exact fa_nil
   rintro v97 H98 ⟨O90, sm96⟩
   replace O90 : Ow G71 H98 (eSl v88 29 (rArr 2 (rI .i64)) [[x61, x79]] :: eVar b34 50 T_Branch x26 :: eSl v97 29 (rArr 2 (rI .i64)) (x14 ++ [[x61, x79]]) :: eVar b2 48 T_Network p0 :: L) := O90
   refine D2.pure (v := v97) rfl rfl (v_assign (oo rfl rfl)) ?_
   refine .nil ?_
   refine .region ?_
   refine W.pure (v := (.int .i64 (kwrap .i64 (x15 + 1)))) rfl rfl (v_int (oo rfl t23) (oo rfl rfl) rfl) ?_
   refine W.pure (v := (.int .i64 (kwrap .i64 (x15 + 1)))) rfl rfl (v_move (oo rfl rfl)) ?_
   refine .nil ?_
   have O99 : Ow G71 H98 (eVar b34 50 T_Branch x26 :: eSl v97 29 (rArr 2 (rI .i64)) (x14 ++ [[x61, x79]]) :: eVar b2 48 T_Network p0 :: L) := O90.drop 0
   have O100 : Ow G71 H98 (eSl v97 29 (rArr 2 (rI .i64)) (x14 ++ [[x61, x79]]) :: eVar b2 48 T_Network p0 :: L) := O99.drop 0
   exact ⟨k13, Nat.lt_succ_self _, ⟨(x14 ++ [[x61, x79]]), kwrap .i64 (x15 + 1), _, h95, O100, (GM.le.trans s21 (GM.le.trans s55 s73)), rfl⟩⟩
  ·have h101 := neg_b g24 h22
   refine .exit ?_
   have O102 : Ow G19 H17 (eSl (σ16 5) 29 (rArr 2 (rI .i64)) x14 :: eVar b2 48 T_Network p0 :: L) := O20.front (j := 0) rfl
   have O103 : Ow G19 H17 (eVar b2 48 T_Network p0 :: eSl (σ16 5) 29 (rArr 2 (rI .i64)) x14 :: L) := O102.front (j := 1) rfl
   obtain rfl := Option.some.inj h101
   exact ⟨x14, _, rfl, O103, s21⟩
 ·rintro σ105 H106 fr107 ⟨x104, G108, rfl, O109, s110⟩
  have h112 := tu1_inv h11
  refine .seq ?_
  refine .region ?_
  refine W.pure (v := (σ105 5)) rfl rfl (v_move (oo rfl rfl)) ?_
  refine W.pure (v := (σ105 5)) rfl rfl (v_assign (oo rfl rfl)) ?_
  refine .nil ?_
  refine .ret ?_
  have O113 : Ow G108 H106 (eSl (σ105 5) 29 (rArr 2 (rI .i64)) x104 :: L) := O109.drop 0
  obtain rfl := Option.some.inj h112
  refine ret1R (P := Try.prog) (fn := Try.f121) (n := 37) (R := fun v H' => ∃ w0 G', Ow G' H' (eSl w0 29 (rArr 2 (rI .i64)) x104 :: L) ∧ G.le G' ∧ w0 = v) (v1 := (σ105 5)) (by rfl) (rr_tmp (by rfl) (by exact rfl)) ?_
  exact ⟨(σ105 5), _, O113, s110, rfl⟩
def g_topology_Fresh_1 (K : Nat) (p0 : Int) : Option Bool := some true
set_option maxHeartbeats 4000000 in
theorem g_topology_Fresh_1_ok (K : Nat) {G : GM} {H : AH} {L : List Pc} (p0 : Int) (O : Ow G H (L)) (r : Bool) (h : g_topology_Fresh_1 K p0 = some r) :
  CR Try.prog 122 [(.int .i64 p0)] G H (L) (fun v G' _ => v = .bool r) := by
 unfold g_topology_Fresh_1 at h
 refine CR.of (calls_of_AW (n := 3) (fn := Try.f122) (R := fun v H' => ∃ G', Ow G' H' (L) ∧ G.le G' ∧ v = .bool r) (by kernel_rfl) rfl rfl ?_)
 refine .seq ?_
 refine .region ?_
 refine W.pure (v := (.bool false)) rfl rfl (v_assign (oo rfl rfl)) ?_
 refine .nil ?_
 refine .seq ?_
 refine .region ?_
 refine W.pure (v := (.bool true)) rfl rfl (v_assign (oo rfl rfl)) ?_
 refine .nil ?_
 refine .ret ?_
 obtain rfl := Option.some.inj h
 refine ret1R (P := Try.prog) (fn := Try.f122) (n := 3) (R := fun v H' => ∃ G', Ow G' H' (L) ∧ G.le G' ∧ v = .bool true) (v1 := (.bool true)) (by rfl) (rr_tmp (by rfl) (by exact rfl)) ?_
 exact ⟨_, O, (GM.le.refl _), rfl⟩
structure Topology where
 Bus : List Int
 Island : List Int
 deriving DecidableEq, Inhabited
def T_Topology : RT Topology := rIso (rP (rSl (rI .i64)) (rSl (rI .i64))) (fun s : Topology => (s.Bus, s.Island))
theorem z_Topology (G : GM) : T_Topology.rep G ([.slice none 0 0] ++ [.slice none 0 0]) ((Topology.mk ([] : List Int) ([] : List Int))) := ⟨_, _, rfl, zL G, (zL G)⟩
theorem p_Topology_Bus : Proj T_Topology 0 (rSl (rI .i64)) (fun x => x.Bus) := by
 have h := (Proj.iso (rP (rSl (rI .i64)) (rSl (rI .i64))) (fun s : Topology => (s.Bus, s.Island))).comp (Proj.fst _ _)
 exact h
theorem u_Topology_Bus : Put T_Topology 0 (rSl (rI .i64)) (fun x y => { x with Bus := y }) := by
 have h := Put.comp (Proj.iso (rP (rSl (rI .i64)) (rSl (rI .i64))) (fun s : Topology => (s.Bus, s.Island))) (Put.iso (rP (rSl (rI .i64)) (rSl (rI .i64))) (fun s : Topology => (s.Bus, s.Island)) (fun _ q => ⟨q.1, q.2⟩) (fun _ _ => rfl)) (Put.fst _ _)
 exact h
theorem p_Topology_Island : Proj T_Topology 1 (rSl (rI .i64)) (fun x => x.Island) := by
 have h := (Proj.iso (rP (rSl (rI .i64)) (rSl (rI .i64))) (fun s : Topology => (s.Bus, s.Island))).comp ((Proj.snd _ _).comp (Proj.self _))
 exact h
theorem u_Topology_Island : Put T_Topology 1 (rSl (rI .i64)) (fun x y => { x with Island := y }) := by
 have h := Put.comp (Proj.iso (rP (rSl (rI .i64)) (rSl (rI .i64))) (fun s : Topology => (s.Bus, s.Island))) (Put.iso (rP (rSl (rI .i64)) (rSl (rI .i64))) (fun s : Topology => (s.Bus, s.Island)) (fun _ q => ⟨q.1, q.2⟩) (fun _ _ => rfl)) (Put.comp (Proj.snd _ _) (Put.snd _ _) (Put.self _))
 exact h
theorem bd_Topology_0_1 {G : GM} (v0 : Value) {x0 : List Int} (v1 : Value) {x1 : List Int} (h0 : (rSl (rI .i64)).rep G v0.cells.toList x0) (h1 : (rSl (rI .i64)).rep G v1.cells.toList x1) : ∃ cs : List Value, (∀ {s : List Value} {d : Tmp} {ty : TypeId} {pos : String} {af : Array Edge} {g : Option (Nat × Bool)} {ps : Array (Nat × Operand)}, opndP s ps.toList = some [(0, v0), (1, v1)] → apure Try.prog s ⟨some d, .build 56 ps, ty, pos, af, g⟩ = some (.agg (List.toArray cs))) ∧ T_Topology.rep G cs (Topology.mk x0 x1) := by
 have k0 := (u_Topology_Bus G _ _ _ _ (z_Topology G) h0).1
 have k1 := (u_Topology_Island G _ _ _ _ (k0) h1).1
 refine ⟨_, fun {s d ty pos af g ps} hps => v_buildS pl56 ze56 zo56 hps ?_, k1⟩
 refine (fill_cons' (off := 0) (sz := 1) (cs := _) rfl (RT.len _ h0) (Nat.le_trans (Nat.le_of_ble_eq_true (m := 2) rfl) (Nat.le_of_eq (RT.len _ (z_Topology G)).symm))).trans ?_
 refine (fill_cons' (off := 1) (sz := 1) (cs := _) rfl (RT.len _ h1) (Nat.le_trans (Nat.le_of_ble_eq_true (m := 2) rfl) (Nat.le_of_eq (RT.len _ (k0)).symm))).trans ?_
 rfl
def g_topology_Fresh (K : Nat) (p0 : Network) : Option Topology := ((g_station_Buses K p0).bind fun x14 => ((g_graph_Count K x14).bind fun x32 => ((g_topology_Wires K p0 x14).bind fun x50 => ((g_graph_Parts K x32 x50 (fun x => g_topology_Fresh_1 K x)).bind fun x67 => some (Topology.mk x14 x67)))))
set_option maxHeartbeats 4000000 in
theorem g_topology_Fresh_ok (K : Nat) {G : GM} {H : AH} {L : List Pc} (v0 : List Value) (p0 : Network) (hp0 : T_Network.rep G v0 p0) (O : Ow G H (L)) (r : Topology) (h : g_topology_Fresh K p0 = some r) :
  CR Try.prog 79 [.agg (List.toArray v0)] G H (L) (fun v G' _ => ∃ (w0 : List Value), v = .agg (List.toArray w0) ∧ T_Topology.rep G' w0 r) := by
 unfold g_topology_Fresh at h
 refine CR.of (calls_of_AW (n := 14) (fn := Try.f79) (R := fun v H' => ∃ G', Ow G' H' (L) ∧ G.le G' ∧ ∃ (w0 : List Value), v = .agg (List.toArray w0) ∧ T_Topology.rep G' w0 r) (by kernel_rfl) rfl rfl ?_)
 refine .seq ?_
 refine .region ?_
 refine W.lo rfl rfl (Lo.box (r := T_Network) (x0 := p0) (v := (.agg (List.toArray v0))) rfl rfl hp0 O) ?_
 rintro v4 H5 ⟨b2, rfl, O1, sm3⟩
 refine W.lo rfl rfl (Lo.alloc (r := T_Topology) (x0 := (Topology.mk ([] : List Int) ([] : List Int))) ze56 (by kernel_rfl) z_Topology O1) ?_
 rintro v9 H10 ⟨b7, rfl, O6, sm8⟩
 refine .nil ?_
 refine .seq ?_
 refine .region ?_
 obtain ⟨c11, p12, f13⟩ := (O6.atVar (j := 1) rfl)
 refine W.loadA (cs := c11) rfl rfl ag48 sz48 (pt_px rfl p12) (RT.len _ f13) ?_
 obtain ⟨x14, i15, h16⟩ := bd_inv h
 refine W.lo rfl rfl (Lo.callPF (ps := []) (pw := fun w => [eSl w 3 (rI .i64) x14]) rfl (fn := Try.f86) (by kernel_rfl) rfl (mc rfl mn) O6 (fun L' O' => g_station_Buses_ok K c11 p0 f13 O' _ i15)) ?_
 rintro v25 H26 ⟨w22, G17, O18, s19, sm24, rfl⟩
 replace O18 : Ow G17 H26 (eSl w22 3 (rI .i64) x14 :: eVar b7 56 T_Topology (Topology.mk ([] : List Int) ([] : List Int)) :: eVar b2 48 T_Network p0 :: L) := O18
 refine W.pure (v := w22) rfl rfl (v_assign (oo rfl rfl)) ?_
 refine .nil ?_
 refine .seq ?_
 refine .draw2 (M := [0, 0, 2, 0, 0, 30, 62, 127, 255]) mixed (by kernel_rfl) (by kernel_rfl) fun H27 N31 x28 F30 => ?_
 have O29 := O18.ext x28
 refine D2.pure (v := w22) rfl rfl (v_move (oo rfl rfl)) ?_
 refine D2.pure (v := w22) rfl rfl (v_move (oo rfl rfl)) ?_
 obtain ⟨x32, i33, h34⟩ := bd_inv h16
 refine D2.lo rfl rfl (Lo.callB (j := 0) rfl rfl (fn := Try.f80) (by kernel_rfl) rfl (mc rfl mn) O29 (fun G' L' hG O' hB => g_graph_Count_ok K w22 x14 hB O' _ i33)) ?_ fa_nil ?_ ?_
 ·rintro v41 H42 ⟨G35, O36, s37, sm40, rfl⟩; exact fa_nil
 ·rintro v41 H42 ⟨G35, O36, s37, sm40, rfl⟩; exact fa_nil
 rintro v41 H42 ⟨G35, O36, s37, sm40, rfl⟩
 replace O36 : Ow G35 H42 (eSl w22 3 (rI .i64) x14 :: eVar b7 56 T_Topology (Topology.mk ([] : List Int) ([] : List Int)) :: eVar b2 48 T_Network p0 :: L) := O36
 obtain ⟨c43, p44, f45⟩ := (O36.atVar (j := 2) rfl)
 refine D2.loadA' (cs := c43) rfl rfl ag48 sz48 (pt_px rfl p44) (RT.len _ f45) (faQ_eq (sm40 _ (Or.inr ⟨2, _, rfl, List.mem_singleton.2 rfl⟩)) fa_nil) ?_
 refine D2.pure (v := w22) rfl rfl (v_move (oo rfl rfl)) ?_
 obtain ⟨G46, O47, s48, f49⟩ := O36.frzSl (j := 0) rfl
 replace O47 : Ow G46 H42 (eVar b7 56 T_Topology (Topology.mk ([] : List Int) ([] : List Int)) :: eVar b2 48 T_Network p0 :: L) := O47
 obtain ⟨x50, i51, h52⟩ := bd_inv h34
 refine D2.lo rfl rfl (Lo.callPF (ps := []) (pw := fun w => [eSl w 29 (rArr 2 (rI .i64)) x50]) rfl (fn := Try.f121) (by kernel_rfl) rfl (mc rfl (mc rfl mn)) O47 (fun L' O' => g_topology_Wires_ok K c43 p0 (RT.mono _ s48 f45) w22 x14 f49 O' _ i51)) ?_ (faL_bit (by decide) fa_nil) ?_ ?_
 ·rintro v61 H62 ⟨w58, G53, O54, s55, sm60, rfl⟩; exact (faR1 (.inl (by decide)) fa_nil)
 ·rintro v61 H62 ⟨w58, G53, O54, s55, sm60, rfl⟩; exact fa_nil
 rintro v61 H62 ⟨w58, G53, O54, s55, sm60, rfl⟩
 replace O54 : Ow G53 H62 (eSl w58 29 (rArr 2 (rI .i64)) x50 :: eVar b7 56 T_Topology (Topology.mk ([] : List Int) ([] : List Int)) :: eVar b2 48 T_Network p0 :: L) := O54
 obtain ⟨G63, O64, s65, f66⟩ := O54.frzSl (j := 0) rfl
 replace O64 : Ow G63 H62 (eVar b7 56 T_Topology (Topology.mk ([] : List Int) ([] : List Int)) :: eVar b2 48 T_Network p0 :: L) := O64
 obtain ⟨x67, i68, h69⟩ := bd_inv h52
 refine D2.lo rfl rfl (Lo.callPF (ps := []) (pw := fun w => [eSl w 3 (rI .i64) x67]) rfl (fn := Try.f55) (by kernel_rfl) rfl (mc rfl (mc rfl (mc rfl mn))) O64 (fun L' O' => g_graph_Parts_ok K x32 w58 x50 f66 (.func (.func 122) #[] #[]) (fun x => g_topology_Fresh_1 K x) ⟨122, _, _, Try.f122, rfl, by kernel_rfl, rfl, fun G1 H L vs x r hG O hA hF => by obtain rfl := hA; exact g_topology_Fresh_1_ok K x O _ hF⟩ O' _ i68)) ?_ (faL_bit (by decide) (faL_bit (by decide) fa_nil)) ?_ ?_
 ·rintro v78 H79 ⟨w75, G70, O71, s72, sm77, rfl⟩; exact (faR1 (.inl (by decide)) fa_nil)
 ·rintro v78 H79 ⟨w75, G70, O71, s72, sm77, rfl⟩; exact fa_nil
 rintro v78 H79 ⟨w75, G70, O71, s72, sm77, rfl⟩
 replace O71 : Ow G70 H79 (eSl w75 3 (rI .i64) x67 :: eVar b7 56 T_Topology (Topology.mk ([] : List Int) ([] : List Int)) :: eVar b2 48 T_Network p0 :: L) := O71
 obtain ⟨G80, O81, s82, f83⟩ := O71.frzSl (j := 0) rfl
 replace O81 : Ow G80 H79 (eVar b7 56 T_Topology (Topology.mk ([] : List Int) ([] : List Int)) :: eVar b2 48 T_Network p0 :: L) := O81
 obtain ⟨c84, e86, f85⟩ := bd_Topology_0_1 (w22) (w75) ((sl_cells (RT.mono _ (GM.le.trans s55 (GM.le.trans s65 (GM.le.trans s72 s82))) f49))) ((sl_cells f83))
 refine D2.pure (v := .agg (List.toArray c84)) rfl rfl (e86 (opndP_oo rfl (qc' rfl (qc' rfl qn')))) ?_
 refine D2.lo rfl rfl (Lo.storeVar (j := 0) (s := T_Topology) (y0 := (Topology.mk x14 x67)) (v := (.agg (List.toArray c84))) (o := 0) rfl ((Put.at (Put.self _) _ _)) rfl sz56 rfl (by omega) rfl f85 O81) ?_ (faL_bit (by decide) (faL_bit (by decide) (faL_bit (by decide) fa_nil))) ?_ ?_
 ·rintro v89 H90 ⟨O87, sm88⟩; exact (faR1 (.inl (by decide)) fa_nil)
 ·rintro v89 H90 ⟨O87, sm88⟩; exact fa_nil
 rintro v89 H90 ⟨O87, sm88⟩
 replace O87 : Ow G80 H90 (eVar b7 56 T_Topology (Topology.mk x14 x67) :: eVar b2 48 T_Network p0 :: L) := O87
 refine .nil ?_
 refine .ret ?_
 obtain ⟨c91, p92, f93⟩ := (O87.atVar (j := 0) rfl)
 have O94 : Ow G80 H90 (eVar b2 48 T_Network p0 :: L) := O87.drop 0
 have O95 : Ow G80 H90 (L) := O94.drop 0
 obtain rfl := Option.some.inj h69
 refine ret1R (P := Try.prog) (fn := Try.f79) (n := 14) (R := fun v H' => ∃ G', Ow G' H' (L) ∧ G.le G' ∧ ∃ (w0 : List Value), v = .agg (List.toArray w0) ∧ T_Topology.rep G' w0 (Topology.mk x14 x67)) (v1 := (.agg (List.toArray c91))) (by rfl) (rr_cellA (p := (.pointer (some ⟨b7, 0, none⟩))) (by rfl) ag56 sz56 (by exact rfl) p92 (RT.len _ f93)) ?_
 exact ⟨_, O95, (GM.le.trans s19 (GM.le.trans s37 (GM.le.trans s48 (GM.le.trans s55 (GM.le.trans s65 (GM.le.trans s72 s82)))))), c91, rfl, f93⟩
theorem bd_Topology_ {G : GM}   : ∃ cs : List Value, (∀ {s : List Value} {d : Tmp} {ty : TypeId} {pos : String} {af : Array Edge} {g : Option (Nat × Bool)} {ps : Array (Nat × Operand)}, opndP s ps.toList = some [] → apure Try.prog s ⟨some d, .build 56 ps, ty, pos, af, g⟩ = some (.agg (List.toArray cs))) ∧ T_Topology.rep G cs (Topology.mk ([] : List Int) ([] : List Int)) := by
 refine ⟨_, fun {s d ty pos af g ps} hps => v_buildS pl56 ze56 zo56 hps ?_, z_Topology G⟩
 rfl
def g_topology_Of (K : Nat) (p0 : Network) : Option (Topology × Int) := ((g_netmodel_Check K p0).bind fun x14 => (if (x14 != 0) = true then some ((Topology.mk ([] : List Int) ([] : List Int)), x14) else ((g_topology_Fresh K p0).bind fun x43 => some (x43, 0))))
set_option maxHeartbeats 4000000 in
theorem g_topology_Of_ok (K : Nat) {G : GM} {H : AH} {L : List Pc} (v0 : List Value) (p0 : Network) (hp0 : T_Network.rep G v0 p0) (O : Ow G H (L)) (r : Topology × Int) (h : g_topology_Of K p0 = some r) :
  CR Try.prog 29 [.agg (List.toArray v0)] G H (L) (fun v G' _ => ∃ (w0 : List Value), v = .tuple #[.agg (List.toArray w0), .int .i64 r.2] ∧ T_Topology.rep G' w0 r.1) := by
 unfold g_topology_Of at h
 refine CR.of (calls_of_AW (n := 13) (fn := Try.f29) (R := fun v H' => ∃ G', Ow G' H' (L) ∧ G.le G' ∧ ∃ (w0 : List Value), v = .tuple #[.agg (List.toArray w0), .int .i64 r.2] ∧ T_Topology.rep G' w0 r.1) (by kernel_rfl) rfl rfl ?_)
 refine .seq ?_
 refine .region ?_
 refine W.lo rfl rfl (Lo.box (r := T_Network) (x0 := p0) (v := (.agg (List.toArray v0))) rfl rfl hp0 O) ?_
 rintro v4 H5 ⟨b2, rfl, O1, sm3⟩
 refine W.lo rfl rfl (Lo.alloc (r := T_Topology) (x0 := (Topology.mk ([] : List Int) ([] : List Int))) ze56 (by kernel_rfl) z_Topology O1) ?_
 rintro v9 H10 ⟨b7, rfl, O6, sm8⟩
 refine W.pure (v := (.int .i64 0)) rfl rfl (v_assign (oo rfl rfl)) ?_
 refine .nil ?_
 refine .seq ?_
 refine .seq ?_
 refine .region ?_
 obtain ⟨c11, p12, f13⟩ := (O6.atVar (j := 1) rfl)
 refine W.loadA (cs := c11) rfl rfl ag48 sz48 (pt_px rfl p12) (RT.len _ f13) ?_
 obtain ⟨x14, i15, h16⟩ := bd_inv h
 refine W.lo rfl rfl (Lo.callP (ps := []) (ps' := []) rfl (fn := Try.f22) (by kernel_rfl) rfl (mc rfl mn) O6 (fun L' O' => g_netmodel_Check_ok K c11 p0 f13 O' _ i15)) ?_
 rintro v23 H24 ⟨G17, O18, s19, sm22, rfl⟩
 replace O18 : Ow G17 H24 (eVar b7 56 T_Topology (Topology.mk ([] : List Int) ([] : List Int)) :: eVar b2 48 T_Network p0 :: L) := O18
 refine W.pure (v := (.int .i64 x14)) rfl rfl (v_assign (oo rfl rfl)) ?_
 refine .nil ?_
 refine .seq ?_
 refine .region ?_
 refine W.pure (v := (.int .i64 x14)) rfl rfl (v_move (oo rfl rfl)) ?_
 refine W.pure (v := (.bool (x14 != 0))) rfl rfl (v_int (oo rfl rfl) (oo rfl rfl) rfl) ?_
 refine .nil ?_
 refine .cond (b := (x14 != 0)) rfl rfl (fun g25 => ?_) (fun g25 => ?_)
 ·have h26 := pos_inv g25 h16
  refine .seq ?_
  refine .region ?_
  obtain ⟨c27, e29, f28⟩ := bd_Topology_  
  refine W.pure (v := .agg (List.toArray c27)) rfl rfl (e29 (opndP_oo rfl qn')) ?_
  refine W.pure (v := (.int .i64 x14)) rfl rfl (v_move (oo rfl rfl)) ?_
  refine W.lo rfl rfl (Lo.storeVar (j := 0) (s := T_Topology) (y0 := (Topology.mk ([] : List Int) ([] : List Int))) (v := (.agg (List.toArray c27))) (o := 0) rfl ((Put.at (Put.self _) _ _)) rfl sz56 rfl (by omega) rfl f28 O18) ?_
  rintro v32 H33 ⟨O30, sm31⟩
  replace O30 : Ow G17 H33 (eVar b7 56 T_Topology (Topology.mk ([] : List Int) ([] : List Int)) :: eVar b2 48 T_Network p0 :: L) := O30
  refine W.pure (v := (.int .i64 x14)) rfl rfl (v_assign (oo rfl rfl)) ?_
  refine .nil ?_
  refine .ret ?_
  obtain ⟨c34, p35, f36⟩ := (O30.atVar (j := 0) rfl)
  have O37 : Ow G17 H33 (eVar b2 48 T_Network p0 :: L) := O30.drop 0
  have O38 : Ow G17 H33 (L) := O37.drop 0
  obtain rfl := Option.some.inj h26
  refine ret2R (P := Try.prog) (fn := Try.f29) (n := 13) (R := fun v H' => ∃ G', Ow G' H' (L) ∧ G.le G' ∧ ∃ (w0 : List Value), v = .tuple #[.agg (List.toArray w0), .int .i64 ((Topology.mk ([] : List Int) ([] : List Int)), x14).2] ∧ T_Topology.rep G' w0 ((Topology.mk ([] : List Int) ([] : List Int)), x14).1) (v1 := (.agg (List.toArray c34))) (v2 := (.int .i64 x14)) (by rfl) (rr_cellA (p := (.pointer (some ⟨b7, 0, none⟩))) (by rfl) ag56 sz56 (by exact rfl) p35 (RT.len _ f36)) (rr_tmp (by rfl) (by exact rfl)) ?_
  exact ⟨_, O38, s19, c34, rfl, f36⟩
 ·have h39 := neg_b g25 h16
  refine .skip ?_
  refine .seq ?_
  refine .region ?_
  obtain ⟨c40, p41, f42⟩ := (O18.atVar (j := 1) rfl)
  refine W.loadA (cs := c40) rfl rfl ag48 sz48 (pt_px rfl p41) (RT.len _ f42) ?_
  obtain ⟨x43, i44, h45⟩ := bd_inv h39
  refine W.lo rfl rfl (Lo.callP (ps := []) (ps' := []) rfl (fn := Try.f79) (by kernel_rfl) rfl (mc rfl mn) O18 (fun L' O' => g_topology_Fresh_ok K c40 p0 f42 O' _ i44)) ?_
  rintro v54 H55 ⟨G46, O47, s48, sm53, ⟨c50, rfl, f51⟩⟩
  replace O47 : Ow G46 H55 (eVar b7 56 T_Topology (Topology.mk ([] : List Int) ([] : List Int)) :: eVar b2 48 T_Network p0 :: L) := O47
  refine W.lo rfl rfl (Lo.storeVar (j := 0) (s := T_Topology) (y0 := x43) (v := (.agg (List.toArray c50))) (o := 0) rfl ((Put.at (Put.self _) _ _)) rfl sz56 rfl (by omega) rfl f51 O47) ?_
  rintro v58 H59 ⟨O56, sm57⟩
  replace O56 : Ow G46 H59 (eVar b7 56 T_Topology x43 :: eVar b2 48 T_Network p0 :: L) := O56
  refine W.pure (v := (.int .i64 0)) rfl rfl (v_assign (oo rfl rfl)) ?_
  refine .nil ?_
  refine .ret ?_
  obtain ⟨c60, p61, f62⟩ := (O56.atVar (j := 0) rfl)
  have O63 : Ow G46 H59 (eVar b2 48 T_Network p0 :: L) := O56.drop 0
  have O64 : Ow G46 H59 (L) := O63.drop 0
  obtain rfl := Option.some.inj h45
  refine ret2R (P := Try.prog) (fn := Try.f29) (n := 13) (R := fun v H' => ∃ G', Ow G' H' (L) ∧ G.le G' ∧ ∃ (w0 : List Value), v = .tuple #[.agg (List.toArray w0), .int .i64 (x43, 0).2] ∧ T_Topology.rep G' w0 (x43, 0).1) (v1 := (.agg (List.toArray c60))) (v2 := (.int .i64 0)) (by rfl) (rr_cellA (p := (.pointer (some ⟨b7, 0, none⟩))) (by rfl) ag56 sz56 (by exact rfl) p61 (RT.len _ f62)) (rr_tmp (by rfl) (by exact rfl)) ?_
  exact ⟨_, O64, (GM.le.trans s19 s48), c60, rfl, f62⟩
def g_topology_Live_1 (K : Nat) (p0 : ByteArray) (p1 : List Bool) (p2 : Topology) (p3 : Network) : Option (List Bool) := ((g_slices_Index_string_string K p3.Nodes p0).bind fun x15 => ((idx p2.Bus x15).bind fun x26 => ((idx p2.Island x26).bind fun x30 => ((idx p1 x30).bind fun x34 => some (List.set p1 (Int.toNat x30) true)))))
set_option maxHeartbeats 4000000 in
theorem g_topology_Live_1_ok (K : Nat) {G : GM} {H : AH} {L : List Pc} (p0 : ByteArray) (b1 : Nat) (v1 : Value) (p1 : List Bool) (v2 : Value) (p2 : Topology) (hp2 : At G G v2 T_Topology p2) (v3 : Value) (p3 : Network) (hp3 : At G G v3 T_Network p3) (O : Ow G H (eVar b1 30 rV v1 :: eSl v1 4 rB p1 :: L)) (r : List Bool) (h : g_topology_Live_1 K p0 p1 p2 p3 = some r) :
  CRF Try.prog 81 [(.string p0), .pointer (some ⟨b1, 0, none⟩), v2, v3] G H (fun wl => (eVar b1 30 rV wl :: eSl wl 4 rB r :: L)) (fun wl v G' => v = .tuple #[]) := by
 unfold g_topology_Live_1 at h
 refine CRF.of (calls_of_AW (n := 19) (fn := Try.f81) (R := fun v H' => ∃ wl G', Ow G' H' (eVar b1 30 rV wl :: eSl wl 4 rB r :: L) ∧ G.le G' ∧ v = .tuple #[]) (by kernel_rfl) rfl rfl ?_)
 refine .draw2 (M := [0, 0, 2, 0, 8, 0, 32, 0, 224, 504, 1016, 2046, 4094, 8191, 16383]) mixed (by kernel_rfl) (by kernel_rfl) fun H1 N5 x2 F4 => ?_
 have O3 := O.ext x2
 refine D2.load1' (v := v1) (r := []) rfl rfl ag30 (pt_px rfl (At.raw (O3.atVar (j := 0) rfl))) fa_nil ?_
 refine D2.pure (v := (padd v2 1)) rfl rfl (v_fldA fl56_1 (oo rfl rfl) (At.le hp2 (GM.le.refl _) O3.fro)) ?_
 obtain ⟨w6, p7, f8⟩ := At.sl (At.proj hp2 p_Topology_Island)
 replace p7 := PtG.le p7 O3.fro
 refine D2.load1' (v := w6) (r := []) rfl rfl ag24 (pt_px rfl p7) fa_nil ?_
 refine D2.pure (v := (padd v2 0)) rfl rfl (v_fldA fl56_0 (oo rfl rfl) (At.le hp2 (GM.le.refl _) O3.fro)) ?_
 obtain ⟨w9, p10, f11⟩ := At.sl (At.proj hp2 p_Topology_Bus)
 replace p10 := PtG.le p10 O3.fro
 refine D2.load1' (v := w9) (r := []) rfl rfl ag24 (pt_px rfl p10) fa_nil ?_
 refine D2.pure (v := (padd v3 0)) rfl rfl (v_fldA fl48_0 (oo rfl rfl) (At.le hp3 (GM.le.refl _) O3.fro)) ?_
 obtain ⟨w12, p13, f14⟩ := At.sl (At.proj hp3 p_Network_Nodes)
 replace p13 := PtG.le p13 O3.fro
 refine D2.load1' (v := w12) (r := []) rfl rfl ag41 (pt_px rfl p13) fa_nil ?_
 refine D2.pure (v := (.string p0)) rfl rfl (v_move (oo rfl rfl)) ?_
 obtain ⟨x15, i16, h17⟩ := bd_inv h
 refine D2.lo rfl rfl (Lo.callP (ps := []) (ps' := []) rfl (fn := Try.f82) (by kernel_rfl) rfl (mc rfl (mc rfl mn)) O3 (fun L' O' => g_slices_Index_string_string_ok K w12 p3.Nodes f14 p0 O' _ i16)) ?_ fa_nil ?_ ?_
 ·rintro v24 H25 ⟨G18, O19, s20, sm23, rfl⟩; exact (faR1 (.inl (by decide)) (faR1 (.inr (sm23 _ (vis_at (M := G) (At.proj hp2 p_Topology_Bus) rfl))) (faR1 (.inr (sm23 _ (vis_at (M := G) (At.proj hp2 p_Topology_Island) rfl))) (faR1 (.inr (sm23 _ (Or.inr ⟨0, _, rfl, List.mem_singleton.2 rfl⟩))) fa_nil))))
 ·rintro v24 H25 ⟨G18, O19, s20, sm23, rfl⟩; exact fa_nil
 rintro v24 H25 ⟨G18, O19, s20, sm23, rfl⟩
 replace O19 : Ow G18 H25 (eVar b1 30 rV v1 :: eSl v1 4 rB p1 :: L) := O19
 obtain ⟨x26, i27, h28⟩ := bd_inv h17
 have j29 := idx_inv i27
 refine D2.pure (v := (selem w9 (Int.toNat x15 * 1))) rfl rfl (v_idx el24 sz3 (oo rfl rfl) (oo rfl rfl) (sl_len (RT.mono _ s20 f11)) j29.1 j29.2.1) ?_
 refine D2.load1' (v := (.int .i64 x26)) (r := []) rfl rfl ag3 (pt_px rfl (At.int (At.le (At.le (sl_idx f11 j29.2.2) s20 s20) (GM.le.refl _) O19.fro))) (faQ_bit (by decide) fa_nil) ?_
 obtain ⟨x30, i31, h32⟩ := bd_inv h28
 have j33 := idx_inv i31
 refine D2.pure (v := (selem w6 (Int.toNat x26 * 1))) rfl rfl (v_idx el24 sz3 (oo rfl rfl) (oo rfl rfl) (sl_len (RT.mono _ s20 f8)) j33.1 j33.2.1) ?_
 refine D2.load1' (v := (.int .i64 x30)) (r := []) rfl rfl ag3 (pt_px rfl (At.int (At.le (At.le (sl_idx f8 j33.2.2) s20 s20) (GM.le.refl _) O19.fro))) (faQ_bit (by decide) fa_nil) ?_
 obtain ⟨x34, i35, h36⟩ := bd_inv h32
 have j37 := idx_inv i35
 refine D2.pure (v := (selem v1 (Int.toNat x30 * 1))) rfl rfl (v_idx el30 sz4 (oo rfl rfl) (oo rfl rfl) (O19.slLen (j := 1) rfl) j37.1 j37.2.1) ?_
 refine D2.lo rfl rfl (Lo.storeSl0 (j := 1) (y0 := true) (v := (.bool true)) rfl j37.2.2  rfl sz4 rfl rfl rfl O19) ?_ (faL_bit (by decide) fa_nil) ?_ ?_
 ·rintro v40 H41 ⟨O38, sm39⟩; exact (faR1 (.inl (by decide)) (faR1 (.inl (by decide)) (faR1 (.inl (by decide)) (faR1 (.inl (by decide)) (faR1 (.inl (by decide)) (faR1 (.inl (by decide)) fa_nil))))))
 ·rintro v40 H41 ⟨O38, sm39⟩; exact fa_nil
 rintro v40 H41 ⟨O38, sm39⟩
 replace O38 : Ow G18 H41 (eVar b1 30 rV v1 :: eSl v1 4 rB (List.set p1 (Int.toNat x30) true) :: L) := O38
 refine .nil ?_
 obtain rfl := Option.some.inj h36
 refine ret0R (P := Try.prog) (fn := Try.f81) (n := 19) (R := fun v H' => ∃ wl G', Ow G' H' (eVar b1 30 rV wl :: eSl wl 4 rB (List.set p1 (Int.toNat x30) true) :: L) ∧ G.le G' ∧ v = .tuple #[])  (by rfl)  ?_
 exact ⟨v1, _, O38, s20, rfl⟩
def g_topology_Live_l0 (K : Nat) (p0 : Network) (x28 : Topology) : Nat → List Bool → Int → Option (List Bool)
 | 0, _, _ => none
 | k + 1, x96, x97 => (if (decide (x97 < (List.length p0.Gens : Int))) = true then ((idx p0.Gens x97).bind fun x109 => ((g_topology_Live_1 K x109.Node x96 x28 p0).bind fun x128 => g_topology_Live_l0 K p0 x28 k x128 (kwrap .i64 (x97 + 1)))) else some x96)
def g_topology_Live_l2 (K : Nat) (p0 : Network) (x28 : Topology) : Nat → List Bool → Int → Option (List Bool)
 | 0, _, _ => none
 | k + 1, x158, x159 => (if (decide (x159 < (List.length p0.Stores : Int))) = true then ((idx p0.Stores x159).bind fun x171 => ((g_topology_Live_1 K x171.Node x158 x28 p0).bind fun x190 => g_topology_Live_l2 K p0 x28 k x190 (kwrap .i64 (x159 + 1)))) else some x158)
def g_topology_Live (K : Nat) (p0 : Network) : Option (List Bool × Int) := ((g_netmodel_Check K p0).bind fun x9 => (if (x9 != 0) = true then some ([], x9) else ((g_topology_Fresh K p0).bind fun x28 => ((g_graph_Count K x28.Island).bind fun x53 => (if 0 ≤ x53 ∧ x53 ≤ x53 ∧ x53 ≤ 16777216 then (Option.bind (g_topology_Live_l0 K p0 x28 K (List.replicate (Int.toNat x53) false) 0) (tu1 fun x141 => (Option.bind (g_topology_Live_l2 K p0 x28 K x141 0) (tu1 fun x203 => some (x203, 0))))) else none)))))
set_option maxHeartbeats 4000000 in
theorem g_topology_Live_ok (K : Nat) {G : GM} {H : AH} {L : List Pc} (v0 : List Value) (p0 : Network) (hp0 : T_Network.rep G v0 p0) (O : Ow G H (L)) (r : List Bool × Int) (h : g_topology_Live K p0 = some r) :
  CRF Try.prog 30 [.agg (List.toArray v0)] G H (fun w0 => (eSl w0 4 rB r.1 :: L)) (fun w0 v G' => v = .tuple #[w0, .int .i64 r.2]) := by
 unfold g_topology_Live at h
 refine CRF.of (calls_of_AW (n := 49) (fn := Try.f30) (R := fun v H' => ∃ w0 G', Ow G' H' (eSl w0 4 rB r.1 :: L) ∧ G.le G' ∧ v = .tuple #[w0, .int .i64 r.2]) (by kernel_rfl) rfl rfl ?_)
 refine .seq ?_
 refine .region ?_
 refine W.lo rfl rfl (Lo.box (r := T_Network) (x0 := p0) (v := (.agg (List.toArray v0))) rfl rfl hp0 O) ?_
 rintro v4 H5 ⟨b2, rfl, O1, sm3⟩
 refine W.pure (v := (.slice none 0 0)) rfl rfl (v_assign (oo rfl rfl)) ?_
 refine W.pure (v := (.int .i64 0)) rfl rfl (v_assign (oo rfl rfl)) ?_
 refine .nil ?_
 refine .seq ?_
 refine .seq ?_
 refine .region ?_
 obtain ⟨c6, p7, f8⟩ := (O1.atVar (j := 0) rfl)
 refine W.loadA (cs := c6) rfl rfl ag48 sz48 (pt_px rfl p7) (RT.len _ f8) ?_
 obtain ⟨x9, i10, h11⟩ := bd_inv h
 refine W.lo rfl rfl (Lo.callP (ps := []) (ps' := []) rfl (fn := Try.f22) (by kernel_rfl) rfl (mc rfl mn) O1 (fun L' O' => g_netmodel_Check_ok K c6 p0 f8 O' _ i10)) ?_
 rintro v18 H19 ⟨G12, O13, s14, sm17, rfl⟩
 replace O13 : Ow G12 H19 (eVar b2 48 T_Network p0 :: L) := O13
 refine W.pure (v := (.int .i64 x9)) rfl rfl (v_assign (oo rfl rfl)) ?_
 refine .nil ?_
 refine .seq ?_
 refine .region ?_
 refine W.pure (v := (.int .i64 x9)) rfl rfl (v_move (oo rfl rfl)) ?_
 refine W.pure (v := (.bool (x9 != 0))) rfl rfl (v_int (oo rfl rfl) (oo rfl rfl) rfl) ?_
 refine .nil ?_
 refine .cond (b := (x9 != 0)) rfl rfl (fun g20 => ?_) (fun g20 => ?_)
 ·have h21 := pos_inv g20 h11
  refine .seq ?_
  refine .region ?_
  refine W.pure (v := (.int .i64 x9)) rfl rfl (v_move (oo rfl rfl)) ?_
  refine W.pure (v := (.slice none 0 0)) rfl rfl (v_assign (oo rfl rfl)) ?_
  refine W.pure (v := (.int .i64 x9)) rfl rfl (v_assign (oo rfl rfl)) ?_
  refine .nil ?_
  refine .ret ?_
  have O22 := O13.nilSl 4 rB
  have O23 : Ow G12 H19 (eSl (.slice none 0 0) 4 rB [] :: L) := O22.drop 1
  obtain rfl := Option.some.inj h21
  refine ret2R (P := Try.prog) (fn := Try.f30) (n := 49) (R := fun v H' => ∃ w0 G', Ow G' H' (eSl w0 4 rB ([], x9).1 :: L) ∧ G.le G' ∧ v = .tuple #[w0, .int .i64 ([], x9).2]) (v1 := (.slice none 0 0)) (v2 := (.int .i64 x9)) (by rfl) (rr_tmp (by rfl) (by exact rfl)) (rr_tmp (by rfl) (by exact rfl)) ?_
  exact ⟨(.slice none 0 0), _, O23, s14, rfl⟩
 ·have h24 := neg_b g20 h11
  refine .skip ?_
  refine .seq ?_
  refine .region ?_
  obtain ⟨c25, p26, f27⟩ := (O13.atVar (j := 0) rfl)
  refine W.loadA (cs := c25) rfl rfl ag48 sz48 (pt_px rfl p26) (RT.len _ f27) ?_
  obtain ⟨x28, i29, h30⟩ := bd_inv h24
  refine W.lo rfl rfl (Lo.callP (ps := []) (ps' := []) rfl (fn := Try.f79) (by kernel_rfl) rfl (mc rfl mn) O13 (fun L' O' => g_topology_Fresh_ok K c25 p0 f27 O' _ i29)) ?_
  rintro v39 H40 ⟨G31, O32, s33, sm38, ⟨c35, rfl, f36⟩⟩
  replace O32 : Ow G31 H40 (eVar b2 48 T_Network p0 :: L) := O32
  refine W.lo rfl rfl (Lo.alloc (r := T_Topology) (x0 := (Topology.mk ([] : List Int) ([] : List Int))) ze56 (by kernel_rfl) z_Topology O32) ?_
  rintro v44 H45 ⟨b42, rfl, O41, sm43⟩
  refine W.lo rfl rfl (Lo.storeVar (j := 0) (s := T_Topology) (y0 := x28) (v := (.agg (List.toArray c35))) (o := 0) rfl ((Put.at (Put.self _) _ _)) rfl sz56 rfl (by omega) rfl f36 O41) ?_
  rintro v48 H49 ⟨O46, sm47⟩
  replace O46 : Ow G31 H49 (eVar b42 56 T_Topology x28 :: eVar b2 48 T_Network p0 :: L) := O46
  refine .nil ?_
  refine .seq ?_
  refine .region ?_
  refine W.pure (v := (padd (.pointer (some ⟨b42, 0, none⟩)) 1)) rfl rfl (v_fldA fl56_1 (oo rfl rfl) (O46.atVar (j := 0) rfl)) ?_
  obtain ⟨w50, p51, f52⟩ := At.sl (At.proj (O46.atVar (j := 0) rfl) p_Topology_Island)
  refine W.load1 (v := w50) (r := []) rfl rfl ag24 (pt_px rfl p51) ?_
  obtain ⟨x53, i54, h55⟩ := bd_inv h30
  refine W.lo rfl rfl (Lo.callP (ps := []) (ps' := []) rfl (fn := Try.f80) (by kernel_rfl) rfl (mc rfl mn) O46 (fun L' O' => g_graph_Count_ok K w50 x28.Island f52 O' _ i54)) ?_
  rintro v62 H63 ⟨G56, O57, s58, sm61, rfl⟩
  replace O57 : Ow G56 H63 (eVar b42 56 T_Topology x28 :: eVar b2 48 T_Network p0 :: L) := O57
  obtain ⟨g65, h66⟩ := gd_inv h55
  refine W.lo rfl rfl (Lo.makeSlice (r := rB) (x0 := false) (a := x53) (c := x53) rfl el30 ze4 sz4 (by kernel_rfl) rfl by4 (by decide) rfl rfl g65 zB O57) ?_
  rintro v68 H69 ⟨O64, sm67⟩
  have O72 := O64.nilSl 4 rB
  refine W.lo rfl rfl (Lo.alloc (r := rV) (x0 := (.slice none 0 0)) ze30 (by kernel_rfl) zV O72) ?_
  rintro v74 H75 ⟨b71, rfl, O70, sm73⟩
  refine W.lo rfl rfl (Lo.storeVar (j := 0) (s := rV) (y0 := v68) (v := v68) (o := 0) rfl ((Put.at (Put.self _) _ _)) rfl sz30 rfl (by omega) rfl (rv_ok (O70.slLen (j := 2) rfl)) O70) ?_
  rintro v78 H79 ⟨O76, sm77⟩
  replace O76 : Ow G56 H79 (eVar b71 30 rV v68 :: eSl (.slice none 0 0) 4 rB [] :: eSl v68 4 rB (List.replicate (Int.toNat x53) false) :: eVar b42 56 T_Topology x28 :: eVar b2 48 T_Network p0 :: L) := O76
  have O80 : Ow G56 H79 (eVar b71 30 rV v68 :: eSl v68 4 rB (List.replicate (Int.toNat x53) false) :: eVar b42 56 T_Topology x28 :: eVar b2 48 T_Network p0 :: L) := O76.drop 1
  refine .nil ?_
  refine .seq ?_
  refine .region ?_
  refine W.pure (v := (.func (.func 81) #[] #[(.pointer (some ⟨b71, 0, none⟩)), (.pointer (some ⟨b42, 0, none⟩)), (.pointer (some ⟨b2, 0, none⟩))])) rfl rfl (v_makeFunc (opndL_ooL rfl mn) (opndL_ooL rfl (mc rfl (mc rfl (mc rfl mn))))) ?_
  refine W.pure (v := (.func (.func 81) #[] #[(.pointer (some ⟨b71, 0, none⟩)), (.pointer (some ⟨b42, 0, none⟩)), (.pointer (some ⟨b2, 0, none⟩))])) rfl rfl (v_assign (oo rfl rfl)) ?_
  refine .nil ?_
  refine .seq ?_
  refine .seq ?_
  refine .region ?_
  refine W.pure (v := (padd (.pointer (some ⟨b2, 0, none⟩)) 3)) rfl rfl (v_fldA fl48_3 (oo rfl rfl) (O80.atVar (j := 3) rfl)) ?_
  obtain ⟨w81, p82, f83⟩ := At.sl (At.proj (O80.atVar (j := 3) rfl) p_Network_Gens)
  refine W.load1 (v := w81) (r := []) rfl rfl ag44 (pt_px rfl p82) ?_
  refine W.pure (v := (.int .i64 (List.length p0.Gens : Int))) rfl rfl (len_sl (oo rfl rfl) (sl_len f83) (elemT_inv el44)) ?_
  refine W.pure (v := (.int .i64 0)) rfl rfl (v_move (oo rfl rfl)) ?_
  refine .nil ?_
  obtain ⟨G84, O85, s86, f87⟩ := O80.frzVar (j := 2) rfl
  replace O85 : Ow G84 H79 (eVar b71 30 rV v68 :: eSl v68 4 rB (List.replicate (Int.toNat x53) false) :: eVar b2 48 T_Network p0 :: L) := O85
  obtain ⟨G88, O89, s90, f91⟩ := O85.frzVar (j := 2) rfl
  replace O89 : Ow G88 H79 (eVar b71 30 rV v68 :: eSl v68 4 rB (List.replicate (Int.toNat x53) false) :: L) := O89
  obtain ⟨q92, h93, h94⟩ := bd_inv h66
  refine AW.midT (fun σ' H' => ∃ (y1 : List Bool) (w_p22 : Value) (G' : GM), y1 = q92 ∧ Ow G' H' (eVar b71 30 rV w_p22 :: eSl w_p22 4 rB y1 :: L) ∧ GM.le G88 G') ?_ ?_
  ·refine .block ?_
   refine AW.loop (α := Nat) (fun k' σ' H' => ∃ (y1 : List Bool) (y2 : Int) (w_p22 : Value) (G' : GM), g_topology_Live_l0 K p0 x28 k' y1 y2 = some q92 ∧ Ow G' H' (eVar b71 30 rV w_p22 :: eSl w_p22 4 rB y1 :: L) ∧ GM.le G88 G' ∧ σ' 27 = .int .i64 y2) (fun k' => k') K ⟨(List.replicate (Int.toNat x53) false), 0, v68, _, h93, O89, (GM.le.refl _), rfl⟩ ?_
   rintro k95
   rintro σ98 H99 fr100 ⟨x96, x97, w105, G101, h104, O102, s103, t106⟩
   rcases k95 with _ | k95
   ·exact none_absurd h104
   rw [g_topology_Live_l0] at h104
   refine .seq ?_
   refine .region ?_
   refine W.pure (v := (.bool (decide (x97 < (List.length p0.Gens : Int))))) rfl rfl (v_int (oo rfl t106) (oo rfl ((fr100 26 rfl).trans rfl)) rfl) ?_
   refine .nil ?_
   refine .seq ?_
   refine .cond (b := decide (x97 < (List.length p0.Gens : Int))) rfl rfl (fun g107 => ?_) (fun g107 => ?_)
   ·have h108 := pos_inv g107 h104
    refine .skip ?_
    refine .seq ?_
    refine .block ?_
    refine .seq ?_
    refine .region ?_
    obtain ⟨x109, i110, h111⟩ := bd_inv h108
    have j112 := idx_inv i110
    refine W.pure (v := (selem w81 (Int.toNat x97 * 5))) rfl rfl (v_idx el44 sz65 (oo rfl ((fr100 25 rfl).trans rfl)) (oo rfl t106) (sl_len (RT.mono _ (GM.le.trans s86 (GM.le.trans s90 s103)) f83)) j112.1 j112.2.1) ?_
    obtain ⟨c113, p114, f115⟩ := (At.le (At.le (sl_idx f83 j112.2.2) (GM.le.trans s86 (GM.le.trans s90 s103)) (GM.le.trans s86 (GM.le.trans s90 s103))) (GM.le.refl _) O102.fro)
    refine W.loadA (cs := c113) rfl rfl ag65 sz65 (pt_px rfl p114) (RT.len _ f115) ?_
    refine W.lo rfl rfl (Lo.alloc (r := T_Gen) (x0 := (Gen.mk ByteArray.empty ByteArray.empty 0 0 0)) ze65 (by kernel_rfl) z_Gen O102) ?_
    rintro v119 H120 ⟨b117, rfl, O116, sm118⟩
    refine W.lo rfl rfl (Lo.storeVar (j := 0) (s := T_Gen) (y0 := x109) (v := (.agg (List.toArray c113))) (o := 0) rfl ((Put.at (Put.self _) _ _)) rfl sz65 rfl (by omega) rfl f115 O116) ?_
    rintro v123 H124 ⟨O121, sm122⟩
    replace O121 : Ow G101 H124 (eVar b117 65 T_Gen x109 :: eVar b71 30 rV w105 :: eSl w105 4 rB x96 :: L) := O121
    refine .nil ?_
    refine .region ?_
    refine W.pure (v := (.func (.func 81) #[] #[(.pointer (some ⟨b71, 0, none⟩)), (.pointer (some ⟨b42, 0, none⟩)), (.pointer (some ⟨b2, 0, none⟩))])) rfl rfl (v_move (oo rfl ((fr100 7 rfl).trans rfl))) ?_
    refine W.pure (v := (padd (.pointer (some ⟨b117, 0, none⟩)) 1)) rfl rfl (v_fldA fl65_1 (oo rfl rfl) (O121.atVar (j := 0) rfl)) ?_
    refine W.load1 (v := (.string x109.Node)) (r := []) rfl rfl ag9 (pt_px rfl (At.str (At.proj (O121.atVar (j := 0) rfl) p_Gen_Node))) ?_
    have O125 : Ow G101 H124 (eVar b117 65 T_Gen x109 :: eVar b71 30 rV w105 :: eSl w105 4 rB x96 :: L) := O121.front (j := 0) rfl
    have O126 : Ow G101 H124 (eSl w105 4 rB x96 :: eVar b117 65 T_Gen x109 :: eVar b71 30 rV w105 :: L) := O125.front (j := 2) rfl
    have O127 : Ow G101 H124 (eVar b71 30 rV w105 :: eSl w105 4 rB x96 :: eVar b117 65 T_Gen x109 :: L) := O126.front (j := 2) rfl
    obtain ⟨x128, i129, h130⟩ := bd_inv h111
    refine W.lo rfl rfl (Lo.callvPF (ps := [eVar b71 30 rV w105, eSl w105 4 rB x96]) (pw := fun w => [eVar b71 30 rV w, eSl w 4 rB x128]) rfl rfl (fn := Try.f81) (by kernel_rfl) rfl (mc rfl mn) O127 (fun L' O' => g_topology_Live_1_ok K x109.Node b71 w105 x96 (.pointer (some ⟨b42, 0, none⟩)) x28 (At.le f87 (GM.le.trans s90 s103) (GM.le.trans s90 s103)) (.pointer (some ⟨b2, 0, none⟩)) p0 (At.le f91 s103 s103) O' _ i129)) ?_
    rintro v137 H138 ⟨w135, G131, O132, s133, sm136, rfl⟩
    replace O132 : Ow G131 H138 (eVar b71 30 rV w135 :: eSl w135 4 rB x128 :: eVar b117 65 T_Gen x109 :: L) := O132
    refine .nil ?_
    refine .region ?_
    refine W.pure (v := (.int .i64 (kwrap .i64 (x97 + 1)))) rfl rfl (v_int (oo rfl t106) (oo rfl rfl) rfl) ?_
    refine W.pure (v := (.int .i64 (kwrap .i64 (x97 + 1)))) rfl rfl (v_move (oo rfl rfl)) ?_
    refine .nil ?_
    have O139 : Ow G131 H138 (eVar b71 30 rV w135 :: eSl w135 4 rB x128 :: L) := O132.drop 2
    exact ⟨k95, Nat.lt_succ_self _, ⟨x128, kwrap .i64 (x97 + 1), w135, _, h130, O139, (GM.le.trans s103 s133), rfl⟩⟩
   ·have h140 := neg_b g107 h104
    refine .exit ?_
    obtain rfl := Option.some.inj h140
    exact ⟨x96, w105, _, rfl, O102, s103⟩
  ·rintro σ142 H143 fr144 ⟨x141, w149, G145, rfl, O146, s147⟩
   have h150 := tu1_inv h94
   refine .seq ?_
   refine .seq ?_
   refine .region ?_
   refine W.pure (v := (padd (.pointer (some ⟨b2, 0, none⟩)) 5)) rfl rfl (v_fldA fl48_5 (oo rfl ((fr144 1 rfl).trans rfl)) (At.le (At.le f91 s147 s147) (GM.le.refl _) O146.fro)) ?_
   obtain ⟨w151, p152, f153⟩ := At.sl (At.le (At.proj f91 p_Network_Stores) s147 s147)
   replace p152 := PtG.le p152 O146.fro
   refine W.load1 (v := w151) (r := []) rfl rfl ag46 (pt_px rfl p152) ?_
   refine W.pure (v := (.int .i64 (List.length p0.Stores : Int))) rfl rfl (len_sl (oo rfl rfl) (sl_len f153) (elemT_inv el46)) ?_
   refine W.pure (v := (.int .i64 0)) rfl rfl (v_move (oo rfl rfl)) ?_
   refine .nil ?_
   obtain ⟨q154, h155, h156⟩ := bd_inv h150
   refine AW.midT (fun σ' H' => ∃ (y1 : List Bool) (w_p22 : Value) (G' : GM), y1 = q154 ∧ Ow G' H' (eVar b71 30 rV w_p22 :: eSl w_p22 4 rB y1 :: L) ∧ GM.le G145 G') ?_ ?_
   ·refine .block ?_
    refine AW.loop (α := Nat) (fun k' σ' H' => ∃ (y1 : List Bool) (y2 : Int) (w_p22 : Value) (G' : GM), g_topology_Live_l2 K p0 x28 k' y1 y2 = some q154 ∧ Ow G' H' (eVar b71 30 rV w_p22 :: eSl w_p22 4 rB y1 :: L) ∧ GM.le G145 G' ∧ σ' 39 = .int .i64 y2) (fun k' => k') K ⟨x141, 0, w149, _, h155, O146, (GM.le.refl _), rfl⟩ ?_
    rintro k157
    rintro σ160 H161 fr162 ⟨x158, x159, w167, G163, h166, O164, s165, t168⟩
    rcases k157 with _ | k157
    ·exact none_absurd h166
    rw [g_topology_Live_l2] at h166
    refine .seq ?_
    refine .region ?_
    refine W.pure (v := (.bool (decide (x159 < (List.length p0.Stores : Int))))) rfl rfl (v_int (oo rfl t168) (oo rfl ((fr162 38 rfl).trans rfl)) rfl) ?_
    refine .nil ?_
    refine .seq ?_
    refine .cond (b := decide (x159 < (List.length p0.Stores : Int))) rfl rfl (fun g169 => ?_) (fun g169 => ?_)
    ·have h170 := pos_inv g169 h166
     refine .skip ?_
     refine .seq ?_
     refine .block ?_
     refine .seq ?_
     refine .region ?_
     obtain ⟨x171, i172, h173⟩ := bd_inv h170
     have j174 := idx_inv i172
     refine W.pure (v := (selem w151 (Int.toNat x159 * 5))) rfl rfl (v_idx el46 sz69 (oo rfl ((fr162 37 rfl).trans rfl)) (oo rfl t168) (sl_len (RT.mono _ s165 f153)) j174.1 j174.2.1) ?_
     obtain ⟨c175, p176, f177⟩ := (At.le (At.le (sl_idx f153 j174.2.2) s165 s165) (GM.le.refl _) O164.fro)
     refine W.loadA (cs := c175) rfl rfl ag69 sz69 (pt_px rfl p176) (RT.len _ f177) ?_
     refine W.lo rfl rfl (Lo.alloc (r := T_Store) (x0 := (Store.mk ByteArray.empty ByteArray.empty 0 0 0)) ze69 (by kernel_rfl) z_Store O164) ?_
     rintro v181 H182 ⟨b179, rfl, O178, sm180⟩
     refine W.lo rfl rfl (Lo.storeVar (j := 0) (s := T_Store) (y0 := x171) (v := (.agg (List.toArray c175))) (o := 0) rfl ((Put.at (Put.self _) _ _)) rfl sz69 rfl (by omega) rfl f177 O178) ?_
     rintro v185 H186 ⟨O183, sm184⟩
     replace O183 : Ow G163 H186 (eVar b179 69 T_Store x171 :: eVar b71 30 rV w167 :: eSl w167 4 rB x158 :: L) := O183
     refine .nil ?_
     refine .region ?_
     refine W.pure (v := (.func (.func 81) #[] #[(.pointer (some ⟨b71, 0, none⟩)), (.pointer (some ⟨b42, 0, none⟩)), (.pointer (some ⟨b2, 0, none⟩))])) rfl rfl (v_move (oo rfl ((fr162 7 rfl).trans ((fr144 7 rfl).trans rfl)))) ?_
     refine W.pure (v := (padd (.pointer (some ⟨b179, 0, none⟩)) 1)) rfl rfl (v_fldA fl69_1 (oo rfl rfl) (O183.atVar (j := 0) rfl)) ?_
     refine W.load1 (v := (.string x171.Node)) (r := []) rfl rfl ag9 (pt_px rfl (At.str (At.proj (O183.atVar (j := 0) rfl) p_Store_Node))) ?_
     have O187 : Ow G163 H186 (eVar b179 69 T_Store x171 :: eVar b71 30 rV w167 :: eSl w167 4 rB x158 :: L) := O183.front (j := 0) rfl
     have O188 : Ow G163 H186 (eSl w167 4 rB x158 :: eVar b179 69 T_Store x171 :: eVar b71 30 rV w167 :: L) := O187.front (j := 2) rfl
     have O189 : Ow G163 H186 (eVar b71 30 rV w167 :: eSl w167 4 rB x158 :: eVar b179 69 T_Store x171 :: L) := O188.front (j := 2) rfl
     obtain ⟨x190, i191, h192⟩ := bd_inv h173
     refine W.lo rfl rfl (Lo.callvPF (ps := [eVar b71 30 rV w167, eSl w167 4 rB x158]) (pw := fun w => [eVar b71 30 rV w, eSl w 4 rB x190]) rfl rfl (fn := Try.f81) (by kernel_rfl) rfl (mc rfl mn) O189 (fun L' O' => g_topology_Live_1_ok K x171.Node b71 w167 x158 (.pointer (some ⟨b42, 0, none⟩)) x28 (At.le f87 (GM.le.trans s90 (GM.le.trans s147 s165)) (GM.le.trans s90 (GM.le.trans s147 s165))) (.pointer (some ⟨b2, 0, none⟩)) p0 (At.le f91 (GM.le.trans s147 s165) (GM.le.trans s147 s165)) O' _ i191)) ?_
     rintro v199 H200 ⟨w197, G193, O194, s195, sm198, rfl⟩
     replace O194 : Ow G193 H200 (eVar b71 30 rV w197 :: eSl w197 4 rB x190 :: eVar b179 69 T_Store x171 :: L) := O194
     refine .nil ?_
     refine .region ?_
     refine W.pure (v := (.int .i64 (kwrap .i64 (x159 + 1)))) rfl rfl (v_int (oo rfl t168) (oo rfl rfl) rfl) ?_
     refine W.pure (v := (.int .i64 (kwrap .i64 (x159 + 1)))) rfl rfl (v_move (oo rfl rfl)) ?_
     refine .nil ?_
     have O201 : Ow G193 H200 (eVar b71 30 rV w197 :: eSl w197 4 rB x190 :: L) := O194.drop 2
     exact ⟨k157, Nat.lt_succ_self _, ⟨x190, kwrap .i64 (x159 + 1), w197, _, h192, O201, (GM.le.trans s165 s195), rfl⟩⟩
    ·have h202 := neg_b g169 h166
     refine .exit ?_
     obtain rfl := Option.some.inj h202
     exact ⟨x158, w167, _, rfl, O164, s165⟩
   ·rintro σ204 H205 fr206 ⟨x203, w211, G207, rfl, O208, s209⟩
    have h212 := tu1_inv h156
    refine .seq ?_
    refine .region ?_
    refine W.load1 (v := w211) (r := []) rfl rfl ag30 (pt_px ((fr206 6 rfl).trans ((fr144 6 rfl).trans rfl)) (At.raw (O208.atVar (j := 0) rfl))) ?_
    refine W.pure (v := w211) rfl rfl (v_assign (oo rfl rfl)) ?_
    refine W.pure (v := (.int .i64 0)) rfl rfl (v_assign (oo rfl rfl)) ?_
    refine .nil ?_
    refine .ret ?_
    have O213 : Ow G207 H205 (eSl w211 4 rB x203 :: L) := O208.drop 0
    obtain rfl := Option.some.inj h212
    refine ret2R (P := Try.prog) (fn := Try.f30) (n := 49) (R := fun v H' => ∃ w0 G', Ow G' H' (eSl w0 4 rB (x203, 0).1 :: L) ∧ G.le G' ∧ v = .tuple #[w0, .int .i64 (x203, 0).2]) (v1 := w211) (v2 := (.int .i64 0)) (by rfl) (rr_tmp (by rfl) (by exact rfl)) (rr_tmp (by rfl) (by exact rfl)) ?_
    exact ⟨w211, _, O213, (GM.le.trans s14 (GM.le.trans s33 (GM.le.trans s58 (GM.le.trans s86 (GM.le.trans s90 (GM.le.trans s147 s209)))))), rfl⟩
def g_R_IsName_l0 (K : Nat) (p0 : ByteArray) : Nat → Int → Option (Bool ⊕ Unit)
 | 0, _ => none
 | k + 1, x39 => (if (decide (x39 < (p0.size : Int))) = true then ((bidx p0 x39).bind fun x50 => (Option.bind ((if (decide (x50 < 65)) = true then (if (decide (x50 < 48)) = true then some true else some (decide (x50 > 57))) else (if (decide (x50 > 90)) = true then (if (decide (x50 < 48)) = true then some true else some (decide (x50 > 57))) else some false))) (tu1 fun x72 => (if x72 = true then some (.inl false) else g_R_IsName_l0 K p0 k (kwrap .i64 (x39 + 1)))))) else some (.inr ()))
def g_R_IsName (K : Nat) (p0 : ByteArray) : Option Bool := (Option.bind ((if ((p0.size : Int) == 0) = true then some true else (if (decide ((p0.size : Int) > 8)) = true then some true else ((bidx p0 0).bind fun x12 => (if (decide (x12 < 65)) = true then some true else ((bidx p0 0).bind fun x19 => some (decide (x19 > 90)))))))) (tu1 fun x22 => (if x22 = true then some false else (bindS (g_R_IsName_l0 K p0 K 0) (tu1 fun a95 => some a95) (tu0 (some true))))))
set_option maxHeartbeats 4000000 in
theorem g_R_IsName_ok (K : Nat) {G : GM} {H : AH} {L : List Pc} (p0 : ByteArray) (O : Ow G H (L)) (r : Bool) (h : g_R_IsName K p0 = some r) :
  CR Try.prog 25 [(.string p0)] G H (L) (fun v G' _ => v = .bool r) := by
 unfold g_R_IsName at h
 refine CR.of (calls_of_AW (n := 46) (fn := Try.f25) (R := fun v H' => ∃ G', Ow G' H' (L) ∧ G.le G' ∧ v = .bool r) (by kernel_rfl) rfl rfl ?_)
 refine .seq ?_
 refine .region ?_
 refine W.pure (v := (.bool false)) rfl rfl (v_assign (oo rfl rfl)) ?_
 refine .nil ?_
 refine .seq ?_
 refine .seq ?_
 obtain ⟨q1, h2, h3⟩ := bd_inv h
 refine AW.midT (fun σ' H' => ∃ (y1 : Bool) (G' : GM), y1 = q1 ∧ Ow G' H' (L) ∧ GM.le G G' ∧ σ' 22 = .bool y1) ?_ ?_
 ·refine .region ?_
  refine W.pure (v := (.string p0)) rfl rfl (v_move (oo rfl rfl)) ?_
  refine W.pure (v := (.int .i64 (p0.size : Int))) rfl rfl (len_str (oo rfl rfl) un9) ?_
  refine W.pure (v := (.bool ((p0.size : Int) == 0))) rfl rfl (v_int (oo rfl rfl) (oo rfl rfl) rfl) ?_
  refine W.pure (v := (.bool ((p0.size : Int) == 0))) rfl rfl (v_move (oo rfl rfl)) ?_
  refine W.splitAt (t := 8) (b := ((p0.size : Int) == 0)) rfl (fun g4 gv5 => ?_) (fun g4 gv5 => ?_)
  ·have h6 := pos_inv g4 h2
   refine W.skip (gk rfl rfl gv5 rfl) rfl ?_
   refine W.skip (gk rfl rfl gv5 rfl) rfl ?_
   refine W.skip (gk rfl rfl gv5 rfl) rfl ?_
   refine W.pure (v := (.bool true)) rfl rfl (v_pickT (oo rfl gv5) (oo rfl rfl)) ?_
   refine W.pure (v := (.bool true)) rfl rfl (v_move (oo rfl rfl)) ?_
   refine W.skip (gk rfl rfl rfl rfl) rfl ?_
   refine W.skip (gk rfl rfl rfl rfl) rfl ?_
   refine W.skip (gk rfl rfl rfl rfl) rfl ?_
   refine W.pure (v := (.bool true)) rfl rfl (v_pickT (oo rfl rfl) (oo rfl rfl)) ?_
   refine W.pure (v := (.bool true)) rfl rfl (v_move (oo rfl rfl)) ?_
   refine W.skip (gk rfl rfl rfl rfl) rfl ?_
   refine W.skip (gk rfl rfl rfl rfl) rfl ?_
   refine W.skip (gk rfl rfl rfl rfl) rfl ?_
   refine W.pure (v := (.bool true)) rfl rfl (v_pickT (oo rfl rfl) (oo rfl rfl)) ?_
   refine .nil ?_
   obtain rfl := Option.some.inj h6
   exact ⟨true, _, rfl, O, (GM.le.refl _), rfl⟩
  ·have h7 := neg_b g4 h2
   refine W.pure (v := (.string p0)) (gk rfl rfl gv5 rfl) rfl (v_move (oo rfl rfl)) ?_
   refine W.pure (v := (.int .i64 (p0.size : Int))) (gk rfl rfl gv5 rfl) rfl (len_str (oo rfl rfl) un9) ?_
   refine W.pure (v := (.bool (decide ((p0.size : Int) > 8)))) (gk rfl rfl gv5 rfl) rfl (v_int (oo rfl rfl) (oo rfl rfl) rfl) ?_
   refine W.pure (v := (.bool (decide ((p0.size : Int) > 8)))) rfl rfl (v_pickF (oo rfl gv5) (oo rfl rfl)) ?_
   refine W.pure (v := (.bool (decide ((p0.size : Int) > 8)))) rfl rfl (v_move (oo rfl rfl)) ?_
   refine W.splitAt (t := 13) (b := decide ((p0.size : Int) > 8)) rfl (fun g8 gv9 => ?_) (fun g8 gv9 => ?_)
   ·have h10 := pos_inv g8 h7
    refine W.skip (gk rfl rfl gv9 rfl) rfl ?_
    refine W.skip (gk rfl rfl gv9 rfl) rfl ?_
    refine W.skip (gk rfl rfl gv9 rfl) rfl ?_
    refine W.pure (v := (.bool true)) rfl rfl (v_pickT (oo rfl gv9) (oo rfl rfl)) ?_
    refine W.pure (v := (.bool true)) rfl rfl (v_move (oo rfl rfl)) ?_
    refine W.skip (gk rfl rfl rfl rfl) rfl ?_
    refine W.skip (gk rfl rfl rfl rfl) rfl ?_
    refine W.skip (gk rfl rfl rfl rfl) rfl ?_
    refine W.pure (v := (.bool true)) rfl rfl (v_pickT (oo rfl rfl) (oo rfl rfl)) ?_
    refine .nil ?_
    obtain rfl := Option.some.inj h10
    exact ⟨true, _, rfl, O, (GM.le.refl _), rfl⟩
   ·have h11 := neg_b g8 h7
    refine W.pure (v := (.string p0)) (gk rfl rfl gv9 rfl) rfl (v_move (oo rfl rfl)) ?_
    obtain ⟨x12, i13, h14⟩ := bd_inv h11
    refine W.pure (v := (.int .u8 x12)) (gk rfl rfl gv9 rfl) rfl (v_sidx un9 (oo rfl rfl) (oo rfl rfl) i13) ?_
    refine W.pure (v := (.bool (decide (x12 < 65)))) (gk rfl rfl gv9 rfl) rfl (v_int (oo rfl rfl) (oo rfl rfl) rfl) ?_
    refine W.pure (v := (.bool (decide (x12 < 65)))) rfl rfl (v_pickF (oo rfl gv9) (oo rfl rfl)) ?_
    refine W.pure (v := (.bool (decide (x12 < 65)))) rfl rfl (v_move (oo rfl rfl)) ?_
    refine W.splitAt (t := 18) (b := decide (x12 < 65)) rfl (fun g15 gv16 => ?_) (fun g15 gv16 => ?_)
    ·have h17 := pos_inv g15 h14
     refine W.skip (gk rfl rfl gv16 rfl) rfl ?_
     refine W.skip (gk rfl rfl gv16 rfl) rfl ?_
     refine W.skip (gk rfl rfl gv16 rfl) rfl ?_
     refine W.pure (v := (.bool true)) rfl rfl (v_pickT (oo rfl gv16) (oo rfl rfl)) ?_
     refine .nil ?_
     obtain rfl := Option.some.inj h17
     exact ⟨true, _, rfl, O, (GM.le.refl _), rfl⟩
    ·have h18 := neg_b g15 h14
     refine W.pure (v := (.string p0)) (gk rfl rfl gv16 rfl) rfl (v_move (oo rfl rfl)) ?_
     obtain ⟨x19, i20, h21⟩ := bd_inv h18
     refine W.pure (v := (.int .u8 x19)) (gk rfl rfl gv16 rfl) rfl (v_sidx un9 (oo rfl rfl) (oo rfl rfl) i20) ?_
     refine W.pure (v := (.bool (decide (x19 > 90)))) (gk rfl rfl gv16 rfl) rfl (v_int (oo rfl rfl) (oo rfl rfl) rfl) ?_
     refine W.pure (v := (.bool (decide (x19 > 90)))) rfl rfl (v_pickF (oo rfl gv16) (oo rfl rfl)) ?_
     refine .nil ?_
     obtain rfl := Option.some.inj h21
     exact ⟨decide (x19 > 90), _, rfl, O, (GM.le.refl _), rfl⟩
 ·rintro σ23 H24 fr25 ⟨x22, G26, rfl, O27, s28, t30⟩
  have h31 := tu1_inv h3
  refine .cond (b := x22) rfl t30 (fun g32 => ?_) (fun g32 => ?_)
  ·have h33 := pos_inv g32 h31
   refine .seq ?_
   refine .region ?_
   refine W.pure (v := (.bool false)) rfl rfl (v_assign (oo rfl rfl)) ?_
   refine .nil ?_
   refine .ret ?_
   obtain rfl := Option.some.inj h33
   refine ret1R (P := Try.prog) (fn := Try.f25) (n := 46) (R := fun v H' => ∃ G', Ow G' H' (L) ∧ G.le G' ∧ v = .bool false) (v1 := (.bool false)) (by rfl) (rr_tmp (by rfl) (by exact rfl)) ?_
   exact ⟨_, O27, s28, rfl⟩
  ·have h34 := neg_b g32 h31
   refine .skip ?_
   refine .seq ?_
   refine .seq ?_
   refine .region ?_
   refine W.pure (v := (.string p0)) rfl rfl (v_move (oo rfl ((fr25 0 rfl).trans rfl))) ?_
   refine W.pure (v := (.int .i64 (p0.size : Int))) rfl rfl (len_str (oo rfl rfl) un9) ?_
   refine W.pure (v := (.int .i64 0)) rfl rfl (v_move (oo rfl rfl)) ?_
   refine .nil ?_
   obtain ⟨q35, h36, h37⟩ := bindS_inv h34
   refine AW.midT (fun σ' H' => ∃  (G' : GM), (.inr ()) = q35 ∧ Ow G' H' (L) ∧ GM.le G26 G') ?_ ?_
   ·refine .block ?_
    refine AW.loop (α := Nat) (fun k' σ' H' => ∃ (y1 : Int) (G' : GM), g_R_IsName_l0 K p0 k' y1 = some q35 ∧ Ow G' H' (L) ∧ GM.le G26 G' ∧ σ' 25 = .int .i64 y1) (fun k' => k') K ⟨0, _, h36, O27, (GM.le.refl _), rfl⟩ ?_
    rintro k38
    rintro σ40 H41 fr42 ⟨x39, G43, h46, O44, s45, t47⟩
    rcases k38 with _ | k38
    ·exact none_absurd h46
    rw [g_R_IsName_l0] at h46
    refine .seq ?_
    refine .region ?_
    refine W.pure (v := (.bool (decide (x39 < (p0.size : Int))))) rfl rfl (v_int (oo rfl t47) (oo rfl ((fr42 24 rfl).trans rfl)) rfl) ?_
    refine .nil ?_
    refine .seq ?_
    refine .cond (b := decide (x39 < (p0.size : Int))) rfl rfl (fun g48 => ?_) (fun g48 => ?_)
    ·have h49 := pos_inv g48 h46
     refine .skip ?_
     refine .seq ?_
     refine .block ?_
     refine .seq ?_
     refine .region ?_
     refine W.pure (v := (.int .i64 x39)) rfl rfl (v_move (oo rfl t47)) ?_
     refine W.pure (v := (.int .i64 x39)) rfl rfl (v_assign (oo rfl rfl)) ?_
     refine .nil ?_
     refine .seq ?_
     refine .region ?_
     refine W.pure (v := (.string p0)) rfl rfl (v_move (oo rfl ((fr42 0 rfl).trans ((fr25 0 rfl).trans rfl)))) ?_
     refine W.pure (v := (.int .i64 x39)) rfl rfl (v_move (oo rfl rfl)) ?_
     obtain ⟨x50, i51, h52⟩ := bd_inv h49
     refine W.pure (v := (.int .u8 x50)) rfl rfl (v_sidx un9 (oo rfl rfl) (oo rfl rfl) i51) ?_
     refine W.pure (v := (.int .u8 x50)) rfl rfl (v_assign (oo rfl rfl)) ?_
     refine .nil ?_
     refine .seq ?_
     obtain ⟨q53, h54, h55⟩ := bd_inv h52
     refine AW.midT (fun σ' H' => ∃ (y1 : Bool) (G' : GM), y1 = q53 ∧ Ow G' H' (L) ∧ GM.le G43 G' ∧ σ' 44 = .bool y1) ?_ ?_
     ·refine .region ?_
      refine W.pure (v := (.int .u8 x50)) rfl rfl (v_move (oo rfl rfl)) ?_
      refine W.pure (v := (.bool (decide (x50 < 65)))) rfl rfl (v_int (oo rfl rfl) (oo rfl rfl) rfl) ?_
      refine W.pure (v := (.bool (decide (x50 < 65)))) rfl rfl (v_move (oo rfl rfl)) ?_
      refine W.splitAt (t := 33) (b := decide (x50 < 65)) rfl (fun g56 gv57 => ?_) (fun g56 gv57 => ?_)
      ·have h58 := pos_inv g56 h54
       refine W.skip (gk rfl rfl gv57 rfl) rfl ?_
       refine W.skip (gk rfl rfl gv57 rfl) rfl ?_
       refine W.pure (v := (.bool true)) rfl rfl (v_pickT (oo rfl gv57) (oo rfl rfl)) ?_
       refine W.pure (v := (.bool true)) rfl rfl (v_move (oo rfl rfl)) ?_
       refine W.pure (v := (.int .u8 x50)) (gk rfl rfl rfl rfl) rfl (v_move (oo rfl rfl)) ?_
       refine W.pure (v := (.bool (decide (x50 < 48)))) (gk rfl rfl rfl rfl) rfl (v_int (oo rfl rfl) (oo rfl rfl) rfl) ?_
       refine W.pure (v := (.bool (decide (x50 < 48)))) (gk rfl rfl rfl rfl) rfl (v_move (oo rfl rfl)) ?_
       refine W.splitAt (t := 40) (b := decide (x50 < 48)) rfl (fun g59 gv60 => ?_) (fun g59 gv60 => ?_)
       ·have h61 := pos_inv g59 h58
        refine W.skip (gk rfl rfl gv60 rfl) rfl ?_
        refine W.skip (gk rfl rfl gv60 rfl) rfl ?_
        refine W.pure (v := (.bool true)) (gk rfl rfl rfl rfl) rfl (v_pickT (oo rfl gv60) (oo rfl rfl)) ?_
        refine W.pure (v := (.bool true)) rfl rfl (v_pickT (oo rfl rfl) (oo rfl rfl)) ?_
        refine .nil ?_
        obtain rfl := Option.some.inj h61
        exact ⟨true, _, rfl, O44, (GM.le.refl _), rfl⟩
       ·have h62 := neg_b g59 h58
        refine W.pure (v := (.int .u8 x50)) (gk rfl rfl gv60 rfl) rfl (v_move (oo rfl rfl)) ?_
        refine W.pure (v := (.bool (decide (x50 > 57)))) (gk rfl rfl gv60 rfl) rfl (v_int (oo rfl rfl) (oo rfl rfl) rfl) ?_
        refine W.pure (v := (.bool (decide (x50 > 57)))) (gk rfl rfl rfl rfl) rfl (v_pickF (oo rfl gv60) (oo rfl rfl)) ?_
        refine W.pure (v := (.bool (decide (x50 > 57)))) rfl rfl (v_pickT (oo rfl rfl) (oo rfl rfl)) ?_
        refine .nil ?_
        obtain rfl := Option.some.inj h62
        exact ⟨decide (x50 > 57), _, rfl, O44, (GM.le.refl _), rfl⟩
      ·have h63 := neg_b g56 h54
       refine W.pure (v := (.int .u8 x50)) (gk rfl rfl gv57 rfl) rfl (v_move (oo rfl rfl)) ?_
       refine W.pure (v := (.bool (decide (x50 > 90)))) (gk rfl rfl gv57 rfl) rfl (v_int (oo rfl rfl) (oo rfl rfl) rfl) ?_
       refine W.pure (v := (.bool (decide (x50 > 90)))) rfl rfl (v_pickF (oo rfl gv57) (oo rfl rfl)) ?_
       refine W.pure (v := (.bool (decide (x50 > 90)))) rfl rfl (v_move (oo rfl rfl)) ?_
       refine W.splitAt (t := 37) (b := decide (x50 > 90)) rfl (fun g64 gv65 => ?_) (fun g64 gv65 => ?_)
       ·have h66 := pos_inv g64 h63
        refine W.pure (v := (.int .u8 x50)) (gk rfl rfl gv65 rfl) rfl (v_move (oo rfl rfl)) ?_
        refine W.pure (v := (.bool (decide (x50 < 48)))) (gk rfl rfl gv65 rfl) rfl (v_int (oo rfl rfl) (oo rfl rfl) rfl) ?_
        refine W.pure (v := (.bool (decide (x50 < 48)))) (gk rfl rfl gv65 rfl) rfl (v_move (oo rfl rfl)) ?_
        refine W.splitAt (t := 40) (b := decide (x50 < 48)) rfl (fun g67 gv68 => ?_) (fun g67 gv68 => ?_)
        ·have h69 := pos_inv g67 h66
         refine W.skip (gk rfl rfl gv68 rfl) rfl ?_
         refine W.skip (gk rfl rfl gv68 rfl) rfl ?_
         refine W.pure (v := (.bool true)) (gk rfl rfl gv65 rfl) rfl (v_pickT (oo rfl gv68) (oo rfl rfl)) ?_
         refine W.pure (v := (.bool true)) rfl rfl (v_pickT (oo rfl gv65) (oo rfl rfl)) ?_
         refine .nil ?_
         obtain rfl := Option.some.inj h69
         exact ⟨true, _, rfl, O44, (GM.le.refl _), rfl⟩
        ·have h70 := neg_b g67 h66
         refine W.pure (v := (.int .u8 x50)) (gk rfl rfl gv68 rfl) rfl (v_move (oo rfl rfl)) ?_
         refine W.pure (v := (.bool (decide (x50 > 57)))) (gk rfl rfl gv68 rfl) rfl (v_int (oo rfl rfl) (oo rfl rfl) rfl) ?_
         refine W.pure (v := (.bool (decide (x50 > 57)))) (gk rfl rfl gv65 rfl) rfl (v_pickF (oo rfl gv68) (oo rfl rfl)) ?_
         refine W.pure (v := (.bool (decide (x50 > 57)))) rfl rfl (v_pickT (oo rfl gv65) (oo rfl rfl)) ?_
         refine .nil ?_
         obtain rfl := Option.some.inj h70
         exact ⟨decide (x50 > 57), _, rfl, O44, (GM.le.refl _), rfl⟩
       ·have h71 := neg_b g64 h63
        refine W.skip (gk rfl rfl gv65 rfl) rfl ?_
        refine W.skip (gk rfl rfl gv65 rfl) rfl ?_
        refine W.skip (gk rfl rfl gv65 rfl) rfl ?_
        refine W.skipU rfl rfl rfl rfl ?_
        refine W.skipU rfl rfl rfl rfl ?_
        refine W.skip (gk rfl rfl gv65 rfl) rfl ?_
        refine W.pure (v := (.bool false)) rfl rfl (v_pickF (oo rfl gv65) (oo rfl rfl)) ?_
        refine .nil ?_
        obtain rfl := Option.some.inj h71
        exact ⟨false, _, rfl, O44, (GM.le.refl _), rfl⟩
     ·rintro σ73 H74 fr75 ⟨x72, G76, rfl, O77, s78, t80⟩
      have h81 := tu1_inv h55
      refine .cond (b := x72) rfl t80 (fun g82 => ?_) (fun g82 => ?_)
      ·have h83 := pos_inv g82 h81
       refine .seq ?_
       refine .region ?_
       refine W.pure (v := (.bool false)) rfl rfl (v_assign (oo rfl rfl)) ?_
       refine .nil ?_
       refine .ret ?_
       obtain rfl := Option.some.inj h83
       have h84 := tu1_inv (outS_l h37)
       obtain rfl := Option.some.inj h84
       refine ret1R (P := Try.prog) (fn := Try.f25) (n := 46) (R := fun v H' => ∃ G', Ow G' H' (L) ∧ G.le G' ∧ v = .bool false) (v1 := (.bool false)) (by rfl) (rr_tmp (by rfl) (by exact rfl)) ?_
       exact ⟨_, O77, (GM.le.trans s28 (GM.le.trans s45 s78)), rfl⟩
      ·have h85 := neg_b g82 h81
       refine .skip ?_
       refine .region ?_
       refine W.pure (v := (.int .i64 (kwrap .i64 (x39 + 1)))) rfl rfl (v_int (oo rfl ((fr75 25 rfl).trans t47)) (oo rfl rfl) rfl) ?_
       refine W.pure (v := (.int .i64 (kwrap .i64 (x39 + 1)))) rfl rfl (v_move (oo rfl rfl)) ?_
       refine .nil ?_
       exact ⟨k38, Nat.lt_succ_self _, ⟨kwrap .i64 (x39 + 1), _, h85, O77, (GM.le.trans s45 s78), rfl⟩⟩
    ·have h86 := neg_b g48 h46
     refine .exit ?_
     obtain rfl := Option.some.inj h86
     exact ⟨_, rfl, O44, s45⟩
   ·rintro σ87 H88 fr89 ⟨G90, rfl, O91, s92⟩
    have h94 := tu0_inv (outS_r h37)
    refine .seq ?_
    refine .region ?_
    refine W.pure (v := (.bool true)) rfl rfl (v_assign (oo rfl rfl)) ?_
    refine .nil ?_
    refine .ret ?_
    obtain rfl := Option.some.inj h94
    refine ret1R (P := Try.prog) (fn := Try.f25) (n := 46) (R := fun v H' => ∃ G', Ow G' H' (L) ∧ G.le G' ∧ v = .bool true) (v1 := (.bool true)) (by rfl) (rr_tmp (by rfl) (by exact rfl)) ?_
    exact ⟨_, O91, (GM.le.trans s28 s92), rfl⟩
def g_R_Place_l0 (K : Nat) (p0 : List ByteArray) (p1 : ByteArray) : Nat → Int → Option (Int ⊕ Unit)
 | 0, _ => none
 | k + 1, x5 => (if (decide (x5 < (List.length p0 : Int))) = true then ((idx p0 x5).bind fun x16 => (if (sEq x16 p1) = true then some (.inl x5) else g_R_Place_l0 K p0 p1 k (kwrap .i64 (x5 + 1)))) else some (.inr ()))
def g_R_Place (K : Nat) (p0 : List ByteArray) (p1 : ByteArray) : Option Int := (bindS (g_R_Place_l0 K p0 p1 K 0) (tu1 fun a33 => some a33) (tu0 (some (-1))))
set_option maxHeartbeats 4000000 in
theorem g_R_Place_ok (K : Nat) {G : GM} {H : AH} {L : List Pc} (v0 : Value) (p0 : List ByteArray) (hp0 : (rSl rS).rep G [v0] p0) (p1 : ByteArray) (O : Ow G H (L)) (r : Int) (h : g_R_Place K p0 p1 = some r) :
  CR Try.prog 46 [v0, (.string p1)] G H (L) (fun v G' _ => v = .int .i64 r) := by
 unfold g_R_Place at h
 refine CR.of (calls_of_AW (n := 19) (fn := Try.f46) (R := fun v H' => ∃ G', Ow G' H' (L) ∧ G.le G' ∧ v = .int .i64 r) (by kernel_rfl) rfl rfl ?_)
 refine .seq ?_
 refine .region ?_
 refine W.pure (v := (.int .i64 0)) rfl rfl (v_assign (oo rfl rfl)) ?_
 refine .nil ?_
 refine .seq ?_
 refine .seq ?_
 refine .region ?_
 refine W.pure (v := v0) rfl rfl (v_move (oo rfl rfl)) ?_
 refine W.pure (v := (.int .i64 (List.length p0 : Int))) rfl rfl (len_sl (oo rfl rfl) (sl_len hp0) (elemT_inv el41)) ?_
 refine W.pure (v := (.int .i64 0)) rfl rfl (v_move (oo rfl rfl)) ?_
 refine .nil ?_
 obtain ⟨q1, h2, h3⟩ := bindS_inv h
 refine AW.midT (fun σ' H' => ∃  (G' : GM), (.inr ()) = q1 ∧ Ow G' H' (L) ∧ GM.le G G') ?_ ?_
 ·refine .block ?_
  refine AW.loop (α := Nat) (fun k' σ' H' => ∃ (y1 : Int) (G' : GM), g_R_Place_l0 K p0 p1 k' y1 = some q1 ∧ Ow G' H' (L) ∧ GM.le G G' ∧ σ' 9 = .int .i64 y1) (fun k' => k') K ⟨0, _, h2, O, (GM.le.refl _), rfl⟩ ?_
  rintro k4
  rintro σ6 H7 fr8 ⟨x5, G9, h12, O10, s11, t13⟩
  rcases k4 with _ | k4
  ·exact none_absurd h12
  rw [g_R_Place_l0] at h12
  refine .seq ?_
  refine .region ?_
  refine W.pure (v := (.bool (decide (x5 < (List.length p0 : Int))))) rfl rfl (v_int (oo rfl t13) (oo rfl ((fr8 8 rfl).trans rfl)) rfl) ?_
  refine .nil ?_
  refine .seq ?_
  refine .cond (b := decide (x5 < (List.length p0 : Int))) rfl rfl (fun g14 => ?_) (fun g14 => ?_)
  ·have h15 := pos_inv g14 h12
   refine .skip ?_
   refine .seq ?_
   refine .block ?_
   refine .seq ?_
   refine .region ?_
   refine W.pure (v := (.int .i64 x5)) rfl rfl (v_move (oo rfl t13)) ?_
   obtain ⟨x16, i17, h18⟩ := bd_inv h15
   have j19 := idx_inv i17
   refine W.pure (v := (selem v0 (Int.toNat x5 * 1))) rfl rfl (v_idx el41 sz9 (oo rfl ((fr8 7 rfl).trans rfl)) (oo rfl t13) (sl_len (RT.mono _ s11 hp0)) j19.1 j19.2.1) ?_
   refine W.load1 (v := (.string x16)) (r := []) rfl rfl ag9 (pt_px rfl (At.str (At.le (At.le (sl_idx hp0 j19.2.2) s11 s11) (GM.le.refl _) O10.fro))) ?_
   refine W.pure (v := (.int .i64 x5)) rfl rfl (v_assign (oo rfl rfl)) ?_
   refine W.pure (v := (.string x16)) rfl rfl (v_assign (oo rfl rfl)) ?_
   refine .nil ?_
   refine .seq ?_
   refine .region ?_
   refine W.pure (v := (.string x16)) rfl rfl (v_move (oo rfl rfl)) ?_
   refine W.pure (v := (.string p1)) rfl rfl (v_move (oo rfl ((fr8 1 rfl).trans rfl))) ?_
   refine W.pure (v := (.bool (sEq x16 p1))) rfl rfl (vs_eql (oo rfl rfl) (oo rfl rfl)) ?_
   refine .nil ?_
   refine .cond (b := sEq x16 p1) rfl rfl (fun g20 => ?_) (fun g20 => ?_)
   ·have h21 := pos_inv g20 h18
    refine .seq ?_
    refine .region ?_
    refine W.pure (v := (.int .i64 x5)) rfl rfl (v_move (oo rfl rfl)) ?_
    refine W.pure (v := (.int .i64 x5)) rfl rfl (v_assign (oo rfl rfl)) ?_
    refine .nil ?_
    refine .ret ?_
    obtain rfl := Option.some.inj h21
    have h22 := tu1_inv (outS_l h3)
    obtain rfl := Option.some.inj h22
    refine ret1R (P := Try.prog) (fn := Try.f46) (n := 19) (R := fun v H' => ∃ G', Ow G' H' (L) ∧ G.le G' ∧ v = .int .i64 x5) (v1 := (.int .i64 x5)) (by rfl) (rr_tmp (by rfl) (by exact rfl)) ?_
    exact ⟨_, O10, s11, rfl⟩
   ·have h23 := neg_b g20 h18
    refine .skip ?_
    refine .region ?_
    refine W.pure (v := (.int .i64 (kwrap .i64 (x5 + 1)))) rfl rfl (v_int (oo rfl t13) (oo rfl rfl) rfl) ?_
    refine W.pure (v := (.int .i64 (kwrap .i64 (x5 + 1)))) rfl rfl (v_move (oo rfl rfl)) ?_
    refine .nil ?_
    exact ⟨k4, Nat.lt_succ_self _, ⟨kwrap .i64 (x5 + 1), _, h23, O10, s11, rfl⟩⟩
  ·have h24 := neg_b g14 h12
   refine .exit ?_
   obtain rfl := Option.some.inj h24
   exact ⟨_, rfl, O10, s11⟩
 ·rintro σ25 H26 fr27 ⟨G28, rfl, O29, s30⟩
  have h32 := tu0_inv (outS_r h3)
  refine .seq ?_
  refine .region ?_
  refine W.pure (v := (.int .i64 (-1))) rfl rfl (v_assign (oo rfl rfl)) ?_
  refine .nil ?_
  refine .ret ?_
  obtain rfl := Option.some.inj h32
  refine ret1R (P := Try.prog) (fn := Try.f46) (n := 19) (R := fun v H' => ∃ G', Ow G' H' (L) ∧ G.le G' ∧ v = .int .i64 (-1)) (v1 := (.int .i64 (-1))) (by rfl) (rr_tmp (by rfl) (by exact rfl)) ?_
  exact ⟨_, O29, s30, rfl⟩
def g_R_Has (K : Nat) (p0 : List ByteArray) (p1 : ByteArray) : Option Bool := ((g_R_Place K p0 p1).bind fun x1 => some (decide (x1 ≥ 0)))
set_option maxHeartbeats 4000000 in
theorem g_R_Has_ok (K : Nat) {G : GM} {H : AH} {L : List Pc} (v0 : Value) (p0 : List ByteArray) (hp0 : (rSl rS).rep G [v0] p0) (p1 : ByteArray) (O : Ow G H (L)) (r : Bool) (h : g_R_Has K p0 p1 = some r) :
  CR Try.prog 42 [v0, (.string p1)] G H (L) (fun v G' _ => v = .bool r) := by
 unfold g_R_Has at h
 refine CR.of (calls_of_AW (n := 9) (fn := Try.f42) (R := fun v H' => ∃ G', Ow G' H' (L) ∧ G.le G' ∧ v = .bool r) (by kernel_rfl) rfl rfl ?_)
 refine .seq ?_
 refine .region ?_
 refine W.pure (v := (.bool false)) rfl rfl (v_assign (oo rfl rfl)) ?_
 refine .nil ?_
 refine .seq ?_
 refine .region ?_
 refine W.pure (v := v0) rfl rfl (v_move (oo rfl rfl)) ?_
 refine W.pure (v := (.string p1)) rfl rfl (v_move (oo rfl rfl)) ?_
 obtain ⟨x1, i2, h3⟩ := bd_inv h
 refine W.lo rfl rfl (Lo.callP (ps := []) (ps' := []) rfl (fn := Try.f46) (by kernel_rfl) rfl (mc rfl (mc rfl mn)) O (fun L' O' => g_R_Place_ok K v0 p0 hp0 p1 O' _ i2)) ?_
 rintro v10 H11 ⟨G4, O5, s6, sm9, rfl⟩
 replace O5 : Ow G4 H11 (L) := O5
 refine W.pure (v := (.bool (decide (x1 ≥ 0)))) rfl rfl (v_int (oo rfl rfl) (oo rfl rfl) rfl) ?_
 refine W.pure (v := (.bool (decide (x1 ≥ 0)))) rfl rfl (v_assign (oo rfl rfl)) ?_
 refine .nil ?_
 refine .ret ?_
 obtain rfl := Option.some.inj h3
 refine ret1R (P := Try.prog) (fn := Try.f42) (n := 9) (R := fun v H' => ∃ G', Ow G' H' (L) ∧ G.le G' ∧ v = .bool (decide (x1 ≥ 0))) (v1 := (.bool (decide (x1 ≥ 0)))) (by rfl) (rr_tmp (by rfl) (by exact rfl)) ?_
 exact ⟨_, O5, s6, rfl⟩
def g_R_NetError_1 (K : Nat) (p0 : ByteArray) (p1 : List ByteArray) : Option (Int × List ByteArray) := ((g_R_IsName K p0).bind fun x1 => (if (!x1) = true then some (5, p1) else ((g_R_Has K p1 p0).bind fun x15 => (if x15 = true then some (7, p1) else (if List.length p1 + List.length [p0] ≤ 16777216 then some (0, (p1 ++ [p0])) else none)))))
set_option maxHeartbeats 4000000 in
theorem g_R_NetError_1_ok (K : Nat) {G : GM} {H : AH} {L : List Pc} (p0 : ByteArray) (b1 : Nat) (v1 : Value) (p1 : List ByteArray) (O : Ow G H (eVar b1 41 rV v1 :: eSl v1 9 rS p1 :: L)) (r : Int × List ByteArray) (h : g_R_NetError_1 K p0 p1 = some r) :
  CRF Try.prog 70 [(.string p0), .pointer (some ⟨b1, 0, none⟩)] G H (fun wl => (eVar b1 41 rV wl :: eSl wl 9 rS r.2 :: L)) (fun wl v G' => v = .int .i64 r.1) := by
 unfold g_R_NetError_1 at h
 refine CRF.of (calls_of_AW (n := 14) (fn := Try.f70) (R := fun v H' => ∃ wl G', Ow G' H' (eVar b1 41 rV wl :: eSl wl 9 rS r.2 :: L) ∧ G.le G' ∧ v = .int .i64 r.1) (by kernel_rfl) rfl rfl ?_)
 refine .seq ?_
 refine .region ?_
 refine W.pure (v := (.int .i64 0)) rfl rfl (v_assign (oo rfl rfl)) ?_
 refine .nil ?_
 refine .seq ?_
 refine .seq ?_
 refine .region ?_
 refine W.pure (v := (.string p0)) rfl rfl (v_move (oo rfl rfl)) ?_
 obtain ⟨x1, i2, h3⟩ := bd_inv h
 refine W.lo rfl rfl (Lo.callP (ps := []) (ps' := []) rfl (fn := Try.f25) (by kernel_rfl) rfl (mc rfl mn) O (fun L' O' => g_R_IsName_ok K p0 O' _ i2)) ?_
 rintro v10 H11 ⟨G4, O5, s6, sm9, rfl⟩
 replace O5 : Ow G4 H11 (eVar b1 41 rV v1 :: eSl v1 9 rS p1 :: L) := O5
 refine W.pure (v := (.bool (!x1))) rfl rfl (bool_not (a := x1) (oo rfl rfl)) ?_
 refine .nil ?_
 refine .cond (b := (!x1)) rfl rfl (fun g12 => ?_) (fun g12 => ?_)
 ·have h13 := pos_inv g12 h3
  refine .seq ?_
  refine .region ?_
  refine W.pure (v := (.int .i64 5)) rfl rfl (v_assign (oo rfl rfl)) ?_
  refine .nil ?_
  refine .ret ?_
  obtain rfl := Option.some.inj h13
  refine ret1R (P := Try.prog) (fn := Try.f70) (n := 14) (R := fun v H' => ∃ wl G', Ow G' H' (eVar b1 41 rV wl :: eSl wl 9 rS (5, p1).2 :: L) ∧ G.le G' ∧ v = .int .i64 (5, p1).1) (v1 := (.int .i64 5)) (by rfl) (rr_tmp (by rfl) (by exact rfl)) ?_
  exact ⟨v1, _, O5, s6, rfl⟩
 ·have h14 := neg_b g12 h3
  refine .skip ?_
  refine .seq ?_
  refine .seq ?_
  refine .region ?_
  refine W.load1 (v := v1) (r := []) rfl rfl ag41 (pt_px rfl (At.raw (O5.atVar (j := 0) rfl))) ?_
  refine W.pure (v := (.string p0)) rfl rfl (v_move (oo rfl rfl)) ?_
  obtain ⟨x15, i16, h17⟩ := bd_inv h14
  refine W.lo rfl rfl (Lo.callB (j := 1) rfl rfl (fn := Try.f42) (by kernel_rfl) rfl (mc rfl (mc rfl mn)) O5 (fun G' L' hG O' hB => g_R_Has_ok K v1 p1 hB p0 O' _ i16)) ?_
  rintro v24 H25 ⟨G18, O19, s20, sm23, rfl⟩
  replace O19 : Ow G18 H25 (eVar b1 41 rV v1 :: eSl v1 9 rS p1 :: L) := O19
  refine .nil ?_
  refine .cond (b := x15) rfl rfl (fun g26 => ?_) (fun g26 => ?_)
  ·have h27 := pos_inv g26 h17
   refine .seq ?_
   refine .region ?_
   refine W.pure (v := (.int .i64 7)) rfl rfl (v_assign (oo rfl rfl)) ?_
   refine .nil ?_
   refine .ret ?_
   obtain rfl := Option.some.inj h27
   refine ret1R (P := Try.prog) (fn := Try.f70) (n := 14) (R := fun v H' => ∃ wl G', Ow G' H' (eVar b1 41 rV wl :: eSl wl 9 rS (7, p1).2 :: L) ∧ G.le G' ∧ v = .int .i64 (7, p1).1) (v1 := (.int .i64 7)) (by rfl) (rr_tmp (by rfl) (by exact rfl)) ?_
   exact ⟨v1, _, O19, (GM.le.trans s6 s20), rfl⟩
  ·have h28 := neg_b g26 h17
   refine .skip ?_
   refine .seq ?_
   refine .region ?_
   refine W.load1 (v := v1) (r := []) rfl rfl ag41 (pt_px rfl (At.raw (O19.atVar (j := 0) rfl))) ?_
   refine W.pure (v := (.string p0)) rfl rfl (v_move (oo rfl rfl)) ?_
   refine W.lo rfl rfl (Lo.buildSlice (r := rS) (vs := [(.string p0)]) (xs := [p0]) el41 ze9 sz9 (by kernel_rfl) rfl (qc rfl qn) rfl (.cons rfl .nil) O19) ?_
   rintro v31 H32 ⟨O29, sm30⟩
   obtain ⟨es34, e35, e36⟩ := src_own (j := 0) rfl O29
   obtain ⟨g37, h38⟩ := gd_inv h28
   refine W.lo rfl rfl (Lo.append (j := 2) (v := v1) rfl rfl el41 ni41 ze9 sz9 by9 (by decide) (by decide) rfl e35 e36 g37 O29) ?_
   rintro v40 H41 ⟨O33, sm39⟩
   replace O33 : Ow G18 H41 (eSl v31 9 rS [p0] :: eVar b1 41 rV v1 :: eSl v40 9 rS (p1 ++ [p0]) :: L) := O33
   refine W.lo rfl rfl (Lo.storeVar (j := 1) (s := rV) (y0 := v40) (v := v40) (o := 0) rfl ((Put.at (Put.self _) _ _)) rfl sz41 rfl (by omega) rfl (rv_ok (O33.slLen (j := 2) rfl)) O33) ?_
   rintro v44 H45 ⟨O42, sm43⟩
   replace O42 : Ow G18 H45 (eSl v31 9 rS [p0] :: eVar b1 41 rV v40 :: eSl v40 9 rS (p1 ++ [p0]) :: L) := O42
   refine .nil ?_
   refine .seq ?_
   refine .region ?_
   refine W.pure (v := (.int .i64 0)) rfl rfl (v_assign (oo rfl rfl)) ?_
   refine .nil ?_
   refine .ret ?_
   have O46 : Ow G18 H45 (eVar b1 41 rV v40 :: eSl v40 9 rS (p1 ++ [p0]) :: L) := O42.drop 0
   obtain rfl := Option.some.inj h38
   refine ret1R (P := Try.prog) (fn := Try.f70) (n := 14) (R := fun v H' => ∃ wl G', Ow G' H' (eVar b1 41 rV wl :: eSl wl 9 rS (0, (p1 ++ [p0])).2 :: L) ∧ G.le G' ∧ v = .int .i64 (0, (p1 ++ [p0])).1) (v1 := (.int .i64 0)) (by rfl) (rr_tmp (by rfl) (by exact rfl)) ?_
   exact ⟨v40, _, O46, (GM.le.trans s6 s20), rfl⟩
def g_R_in (K : Nat) (p0 : Int) (p1 : Int) (p2 : Int) : Option Bool := (Option.bind ((if (decide (p0 < p1)) = true then some false else some (!(decide (p0 > p2))))) (tu1 fun x8 => some x8))
set_option maxHeartbeats 4000000 in
theorem g_R_in_ok (K : Nat) {G : GM} {H : AH} {L : List Pc} (p0 : Int) (p1 : Int) (p2 : Int) (O : Ow G H (L)) (r : Bool) (h : g_R_in K p0 p1 p2 = some r) :
  CR Try.prog 73 [(.int .i64 p0), (.int .i64 p1), (.int .i64 p2)] G H (L) (fun v G' _ => v = .bool r) := by
 unfold g_R_in at h
 refine CR.of (calls_of_AW (n := 16) (fn := Try.f73) (R := fun v H' => ∃ G', Ow G' H' (L) ∧ G.le G' ∧ v = .bool r) (by kernel_rfl) rfl rfl ?_)
 refine .seq ?_
 refine .region ?_
 refine W.pure (v := (.bool false)) rfl rfl (v_assign (oo rfl rfl)) ?_
 refine .nil ?_
 refine .seq ?_
 obtain ⟨q1, h2, h3⟩ := bd_inv h
 refine AW.midT (fun σ' H' => ∃ (y1 : Bool) (G' : GM), y1 = q1 ∧ Ow G' H' (L) ∧ GM.le G G' ∧ σ' 6 = .bool y1) ?_ ?_
 ·refine .region ?_
  refine W.pure (v := (.int .i64 p0)) rfl rfl (v_move (oo rfl rfl)) ?_
  refine W.pure (v := (.int .i64 p1)) rfl rfl (v_move (oo rfl rfl)) ?_
  refine W.pure (v := (.bool (decide (p0 < p1)))) rfl rfl (v_int (oo rfl rfl) (oo rfl rfl) rfl) ?_
  refine W.pure (v := (.bool (decide (p0 < p1)))) rfl rfl (v_move (oo rfl rfl)) ?_
  refine W.splitAt (t := 10) (b := decide (p0 < p1)) rfl (fun g4 gv5 => ?_) (fun g4 gv5 => ?_)
  ·have h6 := pos_inv g4 h2
   refine W.skip (gk rfl rfl gv5 rfl) rfl ?_
   refine W.skip (gk rfl rfl gv5 rfl) rfl ?_
   refine W.skip (gk rfl rfl gv5 rfl) rfl ?_
   refine W.pure (v := (.bool true)) rfl rfl (v_pickT (oo rfl gv5) (oo rfl rfl)) ?_
   refine W.pure (v := (.bool false)) rfl rfl (bool_not (a := true) (oo rfl rfl)) ?_
   refine W.pure (v := (.bool false)) rfl rfl (v_assign (oo rfl rfl)) ?_
   refine .nil ?_
   obtain rfl := Option.some.inj h6
   exact ⟨false, _, rfl, O, (GM.le.refl _), rfl⟩
  ·have h7 := neg_b g4 h2
   refine W.pure (v := (.int .i64 p0)) (gk rfl rfl gv5 rfl) rfl (v_move (oo rfl rfl)) ?_
   refine W.pure (v := (.int .i64 p2)) (gk rfl rfl gv5 rfl) rfl (v_move (oo rfl rfl)) ?_
   refine W.pure (v := (.bool (decide (p0 > p2)))) (gk rfl rfl gv5 rfl) rfl (v_int (oo rfl rfl) (oo rfl rfl) rfl) ?_
   refine W.pure (v := (.bool (decide (p0 > p2)))) rfl rfl (v_pickF (oo rfl gv5) (oo rfl rfl)) ?_
   refine W.pure (v := (.bool (!(decide (p0 > p2))))) rfl rfl (bool_not (a := decide (p0 > p2)) (oo rfl rfl)) ?_
   refine W.pure (v := (.bool (!(decide (p0 > p2))))) rfl rfl (v_assign (oo rfl rfl)) ?_
   refine .nil ?_
   obtain rfl := Option.some.inj h7
   exact ⟨(!(decide (p0 > p2))), _, rfl, O, (GM.le.refl _), rfl⟩
 ·rintro σ9 H10 fr11 ⟨x8, G12, rfl, O13, s14, t16⟩
  have h17 := tu1_inv h3
  refine .ret ?_
  obtain rfl := Option.some.inj h17
  refine ret1R (P := Try.prog) (fn := Try.f73) (n := 16) (R := fun v H' => ∃ G', Ow G' H' (L) ∧ G.le G' ∧ v = .bool x8) (v1 := (.bool x8)) (by rfl) (rr_tmp (by rfl) (by exact t16)) ?_
  exact ⟨_, O13, s14, rfl⟩
def g_R_BranchError (K : Nat) (p0 : Branch) : Option Int := (Option.bind (((g_R_in K p0.X 1 10000).bind fun x9 => (if x9 = true then ((g_R_in K p0.Tap 500 1500).bind fun x23 => (if x23 = true then ((g_R_in K p0.Shift (-1000) 1000).bind fun x37 => (if x37 = true then ((g_R_in K p0.Limit 0 100000).bind fun x51 => (if x51 = true then ((g_R_in K p0.Short p0.Limit 100000).bind fun x65 => (if x65 = true then ((g_R_in K p0.Hold 0 200000).bind fun x79 => some x79) else some false)) else some false)) else some false)) else some false)) else some false))) (tu1 fun x95 => (if x95 = true then some 0 else some 4)))
set_option maxHeartbeats 4000000 in
theorem g_R_BranchError_ok (K : Nat) {G : GM} {H : AH} {L : List Pc} (v0 : List Value) (p0 : Branch) (hp0 : T_Branch.rep G v0 p0) (O : Ow G H (L)) (r : Int) (h : g_R_BranchError K p0 = some r) :
  CR Try.prog 27 [.agg (List.toArray v0)] G H (L) (fun v G' _ => v = .int .i64 r) := by
 unfold g_R_BranchError at h
 refine CR.of (calls_of_AW (n := 33) (fn := Try.f27) (R := fun v H' => ∃ G', Ow G' H' (L) ∧ G.le G' ∧ v = .int .i64 r) (by kernel_rfl) rfl rfl ?_)
 refine .seq ?_
 refine .region ?_
 refine W.lo rfl rfl (Lo.box (r := T_Branch) (x0 := p0) (v := (.agg (List.toArray v0))) rfl rfl hp0 O) ?_
 rintro v4 H5 ⟨b2, rfl, O1, sm3⟩
 refine W.pure (v := (.int .i64 0)) rfl rfl (v_assign (oo rfl rfl)) ?_
 refine .nil ?_
 refine .seq ?_
 refine .seq ?_
 obtain ⟨q6, h7, h8⟩ := bd_inv h
 refine AW.midT (fun σ' H' => ∃ (y1 : Bool) (G' : GM), y1 = q6 ∧ Ow G' H' (eVar b2 50 T_Branch p0 :: L) ∧ GM.le G G' ∧ σ' 32 = .bool y1) ?_ ?_
 ·refine .region ?_
  refine W.pure (v := (padd (.pointer (some ⟨b2, 0, none⟩)) 3)) rfl rfl (v_fldA fl50_3 (oo rfl rfl) (O1.atVar (j := 0) rfl)) ?_
  refine W.load1 (v := (.int .i64 p0.X)) (r := []) rfl rfl ag3 (pt_px rfl (At.int (At.proj (O1.atVar (j := 0) rfl) p_Branch_X))) ?_
  obtain ⟨x9, i10, h11⟩ := bd_inv h7
  refine W.lo rfl rfl (Lo.callP (ps := []) (ps' := []) rfl (fn := Try.f73) (by kernel_rfl) rfl (mc rfl (mc rfl (mc rfl mn))) O1 (fun L' O' => g_R_in_ok K p0.X 1 10000 O' _ i10)) ?_
  rintro v18 H19 ⟨G12, O13, s14, sm17, rfl⟩
  replace O13 : Ow G12 H19 (eVar b2 50 T_Branch p0 :: L) := O13
  refine W.pure (v := (.bool x9)) rfl rfl (v_move (oo rfl rfl)) ?_
  refine W.splitAt (t := 6) (b := x9) rfl (fun g20 gv21 => ?_) (fun g20 gv21 => ?_)
  ·have h22 := pos_inv g20 h11
   refine W.pure (v := (padd (.pointer (some ⟨b2, 0, none⟩)) 4)) (gk rfl rfl gv21 rfl) rfl (v_fldA fl50_4 (oo rfl rfl) (O13.atVar (j := 0) rfl)) ?_
   refine W.load1 (v := (.int .i64 p0.Tap)) (r := []) (gk rfl rfl gv21 rfl) rfl ag3 (pt_px rfl (At.int (At.proj (O13.atVar (j := 0) rfl) p_Branch_Tap))) ?_
   obtain ⟨x23, i24, h25⟩ := bd_inv h22
   refine W.lo (gk rfl rfl gv21 rfl) rfl (Lo.callP (ps := []) (ps' := []) rfl (fn := Try.f73) (by kernel_rfl) rfl (mc rfl (mc rfl (mc rfl mn))) O13 (fun L' O' => g_R_in_ok K p0.Tap 500 1500 O' _ i24)) ?_
   rintro v32 H33 ⟨G26, O27, s28, sm31, rfl⟩
   replace O27 : Ow G26 H33 (eVar b2 50 T_Branch p0 :: L) := O27
   refine W.pure (v := (.bool x23)) rfl rfl (v_pickT (oo rfl gv21) (oo rfl rfl)) ?_
   refine W.pure (v := (.bool x23)) rfl rfl (v_move (oo rfl rfl)) ?_
   refine W.splitAt (t := 11) (b := x23) rfl (fun g34 gv35 => ?_) (fun g34 gv35 => ?_)
   ·have h36 := pos_inv g34 h25
    refine W.pure (v := (padd (.pointer (some ⟨b2, 0, none⟩)) 5)) (gk rfl rfl gv35 rfl) rfl (v_fldA fl50_5 (oo rfl rfl) (O27.atVar (j := 0) rfl)) ?_
    refine W.load1 (v := (.int .i64 p0.Shift)) (r := []) (gk rfl rfl gv35 rfl) rfl ag3 (pt_px rfl (At.int (At.proj (O27.atVar (j := 0) rfl) p_Branch_Shift))) ?_
    obtain ⟨x37, i38, h39⟩ := bd_inv h36
    refine W.lo (gk rfl rfl gv35 rfl) rfl (Lo.callP (ps := []) (ps' := []) rfl (fn := Try.f73) (by kernel_rfl) rfl (mc rfl (mc rfl (mc rfl mn))) O27 (fun L' O' => g_R_in_ok K p0.Shift (-1000) 1000 O' _ i38)) ?_
    rintro v46 H47 ⟨G40, O41, s42, sm45, rfl⟩
    replace O41 : Ow G40 H47 (eVar b2 50 T_Branch p0 :: L) := O41
    refine W.pure (v := (.bool x37)) rfl rfl (v_pickT (oo rfl gv35) (oo rfl rfl)) ?_
    refine W.pure (v := (.bool x37)) rfl rfl (v_move (oo rfl rfl)) ?_
    refine W.splitAt (t := 16) (b := x37) rfl (fun g48 gv49 => ?_) (fun g48 gv49 => ?_)
    ·have h50 := pos_inv g48 h39
     refine W.pure (v := (padd (.pointer (some ⟨b2, 0, none⟩)) 6)) (gk rfl rfl gv49 rfl) rfl (v_fldA fl50_6 (oo rfl rfl) (O41.atVar (j := 0) rfl)) ?_
     refine W.load1 (v := (.int .i64 p0.Limit)) (r := []) (gk rfl rfl gv49 rfl) rfl ag3 (pt_px rfl (At.int (At.proj (O41.atVar (j := 0) rfl) p_Branch_Limit))) ?_
     obtain ⟨x51, i52, h53⟩ := bd_inv h50
     refine W.lo (gk rfl rfl gv49 rfl) rfl (Lo.callP (ps := []) (ps' := []) rfl (fn := Try.f73) (by kernel_rfl) rfl (mc rfl (mc rfl (mc rfl mn))) O41 (fun L' O' => g_R_in_ok K p0.Limit 0 100000 O' _ i52)) ?_
     rintro v60 H61 ⟨G54, O55, s56, sm59, rfl⟩
     replace O55 : Ow G54 H61 (eVar b2 50 T_Branch p0 :: L) := O55
     refine W.pure (v := (.bool x51)) rfl rfl (v_pickT (oo rfl gv49) (oo rfl rfl)) ?_
     refine W.pure (v := (.bool x51)) rfl rfl (v_move (oo rfl rfl)) ?_
     refine W.splitAt (t := 21) (b := x51) rfl (fun g62 gv63 => ?_) (fun g62 gv63 => ?_)
     ·have h64 := pos_inv g62 h53
      refine W.pure (v := (padd (.pointer (some ⟨b2, 0, none⟩)) 7)) (gk rfl rfl gv63 rfl) rfl (v_fldA fl50_7 (oo rfl rfl) (O55.atVar (j := 0) rfl)) ?_
      refine W.load1 (v := (.int .i64 p0.Short)) (r := []) (gk rfl rfl gv63 rfl) rfl ag3 (pt_px rfl (At.int (At.proj (O55.atVar (j := 0) rfl) p_Branch_Short))) ?_
      refine W.pure (v := (padd (.pointer (some ⟨b2, 0, none⟩)) 6)) (gk rfl rfl gv63 rfl) rfl (v_fldA fl50_6 (oo rfl rfl) (O55.atVar (j := 0) rfl)) ?_
      refine W.load1 (v := (.int .i64 p0.Limit)) (r := []) (gk rfl rfl gv63 rfl) rfl ag3 (pt_px rfl (At.int (At.proj (O55.atVar (j := 0) rfl) p_Branch_Limit))) ?_
      obtain ⟨x65, i66, h67⟩ := bd_inv h64
      refine W.lo (gk rfl rfl gv63 rfl) rfl (Lo.callP (ps := []) (ps' := []) rfl (fn := Try.f73) (by kernel_rfl) rfl (mc rfl (mc rfl (mc rfl mn))) O55 (fun L' O' => g_R_in_ok K p0.Short p0.Limit 100000 O' _ i66)) ?_
      rintro v74 H75 ⟨G68, O69, s70, sm73, rfl⟩
      replace O69 : Ow G68 H75 (eVar b2 50 T_Branch p0 :: L) := O69
      refine W.pure (v := (.bool x65)) rfl rfl (v_pickT (oo rfl gv63) (oo rfl rfl)) ?_
      refine W.pure (v := (.bool x65)) rfl rfl (v_move (oo rfl rfl)) ?_
      refine W.splitAt (t := 28) (b := x65) rfl (fun g76 gv77 => ?_) (fun g76 gv77 => ?_)
      ·have h78 := pos_inv g76 h67
       refine W.pure (v := (padd (.pointer (some ⟨b2, 0, none⟩)) 8)) (gk rfl rfl gv77 rfl) rfl (v_fldA fl50_8 (oo rfl rfl) (O69.atVar (j := 0) rfl)) ?_
       refine W.load1 (v := (.int .i64 p0.Hold)) (r := []) (gk rfl rfl gv77 rfl) rfl ag3 (pt_px rfl (At.int (At.proj (O69.atVar (j := 0) rfl) p_Branch_Hold))) ?_
       obtain ⟨x79, i80, h81⟩ := bd_inv h78
       refine W.lo (gk rfl rfl gv77 rfl) rfl (Lo.callP (ps := []) (ps' := []) rfl (fn := Try.f73) (by kernel_rfl) rfl (mc rfl (mc rfl (mc rfl mn))) O69 (fun L' O' => g_R_in_ok K p0.Hold 0 200000 O' _ i80)) ?_
       rintro v88 H89 ⟨G82, O83, s84, sm87, rfl⟩
       replace O83 : Ow G82 H89 (eVar b2 50 T_Branch p0 :: L) := O83
       refine W.pure (v := (.bool x79)) rfl rfl (v_pickT (oo rfl gv77) (oo rfl rfl)) ?_
       refine .nil ?_
       obtain rfl := Option.some.inj h81
       exact ⟨x79, _, rfl, O83, (GM.le.trans s14 (GM.le.trans s28 (GM.le.trans s42 (GM.le.trans s56 (GM.le.trans s70 s84))))), rfl⟩
      ·have h90 := neg_b g76 h67
       refine W.skip (gk rfl rfl gv77 rfl) rfl ?_
       refine W.skip (gk rfl rfl gv77 rfl) rfl ?_
       refine W.skip (gk rfl rfl gv77 rfl) rfl ?_
       refine W.pure (v := (.bool false)) rfl rfl (v_pickF (oo rfl gv77) (oo rfl rfl)) ?_
       refine .nil ?_
       obtain rfl := Option.some.inj h90
       exact ⟨false, _, rfl, O69, (GM.le.trans s14 (GM.le.trans s28 (GM.le.trans s42 (GM.le.trans s56 s70)))), rfl⟩
     ·have h91 := neg_b g62 h53
      refine W.skip (gk rfl rfl gv63 rfl) rfl ?_
      refine W.skip (gk rfl rfl gv63 rfl) rfl ?_
      refine W.skip (gk rfl rfl gv63 rfl) rfl ?_
      refine W.skip (gk rfl rfl gv63 rfl) rfl ?_
      refine W.skip (gk rfl rfl gv63 rfl) rfl ?_
      refine W.pure (v := (.bool false)) rfl rfl (v_pickF (oo rfl gv63) (oo rfl rfl)) ?_
      refine W.pure (v := (.bool false)) rfl rfl (v_move (oo rfl rfl)) ?_
      refine W.skip (gk rfl rfl rfl rfl) rfl ?_
      refine W.skip (gk rfl rfl rfl rfl) rfl ?_
      refine W.skip (gk rfl rfl rfl rfl) rfl ?_
      refine W.pure (v := (.bool false)) rfl rfl (v_pickF (oo rfl rfl) (oo rfl rfl)) ?_
      refine .nil ?_
      obtain rfl := Option.some.inj h91
      exact ⟨false, _, rfl, O55, (GM.le.trans s14 (GM.le.trans s28 (GM.le.trans s42 s56))), rfl⟩
    ·have h92 := neg_b g48 h39
     refine W.skip (gk rfl rfl gv49 rfl) rfl ?_
     refine W.skip (gk rfl rfl gv49 rfl) rfl ?_
     refine W.skip (gk rfl rfl gv49 rfl) rfl ?_
     refine W.pure (v := (.bool false)) rfl rfl (v_pickF (oo rfl gv49) (oo rfl rfl)) ?_
     refine W.pure (v := (.bool false)) rfl rfl (v_move (oo rfl rfl)) ?_
     refine W.skip (gk rfl rfl rfl rfl) rfl ?_
     refine W.skip (gk rfl rfl rfl rfl) rfl ?_
     refine W.skip (gk rfl rfl rfl rfl) rfl ?_
     refine W.skip (gk rfl rfl rfl rfl) rfl ?_
     refine W.skip (gk rfl rfl rfl rfl) rfl ?_
     refine W.pure (v := (.bool false)) rfl rfl (v_pickF (oo rfl rfl) (oo rfl rfl)) ?_
     refine W.pure (v := (.bool false)) rfl rfl (v_move (oo rfl rfl)) ?_
     refine W.skip (gk rfl rfl rfl rfl) rfl ?_
     refine W.skip (gk rfl rfl rfl rfl) rfl ?_
     refine W.skip (gk rfl rfl rfl rfl) rfl ?_
     refine W.pure (v := (.bool false)) rfl rfl (v_pickF (oo rfl rfl) (oo rfl rfl)) ?_
     refine .nil ?_
     obtain rfl := Option.some.inj h92
     exact ⟨false, _, rfl, O41, (GM.le.trans s14 (GM.le.trans s28 s42)), rfl⟩
   ·have h93 := neg_b g34 h25
    refine W.skip (gk rfl rfl gv35 rfl) rfl ?_
    refine W.skip (gk rfl rfl gv35 rfl) rfl ?_
    refine W.skip (gk rfl rfl gv35 rfl) rfl ?_
    refine W.pure (v := (.bool false)) rfl rfl (v_pickF (oo rfl gv35) (oo rfl rfl)) ?_
    refine W.pure (v := (.bool false)) rfl rfl (v_move (oo rfl rfl)) ?_
    refine W.skip (gk rfl rfl rfl rfl) rfl ?_
    refine W.skip (gk rfl rfl rfl rfl) rfl ?_
    refine W.skip (gk rfl rfl rfl rfl) rfl ?_
    refine W.pure (v := (.bool false)) rfl rfl (v_pickF (oo rfl rfl) (oo rfl rfl)) ?_
    refine W.pure (v := (.bool false)) rfl rfl (v_move (oo rfl rfl)) ?_
    refine W.skip (gk rfl rfl rfl rfl) rfl ?_
    refine W.skip (gk rfl rfl rfl rfl) rfl ?_
    refine W.skip (gk rfl rfl rfl rfl) rfl ?_
    refine W.skip (gk rfl rfl rfl rfl) rfl ?_
    refine W.skip (gk rfl rfl rfl rfl) rfl ?_
    refine W.pure (v := (.bool false)) rfl rfl (v_pickF (oo rfl rfl) (oo rfl rfl)) ?_
    refine W.pure (v := (.bool false)) rfl rfl (v_move (oo rfl rfl)) ?_
    refine W.skip (gk rfl rfl rfl rfl) rfl ?_
    refine W.skip (gk rfl rfl rfl rfl) rfl ?_
    refine W.skip (gk rfl rfl rfl rfl) rfl ?_
    refine W.pure (v := (.bool false)) rfl rfl (v_pickF (oo rfl rfl) (oo rfl rfl)) ?_
    refine .nil ?_
    obtain rfl := Option.some.inj h93
    exact ⟨false, _, rfl, O27, (GM.le.trans s14 s28), rfl⟩
  ·have h94 := neg_b g20 h11
   refine W.skip (gk rfl rfl gv21 rfl) rfl ?_
   refine W.skip (gk rfl rfl gv21 rfl) rfl ?_
   refine W.skip (gk rfl rfl gv21 rfl) rfl ?_
   refine W.pure (v := (.bool false)) rfl rfl (v_pickF (oo rfl gv21) (oo rfl rfl)) ?_
   refine W.pure (v := (.bool false)) rfl rfl (v_move (oo rfl rfl)) ?_
   refine W.skip (gk rfl rfl rfl rfl) rfl ?_
   refine W.skip (gk rfl rfl rfl rfl) rfl ?_
   refine W.skip (gk rfl rfl rfl rfl) rfl ?_
   refine W.pure (v := (.bool false)) rfl rfl (v_pickF (oo rfl rfl) (oo rfl rfl)) ?_
   refine W.pure (v := (.bool false)) rfl rfl (v_move (oo rfl rfl)) ?_
   refine W.skip (gk rfl rfl rfl rfl) rfl ?_
   refine W.skip (gk rfl rfl rfl rfl) rfl ?_
   refine W.skip (gk rfl rfl rfl rfl) rfl ?_
   refine W.pure (v := (.bool false)) rfl rfl (v_pickF (oo rfl rfl) (oo rfl rfl)) ?_
   refine W.pure (v := (.bool false)) rfl rfl (v_move (oo rfl rfl)) ?_
   refine W.skip (gk rfl rfl rfl rfl) rfl ?_
   refine W.skip (gk rfl rfl rfl rfl) rfl ?_
   refine W.skip (gk rfl rfl rfl rfl) rfl ?_
   refine W.skip (gk rfl rfl rfl rfl) rfl ?_
   refine W.skip (gk rfl rfl rfl rfl) rfl ?_
   refine W.pure (v := (.bool false)) rfl rfl (v_pickF (oo rfl rfl) (oo rfl rfl)) ?_
   refine W.pure (v := (.bool false)) rfl rfl (v_move (oo rfl rfl)) ?_
   refine W.skip (gk rfl rfl rfl rfl) rfl ?_
   refine W.skip (gk rfl rfl rfl rfl) rfl ?_
   refine W.skip (gk rfl rfl rfl rfl) rfl ?_
   refine W.pure (v := (.bool false)) rfl rfl (v_pickF (oo rfl rfl) (oo rfl rfl)) ?_
   refine .nil ?_
   obtain rfl := Option.some.inj h94
   exact ⟨false, _, rfl, O13, s14, rfl⟩
 ·rintro σ96 H97 fr98 ⟨x95, G99, rfl, O100, s101, t103⟩
  have h104 := tu1_inv h8
  refine .cond (b := x95) rfl t103 (fun g105 => ?_) (fun g105 => ?_)
  ·have h106 := pos_inv g105 h104
   refine .seq ?_
   refine .region ?_
   refine W.pure (v := (.int .i64 0)) rfl rfl (v_assign (oo rfl rfl)) ?_
   refine .nil ?_
   refine .ret ?_
   have O107 : Ow G99 H97 (L) := O100.drop 0
   obtain rfl := Option.some.inj h106
   refine ret1R (P := Try.prog) (fn := Try.f27) (n := 33) (R := fun v H' => ∃ G', Ow G' H' (L) ∧ G.le G' ∧ v = .int .i64 0) (v1 := (.int .i64 0)) (by rfl) (rr_tmp (by rfl) (by exact rfl)) ?_
   exact ⟨_, O107, s101, rfl⟩
  ·have h108 := neg_b g105 h104
   refine .skip ?_
   refine .seq ?_
   refine .region ?_
   refine W.pure (v := (.int .i64 4)) rfl rfl (v_assign (oo rfl rfl)) ?_
   refine .nil ?_
   refine .ret ?_
   have O109 : Ow G99 H97 (L) := O100.drop 0
   obtain rfl := Option.some.inj h108
   refine ret1R (P := Try.prog) (fn := Try.f27) (n := 33) (R := fun v H' => ∃ G', Ow G' H' (L) ∧ G.le G' ∧ v = .int .i64 4) (v1 := (.int .i64 4)) (by rfl) (rr_tmp (by rfl) (by exact rfl)) ?_
   exact ⟨_, O109, s101, rfl⟩
structure Item where
 name : ByteArray
 nodes : List ByteArray
 apart : Bool
 bad : Bool
 deriving DecidableEq, Inhabited
def T_Item : RT Item := rIso (rP rS (rP (rSl rS) (rP rB rB))) (fun s : Item => (s.name, s.nodes, s.apart, s.bad))
theorem z_Item (G : GM) : T_Item.rep G ([.string ByteArray.empty] ++ ([.slice none 0 0] ++ ([.bool false] ++ [.bool false]))) ((Item.mk ByteArray.empty ([] : List ByteArray) false false)) := ⟨_, _, rfl, zS G, ⟨_, _, rfl, zL G, ⟨_, _, rfl, zB G, (zB G)⟩⟩⟩
theorem p_Item_name : Proj T_Item 0 rS (fun x => x.name) := by
 have h := (Proj.iso (rP rS (rP (rSl rS) (rP rB rB))) (fun s : Item => (s.name, s.nodes, s.apart, s.bad))).comp (Proj.fst _ _)
 exact h
theorem u_Item_name : Put T_Item 0 rS (fun x y => { x with name := y }) := by
 have h := Put.comp (Proj.iso (rP rS (rP (rSl rS) (rP rB rB))) (fun s : Item => (s.name, s.nodes, s.apart, s.bad))) (Put.iso (rP rS (rP (rSl rS) (rP rB rB))) (fun s : Item => (s.name, s.nodes, s.apart, s.bad)) (fun _ q => ⟨q.1, q.2.1, q.2.2.1, q.2.2.2⟩) (fun _ _ => rfl)) (Put.fst _ _)
 exact h
theorem p_Item_nodes : Proj T_Item 1 (rSl rS) (fun x => x.nodes) := by
 have h := (Proj.iso (rP rS (rP (rSl rS) (rP rB rB))) (fun s : Item => (s.name, s.nodes, s.apart, s.bad))).comp ((Proj.snd _ _).comp (Proj.fst _ _))
 exact h
theorem u_Item_nodes : Put T_Item 1 (rSl rS) (fun x y => { x with nodes := y }) := by
 have h := Put.comp (Proj.iso (rP rS (rP (rSl rS) (rP rB rB))) (fun s : Item => (s.name, s.nodes, s.apart, s.bad))) (Put.iso (rP rS (rP (rSl rS) (rP rB rB))) (fun s : Item => (s.name, s.nodes, s.apart, s.bad)) (fun _ q => ⟨q.1, q.2.1, q.2.2.1, q.2.2.2⟩) (fun _ _ => rfl)) (Put.comp (Proj.snd _ _) (Put.snd _ _) (Put.fst _ _))
 exact h
theorem p_Item_apart : Proj T_Item 2 rB (fun x => x.apart) := by
 have h := (Proj.iso (rP rS (rP (rSl rS) (rP rB rB))) (fun s : Item => (s.name, s.nodes, s.apart, s.bad))).comp ((Proj.snd _ _).comp ((Proj.snd _ _).comp (Proj.fst _ _)))
 exact h
theorem u_Item_apart : Put T_Item 2 rB (fun x y => { x with apart := y }) := by
 have h := Put.comp (Proj.iso (rP rS (rP (rSl rS) (rP rB rB))) (fun s : Item => (s.name, s.nodes, s.apart, s.bad))) (Put.iso (rP rS (rP (rSl rS) (rP rB rB))) (fun s : Item => (s.name, s.nodes, s.apart, s.bad)) (fun _ q => ⟨q.1, q.2.1, q.2.2.1, q.2.2.2⟩) (fun _ _ => rfl)) (Put.comp (Proj.snd _ _) (Put.snd _ _) (Put.comp (Proj.snd _ _) (Put.snd _ _) (Put.fst _ _)))
 exact h
theorem p_Item_bad : Proj T_Item 3 rB (fun x => x.bad) := by
 have h := (Proj.iso (rP rS (rP (rSl rS) (rP rB rB))) (fun s : Item => (s.name, s.nodes, s.apart, s.bad))).comp ((Proj.snd _ _).comp ((Proj.snd _ _).comp ((Proj.snd _ _).comp (Proj.self _))))
 exact h
theorem u_Item_bad : Put T_Item 3 rB (fun x y => { x with bad := y }) := by
 have h := Put.comp (Proj.iso (rP rS (rP (rSl rS) (rP rB rB))) (fun s : Item => (s.name, s.nodes, s.apart, s.bad))) (Put.iso (rP rS (rP (rSl rS) (rP rB rB))) (fun s : Item => (s.name, s.nodes, s.apart, s.bad)) (fun _ q => ⟨q.1, q.2.1, q.2.2.1, q.2.2.2⟩) (fun _ _ => rfl)) (Put.comp (Proj.snd _ _) (Put.snd _ _) (Put.comp (Proj.snd _ _) (Put.snd _ _) (Put.comp (Proj.snd _ _) (Put.snd _ _) (Put.self _))))
 exact h
theorem bd_Item_0_1_2_3 {G : GM} (v0 : Value) {x0 : ByteArray} (v1 : Value) {x1 : List ByteArray} (v2 : Value) {x2 : Bool} (v3 : Value) {x3 : Bool} (h0 : rS.rep G v0.cells.toList x0) (h1 : (rSl rS).rep G v1.cells.toList x1) (h2 : rB.rep G v2.cells.toList x2) (h3 : rB.rep G v3.cells.toList x3) : ∃ cs : List Value, (∀ {s : List Value} {d : Tmp} {ty : TypeId} {pos : String} {af : Array Edge} {g : Option (Nat × Bool)} {ps : Array (Nat × Operand)}, opndP s ps.toList = some [(0, v0), (1, v1), (2, v2), (3, v3)] → apure Try.prog s ⟨some d, .build 114 ps, ty, pos, af, g⟩ = some (.agg (List.toArray cs))) ∧ T_Item.rep G cs (Item.mk x0 x1 x2 x3) := by
 have k0 := (u_Item_name G _ _ _ _ (z_Item G) h0).1
 have k1 := (u_Item_nodes G _ _ _ _ (k0) h1).1
 have k2 := (u_Item_apart G _ _ _ _ (k1) h2).1
 have k3 := (u_Item_bad G _ _ _ _ (k2) h3).1
 refine ⟨_, fun {s d ty pos af g ps} hps => v_buildS pl114 ze114 zo114 hps ?_, k3⟩
 refine (fill_cons' (off := 0) (sz := 1) (cs := _) rfl (RT.len _ h0) (Nat.le_trans (Nat.le_of_ble_eq_true (m := 4) rfl) (Nat.le_of_eq (RT.len _ (z_Item G)).symm))).trans ?_
 refine (fill_cons' (off := 1) (sz := 1) (cs := _) rfl (RT.len _ h1) (Nat.le_trans (Nat.le_of_ble_eq_true (m := 4) rfl) (Nat.le_of_eq (RT.len _ (k0)).symm))).trans ?_
 refine (fill_cons' (off := 2) (sz := 1) (cs := _) rfl (RT.len _ h2) (Nat.le_trans (Nat.le_of_ble_eq_true (m := 4) rfl) (Nat.le_of_eq (RT.len _ (k1)).symm))).trans ?_
 refine (fill_cons' (off := 3) (sz := 1) (cs := _) rfl (RT.len _ h3) (Nat.le_trans (Nat.le_of_ble_eq_true (m := 4) rfl) (Nat.le_of_eq (RT.len _ (k2)).symm))).trans ?_
 rfl
def g_R_items_l0 (K : Nat) (p0 : Network) : Nat → List Item → Int → Option (List Item)
 | 0, _, _ => none
 | k + 1, x14, x15 => (if (decide (x15 < (List.length p0.Switches : Int))) = true then ((idx p0.Switches x15).bind fun x26 => (if List.length x14 + List.length [(Item.mk x26.Name [x26.A, x26.B] true false)] ≤ 16777216 then g_R_items_l0 K p0 k (x14 ++ [(Item.mk x26.Name [x26.A, x26.B] true false)]) (kwrap .i64 (x15 + 1)) else none)) else some x14)
def g_R_items_l2 (K : Nat) (p0 : Network) : Nat → List Item → Int → Option (List Item)
 | 0, _, _ => none
 | k + 1, x87, x88 => (if (decide (x88 < (List.length p0.Branches : Int))) = true then ((idx p0.Branches x88).bind fun x99 => ((g_R_BranchError K x99).bind fun x129 => (if List.length x87 + List.length [(Item.mk x99.Name [x99.From, x99.To] true (x129 != 0))] ≤ 16777216 then g_R_items_l2 K p0 k (x87 ++ [(Item.mk x99.Name [x99.From, x99.To] true (x129 != 0))]) (kwrap .i64 (x88 + 1)) else none))) else some x87)
def g_R_items_l4 (K : Nat) (p0 : Network) : Nat → List Item → Int → Option (List Item)
 | 0, _, _ => none
 | k + 1, x179, x180 => (if (decide (x180 < (List.length p0.Gens : Int))) = true then (Option.bind (((idx p0.Gens x180).bind fun x194 => ((g_R_in K x194.Least 0 100000).bind fun x221 => (if (!x221) = true then (if List.length x179 + List.length [(Item.mk x194.Name [x194.Node] false true)] ≤ 16777216 then some (x179 ++ [(Item.mk x194.Name [x194.Node] false true)]) else none) else ((g_R_in K x194.Most x194.Least 100000).bind fun x258 => (if (!x258) = true then (if List.length x179 + List.length [(Item.mk x194.Name [x194.Node] false true)] ≤ 16777216 then some (x179 ++ [(Item.mk x194.Name [x194.Node] false true)]) else none) else ((g_R_in K x194.Ramp 0 100000).bind fun x295 => (if List.length x179 + List.length [(Item.mk x194.Name [x194.Node] false (!x295))] ≤ 16777216 then some (x179 ++ [(Item.mk x194.Name [x194.Node] false (!x295))]) else none)))))))) (tu1 fun x328 => g_R_items_l4 K p0 k x328 (kwrap .i64 (x180 + 1)))) else some x179)
def g_R_items_l6 (K : Nat) (p0 : Network) : Nat → List Item → Int → Option (List Item)
 | 0, _, _ => none
 | k + 1, x354, x355 => (if (decide (x355 < (List.length p0.Loads : Int))) = true then ((idx p0.Loads x355).bind fun x366 => ((g_R_in K x366.Demand 0 100000).bind fun x393 => (if List.length x354 + List.length [(Item.mk x366.Name [x366.Node] false (!x393))] ≤ 16777216 then g_R_items_l6 K p0 k (x354 ++ [(Item.mk x366.Name [x366.Node] false (!x393))]) (kwrap .i64 (x355 + 1)) else none))) else some x354)
def g_R_items_l8 (K : Nat) (p0 : Network) : Nat → List Item → Int → Option (List Item)
 | 0, _, _ => none
 | k + 1, x443, x444 => (if (decide (x444 < (List.length p0.Stores : Int))) = true then (Option.bind (((idx p0.Stores x444).bind fun x458 => ((g_R_in K x458.Charge 0 100000).bind fun x485 => (if (!x485) = true then (if List.length x443 + List.length [(Item.mk x458.Name [x458.Node] false true)] ≤ 16777216 then some (x443 ++ [(Item.mk x458.Name [x458.Node] false true)]) else none) else ((g_R_in K x458.Discharge 0 100000).bind fun x522 => (if (!x522) = true then (if List.length x443 + List.length [(Item.mk x458.Name [x458.Node] false true)] ≤ 16777216 then some (x443 ++ [(Item.mk x458.Name [x458.Node] false true)]) else none) else ((g_R_in K x458.Capacity 0 100000).bind fun x559 => (if List.length x443 + List.length [(Item.mk x458.Name [x458.Node] false (!x559))] ≤ 16777216 then some (x443 ++ [(Item.mk x458.Name [x458.Node] false (!x559))]) else none)))))))) (tu1 fun x592 => g_R_items_l8 K p0 k x592 (kwrap .i64 (x444 + 1)))) else some x443)
def g_R_items (K : Nat) (p0 : Network) : Option (List Item) := (Option.bind (g_R_items_l0 K p0 K [] 0) (tu1 fun x71 => (Option.bind (g_R_items_l2 K p0 K x71 0) (tu1 fun x163 => (Option.bind (g_R_items_l4 K p0 K x163 0) (tu1 fun x338 => (Option.bind (g_R_items_l6 K p0 K x338 0) (tu1 fun x427 => (Option.bind (g_R_items_l8 K p0 K x427 0) (tu1 fun x602 => some x602))))))))))
set_option maxHeartbeats 4000000 in
theorem g_R_items_ok (K : Nat) {G : GM} {H : AH} {L : List Pc} (v0 : List Value) (p0 : Network) (hp0 : T_Network.rep G v0 p0) (O : Ow G H (L)) (r : List Item) (h : g_R_items K p0 = some r) :
  CRF Try.prog 71 [.agg (List.toArray v0)] G H (fun w0 => (eSl w0 114 T_Item r :: L)) (fun w0 v G' => w0 = v) := by
 unfold g_R_items at h
 refine CRF.of (calls_of_AW (n := 145) (fn := Try.f71) (R := fun v H' => ∃ w0 G', Ow G' H' (eSl w0 114 T_Item r :: L) ∧ G.le G' ∧ w0 = v) (by kernel_rfl) rfl rfl ?_)
 refine .seq ?_
 refine .region ?_
 refine W.lo rfl rfl (Lo.box (r := T_Network) (x0 := p0) (v := (.agg (List.toArray v0))) rfl rfl hp0 O) ?_
 rintro v4 H5 ⟨b2, rfl, O1, sm3⟩
 refine W.pure (v := (.slice none 0 0)) rfl rfl (v_assign (oo rfl rfl)) ?_
 refine .nil ?_
 refine .seq ?_
 refine .region ?_
 refine W.pure (v := (.slice none 0 0)) rfl rfl (v_assign (oo rfl rfl)) ?_
 refine .nil ?_
 refine .seq ?_
 refine .seq ?_
 refine .region ?_
 refine W.pure (v := (padd (.pointer (some ⟨b2, 0, none⟩)) 1)) rfl rfl (v_fldA fl48_1 (oo rfl rfl) (O1.atVar (j := 0) rfl)) ?_
 obtain ⟨w6, p7, f8⟩ := At.sl (At.proj (O1.atVar (j := 0) rfl) p_Network_Switches)
 refine W.load1 (v := w6) (r := []) rfl rfl ag42 (pt_px rfl p7) ?_
 refine W.pure (v := (.int .i64 (List.length p0.Switches : Int))) rfl rfl (len_sl (oo rfl rfl) (sl_len f8) (elemT_inv el42)) ?_
 refine W.pure (v := (.int .i64 0)) rfl rfl (v_move (oo rfl rfl)) ?_
 refine .nil ?_
 obtain ⟨q9, h10, h11⟩ := bd_inv h
 refine AW.midT (fun σ' H' => ∃ (y1 : List Item) (G' : GM), y1 = q9 ∧ Ow G' H' (eVar b2 48 T_Network p0 :: eSl (σ' 3) 114 T_Item y1 :: L) ∧ GM.le G G') ?_ ?_
 ·refine .block ?_
  have O12 := O1.nilSl 114 T_Item
  refine AW.loop (α := Nat) (fun k' σ' H' => ∃ (y1 : List Item) (y2 : Int) (G' : GM), g_R_items_l0 K p0 k' y1 y2 = some q9 ∧ Ow G' H' (eSl (σ' 3) 114 T_Item y1 :: eVar b2 48 T_Network p0 :: L) ∧ GM.le G G' ∧ σ' 17 = .int .i64 y2) (fun k' => k') K ⟨[], 0, _, h10, O12, (GM.le.refl _), rfl⟩ ?_
  rintro k13
  rintro σ16 H17 fr18 ⟨x14, x15, G19, h22, O20, s21, t23⟩
  rcases k13 with _ | k13
  ·exact none_absurd h22
  rw [g_R_items_l0] at h22
  refine .seq ?_
  refine .region ?_
  refine W.pure (v := (.bool (decide (x15 < (List.length p0.Switches : Int))))) rfl rfl (v_int (oo rfl t23) (oo rfl ((fr18 16 rfl).trans rfl)) rfl) ?_
  refine .nil ?_
  refine .seq ?_
  refine .cond (b := decide (x15 < (List.length p0.Switches : Int))) rfl rfl (fun g24 => ?_) (fun g24 => ?_)
  ·have h25 := pos_inv g24 h22
   refine .skip ?_
   refine .seq ?_
   refine .block ?_
   refine .seq ?_
   refine .region ?_
   obtain ⟨x26, i27, h28⟩ := bd_inv h25
   have j29 := idx_inv i27
   refine W.pure (v := (selem w6 (Int.toNat x15 * 5))) rfl rfl (v_idx el42 sz81 (oo rfl ((fr18 15 rfl).trans rfl)) (oo rfl t23) (sl_len (RT.mono _ s21 f8)) j29.1 j29.2.1) ?_
   obtain ⟨c30, p31, f32⟩ := (At.le (At.le (sl_idx f8 j29.2.2) s21 s21) (GM.le.refl _) O20.fro)
   refine W.loadA (cs := c30) rfl rfl ag81 sz81 (pt_px rfl p31) (RT.len _ f32) ?_
   refine W.lo rfl rfl (Lo.alloc (r := T_Switch) (x0 := (Switch.mk ByteArray.empty ByteArray.empty ByteArray.empty false false)) ze81 (by kernel_rfl) z_Switch O20) ?_
   rintro v36 H37 ⟨b34, rfl, O33, sm35⟩
   refine W.lo rfl rfl (Lo.storeVar (j := 0) (s := T_Switch) (y0 := x26) (v := (.agg (List.toArray c30))) (o := 0) rfl ((Put.at (Put.self _) _ _)) rfl sz81 rfl (by omega) rfl f32 O33) ?_
   rintro v40 H41 ⟨O38, sm39⟩
   replace O38 : Ow G19 H41 (eVar b34 81 T_Switch x26 :: eSl (σ16 3) 114 T_Item x14 :: eVar b2 48 T_Network p0 :: L) := O38
   refine .nil ?_
   refine .region ?_
   refine W.pure (v := (σ16 3)) rfl rfl (v_move (oo rfl rfl)) ?_
   refine W.pure (v := (padd (.pointer (some ⟨b34, 0, none⟩)) 0)) rfl rfl (v_fldA fl81_0 (oo rfl rfl) (O38.atVar (j := 0) rfl)) ?_
   refine W.load1 (v := (.string x26.Name)) (r := []) rfl rfl ag9 (pt_px rfl (At.str (At.proj (O38.atVar (j := 0) rfl) p_Switch_Name))) ?_
   refine W.pure (v := (padd (.pointer (some ⟨b34, 0, none⟩)) 1)) rfl rfl (v_fldA fl81_1 (oo rfl rfl) (O38.atVar (j := 0) rfl)) ?_
   refine W.load1 (v := (.string x26.A)) (r := []) rfl rfl ag9 (pt_px rfl (At.str (At.proj (O38.atVar (j := 0) rfl) p_Switch_A))) ?_
   refine W.pure (v := (padd (.pointer (some ⟨b34, 0, none⟩)) 2)) rfl rfl (v_fldA fl81_2 (oo rfl rfl) (O38.atVar (j := 0) rfl)) ?_
   refine W.load1 (v := (.string x26.B)) (r := []) rfl rfl ag9 (pt_px rfl (At.str (At.proj (O38.atVar (j := 0) rfl) p_Switch_B))) ?_
   refine W.lo rfl rfl (Lo.buildSlice (r := rS) (vs := [(.string x26.A), (.string x26.B)]) (xs := [x26.A, x26.B]) el41 ze9 sz9 (by kernel_rfl) rfl (qc rfl (qc rfl qn)) rfl (.cons rfl (.cons rfl .nil)) O38) ?_
   rintro v44 H45 ⟨O42, sm43⟩
   obtain ⟨G46, O47, s48, f49⟩ := O42.frzSl (j := 0) rfl
   replace O47 : Ow G46 H45 (eVar b34 81 T_Switch x26 :: eSl (σ16 3) 114 T_Item x14 :: eVar b2 48 T_Network p0 :: L) := O47
   obtain ⟨c50, e52, f51⟩ := bd_Item_0_1_2_3 ((.string x26.Name)) (v44) ((.bool true)) ((.bool false)) (rfl) ((sl_cells f49)) (rfl) (rfl)
   refine W.pure (v := .agg (List.toArray c50)) rfl rfl (e52 (opndP_oo rfl (qc' rfl (qc' rfl (qc' rfl (qc' rfl qn')))))) ?_
   refine W.lo rfl rfl (Lo.buildSlice (r := T_Item) (vs := [(.agg (List.toArray c50))]) (xs := [(Item.mk x26.Name [x26.A, x26.B] true false)]) el111 ze114 sz114 (by kernel_rfl) rfl (qc rfl qn) rfl (.cons f51 .nil) O47) ?_
   rintro v55 H56 ⟨O53, sm54⟩
   obtain ⟨es58, e59, e60⟩ := src_own (j := 0) rfl O53
   obtain ⟨g61, h62⟩ := gd_inv h28
   refine W.lo rfl rfl (Lo.append (j := 2) (v := (σ16 3)) rfl rfl el111 ni111 ze114 sz114 by114 (by decide) (by decide) rfl e59 e60 g61 O53) ?_
   rintro v64 H65 ⟨O57, sm63⟩
   replace O57 : Ow G46 H65 (eSl v55 114 T_Item [(Item.mk x26.Name [x26.A, x26.B] true false)] :: eVar b34 81 T_Switch x26 :: eSl v64 114 T_Item (x14 ++ [(Item.mk x26.Name [x26.A, x26.B] true false)]) :: eVar b2 48 T_Network p0 :: L) := O57
   refine W.pure (v := v64) rfl rfl (v_assign (oo rfl rfl)) ?_
   refine .nil ?_
   refine .region ?_
   refine W.pure (v := (.int .i64 (kwrap .i64 (x15 + 1)))) rfl rfl (v_int (oo rfl t23) (oo rfl rfl) rfl) ?_
   refine W.pure (v := (.int .i64 (kwrap .i64 (x15 + 1)))) rfl rfl (v_move (oo rfl rfl)) ?_
   refine .nil ?_
   have O66 : Ow G46 H65 (eVar b34 81 T_Switch x26 :: eSl v64 114 T_Item (x14 ++ [(Item.mk x26.Name [x26.A, x26.B] true false)]) :: eVar b2 48 T_Network p0 :: L) := O57.drop 0
   have O67 : Ow G46 H65 (eSl v64 114 T_Item (x14 ++ [(Item.mk x26.Name [x26.A, x26.B] true false)]) :: eVar b2 48 T_Network p0 :: L) := O66.drop 0
   exact ⟨k13, Nat.lt_succ_self _, ⟨(x14 ++ [(Item.mk x26.Name [x26.A, x26.B] true false)]), kwrap .i64 (x15 + 1), _, h62, O67, (GM.le.trans s21 s48), rfl⟩⟩
  ·have h68 := neg_b g24 h22
   refine .exit ?_
   have O69 : Ow G19 H17 (eSl (σ16 3) 114 T_Item x14 :: eVar b2 48 T_Network p0 :: L) := O20.front (j := 0) rfl
   have O70 : Ow G19 H17 (eVar b2 48 T_Network p0 :: eSl (σ16 3) 114 T_Item x14 :: L) := O69.front (j := 1) rfl
   obtain rfl := Option.some.inj h68
   exact ⟨x14, _, rfl, O70, s21⟩
 ·rintro σ72 H73 fr74 ⟨x71, G75, rfl, O76, s77⟩
  have h79 := tu1_inv h11
  refine .seq ?_
  refine .seq ?_
  refine .region ?_
  refine W.pure (v := (padd (.pointer (some ⟨b2, 0, none⟩)) 2)) rfl rfl (v_fldA fl48_2 (oo rfl ((fr74 1 rfl).trans rfl)) (O76.atVar (j := 0) rfl)) ?_
  obtain ⟨w80, p81, f82⟩ := At.sl (At.proj (O76.atVar (j := 0) rfl) p_Network_Branches)
  refine W.load1 (v := w80) (r := []) rfl rfl ag43 (pt_px rfl p81) ?_
  refine W.pure (v := (.int .i64 (List.length p0.Branches : Int))) rfl rfl (len_sl (oo rfl rfl) (sl_len f82) (elemT_inv el43)) ?_
  refine W.pure (v := (.int .i64 0)) rfl rfl (v_move (oo rfl rfl)) ?_
  refine .nil ?_
  obtain ⟨q83, h84, h85⟩ := bd_inv h79
  refine AW.midT (fun σ' H' => ∃ (y1 : List Item) (G' : GM), y1 = q83 ∧ Ow G' H' (eVar b2 48 T_Network p0 :: eSl (σ' 3) 114 T_Item y1 :: L) ∧ GM.le G75 G') ?_ ?_
  ·refine .block ?_
   refine AW.loop (α := Nat) (fun k' σ' H' => ∃ (y1 : List Item) (y2 : Int) (G' : GM), g_R_items_l2 K p0 k' y1 y2 = some q83 ∧ Ow G' H' (eVar b2 48 T_Network p0 :: eSl (σ' 3) 114 T_Item y1 :: L) ∧ GM.le G75 G' ∧ σ' 36 = .int .i64 y2) (fun k' => k') K ⟨x71, 0, _, h84, O76, (GM.le.refl _), rfl⟩ ?_
   rintro k86
   rintro σ89 H90 fr91 ⟨x87, x88, G92, h95, O93, s94, t96⟩
   rcases k86 with _ | k86
   ·exact none_absurd h95
   rw [g_R_items_l2] at h95
   refine .seq ?_
   refine .region ?_
   refine W.pure (v := (.bool (decide (x88 < (List.length p0.Branches : Int))))) rfl rfl (v_int (oo rfl t96) (oo rfl ((fr91 35 rfl).trans rfl)) rfl) ?_
   refine .nil ?_
   refine .seq ?_
   refine .cond (b := decide (x88 < (List.length p0.Branches : Int))) rfl rfl (fun g97 => ?_) (fun g97 => ?_)
   ·have h98 := pos_inv g97 h95
    refine .skip ?_
    refine .seq ?_
    refine .block ?_
    refine .seq ?_
    refine .region ?_
    obtain ⟨x99, i100, h101⟩ := bd_inv h98
    have j102 := idx_inv i100
    refine W.pure (v := (selem w80 (Int.toNat x88 * 9))) rfl rfl (v_idx el43 sz50 (oo rfl ((fr91 34 rfl).trans rfl)) (oo rfl t96) (sl_len (RT.mono _ s94 f82)) j102.1 j102.2.1) ?_
    obtain ⟨c103, p104, f105⟩ := (At.le (At.le (sl_idx f82 j102.2.2) s94 s94) (GM.le.refl _) O93.fro)
    refine W.loadA (cs := c103) rfl rfl ag50 sz50 (pt_px rfl p104) (RT.len _ f105) ?_
    refine W.lo rfl rfl (Lo.alloc (r := T_Branch) (x0 := (Branch.mk ByteArray.empty ByteArray.empty ByteArray.empty 0 0 0 0 0 0)) ze50 (by kernel_rfl) z_Branch O93) ?_
    rintro v109 H110 ⟨b107, rfl, O106, sm108⟩
    refine W.lo rfl rfl (Lo.storeVar (j := 0) (s := T_Branch) (y0 := x99) (v := (.agg (List.toArray c103))) (o := 0) rfl ((Put.at (Put.self _) _ _)) rfl sz50 rfl (by omega) rfl f105 O106) ?_
    rintro v113 H114 ⟨O111, sm112⟩
    replace O111 : Ow G92 H114 (eVar b107 50 T_Branch x99 :: eVar b2 48 T_Network p0 :: eSl (σ89 3) 114 T_Item x87 :: L) := O111
    refine .nil ?_
    refine .draw2 (M := [0, 0, 2, 0, 8, 0, 32, 120, 0, 256, 768, 2046, 4094, 8191, 16383]) mixed (by kernel_rfl) (by kernel_rfl) fun H115 N119 x116 F118 => ?_
    have O117 := O111.ext x116
    refine D2.pure (v := (σ89 3)) rfl rfl (v_move (oo rfl rfl)) ?_
    refine D2.pure (v := (padd (.pointer (some ⟨b107, 0, none⟩)) 0)) rfl rfl (v_fldA fl50_0 (oo rfl rfl) (O117.atVar (j := 0) rfl)) ?_
    refine D2.load1' (v := (.string x99.Name)) (r := []) rfl rfl ag9 (pt_px rfl (At.str (At.proj (O117.atVar (j := 0) rfl) p_Branch_Name))) fa_nil ?_
    refine D2.pure (v := (padd (.pointer (some ⟨b107, 0, none⟩)) 1)) rfl rfl (v_fldA fl50_1 (oo rfl rfl) (O117.atVar (j := 0) rfl)) ?_
    refine D2.load1' (v := (.string x99.From)) (r := []) rfl rfl ag9 (pt_px rfl (At.str (At.proj (O117.atVar (j := 0) rfl) p_Branch_From))) fa_nil ?_
    refine D2.pure (v := (padd (.pointer (some ⟨b107, 0, none⟩)) 2)) rfl rfl (v_fldA fl50_2 (oo rfl rfl) (O117.atVar (j := 0) rfl)) ?_
    refine D2.load1' (v := (.string x99.To)) (r := []) rfl rfl ag9 (pt_px rfl (At.str (At.proj (O117.atVar (j := 0) rfl) p_Branch_To))) fa_nil ?_
    refine D2.alloc (m := 15) rfl rfl (Al.buildSlice (r := rS) (vs := [(.string x99.From), (.string x99.To)]) (xs := [x99.From, x99.To]) el41 ze9 sz9 (by kernel_rfl) rfl (qc rfl (qc rfl qn)) rfl (.cons rfl (.cons rfl .nil))) (Free.up (by decide) F118) (by decide) O117 ?_
    rintro b121 H122 ⟨O123, sm124, F125⟩
    obtain ⟨c126, p127, f128⟩ := (O123.atVar (j := 1) rfl)
    refine D2.loadA' (cs := c126) rfl rfl ag50 sz50 (pt_px rfl p127) (RT.len _ f128) fa_nil ?_
    obtain ⟨x129, i130, h131⟩ := bd_inv h101
    refine D2.lo rfl rfl (Lo.callP (ps := []) (ps' := []) rfl (fn := Try.f27) (by kernel_rfl) rfl (mc rfl mn) O123 (fun L' O' => g_R_BranchError_ok K c126 x99 f128 O' _ i130)) ?_ fa_nil ?_ ?_
    ·rintro v138 H139 ⟨G132, O133, s134, sm137, rfl⟩; exact (faR1 (.inl (by decide)) (faR1 (.inr (sm137 _ (Or.inr ⟨1, _, rfl, List.mem_singleton.2 rfl⟩))) (faR1 (.inr (sm137 _ (Or.inr ⟨1, _, rfl, List.mem_singleton.2 rfl⟩))) (faR1 (.inr (sm137 _ (Or.inr ⟨1, _, rfl, List.mem_singleton.2 rfl⟩))) fa_nil))))
    ·rintro v138 H139 ⟨G132, O133, s134, sm137, rfl⟩; exact (faR1 (.inr (sm137 _ (Or.inr ⟨0, _, rfl, List.mem_singleton.2 rfl⟩))) fa_nil)
    rintro v138 H139 ⟨G132, O133, s134, sm137, rfl⟩
    replace O133 : Ow G132 H139 (eSl (.slice (some ⟨b121, 0, some 0⟩) 2 2) 9 rS [x99.From, x99.To] :: eVar b107 50 T_Branch x99 :: eVar b2 48 T_Network p0 :: eSl (σ89 3) 114 T_Item x87 :: L) := O133
    refine D2.pure (v := (.bool (x129 != 0))) rfl rfl (v_int (oo rfl rfl) (oo rfl rfl) rfl) ?_
    obtain ⟨G140, O141, s142, f143⟩ := O133.frzSl (j := 0) rfl
    replace O141 : Ow G140 H139 (eVar b107 50 T_Branch x99 :: eVar b2 48 T_Network p0 :: eSl (σ89 3) 114 T_Item x87 :: L) := O141
    obtain ⟨c144, e146, f145⟩ := bd_Item_0_1_2_3 ((.string x99.Name)) ((.slice (some ⟨b121, 0, some 0⟩) 2 2)) ((.bool true)) ((.bool (x129 != 0))) (rfl) ((sl_cells f143)) (rfl) (rfl)
    refine D2.pure (v := .agg (List.toArray c144)) rfl rfl (e146 (opndP_oo rfl (qc' rfl (qc' rfl (qc' rfl (qc' rfl qn')))))) ?_
    refine D2.lo rfl rfl (Lo.buildSlice (r := T_Item) (vs := [(.agg (List.toArray c144))]) (xs := [(Item.mk x99.Name [x99.From, x99.To] true (x129 != 0))]) el111 ze114 sz114 (by kernel_rfl) rfl (qc rfl qn) rfl (.cons f145 .nil) O141) ?_ (faL_bit (by decide) fa_nil) ?_ ?_
    ·rintro v149 H150 ⟨O147, sm148⟩; exact (faR1 (.inl (by decide)) (faR1 (.inl (by decide)) (faR1 (.inl (by decide)) (faR1 (.inl (by decide)) fa_nil))))
    ·rintro v149 H150 ⟨O147, sm148⟩; exact (faR1 (.inl (by decide)) fa_nil)
    rintro v149 H150 ⟨O147, sm148⟩
    obtain ⟨es152, e153, e154⟩ := src_own (j := 0) rfl O147
    obtain ⟨g155, h156⟩ := gd_inv h131
    refine D2.lo rfl rfl (Lo.append (j := 3) (v := (σ89 3)) rfl rfl el111 ni111 ze114 sz114 by114 (by decide) (by decide) rfl e153 e154 g155 O147) ?_ (faL_bit (by decide) (faL_bit (by decide) fa_nil)) ?_ ?_
    ·rintro v158 H159 ⟨O151, sm157⟩; exact (faR1 (.inl (by decide)) (faR1 (.inl (by decide)) (faR1 (.inl (by decide)) (faR1 (.inl (by decide)) fa_nil))))
    ·rintro v158 H159 ⟨O151, sm157⟩; exact (faR1 (.inl (by decide)) fa_nil)
    rintro v158 H159 ⟨O151, sm157⟩
    replace O151 : Ow G140 H159 (eSl v149 114 T_Item [(Item.mk x99.Name [x99.From, x99.To] true (x129 != 0))] :: eVar b107 50 T_Branch x99 :: eVar b2 48 T_Network p0 :: eSl v158 114 T_Item (x87 ++ [(Item.mk x99.Name [x99.From, x99.To] true (x129 != 0))]) :: L) := O151
    refine D2.pure (v := v158) rfl rfl (v_assign (oo rfl rfl)) ?_
    refine .nil ?_
    refine .region ?_
    refine W.pure (v := (.int .i64 (kwrap .i64 (x88 + 1)))) rfl rfl (v_int (oo rfl t96) (oo rfl rfl) rfl) ?_
    refine W.pure (v := (.int .i64 (kwrap .i64 (x88 + 1)))) rfl rfl (v_move (oo rfl rfl)) ?_
    refine .nil ?_
    have O160 : Ow G140 H159 (eVar b107 50 T_Branch x99 :: eVar b2 48 T_Network p0 :: eSl v158 114 T_Item (x87 ++ [(Item.mk x99.Name [x99.From, x99.To] true (x129 != 0))]) :: L) := O151.drop 0
    have O161 : Ow G140 H159 (eVar b2 48 T_Network p0 :: eSl v158 114 T_Item (x87 ++ [(Item.mk x99.Name [x99.From, x99.To] true (x129 != 0))]) :: L) := O160.drop 0
    exact ⟨k86, Nat.lt_succ_self _, ⟨(x87 ++ [(Item.mk x99.Name [x99.From, x99.To] true (x129 != 0))]), kwrap .i64 (x88 + 1), _, h156, O161, (GM.le.trans s94 (GM.le.trans s134 s142)), rfl⟩⟩
   ·have h162 := neg_b g97 h95
    refine .exit ?_
    obtain rfl := Option.some.inj h162
    exact ⟨x87, _, rfl, O93, s94⟩
  ·rintro σ164 H165 fr166 ⟨x163, G167, rfl, O168, s169⟩
   have h171 := tu1_inv h85
   refine .seq ?_
   refine .seq ?_
   refine .region ?_
   refine W.pure (v := (padd (.pointer (some ⟨b2, 0, none⟩)) 3)) rfl rfl (v_fldA fl48_3 (oo rfl ((fr166 1 rfl).trans ((fr74 1 rfl).trans rfl))) (O168.atVar (j := 0) rfl)) ?_
   obtain ⟨w172, p173, f174⟩ := At.sl (At.proj (O168.atVar (j := 0) rfl) p_Network_Gens)
   refine W.load1 (v := w172) (r := []) rfl rfl ag44 (pt_px rfl p173) ?_
   refine W.pure (v := (.int .i64 (List.length p0.Gens : Int))) rfl rfl (len_sl (oo rfl rfl) (sl_len f174) (elemT_inv el44)) ?_
   refine W.pure (v := (.int .i64 0)) rfl rfl (v_move (oo rfl rfl)) ?_
   refine .nil ?_
   obtain ⟨q175, h176, h177⟩ := bd_inv h171
   refine AW.midT (fun σ' H' => ∃ (y1 : List Item) (G' : GM), y1 = q175 ∧ Ow G' H' (eVar b2 48 T_Network p0 :: eSl (σ' 3) 114 T_Item y1 :: L) ∧ GM.le G167 G') ?_ ?_
   ·refine .block ?_
    refine AW.loop (α := Nat) (fun k' σ' H' => ∃ (y1 : List Item) (y2 : Int) (G' : GM), g_R_items_l4 K p0 k' y1 y2 = some q175 ∧ Ow G' H' (eVar b2 48 T_Network p0 :: eSl (σ' 3) 114 T_Item y1 :: L) ∧ GM.le G167 G' ∧ σ' 58 = .int .i64 y2) (fun k' => k') K ⟨x163, 0, _, h176, O168, (GM.le.refl _), rfl⟩ ?_
    rintro k178
    rintro σ181 H182 fr183 ⟨x179, x180, G184, h187, O185, s186, t188⟩
    rcases k178 with _ | k178
    ·exact none_absurd h187
    rw [g_R_items_l4] at h187
    refine .seq ?_
    refine .region ?_
    refine W.pure (v := (.bool (decide (x180 < (List.length p0.Gens : Int))))) rfl rfl (v_int (oo rfl t188) (oo rfl ((fr183 57 rfl).trans rfl)) rfl) ?_
    refine .nil ?_
    refine .seq ?_
    refine .cond (b := decide (x180 < (List.length p0.Gens : Int))) rfl rfl (fun g189 => ?_) (fun g189 => ?_)
    ·have h190 := pos_inv g189 h187
     refine .skip ?_
     refine .seq ?_
     obtain ⟨q191, h192, h193⟩ := bd_inv h190
     refine AW.midT (fun σ' H' => ∃ (y1 : List Item) (G' : GM), y1 = q191 ∧ Ow G' H' (eVar b2 48 T_Network p0 :: eSl (σ' 3) 114 T_Item y1 :: L) ∧ GM.le G184 G') ?_ ?_
     ·refine .block ?_
      refine .seq ?_
      refine .region ?_
      obtain ⟨x194, i195, h196⟩ := bd_inv h192
      have j197 := idx_inv i195
      refine W.pure (v := (selem w172 (Int.toNat x180 * 5))) rfl rfl (v_idx el44 sz65 (oo rfl ((fr183 56 rfl).trans rfl)) (oo rfl t188) (sl_len (RT.mono _ s186 f174)) j197.1 j197.2.1) ?_
      obtain ⟨c198, p199, f200⟩ := (At.le (At.le (sl_idx f174 j197.2.2) s186 s186) (GM.le.refl _) O185.fro)
      refine W.loadA (cs := c198) rfl rfl ag65 sz65 (pt_px rfl p199) (RT.len _ f200) ?_
      refine W.lo rfl rfl (Lo.alloc (r := T_Gen) (x0 := (Gen.mk ByteArray.empty ByteArray.empty 0 0 0)) ze65 (by kernel_rfl) z_Gen O185) ?_
      rintro v204 H205 ⟨b202, rfl, O201, sm203⟩
      refine W.lo rfl rfl (Lo.storeVar (j := 0) (s := T_Gen) (y0 := x194) (v := (.agg (List.toArray c198))) (o := 0) rfl ((Put.at (Put.self _) _ _)) rfl sz65 rfl (by omega) rfl f200 O201) ?_
      rintro v208 H209 ⟨O206, sm207⟩
      replace O206 : Ow G184 H209 (eVar b202 65 T_Gen x194 :: eVar b2 48 T_Network p0 :: eSl (σ181 3) 114 T_Item x179 :: L) := O206
      refine .nil ?_
      refine .draw2 (M := [0, 0, 2, 0, 8, 24, 0, 64, 192, 448, 960, 1984, 4032, 1984, 10176, 32704, 65472, 131008, 262080, 524224, 1048512, 2097088, 4194240, 8388544, 16777214, 33554430, 67108863, 134217727]) mixed (by kernel_rfl) (by kernel_rfl) fun H210 N214 x211 F213 => ?_
      have O212 := O206.ext x211
      refine D2.pure (v := (σ181 3)) rfl rfl (v_move (oo rfl rfl)) ?_
      refine D2.pure (v := (padd (.pointer (some ⟨b202, 0, none⟩)) 0)) rfl rfl (v_fldA fl65_0 (oo rfl rfl) (O212.atVar (j := 0) rfl)) ?_
      refine D2.load1' (v := (.string x194.Name)) (r := []) rfl rfl ag9 (pt_px rfl (At.str (At.proj (O212.atVar (j := 0) rfl) p_Gen_Name))) fa_nil ?_
      refine D2.pure (v := (padd (.pointer (some ⟨b202, 0, none⟩)) 1)) rfl rfl (v_fldA fl65_1 (oo rfl rfl) (O212.atVar (j := 0) rfl)) ?_
      refine D2.load1' (v := (.string x194.Node)) (r := []) rfl rfl ag9 (pt_px rfl (At.str (At.proj (O212.atVar (j := 0) rfl) p_Gen_Node))) fa_nil ?_
      refine D2.alloc (m := 28) rfl rfl (Al.buildSlice (r := rS) (vs := [(.string x194.Node)]) (xs := [x194.Node]) el41 ze9 sz9 (by kernel_rfl) rfl (qc rfl qn) rfl (.cons rfl .nil)) (Free.up (by decide) F213) (by decide) O212 ?_
      rintro b216 H217 ⟨O218, sm219, F220⟩
      refine D2.pure (v := (padd (.pointer (some ⟨b202, 0, none⟩)) 2)) rfl rfl (v_fldA fl65_2 (oo rfl rfl) (O218.atVar (j := 1) rfl)) ?_
      refine D2.load1' (v := (.int .i64 x194.Least)) (r := []) rfl rfl ag3 (pt_px rfl (At.int (At.proj (O218.atVar (j := 1) rfl) p_Gen_Least))) fa_nil ?_
      obtain ⟨x221, i222, h223⟩ := bd_inv h196
      refine D2.lo rfl rfl (Lo.callP (ps := []) (ps' := []) rfl (fn := Try.f73) (by kernel_rfl) rfl (mc rfl (mc rfl (mc rfl mn))) O218 (fun L' O' => g_R_in_ok K x194.Least 0 100000 O' _ i222)) ?_ fa_nil ?_ ?_
      ·rintro v230 H231 ⟨G224, O225, s226, sm229, rfl⟩; exact (faR1 (.inl (by decide)) (faR1 (.inr (sm229 _ (Or.inr ⟨1, _, rfl, List.mem_singleton.2 rfl⟩))) (faR1 (.inr (sm229 _ (Or.inr ⟨1, _, rfl, List.mem_singleton.2 rfl⟩))) fa_nil)))
      ·rintro v230 H231 ⟨G224, O225, s226, sm229, rfl⟩; exact (faR1 (.inr (sm229 _ (Or.inr ⟨0, _, rfl, List.mem_singleton.2 rfl⟩))) fa_nil)
      rintro v230 H231 ⟨G224, O225, s226, sm229, rfl⟩
      replace O225 : Ow G224 H231 (eSl (.slice (some ⟨b216, 0, some 0⟩) 1 1) 9 rS [x194.Node] :: eVar b202 65 T_Gen x194 :: eVar b2 48 T_Network p0 :: eSl (σ181 3) 114 T_Item x179 :: L) := O225
      refine D2.pure (v := (.bool (!x221))) rfl rfl (bool_not (a := x221) (oo rfl rfl)) ?_
      refine D2.pure (v := (.bool (!x221))) rfl rfl (v_move (oo rfl rfl)) ?_
      refine D2.splitAt (t := 72) (b := (!x221)) rfl (fun g232 gv233 => ?_) (fun g232 gv233 => ?_)
      ·have h234 := pos_inv g232 h223
       refine D2.skip (gk rfl rfl gv233 rfl) rfl ?_
       refine D2.skip (gk rfl rfl gv233 rfl) rfl ?_
       refine D2.skip (gk rfl rfl gv233 rfl) rfl ?_
       refine D2.skip (gk rfl rfl gv233 rfl) rfl ?_
       refine D2.skip (gk rfl rfl gv233 rfl) rfl ?_
       refine D2.skip (gk rfl rfl gv233 rfl) rfl ?_
       refine D2.pure (v := (.bool true)) rfl rfl (v_pickT (oo rfl gv233) (oo rfl rfl)) ?_
       refine D2.pure (v := (.bool true)) rfl rfl (v_move (oo rfl rfl)) ?_
       refine D2.skip (gk rfl rfl rfl rfl) rfl ?_
       refine D2.skip (gk rfl rfl rfl rfl) rfl ?_
       refine D2.skip (gk rfl rfl rfl rfl) rfl ?_
       refine D2.skip (gk rfl rfl rfl rfl) rfl ?_
       refine D2.pure (v := (.bool true)) rfl rfl (v_pickT (oo rfl rfl) (oo rfl rfl)) ?_
       obtain ⟨G235, O236, s237, f238⟩ := O225.frzSl (j := 0) rfl
       replace O236 : Ow G235 H231 (eVar b202 65 T_Gen x194 :: eVar b2 48 T_Network p0 :: eSl (σ181 3) 114 T_Item x179 :: L) := O236
       obtain ⟨c239, e241, f240⟩ := bd_Item_0_1_2_3 ((.string x194.Name)) ((.slice (some ⟨b216, 0, some 0⟩) 1 1)) ((.bool false)) ((.bool true)) (rfl) ((sl_cells f238)) (rfl) (rfl)
       refine D2.pure (v := .agg (List.toArray c239)) rfl rfl (e241 (opndP_oo rfl (qc' rfl (qc' rfl (qc' rfl (qc' rfl qn')))))) ?_
       refine D2.lo rfl rfl (Lo.buildSlice (r := T_Item) (vs := [(.agg (List.toArray c239))]) (xs := [(Item.mk x194.Name [x194.Node] false true)]) el111 ze114 sz114 (by kernel_rfl) rfl (qc rfl qn) rfl (.cons f240 .nil) O236) ?_ (faL_bit (by decide) fa_nil) ?_ ?_
       ·rintro v244 H245 ⟨O242, sm243⟩; exact (faR1 (.inl (by decide)) (faR1 (.inl (by decide)) (faR1 (.inl (by decide)) fa_nil)))
       ·rintro v244 H245 ⟨O242, sm243⟩; exact (faR1 (.inl (by decide)) fa_nil)
       rintro v244 H245 ⟨O242, sm243⟩
       obtain ⟨es247, e248, e249⟩ := src_own (j := 0) rfl O242
       obtain ⟨g250, h251⟩ := gd_inv h234
       refine D2.lo rfl rfl (Lo.append (j := 3) (v := (σ181 3)) rfl rfl el111 ni111 ze114 sz114 by114 (by decide) (by decide) rfl e248 e249 g250 O242) ?_ (faL_bit (by decide) (faL_bit (by decide) fa_nil)) ?_ ?_
       ·rintro v253 H254 ⟨O246, sm252⟩; exact (faR1 (.inl (by decide)) (faR1 (.inl (by decide)) (faR1 (.inl (by decide)) fa_nil)))
       ·rintro v253 H254 ⟨O246, sm252⟩; exact (faR1 (.inl (by decide)) fa_nil)
       rintro v253 H254 ⟨O246, sm252⟩
       replace O246 : Ow G235 H254 (eSl v244 114 T_Item [(Item.mk x194.Name [x194.Node] false true)] :: eVar b202 65 T_Gen x194 :: eVar b2 48 T_Network p0 :: eSl v253 114 T_Item (x179 ++ [(Item.mk x194.Name [x194.Node] false true)]) :: L) := O246
       refine D2.pure (v := v253) rfl rfl (v_assign (oo rfl rfl)) ?_
       refine .nil ?_
       have O255 : Ow G235 H254 (eVar b202 65 T_Gen x194 :: eVar b2 48 T_Network p0 :: eSl v253 114 T_Item (x179 ++ [(Item.mk x194.Name [x194.Node] false true)]) :: L) := O246.drop 0
       have O256 : Ow G235 H254 (eVar b2 48 T_Network p0 :: eSl v253 114 T_Item (x179 ++ [(Item.mk x194.Name [x194.Node] false true)]) :: L) := O255.drop 0
       obtain rfl := Option.some.inj h251
       exact ⟨(x179 ++ [(Item.mk x194.Name [x194.Node] false true)]), _, rfl, O256, (GM.le.trans s226 s237)⟩
      ·have h257 := neg_b g232 h223
       refine D2.pure (v := (padd (.pointer (some ⟨b202, 0, none⟩)) 3)) (gk rfl rfl gv233 rfl) rfl (v_fldA fl65_3 (oo rfl rfl) (O225.atVar (j := 1) rfl)) ?_
       refine D2.load1' (v := (.int .i64 x194.Most)) (r := []) (gk rfl rfl gv233 rfl) rfl ag3 (pt_px rfl (At.int (At.proj (O225.atVar (j := 1) rfl) p_Gen_Most))) (faQ_bit (by decide) fa_nil) ?_
       refine D2.pure (v := (padd (.pointer (some ⟨b202, 0, none⟩)) 2)) (gk rfl rfl gv233 rfl) rfl (v_fldA fl65_2 (oo rfl rfl) (O225.atVar (j := 1) rfl)) ?_
       refine D2.load1' (v := (.int .i64 x194.Least)) (r := []) (gk rfl rfl gv233 rfl) rfl ag3 (pt_px rfl (At.int (At.proj (O225.atVar (j := 1) rfl) p_Gen_Least))) (faQ_bit (by decide) fa_nil) ?_
       obtain ⟨x258, i259, h260⟩ := bd_inv h257
       refine D2.lo (gk rfl rfl gv233 rfl) rfl (Lo.callP (ps := []) (ps' := []) rfl (fn := Try.f73) (by kernel_rfl) rfl (mc rfl (mc rfl (mc rfl mn))) O225 (fun L' O' => g_R_in_ok K x194.Most x194.Least 100000 O' _ i259)) ?_ (faL_bit (by decide) fa_nil) ?_ ?_
       ·rintro v267 H268 ⟨G261, O262, s263, sm266, rfl⟩; exact (faR1 (.inl (by decide)) (faR1 (.inl (by decide)) (faR1 (.inl (by decide)) (faR1 (.inr (sm266 _ (Or.inr ⟨1, _, rfl, List.mem_singleton.2 rfl⟩))) (faR1 (.inr (sm266 _ (Or.inr ⟨1, _, rfl, List.mem_singleton.2 rfl⟩))) fa_nil)))))
       ·rintro v267 H268 ⟨G261, O262, s263, sm266, rfl⟩; exact (faR1 (.inr (sm266 _ (Or.inr ⟨0, _, rfl, List.mem_singleton.2 rfl⟩))) fa_nil)
       rintro v267 H268 ⟨G261, O262, s263, sm266, rfl⟩
       replace O262 : Ow G261 H268 (eSl (.slice (some ⟨b216, 0, some 0⟩) 1 1) 9 rS [x194.Node] :: eVar b202 65 T_Gen x194 :: eVar b2 48 T_Network p0 :: eSl (σ181 3) 114 T_Item x179 :: L) := O262
       refine D2.pure (v := (.bool (!x258))) (gk rfl rfl gv233 rfl) rfl (bool_not (a := x258) (oo rfl rfl)) ?_
       refine D2.pure (v := (.bool (!x258))) rfl rfl (v_pickF (oo rfl gv233) (oo rfl rfl)) ?_
       refine D2.pure (v := (.bool (!x258))) rfl rfl (v_move (oo rfl rfl)) ?_
       refine D2.splitAt (t := 80) (b := (!x258)) rfl (fun g269 gv270 => ?_) (fun g269 gv270 => ?_)
       ·have h271 := pos_inv g269 h260
        refine D2.skip (gk rfl rfl gv270 rfl) rfl ?_
        refine D2.skip (gk rfl rfl gv270 rfl) rfl ?_
        refine D2.skip (gk rfl rfl gv270 rfl) rfl ?_
        refine D2.skip (gk rfl rfl gv270 rfl) rfl ?_
        refine D2.pure (v := (.bool true)) rfl rfl (v_pickT (oo rfl gv270) (oo rfl rfl)) ?_
        obtain ⟨G272, O273, s274, f275⟩ := O262.frzSl (j := 0) rfl
        replace O273 : Ow G272 H268 (eVar b202 65 T_Gen x194 :: eVar b2 48 T_Network p0 :: eSl (σ181 3) 114 T_Item x179 :: L) := O273
        obtain ⟨c276, e278, f277⟩ := bd_Item_0_1_2_3 ((.string x194.Name)) ((.slice (some ⟨b216, 0, some 0⟩) 1 1)) ((.bool false)) ((.bool true)) (rfl) ((sl_cells f275)) (rfl) (rfl)
        refine D2.pure (v := .agg (List.toArray c276)) rfl rfl (e278 (opndP_oo rfl (qc' rfl (qc' rfl (qc' rfl (qc' rfl qn')))))) ?_
        refine D2.lo rfl rfl (Lo.buildSlice (r := T_Item) (vs := [(.agg (List.toArray c276))]) (xs := [(Item.mk x194.Name [x194.Node] false true)]) el111 ze114 sz114 (by kernel_rfl) rfl (qc rfl qn) rfl (.cons f277 .nil) O273) ?_ (faL_bit (by decide) (faL_bit (by decide) fa_nil)) ?_ ?_
        ·rintro v281 H282 ⟨O279, sm280⟩; exact (faR1 (.inl (by decide)) (faR1 (.inl (by decide)) (faR1 (.inl (by decide)) (faR1 (.inl (by decide)) (faR1 (.inl (by decide)) fa_nil)))))
        ·rintro v281 H282 ⟨O279, sm280⟩; exact (faR1 (.inl (by decide)) fa_nil)
        rintro v281 H282 ⟨O279, sm280⟩
        obtain ⟨es284, e285, e286⟩ := src_own (j := 0) rfl O279
        obtain ⟨g287, h288⟩ := gd_inv h271
        refine D2.lo rfl rfl (Lo.append (j := 3) (v := (σ181 3)) rfl rfl el111 ni111 ze114 sz114 by114 (by decide) (by decide) rfl e285 e286 g287 O279) ?_ (faL_bit (by decide) (faL_bit (by decide) (faL_bit (by decide) fa_nil))) ?_ ?_
        ·rintro v290 H291 ⟨O283, sm289⟩; exact (faR1 (.inl (by decide)) (faR1 (.inl (by decide)) (faR1 (.inl (by decide)) (faR1 (.inl (by decide)) (faR1 (.inl (by decide)) fa_nil)))))
        ·rintro v290 H291 ⟨O283, sm289⟩; exact (faR1 (.inl (by decide)) fa_nil)
        rintro v290 H291 ⟨O283, sm289⟩
        replace O283 : Ow G272 H291 (eSl v281 114 T_Item [(Item.mk x194.Name [x194.Node] false true)] :: eVar b202 65 T_Gen x194 :: eVar b2 48 T_Network p0 :: eSl v290 114 T_Item (x179 ++ [(Item.mk x194.Name [x194.Node] false true)]) :: L) := O283
        refine D2.pure (v := v290) rfl rfl (v_assign (oo rfl rfl)) ?_
        refine .nil ?_
        have O292 : Ow G272 H291 (eVar b202 65 T_Gen x194 :: eVar b2 48 T_Network p0 :: eSl v290 114 T_Item (x179 ++ [(Item.mk x194.Name [x194.Node] false true)]) :: L) := O283.drop 0
        have O293 : Ow G272 H291 (eVar b2 48 T_Network p0 :: eSl v290 114 T_Item (x179 ++ [(Item.mk x194.Name [x194.Node] false true)]) :: L) := O292.drop 0
        obtain rfl := Option.some.inj h288
        exact ⟨(x179 ++ [(Item.mk x194.Name [x194.Node] false true)]), _, rfl, O293, (GM.le.trans s226 (GM.le.trans s263 s274))⟩
       ·have h294 := neg_b g269 h260
        refine D2.pure (v := (padd (.pointer (some ⟨b202, 0, none⟩)) 4)) (gk rfl rfl gv270 rfl) rfl (v_fldA fl65_4 (oo rfl rfl) (O262.atVar (j := 1) rfl)) ?_
        refine D2.load1' (v := (.int .i64 x194.Ramp)) (r := []) (gk rfl rfl gv270 rfl) rfl ag3 (pt_px rfl (At.int (At.proj (O262.atVar (j := 1) rfl) p_Gen_Ramp))) (faQ_bit (by decide) (faQ_bit (by decide) fa_nil)) ?_
        obtain ⟨x295, i296, h297⟩ := bd_inv h294
        refine D2.lo (gk rfl rfl gv270 rfl) rfl (Lo.callP (ps := []) (ps' := []) rfl (fn := Try.f73) (by kernel_rfl) rfl (mc rfl (mc rfl (mc rfl mn))) O262 (fun L' O' => g_R_in_ok K x194.Ramp 0 100000 O' _ i296)) ?_ (faL_bit (by decide) (faL_bit (by decide) fa_nil)) ?_ ?_
        ·rintro v304 H305 ⟨G298, O299, s300, sm303, rfl⟩; exact (faR1 (.inl (by decide)) (faR1 (.inl (by decide)) (faR1 (.inl (by decide)) (faR1 (.inl (by decide)) (faR1 (.inr (sm303 _ (Or.inr ⟨1, _, rfl, List.mem_singleton.2 rfl⟩))) (faR1 (.inr (sm303 _ (Or.inr ⟨1, _, rfl, List.mem_singleton.2 rfl⟩))) fa_nil))))))
        ·rintro v304 H305 ⟨G298, O299, s300, sm303, rfl⟩; exact (faR1 (.inr (sm303 _ (Or.inr ⟨0, _, rfl, List.mem_singleton.2 rfl⟩))) fa_nil)
        rintro v304 H305 ⟨G298, O299, s300, sm303, rfl⟩
        replace O299 : Ow G298 H305 (eSl (.slice (some ⟨b216, 0, some 0⟩) 1 1) 9 rS [x194.Node] :: eVar b202 65 T_Gen x194 :: eVar b2 48 T_Network p0 :: eSl (σ181 3) 114 T_Item x179 :: L) := O299
        refine D2.pure (v := (.bool (!x295))) (gk rfl rfl gv270 rfl) rfl (bool_not (a := x295) (oo rfl rfl)) ?_
        refine D2.pure (v := (.bool (!x295))) rfl rfl (v_pickF (oo rfl gv270) (oo rfl rfl)) ?_
        obtain ⟨G306, O307, s308, f309⟩ := O299.frzSl (j := 0) rfl
        replace O307 : Ow G306 H305 (eVar b202 65 T_Gen x194 :: eVar b2 48 T_Network p0 :: eSl (σ181 3) 114 T_Item x179 :: L) := O307
        obtain ⟨c310, e312, f311⟩ := bd_Item_0_1_2_3 ((.string x194.Name)) ((.slice (some ⟨b216, 0, some 0⟩) 1 1)) ((.bool false)) ((.bool (!x295))) (rfl) ((sl_cells f309)) (rfl) (rfl)
        refine D2.pure (v := .agg (List.toArray c310)) rfl rfl (e312 (opndP_oo rfl (qc' rfl (qc' rfl (qc' rfl (qc' rfl qn')))))) ?_
        refine D2.lo rfl rfl (Lo.buildSlice (r := T_Item) (vs := [(.agg (List.toArray c310))]) (xs := [(Item.mk x194.Name [x194.Node] false (!x295))]) el111 ze114 sz114 (by kernel_rfl) rfl (qc rfl qn) rfl (.cons f311 .nil) O307) ?_ (faL_bit (by decide) (faL_bit (by decide) (faL_bit (by decide) fa_nil))) ?_ ?_
        ·rintro v315 H316 ⟨O313, sm314⟩; exact (faR1 (.inl (by decide)) (faR1 (.inl (by decide)) (faR1 (.inl (by decide)) (faR1 (.inl (by decide)) (faR1 (.inl (by decide)) (faR1 (.inl (by decide)) fa_nil))))))
        ·rintro v315 H316 ⟨O313, sm314⟩; exact (faR1 (.inl (by decide)) fa_nil)
        rintro v315 H316 ⟨O313, sm314⟩
        obtain ⟨es318, e319, e320⟩ := src_own (j := 0) rfl O313
        obtain ⟨g321, h322⟩ := gd_inv h297
        refine D2.lo rfl rfl (Lo.append (j := 3) (v := (σ181 3)) rfl rfl el111 ni111 ze114 sz114 by114 (by decide) (by decide) rfl e319 e320 g321 O313) ?_ (faL_bit (by decide) (faL_bit (by decide) (faL_bit (by decide) (faL_bit (by decide) fa_nil)))) ?_ ?_
        ·rintro v324 H325 ⟨O317, sm323⟩; exact (faR1 (.inl (by decide)) (faR1 (.inl (by decide)) (faR1 (.inl (by decide)) (faR1 (.inl (by decide)) (faR1 (.inl (by decide)) (faR1 (.inl (by decide)) fa_nil))))))
        ·rintro v324 H325 ⟨O317, sm323⟩; exact (faR1 (.inl (by decide)) fa_nil)
        rintro v324 H325 ⟨O317, sm323⟩
        replace O317 : Ow G306 H325 (eSl v315 114 T_Item [(Item.mk x194.Name [x194.Node] false (!x295))] :: eVar b202 65 T_Gen x194 :: eVar b2 48 T_Network p0 :: eSl v324 114 T_Item (x179 ++ [(Item.mk x194.Name [x194.Node] false (!x295))]) :: L) := O317
        refine D2.pure (v := v324) rfl rfl (v_assign (oo rfl rfl)) ?_
        refine .nil ?_
        have O326 : Ow G306 H325 (eVar b202 65 T_Gen x194 :: eVar b2 48 T_Network p0 :: eSl v324 114 T_Item (x179 ++ [(Item.mk x194.Name [x194.Node] false (!x295))]) :: L) := O317.drop 0
        have O327 : Ow G306 H325 (eVar b2 48 T_Network p0 :: eSl v324 114 T_Item (x179 ++ [(Item.mk x194.Name [x194.Node] false (!x295))]) :: L) := O326.drop 0
        obtain rfl := Option.some.inj h322
        exact ⟨(x179 ++ [(Item.mk x194.Name [x194.Node] false (!x295))]), _, rfl, O327, (GM.le.trans s226 (GM.le.trans s263 (GM.le.trans s300 s308)))⟩
     ·rintro σ329 H330 fr331 ⟨x328, G332, rfl, O333, s334⟩
      have h336 := tu1_inv h193
      refine .region ?_
      refine W.pure (v := (.int .i64 (kwrap .i64 (x180 + 1)))) rfl rfl (v_int (oo rfl ((fr331 58 rfl).trans t188)) (oo rfl rfl) rfl) ?_
      refine W.pure (v := (.int .i64 (kwrap .i64 (x180 + 1)))) rfl rfl (v_move (oo rfl rfl)) ?_
      refine .nil ?_
      exact ⟨k178, Nat.lt_succ_self _, ⟨x328, kwrap .i64 (x180 + 1), _, h336, O333, (GM.le.trans s186 s334), rfl⟩⟩
    ·have h337 := neg_b g189 h187
     refine .exit ?_
     obtain rfl := Option.some.inj h337
     exact ⟨x179, _, rfl, O185, s186⟩
   ·rintro σ339 H340 fr341 ⟨x338, G342, rfl, O343, s344⟩
    have h346 := tu1_inv h177
    refine .seq ?_
    refine .seq ?_
    refine .region ?_
    refine W.pure (v := (padd (.pointer (some ⟨b2, 0, none⟩)) 4)) rfl rfl (v_fldA fl48_4 (oo rfl ((fr341 1 rfl).trans ((fr166 1 rfl).trans ((fr74 1 rfl).trans rfl)))) (O343.atVar (j := 0) rfl)) ?_
    obtain ⟨w347, p348, f349⟩ := At.sl (At.proj (O343.atVar (j := 0) rfl) p_Network_Loads)
    refine W.load1 (v := w347) (r := []) rfl rfl ag45 (pt_px rfl p348) ?_
    refine W.pure (v := (.int .i64 (List.length p0.Loads : Int))) rfl rfl (len_sl (oo rfl rfl) (sl_len f349) (elemT_inv el45)) ?_
    refine W.pure (v := (.int .i64 0)) rfl rfl (v_move (oo rfl rfl)) ?_
    refine .nil ?_
    obtain ⟨q350, h351, h352⟩ := bd_inv h346
    refine AW.midT (fun σ' H' => ∃ (y1 : List Item) (G' : GM), y1 = q350 ∧ Ow G' H' (eVar b2 48 T_Network p0 :: eSl (σ' 3) 114 T_Item y1 :: L) ∧ GM.le G342 G') ?_ ?_
    ·refine .block ?_
     refine AW.loop (α := Nat) (fun k' σ' H' => ∃ (y1 : List Item) (y2 : Int) (G' : GM), g_R_items_l6 K p0 k' y1 y2 = some q350 ∧ Ow G' H' (eVar b2 48 T_Network p0 :: eSl (σ' 3) 114 T_Item y1 :: L) ∧ GM.le G342 G' ∧ σ' 93 = .int .i64 y2) (fun k' => k') K ⟨x338, 0, _, h351, O343, (GM.le.refl _), rfl⟩ ?_
     rintro k353
     rintro σ356 H357 fr358 ⟨x354, x355, G359, h362, O360, s361, t363⟩
     rcases k353 with _ | k353
     ·exact none_absurd h362
     rw [g_R_items_l6] at h362
     refine .seq ?_
     refine .region ?_
     refine W.pure (v := (.bool (decide (x355 < (List.length p0.Loads : Int))))) rfl rfl (v_int (oo rfl t363) (oo rfl ((fr358 92 rfl).trans rfl)) rfl) ?_
     refine .nil ?_
     refine .seq ?_
     refine .cond (b := decide (x355 < (List.length p0.Loads : Int))) rfl rfl (fun g364 => ?_) (fun g364 => ?_)
     ·have h365 := pos_inv g364 h362
      refine .skip ?_
      refine .seq ?_
      refine .block ?_
      refine .seq ?_
      refine .region ?_
      obtain ⟨x366, i367, h368⟩ := bd_inv h365
      have j369 := idx_inv i367
      refine W.pure (v := (selem w347 (Int.toNat x355 * 3))) rfl rfl (v_idx el45 sz137 (oo rfl ((fr358 91 rfl).trans rfl)) (oo rfl t363) (sl_len (RT.mono _ s361 f349)) j369.1 j369.2.1) ?_
      obtain ⟨c370, p371, f372⟩ := (At.le (At.le (sl_idx f349 j369.2.2) s361 s361) (GM.le.refl _) O360.fro)
      refine W.loadA (cs := c370) rfl rfl ag137 sz137 (pt_px rfl p371) (RT.len _ f372) ?_
      refine W.lo rfl rfl (Lo.alloc (r := T_Load_) (x0 := (Load_.mk ByteArray.empty ByteArray.empty 0)) ze137 (by kernel_rfl) z_Load_ O360) ?_
      rintro v376 H377 ⟨b374, rfl, O373, sm375⟩
      refine W.lo rfl rfl (Lo.storeVar (j := 0) (s := T_Load_) (y0 := x366) (v := (.agg (List.toArray c370))) (o := 0) rfl ((Put.at (Put.self _) _ _)) rfl sz137 rfl (by omega) rfl f372 O373) ?_
      rintro v380 H381 ⟨O378, sm379⟩
      replace O378 : Ow G359 H381 (eVar b374 137 T_Load_ x366 :: eVar b2 48 T_Network p0 :: eSl (σ356 3) 114 T_Item x354 :: L) := O378
      refine .nil ?_
      refine .draw2 (M := [0, 0, 2, 0, 8, 24, 0, 64, 192, 448, 1022, 2046, 4095, 8191]) mixed (by kernel_rfl) (by kernel_rfl) fun H382 N386 x383 F385 => ?_
      have O384 := O378.ext x383
      refine D2.pure (v := (σ356 3)) rfl rfl (v_move (oo rfl rfl)) ?_
      refine D2.pure (v := (padd (.pointer (some ⟨b374, 0, none⟩)) 0)) rfl rfl (v_fldA fl137_0 (oo rfl rfl) (O384.atVar (j := 0) rfl)) ?_
      refine D2.load1' (v := (.string x366.Name)) (r := []) rfl rfl ag9 (pt_px rfl (At.str (At.proj (O384.atVar (j := 0) rfl) p_Load__Name))) fa_nil ?_
      refine D2.pure (v := (padd (.pointer (some ⟨b374, 0, none⟩)) 1)) rfl rfl (v_fldA fl137_1 (oo rfl rfl) (O384.atVar (j := 0) rfl)) ?_
      refine D2.load1' (v := (.string x366.Node)) (r := []) rfl rfl ag9 (pt_px rfl (At.str (At.proj (O384.atVar (j := 0) rfl) p_Load__Node))) fa_nil ?_
      refine D2.alloc (m := 14) rfl rfl (Al.buildSlice (r := rS) (vs := [(.string x366.Node)]) (xs := [x366.Node]) el41 ze9 sz9 (by kernel_rfl) rfl (qc rfl qn) rfl (.cons rfl .nil)) (Free.up (by decide) F385) (by decide) O384 ?_
      rintro b388 H389 ⟨O390, sm391, F392⟩
      refine D2.pure (v := (padd (.pointer (some ⟨b374, 0, none⟩)) 2)) rfl rfl (v_fldA fl137_2 (oo rfl rfl) (O390.atVar (j := 1) rfl)) ?_
      refine D2.load1' (v := (.int .i64 x366.Demand)) (r := []) rfl rfl ag3 (pt_px rfl (At.int (At.proj (O390.atVar (j := 1) rfl) p_Load__Demand))) fa_nil ?_
      obtain ⟨x393, i394, h395⟩ := bd_inv h368
      refine D2.lo rfl rfl (Lo.callP (ps := []) (ps' := []) rfl (fn := Try.f73) (by kernel_rfl) rfl (mc rfl (mc rfl (mc rfl mn))) O390 (fun L' O' => g_R_in_ok K x366.Demand 0 100000 O' _ i394)) ?_ fa_nil ?_ ?_
      ·rintro v402 H403 ⟨G396, O397, s398, sm401, rfl⟩; exact (faR1 (.inl (by decide)) (faR1 (.inr (sm401 _ (Or.inr ⟨1, _, rfl, List.mem_singleton.2 rfl⟩))) (faR1 (.inr (sm401 _ (Or.inr ⟨1, _, rfl, List.mem_singleton.2 rfl⟩))) fa_nil)))
      ·rintro v402 H403 ⟨G396, O397, s398, sm401, rfl⟩; exact (faR1 (.inr (sm401 _ (Or.inr ⟨0, _, rfl, List.mem_singleton.2 rfl⟩))) fa_nil)
      rintro v402 H403 ⟨G396, O397, s398, sm401, rfl⟩
      replace O397 : Ow G396 H403 (eSl (.slice (some ⟨b388, 0, some 0⟩) 1 1) 9 rS [x366.Node] :: eVar b374 137 T_Load_ x366 :: eVar b2 48 T_Network p0 :: eSl (σ356 3) 114 T_Item x354 :: L) := O397
      refine D2.pure (v := (.bool (!x393))) rfl rfl (bool_not (a := x393) (oo rfl rfl)) ?_
      obtain ⟨G404, O405, s406, f407⟩ := O397.frzSl (j := 0) rfl
      replace O405 : Ow G404 H403 (eVar b374 137 T_Load_ x366 :: eVar b2 48 T_Network p0 :: eSl (σ356 3) 114 T_Item x354 :: L) := O405
      obtain ⟨c408, e410, f409⟩ := bd_Item_0_1_2_3 ((.string x366.Name)) ((.slice (some ⟨b388, 0, some 0⟩) 1 1)) ((.bool false)) ((.bool (!x393))) (rfl) ((sl_cells f407)) (rfl) (rfl)
      refine D2.pure (v := .agg (List.toArray c408)) rfl rfl (e410 (opndP_oo rfl (qc' rfl (qc' rfl (qc' rfl (qc' rfl qn')))))) ?_
      refine D2.lo rfl rfl (Lo.buildSlice (r := T_Item) (vs := [(.agg (List.toArray c408))]) (xs := [(Item.mk x366.Name [x366.Node] false (!x393))]) el111 ze114 sz114 (by kernel_rfl) rfl (qc rfl qn) rfl (.cons f409 .nil) O405) ?_ (faL_bit (by decide) fa_nil) ?_ ?_
      ·rintro v413 H414 ⟨O411, sm412⟩; exact (faR1 (.inl (by decide)) (faR1 (.inl (by decide)) (faR1 (.inl (by decide)) fa_nil)))
      ·rintro v413 H414 ⟨O411, sm412⟩; exact (faR1 (.inl (by decide)) fa_nil)
      rintro v413 H414 ⟨O411, sm412⟩
      obtain ⟨es416, e417, e418⟩ := src_own (j := 0) rfl O411
      obtain ⟨g419, h420⟩ := gd_inv h395
      refine D2.lo rfl rfl (Lo.append (j := 3) (v := (σ356 3)) rfl rfl el111 ni111 ze114 sz114 by114 (by decide) (by decide) rfl e417 e418 g419 O411) ?_ (faL_bit (by decide) (faL_bit (by decide) fa_nil)) ?_ ?_
      ·rintro v422 H423 ⟨O415, sm421⟩; exact (faR1 (.inl (by decide)) (faR1 (.inl (by decide)) (faR1 (.inl (by decide)) fa_nil)))
      ·rintro v422 H423 ⟨O415, sm421⟩; exact (faR1 (.inl (by decide)) fa_nil)
      rintro v422 H423 ⟨O415, sm421⟩
      replace O415 : Ow G404 H423 (eSl v413 114 T_Item [(Item.mk x366.Name [x366.Node] false (!x393))] :: eVar b374 137 T_Load_ x366 :: eVar b2 48 T_Network p0 :: eSl v422 114 T_Item (x354 ++ [(Item.mk x366.Name [x366.Node] false (!x393))]) :: L) := O415
      refine D2.pure (v := v422) rfl rfl (v_assign (oo rfl rfl)) ?_
      refine .nil ?_
      refine .region ?_
      refine W.pure (v := (.int .i64 (kwrap .i64 (x355 + 1)))) rfl rfl (v_int (oo rfl t363) (oo rfl rfl) rfl) ?_
      refine W.pure (v := (.int .i64 (kwrap .i64 (x355 + 1)))) rfl rfl (v_move (oo rfl rfl)) ?_
      refine .nil ?_
      have O424 : Ow G404 H423 (eVar b374 137 T_Load_ x366 :: eVar b2 48 T_Network p0 :: eSl v422 114 T_Item (x354 ++ [(Item.mk x366.Name [x366.Node] false (!x393))]) :: L) := O415.drop 0
      have O425 : Ow G404 H423 (eVar b2 48 T_Network p0 :: eSl v422 114 T_Item (x354 ++ [(Item.mk x366.Name [x366.Node] false (!x393))]) :: L) := O424.drop 0
      exact ⟨k353, Nat.lt_succ_self _, ⟨(x354 ++ [(Item.mk x366.Name [x366.Node] false (!x393))]), kwrap .i64 (x355 + 1), _, h420, O425, (GM.le.trans s361 (GM.le.trans s398 s406)), rfl⟩⟩
     ·have h426 := neg_b g364 h362
      refine .exit ?_
      obtain rfl := Option.some.inj h426
      exact ⟨x354, _, rfl, O360, s361⟩
    ·rintro σ428 H429 fr430 ⟨x427, G431, rfl, O432, s433⟩
     have h435 := tu1_inv h352
     refine .seq ?_
     refine .seq ?_
     refine .region ?_
     refine W.pure (v := (padd (.pointer (some ⟨b2, 0, none⟩)) 5)) rfl rfl (v_fldA fl48_5 (oo rfl ((fr430 1 rfl).trans ((fr341 1 rfl).trans ((fr166 1 rfl).trans ((fr74 1 rfl).trans rfl))))) (O432.atVar (j := 0) rfl)) ?_
     obtain ⟨w436, p437, f438⟩ := At.sl (At.proj (O432.atVar (j := 0) rfl) p_Network_Stores)
     refine W.load1 (v := w436) (r := []) rfl rfl ag46 (pt_px rfl p437) ?_
     refine W.pure (v := (.int .i64 (List.length p0.Stores : Int))) rfl rfl (len_sl (oo rfl rfl) (sl_len f438) (elemT_inv el46)) ?_
     refine W.pure (v := (.int .i64 0)) rfl rfl (v_move (oo rfl rfl)) ?_
     refine .nil ?_
     obtain ⟨q439, h440, h441⟩ := bd_inv h435
     refine AW.midT (fun σ' H' => ∃ (y1 : List Item) (G' : GM), y1 = q439 ∧ Ow G' H' (eVar b2 48 T_Network p0 :: eSl (σ' 3) 114 T_Item y1 :: L) ∧ GM.le G431 G') ?_ ?_
     ·refine .block ?_
      refine AW.loop (α := Nat) (fun k' σ' H' => ∃ (y1 : List Item) (y2 : Int) (G' : GM), g_R_items_l8 K p0 k' y1 y2 = some q439 ∧ Ow G' H' (eVar b2 48 T_Network p0 :: eSl (σ' 3) 114 T_Item y1 :: L) ∧ GM.le G431 G' ∧ σ' 114 = .int .i64 y2) (fun k' => k') K ⟨x427, 0, _, h440, O432, (GM.le.refl _), rfl⟩ ?_
      rintro k442
      rintro σ445 H446 fr447 ⟨x443, x444, G448, h451, O449, s450, t452⟩
      rcases k442 with _ | k442
      ·exact none_absurd h451
      rw [g_R_items_l8] at h451
      refine .seq ?_
      refine .region ?_
      refine W.pure (v := (.bool (decide (x444 < (List.length p0.Stores : Int))))) rfl rfl (v_int (oo rfl t452) (oo rfl ((fr447 113 rfl).trans rfl)) rfl) ?_
      refine .nil ?_
      refine .seq ?_
      refine .cond (b := decide (x444 < (List.length p0.Stores : Int))) rfl rfl (fun g453 => ?_) (fun g453 => ?_)
      ·have h454 := pos_inv g453 h451
       refine .skip ?_
       refine .seq ?_
       obtain ⟨q455, h456, h457⟩ := bd_inv h454
       refine AW.midT (fun σ' H' => ∃ (y1 : List Item) (G' : GM), y1 = q455 ∧ Ow G' H' (eVar b2 48 T_Network p0 :: eSl (σ' 3) 114 T_Item y1 :: L) ∧ GM.le G448 G') ?_ ?_
       ·refine .block ?_
        refine .seq ?_
        refine .region ?_
        obtain ⟨x458, i459, h460⟩ := bd_inv h456
        have j461 := idx_inv i459
        refine W.pure (v := (selem w436 (Int.toNat x444 * 5))) rfl rfl (v_idx el46 sz69 (oo rfl ((fr447 112 rfl).trans rfl)) (oo rfl t452) (sl_len (RT.mono _ s450 f438)) j461.1 j461.2.1) ?_
        obtain ⟨c462, p463, f464⟩ := (At.le (At.le (sl_idx f438 j461.2.2) s450 s450) (GM.le.refl _) O449.fro)
        refine W.loadA (cs := c462) rfl rfl ag69 sz69 (pt_px rfl p463) (RT.len _ f464) ?_
        refine W.lo rfl rfl (Lo.alloc (r := T_Store) (x0 := (Store.mk ByteArray.empty ByteArray.empty 0 0 0)) ze69 (by kernel_rfl) z_Store O449) ?_
        rintro v468 H469 ⟨b466, rfl, O465, sm467⟩
        refine W.lo rfl rfl (Lo.storeVar (j := 0) (s := T_Store) (y0 := x458) (v := (.agg (List.toArray c462))) (o := 0) rfl ((Put.at (Put.self _) _ _)) rfl sz69 rfl (by omega) rfl f464 O465) ?_
        rintro v472 H473 ⟨O470, sm471⟩
        replace O470 : Ow G448 H473 (eVar b466 69 T_Store x458 :: eVar b2 48 T_Network p0 :: eSl (σ445 3) 114 T_Item x443 :: L) := O470
        refine .nil ?_
        refine .draw2 (M := [0, 0, 2, 0, 8, 24, 0, 64, 192, 448, 960, 1984, 4032, 8128, 16320, 32704, 65472, 131008, 262080, 524224, 1048512, 2097088, 4194302, 8388606, 16777215, 33554431]) mixed (by kernel_rfl) (by kernel_rfl) fun H474 N478 x475 F477 => ?_
        have O476 := O470.ext x475
        refine D2.pure (v := (σ445 3)) rfl rfl (v_move (oo rfl rfl)) ?_
        refine D2.pure (v := (padd (.pointer (some ⟨b466, 0, none⟩)) 0)) rfl rfl (v_fldA fl69_0 (oo rfl rfl) (O476.atVar (j := 0) rfl)) ?_
        refine D2.load1' (v := (.string x458.Name)) (r := []) rfl rfl ag9 (pt_px rfl (At.str (At.proj (O476.atVar (j := 0) rfl) p_Store_Name))) fa_nil ?_
        refine D2.pure (v := (padd (.pointer (some ⟨b466, 0, none⟩)) 1)) rfl rfl (v_fldA fl69_1 (oo rfl rfl) (O476.atVar (j := 0) rfl)) ?_
        refine D2.load1' (v := (.string x458.Node)) (r := []) rfl rfl ag9 (pt_px rfl (At.str (At.proj (O476.atVar (j := 0) rfl) p_Store_Node))) fa_nil ?_
        refine D2.alloc (m := 26) rfl rfl (Al.buildSlice (r := rS) (vs := [(.string x458.Node)]) (xs := [x458.Node]) el41 ze9 sz9 (by kernel_rfl) rfl (qc rfl qn) rfl (.cons rfl .nil)) (Free.up (by decide) F477) (by decide) O476 ?_
        rintro b480 H481 ⟨O482, sm483, F484⟩
        refine D2.pure (v := (padd (.pointer (some ⟨b466, 0, none⟩)) 2)) rfl rfl (v_fldA fl69_2 (oo rfl rfl) (O482.atVar (j := 1) rfl)) ?_
        refine D2.load1' (v := (.int .i64 x458.Charge)) (r := []) rfl rfl ag3 (pt_px rfl (At.int (At.proj (O482.atVar (j := 1) rfl) p_Store_Charge))) fa_nil ?_
        obtain ⟨x485, i486, h487⟩ := bd_inv h460
        refine D2.lo rfl rfl (Lo.callP (ps := []) (ps' := []) rfl (fn := Try.f73) (by kernel_rfl) rfl (mc rfl (mc rfl (mc rfl mn))) O482 (fun L' O' => g_R_in_ok K x458.Charge 0 100000 O' _ i486)) ?_ fa_nil ?_ ?_
        ·rintro v494 H495 ⟨G488, O489, s490, sm493, rfl⟩; exact (faR1 (.inl (by decide)) (faR1 (.inr (sm493 _ (Or.inr ⟨1, _, rfl, List.mem_singleton.2 rfl⟩))) (faR1 (.inr (sm493 _ (Or.inr ⟨1, _, rfl, List.mem_singleton.2 rfl⟩))) fa_nil)))
        ·rintro v494 H495 ⟨G488, O489, s490, sm493, rfl⟩; exact (faR1 (.inr (sm493 _ (Or.inr ⟨0, _, rfl, List.mem_singleton.2 rfl⟩))) fa_nil)
        rintro v494 H495 ⟨G488, O489, s490, sm493, rfl⟩
        replace O489 : Ow G488 H495 (eSl (.slice (some ⟨b480, 0, some 0⟩) 1 1) 9 rS [x458.Node] :: eVar b466 69 T_Store x458 :: eVar b2 48 T_Network p0 :: eSl (σ445 3) 114 T_Item x443 :: L) := O489
        refine D2.pure (v := (.bool (!x485))) rfl rfl (bool_not (a := x485) (oo rfl rfl)) ?_
        refine D2.pure (v := (.bool (!x485))) rfl rfl (v_move (oo rfl rfl)) ?_
        refine D2.splitAt (t := 128) (b := (!x485)) rfl (fun g496 gv497 => ?_) (fun g496 gv497 => ?_)
        ·have h498 := pos_inv g496 h487
         refine D2.skip (gk rfl rfl gv497 rfl) rfl ?_
         refine D2.skip (gk rfl rfl gv497 rfl) rfl ?_
         refine D2.skip (gk rfl rfl gv497 rfl) rfl ?_
         refine D2.skip (gk rfl rfl gv497 rfl) rfl ?_
         refine D2.pure (v := (.bool true)) rfl rfl (v_pickT (oo rfl gv497) (oo rfl rfl)) ?_
         refine D2.pure (v := (.bool true)) rfl rfl (v_move (oo rfl rfl)) ?_
         refine D2.skip (gk rfl rfl rfl rfl) rfl ?_
         refine D2.skip (gk rfl rfl rfl rfl) rfl ?_
         refine D2.skip (gk rfl rfl rfl rfl) rfl ?_
         refine D2.skip (gk rfl rfl rfl rfl) rfl ?_
         refine D2.pure (v := (.bool true)) rfl rfl (v_pickT (oo rfl rfl) (oo rfl rfl)) ?_
         obtain ⟨G499, O500, s501, f502⟩ := O489.frzSl (j := 0) rfl
         replace O500 : Ow G499 H495 (eVar b466 69 T_Store x458 :: eVar b2 48 T_Network p0 :: eSl (σ445 3) 114 T_Item x443 :: L) := O500
         obtain ⟨c503, e505, f504⟩ := bd_Item_0_1_2_3 ((.string x458.Name)) ((.slice (some ⟨b480, 0, some 0⟩) 1 1)) ((.bool false)) ((.bool true)) (rfl) ((sl_cells f502)) (rfl) (rfl)
         refine D2.pure (v := .agg (List.toArray c503)) rfl rfl (e505 (opndP_oo rfl (qc' rfl (qc' rfl (qc' rfl (qc' rfl qn')))))) ?_
         refine D2.lo rfl rfl (Lo.buildSlice (r := T_Item) (vs := [(.agg (List.toArray c503))]) (xs := [(Item.mk x458.Name [x458.Node] false true)]) el111 ze114 sz114 (by kernel_rfl) rfl (qc rfl qn) rfl (.cons f504 .nil) O500) ?_ (faL_bit (by decide) fa_nil) ?_ ?_
         ·rintro v508 H509 ⟨O506, sm507⟩; exact (faR1 (.inl (by decide)) (faR1 (.inl (by decide)) (faR1 (.inl (by decide)) fa_nil)))
         ·rintro v508 H509 ⟨O506, sm507⟩; exact (faR1 (.inl (by decide)) fa_nil)
         rintro v508 H509 ⟨O506, sm507⟩
         obtain ⟨es511, e512, e513⟩ := src_own (j := 0) rfl O506
         obtain ⟨g514, h515⟩ := gd_inv h498
         refine D2.lo rfl rfl (Lo.append (j := 3) (v := (σ445 3)) rfl rfl el111 ni111 ze114 sz114 by114 (by decide) (by decide) rfl e512 e513 g514 O506) ?_ (faL_bit (by decide) (faL_bit (by decide) fa_nil)) ?_ ?_
         ·rintro v517 H518 ⟨O510, sm516⟩; exact (faR1 (.inl (by decide)) (faR1 (.inl (by decide)) (faR1 (.inl (by decide)) fa_nil)))
         ·rintro v517 H518 ⟨O510, sm516⟩; exact (faR1 (.inl (by decide)) fa_nil)
         rintro v517 H518 ⟨O510, sm516⟩
         replace O510 : Ow G499 H518 (eSl v508 114 T_Item [(Item.mk x458.Name [x458.Node] false true)] :: eVar b466 69 T_Store x458 :: eVar b2 48 T_Network p0 :: eSl v517 114 T_Item (x443 ++ [(Item.mk x458.Name [x458.Node] false true)]) :: L) := O510
         refine D2.pure (v := v517) rfl rfl (v_assign (oo rfl rfl)) ?_
         refine .nil ?_
         have O519 : Ow G499 H518 (eVar b466 69 T_Store x458 :: eVar b2 48 T_Network p0 :: eSl v517 114 T_Item (x443 ++ [(Item.mk x458.Name [x458.Node] false true)]) :: L) := O510.drop 0
         have O520 : Ow G499 H518 (eVar b2 48 T_Network p0 :: eSl v517 114 T_Item (x443 ++ [(Item.mk x458.Name [x458.Node] false true)]) :: L) := O519.drop 0
         obtain rfl := Option.some.inj h515
         exact ⟨(x443 ++ [(Item.mk x458.Name [x458.Node] false true)]), _, rfl, O520, (GM.le.trans s490 s501)⟩
        ·have h521 := neg_b g496 h487
         refine D2.pure (v := (padd (.pointer (some ⟨b466, 0, none⟩)) 3)) (gk rfl rfl gv497 rfl) rfl (v_fldA fl69_3 (oo rfl rfl) (O489.atVar (j := 1) rfl)) ?_
         refine D2.load1' (v := (.int .i64 x458.Discharge)) (r := []) (gk rfl rfl gv497 rfl) rfl ag3 (pt_px rfl (At.int (At.proj (O489.atVar (j := 1) rfl) p_Store_Discharge))) (faQ_bit (by decide) fa_nil) ?_
         obtain ⟨x522, i523, h524⟩ := bd_inv h521
         refine D2.lo (gk rfl rfl gv497 rfl) rfl (Lo.callP (ps := []) (ps' := []) rfl (fn := Try.f73) (by kernel_rfl) rfl (mc rfl (mc rfl (mc rfl mn))) O489 (fun L' O' => g_R_in_ok K x458.Discharge 0 100000 O' _ i523)) ?_ (faL_bit (by decide) fa_nil) ?_ ?_
         ·rintro v531 H532 ⟨G525, O526, s527, sm530, rfl⟩; exact (faR1 (.inl (by decide)) (faR1 (.inl (by decide)) (faR1 (.inr (sm530 _ (Or.inr ⟨1, _, rfl, List.mem_singleton.2 rfl⟩))) (faR1 (.inr (sm530 _ (Or.inr ⟨1, _, rfl, List.mem_singleton.2 rfl⟩))) fa_nil))))
         ·rintro v531 H532 ⟨G525, O526, s527, sm530, rfl⟩; exact (faR1 (.inr (sm530 _ (Or.inr ⟨0, _, rfl, List.mem_singleton.2 rfl⟩))) fa_nil)
         rintro v531 H532 ⟨G525, O526, s527, sm530, rfl⟩
         replace O526 : Ow G525 H532 (eSl (.slice (some ⟨b480, 0, some 0⟩) 1 1) 9 rS [x458.Node] :: eVar b466 69 T_Store x458 :: eVar b2 48 T_Network p0 :: eSl (σ445 3) 114 T_Item x443 :: L) := O526
         refine D2.pure (v := (.bool (!x522))) (gk rfl rfl gv497 rfl) rfl (bool_not (a := x522) (oo rfl rfl)) ?_
         refine D2.pure (v := (.bool (!x522))) rfl rfl (v_pickF (oo rfl gv497) (oo rfl rfl)) ?_
         refine D2.pure (v := (.bool (!x522))) rfl rfl (v_move (oo rfl rfl)) ?_
         refine D2.splitAt (t := 134) (b := (!x522)) rfl (fun g533 gv534 => ?_) (fun g533 gv534 => ?_)
         ·have h535 := pos_inv g533 h524
          refine D2.skip (gk rfl rfl gv534 rfl) rfl ?_
          refine D2.skip (gk rfl rfl gv534 rfl) rfl ?_
          refine D2.skip (gk rfl rfl gv534 rfl) rfl ?_
          refine D2.skip (gk rfl rfl gv534 rfl) rfl ?_
          refine D2.pure (v := (.bool true)) rfl rfl (v_pickT (oo rfl gv534) (oo rfl rfl)) ?_
          obtain ⟨G536, O537, s538, f539⟩ := O526.frzSl (j := 0) rfl
          replace O537 : Ow G536 H532 (eVar b466 69 T_Store x458 :: eVar b2 48 T_Network p0 :: eSl (σ445 3) 114 T_Item x443 :: L) := O537
          obtain ⟨c540, e542, f541⟩ := bd_Item_0_1_2_3 ((.string x458.Name)) ((.slice (some ⟨b480, 0, some 0⟩) 1 1)) ((.bool false)) ((.bool true)) (rfl) ((sl_cells f539)) (rfl) (rfl)
          refine D2.pure (v := .agg (List.toArray c540)) rfl rfl (e542 (opndP_oo rfl (qc' rfl (qc' rfl (qc' rfl (qc' rfl qn')))))) ?_
          refine D2.lo rfl rfl (Lo.buildSlice (r := T_Item) (vs := [(.agg (List.toArray c540))]) (xs := [(Item.mk x458.Name [x458.Node] false true)]) el111 ze114 sz114 (by kernel_rfl) rfl (qc rfl qn) rfl (.cons f541 .nil) O537) ?_ (faL_bit (by decide) (faL_bit (by decide) fa_nil)) ?_ ?_
          ·rintro v545 H546 ⟨O543, sm544⟩; exact (faR1 (.inl (by decide)) (faR1 (.inl (by decide)) (faR1 (.inl (by decide)) (faR1 (.inl (by decide)) fa_nil))))
          ·rintro v545 H546 ⟨O543, sm544⟩; exact (faR1 (.inl (by decide)) fa_nil)
          rintro v545 H546 ⟨O543, sm544⟩
          obtain ⟨es548, e549, e550⟩ := src_own (j := 0) rfl O543
          obtain ⟨g551, h552⟩ := gd_inv h535
          refine D2.lo rfl rfl (Lo.append (j := 3) (v := (σ445 3)) rfl rfl el111 ni111 ze114 sz114 by114 (by decide) (by decide) rfl e549 e550 g551 O543) ?_ (faL_bit (by decide) (faL_bit (by decide) (faL_bit (by decide) fa_nil))) ?_ ?_
          ·rintro v554 H555 ⟨O547, sm553⟩; exact (faR1 (.inl (by decide)) (faR1 (.inl (by decide)) (faR1 (.inl (by decide)) (faR1 (.inl (by decide)) fa_nil))))
          ·rintro v554 H555 ⟨O547, sm553⟩; exact (faR1 (.inl (by decide)) fa_nil)
          rintro v554 H555 ⟨O547, sm553⟩
          replace O547 : Ow G536 H555 (eSl v545 114 T_Item [(Item.mk x458.Name [x458.Node] false true)] :: eVar b466 69 T_Store x458 :: eVar b2 48 T_Network p0 :: eSl v554 114 T_Item (x443 ++ [(Item.mk x458.Name [x458.Node] false true)]) :: L) := O547
          refine D2.pure (v := v554) rfl rfl (v_assign (oo rfl rfl)) ?_
          refine .nil ?_
          have O556 : Ow G536 H555 (eVar b466 69 T_Store x458 :: eVar b2 48 T_Network p0 :: eSl v554 114 T_Item (x443 ++ [(Item.mk x458.Name [x458.Node] false true)]) :: L) := O547.drop 0
          have O557 : Ow G536 H555 (eVar b2 48 T_Network p0 :: eSl v554 114 T_Item (x443 ++ [(Item.mk x458.Name [x458.Node] false true)]) :: L) := O556.drop 0
          obtain rfl := Option.some.inj h552
          exact ⟨(x443 ++ [(Item.mk x458.Name [x458.Node] false true)]), _, rfl, O557, (GM.le.trans s490 (GM.le.trans s527 s538))⟩
         ·have h558 := neg_b g533 h524
          refine D2.pure (v := (padd (.pointer (some ⟨b466, 0, none⟩)) 4)) (gk rfl rfl gv534 rfl) rfl (v_fldA fl69_4 (oo rfl rfl) (O526.atVar (j := 1) rfl)) ?_
          refine D2.load1' (v := (.int .i64 x458.Capacity)) (r := []) (gk rfl rfl gv534 rfl) rfl ag3 (pt_px rfl (At.int (At.proj (O526.atVar (j := 1) rfl) p_Store_Capacity))) (faQ_bit (by decide) (faQ_bit (by decide) fa_nil)) ?_
          obtain ⟨x559, i560, h561⟩ := bd_inv h558
          refine D2.lo (gk rfl rfl gv534 rfl) rfl (Lo.callP (ps := []) (ps' := []) rfl (fn := Try.f73) (by kernel_rfl) rfl (mc rfl (mc rfl (mc rfl mn))) O526 (fun L' O' => g_R_in_ok K x458.Capacity 0 100000 O' _ i560)) ?_ (faL_bit (by decide) (faL_bit (by decide) fa_nil)) ?_ ?_
          ·rintro v568 H569 ⟨G562, O563, s564, sm567, rfl⟩; exact (faR1 (.inl (by decide)) (faR1 (.inl (by decide)) (faR1 (.inl (by decide)) (faR1 (.inr (sm567 _ (Or.inr ⟨1, _, rfl, List.mem_singleton.2 rfl⟩))) (faR1 (.inr (sm567 _ (Or.inr ⟨1, _, rfl, List.mem_singleton.2 rfl⟩))) fa_nil)))))
          ·rintro v568 H569 ⟨G562, O563, s564, sm567, rfl⟩; exact (faR1 (.inr (sm567 _ (Or.inr ⟨0, _, rfl, List.mem_singleton.2 rfl⟩))) fa_nil)
          rintro v568 H569 ⟨G562, O563, s564, sm567, rfl⟩
          replace O563 : Ow G562 H569 (eSl (.slice (some ⟨b480, 0, some 0⟩) 1 1) 9 rS [x458.Node] :: eVar b466 69 T_Store x458 :: eVar b2 48 T_Network p0 :: eSl (σ445 3) 114 T_Item x443 :: L) := O563
          refine D2.pure (v := (.bool (!x559))) (gk rfl rfl gv534 rfl) rfl (bool_not (a := x559) (oo rfl rfl)) ?_
          refine D2.pure (v := (.bool (!x559))) rfl rfl (v_pickF (oo rfl gv534) (oo rfl rfl)) ?_
          obtain ⟨G570, O571, s572, f573⟩ := O563.frzSl (j := 0) rfl
          replace O571 : Ow G570 H569 (eVar b466 69 T_Store x458 :: eVar b2 48 T_Network p0 :: eSl (σ445 3) 114 T_Item x443 :: L) := O571
          obtain ⟨c574, e576, f575⟩ := bd_Item_0_1_2_3 ((.string x458.Name)) ((.slice (some ⟨b480, 0, some 0⟩) 1 1)) ((.bool false)) ((.bool (!x559))) (rfl) ((sl_cells f573)) (rfl) (rfl)
          refine D2.pure (v := .agg (List.toArray c574)) rfl rfl (e576 (opndP_oo rfl (qc' rfl (qc' rfl (qc' rfl (qc' rfl qn')))))) ?_
          refine D2.lo rfl rfl (Lo.buildSlice (r := T_Item) (vs := [(.agg (List.toArray c574))]) (xs := [(Item.mk x458.Name [x458.Node] false (!x559))]) el111 ze114 sz114 (by kernel_rfl) rfl (qc rfl qn) rfl (.cons f575 .nil) O571) ?_ (faL_bit (by decide) (faL_bit (by decide) (faL_bit (by decide) fa_nil))) ?_ ?_
          ·rintro v579 H580 ⟨O577, sm578⟩; exact (faR1 (.inl (by decide)) (faR1 (.inl (by decide)) (faR1 (.inl (by decide)) (faR1 (.inl (by decide)) (faR1 (.inl (by decide)) fa_nil)))))
          ·rintro v579 H580 ⟨O577, sm578⟩; exact (faR1 (.inl (by decide)) fa_nil)
          rintro v579 H580 ⟨O577, sm578⟩
          obtain ⟨es582, e583, e584⟩ := src_own (j := 0) rfl O577
          obtain ⟨g585, h586⟩ := gd_inv h561
          refine D2.lo rfl rfl (Lo.append (j := 3) (v := (σ445 3)) rfl rfl el111 ni111 ze114 sz114 by114 (by decide) (by decide) rfl e583 e584 g585 O577) ?_ (faL_bit (by decide) (faL_bit (by decide) (faL_bit (by decide) (faL_bit (by decide) fa_nil)))) ?_ ?_
          ·rintro v588 H589 ⟨O581, sm587⟩; exact (faR1 (.inl (by decide)) (faR1 (.inl (by decide)) (faR1 (.inl (by decide)) (faR1 (.inl (by decide)) (faR1 (.inl (by decide)) fa_nil)))))
          ·rintro v588 H589 ⟨O581, sm587⟩; exact (faR1 (.inl (by decide)) fa_nil)
          rintro v588 H589 ⟨O581, sm587⟩
          replace O581 : Ow G570 H589 (eSl v579 114 T_Item [(Item.mk x458.Name [x458.Node] false (!x559))] :: eVar b466 69 T_Store x458 :: eVar b2 48 T_Network p0 :: eSl v588 114 T_Item (x443 ++ [(Item.mk x458.Name [x458.Node] false (!x559))]) :: L) := O581
          refine D2.pure (v := v588) rfl rfl (v_assign (oo rfl rfl)) ?_
          refine .nil ?_
          have O590 : Ow G570 H589 (eVar b466 69 T_Store x458 :: eVar b2 48 T_Network p0 :: eSl v588 114 T_Item (x443 ++ [(Item.mk x458.Name [x458.Node] false (!x559))]) :: L) := O581.drop 0
          have O591 : Ow G570 H589 (eVar b2 48 T_Network p0 :: eSl v588 114 T_Item (x443 ++ [(Item.mk x458.Name [x458.Node] false (!x559))]) :: L) := O590.drop 0
          obtain rfl := Option.some.inj h586
          exact ⟨(x443 ++ [(Item.mk x458.Name [x458.Node] false (!x559))]), _, rfl, O591, (GM.le.trans s490 (GM.le.trans s527 (GM.le.trans s564 s572)))⟩
       ·rintro σ593 H594 fr595 ⟨x592, G596, rfl, O597, s598⟩
        have h600 := tu1_inv h457
        refine .region ?_
        refine W.pure (v := (.int .i64 (kwrap .i64 (x444 + 1)))) rfl rfl (v_int (oo rfl ((fr595 114 rfl).trans t452)) (oo rfl rfl) rfl) ?_
        refine W.pure (v := (.int .i64 (kwrap .i64 (x444 + 1)))) rfl rfl (v_move (oo rfl rfl)) ?_
        refine .nil ?_
        exact ⟨k442, Nat.lt_succ_self _, ⟨x592, kwrap .i64 (x444 + 1), _, h600, O597, (GM.le.trans s450 s598), rfl⟩⟩
      ·have h601 := neg_b g453 h451
       refine .exit ?_
       obtain rfl := Option.some.inj h601
       exact ⟨x443, _, rfl, O449, s450⟩
     ·rintro σ603 H604 fr605 ⟨x602, G606, rfl, O607, s608⟩
      have h610 := tu1_inv h441
      refine .seq ?_
      refine .region ?_
      refine W.pure (v := (σ603 3)) rfl rfl (v_move (oo rfl rfl)) ?_
      refine W.pure (v := (σ603 3)) rfl rfl (v_assign (oo rfl rfl)) ?_
      refine .nil ?_
      refine .ret ?_
      have O611 : Ow G606 H604 (eSl (σ603 3) 114 T_Item x602 :: L) := O607.drop 0
      obtain rfl := Option.some.inj h610
      refine ret1R (P := Try.prog) (fn := Try.f71) (n := 145) (R := fun v H' => ∃ w0 G', Ow G' H' (eSl w0 114 T_Item x602 :: L) ∧ G.le G' ∧ w0 = v) (v1 := (σ603 3)) (by rfl) (rr_tmp (by rfl) (by exact rfl)) ?_
      exact ⟨(σ603 3), _, O611, (GM.le.trans s77 (GM.le.trans s169 (GM.le.trans s344 (GM.le.trans s433 s608)))), rfl⟩
def g_R_NetError_l0 (K : Nat) (p0 : Network) : Nat → List ByteArray → Int → Option (Int ⊕ (List ByteArray))
 | 0, _, _ => none
 | k + 1, x74, x75 => (if (decide (x75 < (List.length p0.Nodes : Int))) = true then ((idx p0.Nodes x75).bind fun x87 => ((g_R_NetError_1 K x87 x74).bind fun x91 => (if (x91.1 != 0) = true then some (.inl x91.1) else g_R_NetError_l0 K p0 k x91.2 (kwrap .i64 (x75 + 1))))) else some (.inr x74))
def g_R_NetError_l4 (K : Nat) (p0 : Network) (x153 : Item) : Nat → Int → Option (Int ⊕ Unit)
 | 0, _ => none
 | k + 1, x201 => (if (decide (x201 < (List.length x153.nodes : Int))) = true then ((idx x153.nodes x201).bind fun x212 => ((g_R_Has K p0.Nodes x212).bind fun x219 => (if (!x219) = true then some (.inl 6) else g_R_NetError_l4 K p0 x153 k (kwrap .i64 (x201 + 1))))) else some (.inr ()))
def g_R_NetError_l2 (K : Nat) (x123 : List Item) (p0 : Network) : Nat → List ByteArray → Int → Option (Int ⊕ (List ByteArray))
 | 0, _, _ => none
 | k + 1, x140, x141 => (if (decide (x141 < (List.length x123 : Int))) = true then ((idx x123 x141).bind fun x153 => ((g_R_NetError_1 K x153.name x140).bind fun x174 => (if (x174.1 != 0) = true then some (.inl x174.1) else (bindS (g_R_NetError_l4 K p0 x153 K 0) (tu1 fun a308 => some (.inl a308)) (tu0 (Option.bind ((if x153.apart = true then ((idx x153.nodes 0).bind fun x263 => ((idx x153.nodes 1).bind fun x270 => some (sEq x263 x270))) else some false)) (tu1 fun x275 => (if x275 = true then some (.inl 3) else (if x153.bad = true then some (.inl 4) else g_R_NetError_l2 K x123 p0 k x174.2 (kwrap .i64 (x141 + 1))))))))))) else some (.inr x140))
def g_R_NetError (K : Nat) (p0 : Network) : Option Int := (Option.bind ((if (decide ((List.length p0.Nodes : Int) > 24)) = true then some true else (if (decide ((List.length p0.Switches : Int) > 32)) = true then some true else (if (decide ((List.length p0.Branches : Int) > 24)) = true then some true else (if (decide ((List.length p0.Gens : Int) > 10)) = true then some true else (if (decide ((List.length p0.Loads : Int) > 12)) = true then some true else some (decide ((List.length p0.Stores : Int) > 4)))))))) (tu1 fun x47 => (if x47 = true then some 2 else (bindS (g_R_NetError_l0 K p0 K [] 0) (tu1 fun a325 => some a325) (tu1 fun x110 => ((g_R_items K p0).bind fun x123 => (bindS (g_R_NetError_l2 K x123 p0 K x110 0) (tu1 fun a324 => some a324) (tu1 fun x310 => some 0))))))))
set_option maxHeartbeats 4000000 in
theorem g_R_NetError_ok (K : Nat) {G : GM} {H : AH} {L : List Pc} (v0 : List Value) (p0 : Network) (hp0 : T_Network.rep G v0 p0) (O : Ow G H (L)) (r : Int) (h : g_R_NetError K p0 = some r) :
  CR Try.prog 23 [.agg (List.toArray v0)] G H (L) (fun v G' _ => v = .int .i64 r) := by
 unfold g_R_NetError at h
 refine CR.of (calls_of_AW (n := 105) (fn := Try.f23) (R := fun v H' => ∃ G', Ow G' H' (L) ∧ G.le G' ∧ v = .int .i64 r) (by kernel_rfl) rfl rfl ?_)
 refine .seq ?_
 refine .region ?_
 refine W.lo rfl rfl (Lo.box (r := T_Network) (x0 := p0) (v := (.agg (List.toArray v0))) rfl rfl hp0 O) ?_
 rintro v4 H5 ⟨b2, rfl, O1, sm3⟩
 refine W.pure (v := (.int .i64 0)) rfl rfl (v_assign (oo rfl rfl)) ?_
 refine .nil ?_
 refine .seq ?_
 refine .seq ?_
 obtain ⟨q6, h7, h8⟩ := bd_inv h
 refine AW.midT (fun σ' H' => ∃ (y1 : Bool) (G' : GM), y1 = q6 ∧ Ow G' H' (eVar b2 48 T_Network p0 :: L) ∧ GM.le G G' ∧ σ' 46 = .bool y1) ?_ ?_
 ·refine .region ?_
  refine W.pure (v := (padd (.pointer (some ⟨b2, 0, none⟩)) 0)) rfl rfl (v_fldA fl48_0 (oo rfl rfl) (O1.atVar (j := 0) rfl)) ?_
  obtain ⟨w9, p10, f11⟩ := At.sl (At.proj (O1.atVar (j := 0) rfl) p_Network_Nodes)
  refine W.load1 (v := w9) (r := []) rfl rfl ag41 (pt_px rfl p10) ?_
  refine W.pure (v := (.int .i64 (List.length p0.Nodes : Int))) rfl rfl (len_sl (oo rfl rfl) (sl_len f11) (elemT_inv el41)) ?_
  refine W.pure (v := (.bool (decide ((List.length p0.Nodes : Int) > 24)))) rfl rfl (v_int (oo rfl rfl) (oo rfl rfl) rfl) ?_
  refine W.pure (v := (.bool (decide ((List.length p0.Nodes : Int) > 24)))) rfl rfl (v_move (oo rfl rfl)) ?_
  refine W.splitAt (t := 17) (b := decide ((List.length p0.Nodes : Int) > 24)) rfl (fun g12 gv13 => ?_) (fun g12 gv13 => ?_)
  ·have h14 := pos_inv g12 h7
   refine W.skip (gk rfl rfl gv13 rfl) rfl ?_
   refine W.skip (gk rfl rfl gv13 rfl) rfl ?_
   refine W.skip (gk rfl rfl gv13 rfl) rfl ?_
   refine W.skip (gk rfl rfl gv13 rfl) rfl ?_
   refine W.pure (v := (.bool true)) rfl rfl (v_pickT (oo rfl gv13) (oo rfl rfl)) ?_
   refine W.pure (v := (.bool true)) rfl rfl (v_move (oo rfl rfl)) ?_
   refine W.skip (gk rfl rfl rfl rfl) rfl ?_
   refine W.skip (gk rfl rfl rfl rfl) rfl ?_
   refine W.skip (gk rfl rfl rfl rfl) rfl ?_
   refine W.skip (gk rfl rfl rfl rfl) rfl ?_
   refine W.pure (v := (.bool true)) rfl rfl (v_pickT (oo rfl rfl) (oo rfl rfl)) ?_
   refine W.pure (v := (.bool true)) rfl rfl (v_move (oo rfl rfl)) ?_
   refine W.skip (gk rfl rfl rfl rfl) rfl ?_
   refine W.skip (gk rfl rfl rfl rfl) rfl ?_
   refine W.skip (gk rfl rfl rfl rfl) rfl ?_
   refine W.skip (gk rfl rfl rfl rfl) rfl ?_
   refine W.pure (v := (.bool true)) rfl rfl (v_pickT (oo rfl rfl) (oo rfl rfl)) ?_
   refine W.pure (v := (.bool true)) rfl rfl (v_move (oo rfl rfl)) ?_
   refine W.skip (gk rfl rfl rfl rfl) rfl ?_
   refine W.skip (gk rfl rfl rfl rfl) rfl ?_
   refine W.skip (gk rfl rfl rfl rfl) rfl ?_
   refine W.skip (gk rfl rfl rfl rfl) rfl ?_
   refine W.pure (v := (.bool true)) rfl rfl (v_pickT (oo rfl rfl) (oo rfl rfl)) ?_
   refine W.pure (v := (.bool true)) rfl rfl (v_move (oo rfl rfl)) ?_
   refine W.skip (gk rfl rfl rfl rfl) rfl ?_
   refine W.skip (gk rfl rfl rfl rfl) rfl ?_
   refine W.skip (gk rfl rfl rfl rfl) rfl ?_
   refine W.skip (gk rfl rfl rfl rfl) rfl ?_
   refine W.pure (v := (.bool true)) rfl rfl (v_pickT (oo rfl rfl) (oo rfl rfl)) ?_
   refine .nil ?_
   obtain rfl := Option.some.inj h14
   exact ⟨true, _, rfl, O1, (GM.le.refl _), rfl⟩
  ·have h15 := neg_b g12 h7
   refine W.pure (v := (padd (.pointer (some ⟨b2, 0, none⟩)) 1)) (gk rfl rfl gv13 rfl) rfl (v_fldA fl48_1 (oo rfl rfl) (O1.atVar (j := 0) rfl)) ?_
   obtain ⟨w16, p17, f18⟩ := At.sl (At.proj (O1.atVar (j := 0) rfl) p_Network_Switches)
   refine W.load1 (v := w16) (r := []) (gk rfl rfl gv13 rfl) rfl ag42 (pt_px rfl p17) ?_
   refine W.pure (v := (.int .i64 (List.length p0.Switches : Int))) (gk rfl rfl gv13 rfl) rfl (len_sl (oo rfl rfl) (sl_len f18) (elemT_inv el42)) ?_
   refine W.pure (v := (.bool (decide ((List.length p0.Switches : Int) > 32)))) (gk rfl rfl gv13 rfl) rfl (v_int (oo rfl rfl) (oo rfl rfl) rfl) ?_
   refine W.pure (v := (.bool (decide ((List.length p0.Switches : Int) > 32)))) rfl rfl (v_pickF (oo rfl gv13) (oo rfl rfl)) ?_
   refine W.pure (v := (.bool (decide ((List.length p0.Switches : Int) > 32)))) rfl rfl (v_move (oo rfl rfl)) ?_
   refine W.splitAt (t := 23) (b := decide ((List.length p0.Switches : Int) > 32)) rfl (fun g19 gv20 => ?_) (fun g19 gv20 => ?_)
   ·have h21 := pos_inv g19 h15
    refine W.skip (gk rfl rfl gv20 rfl) rfl ?_
    refine W.skip (gk rfl rfl gv20 rfl) rfl ?_
    refine W.skip (gk rfl rfl gv20 rfl) rfl ?_
    refine W.skip (gk rfl rfl gv20 rfl) rfl ?_
    refine W.pure (v := (.bool true)) rfl rfl (v_pickT (oo rfl gv20) (oo rfl rfl)) ?_
    refine W.pure (v := (.bool true)) rfl rfl (v_move (oo rfl rfl)) ?_
    refine W.skip (gk rfl rfl rfl rfl) rfl ?_
    refine W.skip (gk rfl rfl rfl rfl) rfl ?_
    refine W.skip (gk rfl rfl rfl rfl) rfl ?_
    refine W.skip (gk rfl rfl rfl rfl) rfl ?_
    refine W.pure (v := (.bool true)) rfl rfl (v_pickT (oo rfl rfl) (oo rfl rfl)) ?_
    refine W.pure (v := (.bool true)) rfl rfl (v_move (oo rfl rfl)) ?_
    refine W.skip (gk rfl rfl rfl rfl) rfl ?_
    refine W.skip (gk rfl rfl rfl rfl) rfl ?_
    refine W.skip (gk rfl rfl rfl rfl) rfl ?_
    refine W.skip (gk rfl rfl rfl rfl) rfl ?_
    refine W.pure (v := (.bool true)) rfl rfl (v_pickT (oo rfl rfl) (oo rfl rfl)) ?_
    refine W.pure (v := (.bool true)) rfl rfl (v_move (oo rfl rfl)) ?_
    refine W.skip (gk rfl rfl rfl rfl) rfl ?_
    refine W.skip (gk rfl rfl rfl rfl) rfl ?_
    refine W.skip (gk rfl rfl rfl rfl) rfl ?_
    refine W.skip (gk rfl rfl rfl rfl) rfl ?_
    refine W.pure (v := (.bool true)) rfl rfl (v_pickT (oo rfl rfl) (oo rfl rfl)) ?_
    refine .nil ?_
    obtain rfl := Option.some.inj h21
    exact ⟨true, _, rfl, O1, (GM.le.refl _), rfl⟩
   ·have h22 := neg_b g19 h15
    refine W.pure (v := (padd (.pointer (some ⟨b2, 0, none⟩)) 2)) (gk rfl rfl gv20 rfl) rfl (v_fldA fl48_2 (oo rfl rfl) (O1.atVar (j := 0) rfl)) ?_
    obtain ⟨w23, p24, f25⟩ := At.sl (At.proj (O1.atVar (j := 0) rfl) p_Network_Branches)
    refine W.load1 (v := w23) (r := []) (gk rfl rfl gv20 rfl) rfl ag43 (pt_px rfl p24) ?_
    refine W.pure (v := (.int .i64 (List.length p0.Branches : Int))) (gk rfl rfl gv20 rfl) rfl (len_sl (oo rfl rfl) (sl_len f25) (elemT_inv el43)) ?_
    refine W.pure (v := (.bool (decide ((List.length p0.Branches : Int) > 24)))) (gk rfl rfl gv20 rfl) rfl (v_int (oo rfl rfl) (oo rfl rfl) rfl) ?_
    refine W.pure (v := (.bool (decide ((List.length p0.Branches : Int) > 24)))) rfl rfl (v_pickF (oo rfl gv20) (oo rfl rfl)) ?_
    refine W.pure (v := (.bool (decide ((List.length p0.Branches : Int) > 24)))) rfl rfl (v_move (oo rfl rfl)) ?_
    refine W.splitAt (t := 29) (b := decide ((List.length p0.Branches : Int) > 24)) rfl (fun g26 gv27 => ?_) (fun g26 gv27 => ?_)
    ·have h28 := pos_inv g26 h22
     refine W.skip (gk rfl rfl gv27 rfl) rfl ?_
     refine W.skip (gk rfl rfl gv27 rfl) rfl ?_
     refine W.skip (gk rfl rfl gv27 rfl) rfl ?_
     refine W.skip (gk rfl rfl gv27 rfl) rfl ?_
     refine W.pure (v := (.bool true)) rfl rfl (v_pickT (oo rfl gv27) (oo rfl rfl)) ?_
     refine W.pure (v := (.bool true)) rfl rfl (v_move (oo rfl rfl)) ?_
     refine W.skip (gk rfl rfl rfl rfl) rfl ?_
     refine W.skip (gk rfl rfl rfl rfl) rfl ?_
     refine W.skip (gk rfl rfl rfl rfl) rfl ?_
     refine W.skip (gk rfl rfl rfl rfl) rfl ?_
     refine W.pure (v := (.bool true)) rfl rfl (v_pickT (oo rfl rfl) (oo rfl rfl)) ?_
     refine W.pure (v := (.bool true)) rfl rfl (v_move (oo rfl rfl)) ?_
     refine W.skip (gk rfl rfl rfl rfl) rfl ?_
     refine W.skip (gk rfl rfl rfl rfl) rfl ?_
     refine W.skip (gk rfl rfl rfl rfl) rfl ?_
     refine W.skip (gk rfl rfl rfl rfl) rfl ?_
     refine W.pure (v := (.bool true)) rfl rfl (v_pickT (oo rfl rfl) (oo rfl rfl)) ?_
     refine .nil ?_
     obtain rfl := Option.some.inj h28
     exact ⟨true, _, rfl, O1, (GM.le.refl _), rfl⟩
    ·have h29 := neg_b g26 h22
     refine W.pure (v := (padd (.pointer (some ⟨b2, 0, none⟩)) 3)) (gk rfl rfl gv27 rfl) rfl (v_fldA fl48_3 (oo rfl rfl) (O1.atVar (j := 0) rfl)) ?_
     obtain ⟨w30, p31, f32⟩ := At.sl (At.proj (O1.atVar (j := 0) rfl) p_Network_Gens)
     refine W.load1 (v := w30) (r := []) (gk rfl rfl gv27 rfl) rfl ag44 (pt_px rfl p31) ?_
     refine W.pure (v := (.int .i64 (List.length p0.Gens : Int))) (gk rfl rfl gv27 rfl) rfl (len_sl (oo rfl rfl) (sl_len f32) (elemT_inv el44)) ?_
     refine W.pure (v := (.bool (decide ((List.length p0.Gens : Int) > 10)))) (gk rfl rfl gv27 rfl) rfl (v_int (oo rfl rfl) (oo rfl rfl) rfl) ?_
     refine W.pure (v := (.bool (decide ((List.length p0.Gens : Int) > 10)))) rfl rfl (v_pickF (oo rfl gv27) (oo rfl rfl)) ?_
     refine W.pure (v := (.bool (decide ((List.length p0.Gens : Int) > 10)))) rfl rfl (v_move (oo rfl rfl)) ?_
     refine W.splitAt (t := 35) (b := decide ((List.length p0.Gens : Int) > 10)) rfl (fun g33 gv34 => ?_) (fun g33 gv34 => ?_)
     ·have h35 := pos_inv g33 h29
      refine W.skip (gk rfl rfl gv34 rfl) rfl ?_
      refine W.skip (gk rfl rfl gv34 rfl) rfl ?_
      refine W.skip (gk rfl rfl gv34 rfl) rfl ?_
      refine W.skip (gk rfl rfl gv34 rfl) rfl ?_
      refine W.pure (v := (.bool true)) rfl rfl (v_pickT (oo rfl gv34) (oo rfl rfl)) ?_
      refine W.pure (v := (.bool true)) rfl rfl (v_move (oo rfl rfl)) ?_
      refine W.skip (gk rfl rfl rfl rfl) rfl ?_
      refine W.skip (gk rfl rfl rfl rfl) rfl ?_
      refine W.skip (gk rfl rfl rfl rfl) rfl ?_
      refine W.skip (gk rfl rfl rfl rfl) rfl ?_
      refine W.pure (v := (.bool true)) rfl rfl (v_pickT (oo rfl rfl) (oo rfl rfl)) ?_
      refine .nil ?_
      obtain rfl := Option.some.inj h35
      exact ⟨true, _, rfl, O1, (GM.le.refl _), rfl⟩
     ·have h36 := neg_b g33 h29
      refine W.pure (v := (padd (.pointer (some ⟨b2, 0, none⟩)) 4)) (gk rfl rfl gv34 rfl) rfl (v_fldA fl48_4 (oo rfl rfl) (O1.atVar (j := 0) rfl)) ?_
      obtain ⟨w37, p38, f39⟩ := At.sl (At.proj (O1.atVar (j := 0) rfl) p_Network_Loads)
      refine W.load1 (v := w37) (r := []) (gk rfl rfl gv34 rfl) rfl ag45 (pt_px rfl p38) ?_
      refine W.pure (v := (.int .i64 (List.length p0.Loads : Int))) (gk rfl rfl gv34 rfl) rfl (len_sl (oo rfl rfl) (sl_len f39) (elemT_inv el45)) ?_
      refine W.pure (v := (.bool (decide ((List.length p0.Loads : Int) > 12)))) (gk rfl rfl gv34 rfl) rfl (v_int (oo rfl rfl) (oo rfl rfl) rfl) ?_
      refine W.pure (v := (.bool (decide ((List.length p0.Loads : Int) > 12)))) rfl rfl (v_pickF (oo rfl gv34) (oo rfl rfl)) ?_
      refine W.pure (v := (.bool (decide ((List.length p0.Loads : Int) > 12)))) rfl rfl (v_move (oo rfl rfl)) ?_
      refine W.splitAt (t := 41) (b := decide ((List.length p0.Loads : Int) > 12)) rfl (fun g40 gv41 => ?_) (fun g40 gv41 => ?_)
      ·have h42 := pos_inv g40 h36
       refine W.skip (gk rfl rfl gv41 rfl) rfl ?_
       refine W.skip (gk rfl rfl gv41 rfl) rfl ?_
       refine W.skip (gk rfl rfl gv41 rfl) rfl ?_
       refine W.skip (gk rfl rfl gv41 rfl) rfl ?_
       refine W.pure (v := (.bool true)) rfl rfl (v_pickT (oo rfl gv41) (oo rfl rfl)) ?_
       refine .nil ?_
       obtain rfl := Option.some.inj h42
       exact ⟨true, _, rfl, O1, (GM.le.refl _), rfl⟩
      ·have h43 := neg_b g40 h36
       refine W.pure (v := (padd (.pointer (some ⟨b2, 0, none⟩)) 5)) (gk rfl rfl gv41 rfl) rfl (v_fldA fl48_5 (oo rfl rfl) (O1.atVar (j := 0) rfl)) ?_
       obtain ⟨w44, p45, f46⟩ := At.sl (At.proj (O1.atVar (j := 0) rfl) p_Network_Stores)
       refine W.load1 (v := w44) (r := []) (gk rfl rfl gv41 rfl) rfl ag46 (pt_px rfl p45) ?_
       refine W.pure (v := (.int .i64 (List.length p0.Stores : Int))) (gk rfl rfl gv41 rfl) rfl (len_sl (oo rfl rfl) (sl_len f46) (elemT_inv el46)) ?_
       refine W.pure (v := (.bool (decide ((List.length p0.Stores : Int) > 4)))) (gk rfl rfl gv41 rfl) rfl (v_int (oo rfl rfl) (oo rfl rfl) rfl) ?_
       refine W.pure (v := (.bool (decide ((List.length p0.Stores : Int) > 4)))) rfl rfl (v_pickF (oo rfl gv41) (oo rfl rfl)) ?_
       refine .nil ?_
       obtain rfl := Option.some.inj h43
       exact ⟨decide ((List.length p0.Stores : Int) > 4), _, rfl, O1, (GM.le.refl _), rfl⟩
 ·rintro σ48 H49 fr50 ⟨x47, G51, rfl, O52, s53, t55⟩
  have h56 := tu1_inv h8
  refine .cond (b := x47) rfl t55 (fun g57 => ?_) (fun g57 => ?_)
  ·have h58 := pos_inv g57 h56
   refine .seq ?_
   refine .region ?_
   refine W.pure (v := (.int .i64 2)) rfl rfl (v_assign (oo rfl rfl)) ?_
   refine .nil ?_
   refine .ret ?_
   have O59 : Ow G51 H49 (L) := O52.drop 0
   obtain rfl := Option.some.inj h58
   refine ret1R (P := Try.prog) (fn := Try.f23) (n := 105) (R := fun v H' => ∃ G', Ow G' H' (L) ∧ G.le G' ∧ v = .int .i64 2) (v1 := (.int .i64 2)) (by rfl) (rr_tmp (by rfl) (by exact rfl)) ?_
   exact ⟨_, O59, s53, rfl⟩
  ·have h60 := neg_b g57 h56
   refine .skip ?_
   refine .seq ?_
   refine .region ?_
   have O63 := O52.nilSl 9 rS
   refine W.lo rfl rfl (Lo.alloc (r := rV) (x0 := (.slice none 0 0)) ze41 (by kernel_rfl) zV O63) ?_
   rintro v65 H66 ⟨b62, rfl, O61, sm64⟩
   refine .nil ?_
   refine .seq ?_
   refine .region ?_
   refine W.pure (v := (.func (.func 70) #[] #[(.pointer (some ⟨b62, 0, none⟩))])) rfl rfl (v_makeFunc (opndL_ooL rfl mn) (opndL_ooL rfl (mc rfl mn))) ?_
   refine W.pure (v := (.func (.func 70) #[] #[(.pointer (some ⟨b62, 0, none⟩))])) rfl rfl (v_assign (oo rfl rfl)) ?_
   refine .nil ?_
   refine .seq ?_
   refine .seq ?_
   refine .region ?_
   refine W.pure (v := (padd (.pointer (some ⟨b2, 0, none⟩)) 0)) rfl rfl (v_fldA fl48_0 (oo rfl ((fr50 1 rfl).trans rfl)) (O61.atVar (j := 2) rfl)) ?_
   obtain ⟨w67, p68, f69⟩ := At.sl (At.proj (O61.atVar (j := 2) rfl) p_Network_Nodes)
   refine W.load1 (v := w67) (r := []) rfl rfl ag41 (pt_px rfl p68) ?_
   refine W.pure (v := (.int .i64 (List.length p0.Nodes : Int))) rfl rfl (len_sl (oo rfl rfl) (sl_len f69) (elemT_inv el41)) ?_
   refine W.pure (v := (.int .i64 0)) rfl rfl (v_move (oo rfl rfl)) ?_
   refine .nil ?_
   obtain ⟨q70, h71, h72⟩ := bindS_inv h60
   refine AW.midT (fun σ' H' => ∃ (y1 : List ByteArray) (w_l3 : Value) (G' : GM), (.inr y1) = q70 ∧ Ow G' H' (eVar b62 41 rV w_l3 :: eSl w_l3 9 rS y1 :: eVar b2 48 T_Network p0 :: L) ∧ GM.le G51 G') ?_ ?_
   ·refine .block ?_
    refine AW.loop (α := Nat) (fun k' σ' H' => ∃ (y1 : List ByteArray) (y2 : Int) (w_l3 : Value) (G' : GM), g_R_NetError_l0 K p0 k' y1 y2 = some q70 ∧ Ow G' H' (eVar b62 41 rV w_l3 :: eSl w_l3 9 rS y1 :: eVar b2 48 T_Network p0 :: L) ∧ GM.le G51 G' ∧ σ' 51 = .int .i64 y2) (fun k' => k') K ⟨[], 0, (.slice none 0 0), _, h71, O61, (GM.le.refl _), rfl⟩ ?_
    rintro k73
    rintro σ76 H77 fr78 ⟨x74, x75, w83, G79, h82, O80, s81, t84⟩
    rcases k73 with _ | k73
    ·exact none_absurd h82
    rw [g_R_NetError_l0] at h82
    refine .seq ?_
    refine .region ?_
    refine W.pure (v := (.bool (decide (x75 < (List.length p0.Nodes : Int))))) rfl rfl (v_int (oo rfl t84) (oo rfl ((fr78 50 rfl).trans rfl)) rfl) ?_
    refine .nil ?_
    refine .seq ?_
    refine .cond (b := decide (x75 < (List.length p0.Nodes : Int))) rfl rfl (fun g85 => ?_) (fun g85 => ?_)
    ·have h86 := pos_inv g85 h82
     refine .skip ?_
     refine .seq ?_
     refine .block ?_
     refine .seq ?_
     refine .region ?_
     obtain ⟨x87, i88, h89⟩ := bd_inv h86
     have j90 := idx_inv i88
     refine W.pure (v := (selem w67 (Int.toNat x75 * 1))) rfl rfl (v_idx el41 sz9 (oo rfl ((fr78 49 rfl).trans rfl)) (oo rfl t84) (sl_len (RT.mono _ s81 f69)) j90.1 j90.2.1) ?_
     refine W.load1 (v := (.string x87)) (r := []) rfl rfl ag9 (pt_px rfl (At.str (At.le (At.le (sl_idx f69 j90.2.2) s81 s81) (GM.le.refl _) O80.fro))) ?_
     refine W.pure (v := (.string x87)) rfl rfl (v_assign (oo rfl rfl)) ?_
     refine .nil ?_
     refine .seq ?_
     refine .region ?_
     refine W.pure (v := (.func (.func 70) #[] #[(.pointer (some ⟨b62, 0, none⟩))])) rfl rfl (v_move (oo rfl ((fr78 4 rfl).trans rfl))) ?_
     refine W.pure (v := (.string x87)) rfl rfl (v_move (oo rfl rfl)) ?_
     obtain ⟨x91, i92, h93⟩ := bd_inv h89
     refine W.lo rfl rfl (Lo.callvPF (ps := [eVar b62 41 rV w83, eSl w83 9 rS x74]) (pw := fun w => [eVar b62 41 rV w, eSl w 9 rS x91.2]) rfl rfl (fn := Try.f70) (by kernel_rfl) rfl (mc rfl mn) O80 (fun L' O' => g_R_NetError_1_ok K x87 b62 w83 x74 O' _ i92)) ?_
     rintro v100 H101 ⟨w98, G94, O95, s96, sm99, rfl⟩
     replace O95 : Ow G94 H101 (eVar b62 41 rV w98 :: eSl w98 9 rS x91.2 :: eVar b2 48 T_Network p0 :: L) := O95
     refine W.pure (v := (.int .i64 x91.1)) rfl rfl (v_assign (oo rfl rfl)) ?_
     refine .nil ?_
     refine .seq ?_
     refine .region ?_
     refine W.pure (v := (.int .i64 x91.1)) rfl rfl (v_move (oo rfl rfl)) ?_
     refine W.pure (v := (.bool (x91.1 != 0))) rfl rfl (v_int (oo rfl rfl) (oo rfl rfl) rfl) ?_
     refine .nil ?_
     refine .cond (b := (x91.1 != 0)) rfl rfl (fun g102 => ?_) (fun g102 => ?_)
     ·have h103 := pos_inv g102 h93
      refine .seq ?_
      refine .region ?_
      refine W.pure (v := (.int .i64 x91.1)) rfl rfl (v_move (oo rfl rfl)) ?_
      refine W.pure (v := (.int .i64 x91.1)) rfl rfl (v_assign (oo rfl rfl)) ?_
      refine .nil ?_
      refine .ret ?_
      have O104 : Ow G94 H101 (eSl w98 9 rS x91.2 :: eVar b2 48 T_Network p0 :: L) := O95.drop 0
      have O105 : Ow G94 H101 (eVar b2 48 T_Network p0 :: L) := O104.drop 0
      have O106 : Ow G94 H101 (L) := O105.drop 0
      obtain rfl := Option.some.inj h103
      have h107 := tu1_inv (outS_l h72)
      obtain rfl := Option.some.inj h107
      refine ret1R (P := Try.prog) (fn := Try.f23) (n := 105) (R := fun v H' => ∃ G', Ow G' H' (L) ∧ G.le G' ∧ v = .int .i64 x91.1) (v1 := (.int .i64 x91.1)) (by rfl) (rr_tmp (by rfl) (by exact rfl)) ?_
      exact ⟨_, O106, (GM.le.trans s53 (GM.le.trans s81 s96)), rfl⟩
     ·have h108 := neg_b g102 h93
      refine .skip ?_
      refine .region ?_
      refine W.pure (v := (.int .i64 (kwrap .i64 (x75 + 1)))) rfl rfl (v_int (oo rfl t84) (oo rfl rfl) rfl) ?_
      refine W.pure (v := (.int .i64 (kwrap .i64 (x75 + 1)))) rfl rfl (v_move (oo rfl rfl)) ?_
      refine .nil ?_
      exact ⟨k73, Nat.lt_succ_self _, ⟨x91.2, kwrap .i64 (x75 + 1), w98, _, h108, O95, (GM.le.trans s81 s96), rfl⟩⟩
    ·have h109 := neg_b g85 h82
     refine .exit ?_
     obtain rfl := Option.some.inj h109
     exact ⟨x74, w83, _, rfl, O80, s81⟩
   ·rintro σ111 H112 fr113 ⟨x110, w118, G114, rfl, O115, s116⟩
    have h119 := tu1_inv (outS_r h72)
    refine .seq ?_
    refine .seq ?_
    refine .region ?_
    obtain ⟨c120, p121, f122⟩ := (O115.atVar (j := 2) rfl)
    refine W.loadA (cs := c120) rfl rfl ag48 sz48 (pt_px ((fr113 1 rfl).trans ((fr50 1 rfl).trans rfl)) p121) (RT.len _ f122) ?_
    obtain ⟨x123, i124, h125⟩ := bd_inv h119
    refine W.lo rfl rfl (Lo.callPF (ps := []) (pw := fun w => [eSl w 114 T_Item x123]) rfl (fn := Try.f71) (by kernel_rfl) rfl (mc rfl mn) O115 (fun L' O' => g_R_items_ok K c120 p0 f122 O' _ i124)) ?_
    rintro v134 H135 ⟨w131, G126, O127, s128, sm133, rfl⟩
    replace O127 : Ow G126 H135 (eSl w131 114 T_Item x123 :: eVar b62 41 rV w118 :: eSl w118 9 rS x110 :: eVar b2 48 T_Network p0 :: L) := O127
    refine W.pure (v := (.int .i64 (List.length x123 : Int))) rfl rfl (len_sl (oo rfl rfl) (O127.slLen (j := 0) rfl) (elemT_inv el111)) ?_
    refine W.pure (v := (.int .i64 0)) rfl rfl (v_move (oo rfl rfl)) ?_
    refine .nil ?_
    obtain ⟨q136, h137, h138⟩ := bindS_inv h125
    refine AW.midT (fun σ' H' => ∃ (y1 : List ByteArray) (w_l3 : Value) (G' : GM), (.inr y1) = q136 ∧ Ow G' H' (eSl w131 114 T_Item x123 :: eVar b62 41 rV w_l3 :: eSl w_l3 9 rS y1 :: eVar b2 48 T_Network p0 :: L) ∧ GM.le G126 G') ?_ ?_
    ·refine .block ?_
     refine AW.loop (α := Nat) (fun k' σ' H' => ∃ (y1 : List ByteArray) (y2 : Int) (w_l3 : Value) (G' : GM), g_R_NetError_l2 K x123 p0 k' y1 y2 = some q136 ∧ Ow G' H' (eSl w131 114 T_Item x123 :: eVar b62 41 rV w_l3 :: eSl w_l3 9 rS y1 :: eVar b2 48 T_Network p0 :: L) ∧ GM.le G126 G' ∧ σ' 65 = .int .i64 y2) (fun k' => k') K ⟨x110, 0, w118, _, h137, O127, (GM.le.refl _), rfl⟩ ?_
     rintro k139
     rintro σ142 H143 fr144 ⟨x140, x141, w149, G145, h148, O146, s147, t150⟩
     rcases k139 with _ | k139
     ·exact none_absurd h148
     rw [g_R_NetError_l2] at h148
     refine .seq ?_
     refine .region ?_
     refine W.pure (v := (.bool (decide (x141 < (List.length x123 : Int))))) rfl rfl (v_int (oo rfl t150) (oo rfl ((fr144 64 rfl).trans rfl)) rfl) ?_
     refine .nil ?_
     refine .seq ?_
     refine .cond (b := decide (x141 < (List.length x123 : Int))) rfl rfl (fun g151 => ?_) (fun g151 => ?_)
     ·have h152 := pos_inv g151 h148
      refine .skip ?_
      refine .seq ?_
      refine .block ?_
      refine .seq ?_
      refine .region ?_
      obtain ⟨x153, i154, h155⟩ := bd_inv h152
      have j156 := idx_inv i154
      refine W.pure (v := (selem w131 (Int.toNat x141 * 4))) rfl rfl (v_idx el111 sz114 (oo rfl ((fr144 63 rfl).trans rfl)) (oo rfl t150) (O146.slLen (j := 0) rfl) j156.1 j156.2.1) ?_
      obtain ⟨c157, p158, f159⟩ := (O146.atSl (j := 0) rfl j156.2.2)
      refine W.loadA (cs := c157) rfl rfl ag114 sz114 (pt_px rfl p158) (RT.len _ f159) ?_
      refine W.lo rfl rfl (Lo.alloc (r := T_Item) (x0 := (Item.mk ByteArray.empty ([] : List ByteArray) false false)) ze114 (by kernel_rfl) z_Item O146) ?_
      rintro v163 H164 ⟨b161, rfl, O160, sm162⟩
      refine W.lo rfl rfl (Lo.storeVar (j := 0) (s := T_Item) (y0 := x153) (v := (.agg (List.toArray c157))) (o := 0) rfl ((Put.at (Put.self _) _ _)) rfl sz114 rfl (by omega) rfl f159 O160) ?_
      rintro v167 H168 ⟨O165, sm166⟩
      replace O165 : Ow G145 H168 (eVar b161 114 T_Item x153 :: eSl w131 114 T_Item x123 :: eVar b62 41 rV w149 :: eSl w149 9 rS x140 :: eVar b2 48 T_Network p0 :: L) := O165
      refine .nil ?_
      refine .seq ?_
      refine .seq ?_
      refine .region ?_
      refine W.pure (v := (.func (.func 70) #[] #[(.pointer (some ⟨b62, 0, none⟩))])) rfl rfl (v_move (oo rfl ((fr144 4 rfl).trans ((fr113 4 rfl).trans rfl)))) ?_
      refine W.pure (v := (padd (.pointer (some ⟨b161, 0, none⟩)) 0)) rfl rfl (v_fldA fl114_0 (oo rfl rfl) (O165.atVar (j := 0) rfl)) ?_
      refine W.load1 (v := (.string x153.name)) (r := []) rfl rfl ag9 (pt_px rfl (At.str (At.proj (O165.atVar (j := 0) rfl) p_Item_name))) ?_
      have O169 : Ow G145 H168 (eVar b2 48 T_Network p0 :: eVar b161 114 T_Item x153 :: eSl w131 114 T_Item x123 :: eVar b62 41 rV w149 :: eSl w149 9 rS x140 :: L) := O165.front (j := 4) rfl
      have O170 : Ow G145 H168 (eSl w131 114 T_Item x123 :: eVar b2 48 T_Network p0 :: eVar b161 114 T_Item x153 :: eVar b62 41 rV w149 :: eSl w149 9 rS x140 :: L) := O169.front (j := 2) rfl
      have O171 : Ow G145 H168 (eVar b161 114 T_Item x153 :: eSl w131 114 T_Item x123 :: eVar b2 48 T_Network p0 :: eVar b62 41 rV w149 :: eSl w149 9 rS x140 :: L) := O170.front (j := 2) rfl
      have O172 : Ow G145 H168 (eSl w149 9 rS x140 :: eVar b161 114 T_Item x153 :: eSl w131 114 T_Item x123 :: eVar b2 48 T_Network p0 :: eVar b62 41 rV w149 :: L) := O171.front (j := 4) rfl
      have O173 : Ow G145 H168 (eVar b62 41 rV w149 :: eSl w149 9 rS x140 :: eVar b161 114 T_Item x153 :: eSl w131 114 T_Item x123 :: eVar b2 48 T_Network p0 :: L) := O172.front (j := 4) rfl
      obtain ⟨x174, i175, h176⟩ := bd_inv h155
      refine W.lo rfl rfl (Lo.callvPF (ps := [eVar b62 41 rV w149, eSl w149 9 rS x140]) (pw := fun w => [eVar b62 41 rV w, eSl w 9 rS x174.2]) rfl rfl (fn := Try.f70) (by kernel_rfl) rfl (mc rfl mn) O173 (fun L' O' => g_R_NetError_1_ok K x153.name b62 w149 x140 O' _ i175)) ?_
      rintro v183 H184 ⟨w181, G177, O178, s179, sm182, rfl⟩
      replace O178 : Ow G177 H184 (eVar b62 41 rV w181 :: eSl w181 9 rS x174.2 :: eVar b161 114 T_Item x153 :: eSl w131 114 T_Item x123 :: eVar b2 48 T_Network p0 :: L) := O178
      refine W.pure (v := (.int .i64 x174.1)) rfl rfl (v_assign (oo rfl rfl)) ?_
      refine .nil ?_
      refine .seq ?_
      refine .region ?_
      refine W.pure (v := (.int .i64 x174.1)) rfl rfl (v_move (oo rfl rfl)) ?_
      refine W.pure (v := (.bool (x174.1 != 0))) rfl rfl (v_int (oo rfl rfl) (oo rfl rfl) rfl) ?_
      refine .nil ?_
      refine .cond (b := (x174.1 != 0)) rfl rfl (fun g185 => ?_) (fun g185 => ?_)
      ·have h186 := pos_inv g185 h176
       refine .seq ?_
       refine .region ?_
       refine W.pure (v := (.int .i64 x174.1)) rfl rfl (v_move (oo rfl rfl)) ?_
       refine W.pure (v := (.int .i64 x174.1)) rfl rfl (v_assign (oo rfl rfl)) ?_
       refine .nil ?_
       refine .ret ?_
       have O187 : Ow G177 H184 (eSl w181 9 rS x174.2 :: eVar b161 114 T_Item x153 :: eSl w131 114 T_Item x123 :: eVar b2 48 T_Network p0 :: L) := O178.drop 0
       have O188 : Ow G177 H184 (eVar b161 114 T_Item x153 :: eSl w131 114 T_Item x123 :: eVar b2 48 T_Network p0 :: L) := O187.drop 0
       have O189 : Ow G177 H184 (eSl w131 114 T_Item x123 :: eVar b2 48 T_Network p0 :: L) := O188.drop 0
       have O190 : Ow G177 H184 (eVar b2 48 T_Network p0 :: L) := O189.drop 0
       have O191 : Ow G177 H184 (L) := O190.drop 0
       obtain rfl := Option.some.inj h186
       have h192 := tu1_inv (outS_l h138)
       obtain rfl := Option.some.inj h192
       refine ret1R (P := Try.prog) (fn := Try.f23) (n := 105) (R := fun v H' => ∃ G', Ow G' H' (L) ∧ G.le G' ∧ v = .int .i64 x174.1) (v1 := (.int .i64 x174.1)) (by rfl) (rr_tmp (by rfl) (by exact rfl)) ?_
       exact ⟨_, O191, (GM.le.trans s53 (GM.le.trans s116 (GM.le.trans s128 (GM.le.trans s147 s179)))), rfl⟩
      ·have h193 := neg_b g185 h176
       refine .skip ?_
       refine .seq ?_
       refine .seq ?_
       refine .region ?_
       refine W.pure (v := (padd (.pointer (some ⟨b161, 0, none⟩)) 1)) rfl rfl (v_fldA fl114_1 (oo rfl rfl) (O178.atVar (j := 2) rfl)) ?_
       obtain ⟨w194, p195, f196⟩ := At.sl (At.proj (O178.atVar (j := 2) rfl) p_Item_nodes)
       refine W.load1 (v := w194) (r := []) rfl rfl ag41 (pt_px rfl p195) ?_
       refine W.pure (v := (.int .i64 (List.length x153.nodes : Int))) rfl rfl (len_sl (oo rfl rfl) (sl_len f196) (elemT_inv el41)) ?_
       refine W.pure (v := (.int .i64 0)) rfl rfl (v_move (oo rfl rfl)) ?_
       refine .nil ?_
       obtain ⟨q197, h198, h199⟩ := bindS_inv h193
       refine AW.midT (fun σ' H' => ∃  (G' : GM), (.inr ()) = q197 ∧ Ow G' H' (eVar b62 41 rV w181 :: eSl w181 9 rS x174.2 :: eVar b161 114 T_Item x153 :: eSl w131 114 T_Item x123 :: eVar b2 48 T_Network p0 :: L) ∧ GM.le G177 G') ?_ ?_
       ·refine .block ?_
        refine AW.loop (α := Nat) (fun k' σ' H' => ∃ (y1 : Int) (G' : GM), g_R_NetError_l4 K p0 x153 k' y1 = some q197 ∧ Ow G' H' (eVar b62 41 rV w181 :: eSl w181 9 rS x174.2 :: eVar b161 114 T_Item x153 :: eSl w131 114 T_Item x123 :: eVar b2 48 T_Network p0 :: L) ∧ GM.le G177 G' ∧ σ' 79 = .int .i64 y1) (fun k' => k') K ⟨0, _, h198, O178, (GM.le.refl _), rfl⟩ ?_
        rintro k200
        rintro σ202 H203 fr204 ⟨x201, G205, h208, O206, s207, t209⟩
        rcases k200 with _ | k200
        ·exact none_absurd h208
        rw [g_R_NetError_l4] at h208
        refine .seq ?_
        refine .region ?_
        refine W.pure (v := (.bool (decide (x201 < (List.length x153.nodes : Int))))) rfl rfl (v_int (oo rfl t209) (oo rfl ((fr204 78 rfl).trans rfl)) rfl) ?_
        refine .nil ?_
        refine .seq ?_
        refine .cond (b := decide (x201 < (List.length x153.nodes : Int))) rfl rfl (fun g210 => ?_) (fun g210 => ?_)
        ·have h211 := pos_inv g210 h208
         refine .skip ?_
         refine .seq ?_
         refine .block ?_
         refine .seq ?_
         refine .region ?_
         obtain ⟨x212, i213, h214⟩ := bd_inv h211
         have j215 := idx_inv i213
         refine W.pure (v := (selem w194 (Int.toNat x201 * 1))) rfl rfl (v_idx el41 sz9 (oo rfl ((fr204 77 rfl).trans rfl)) (oo rfl t209) (sl_len (RT.mono _ s207 f196)) j215.1 j215.2.1) ?_
         refine W.load1 (v := (.string x212)) (r := []) rfl rfl ag9 (pt_px rfl (At.str (At.le (At.le (sl_idx f196 j215.2.2) s207 s207) (GM.le.refl _) O206.fro))) ?_
         refine W.pure (v := (.string x212)) rfl rfl (v_assign (oo rfl rfl)) ?_
         refine .nil ?_
         refine .seq ?_
         refine .region ?_
         refine W.pure (v := (padd (.pointer (some ⟨b2, 0, none⟩)) 0)) rfl rfl (v_fldA fl48_0 (oo rfl ((fr204 1 rfl).trans ((fr144 1 rfl).trans ((fr113 1 rfl).trans ((fr50 1 rfl).trans rfl))))) (O206.atVar (j := 4) rfl)) ?_
         obtain ⟨w216, p217, f218⟩ := At.sl (At.proj (O206.atVar (j := 4) rfl) p_Network_Nodes)
         refine W.load1 (v := w216) (r := []) rfl rfl ag41 (pt_px rfl p217) ?_
         refine W.pure (v := (.string x212)) rfl rfl (v_move (oo rfl rfl)) ?_
         obtain ⟨x219, i220, h221⟩ := bd_inv h214
         refine W.lo rfl rfl (Lo.callP (ps := []) (ps' := []) rfl (fn := Try.f42) (by kernel_rfl) rfl (mc rfl (mc rfl mn)) O206 (fun L' O' => g_R_Has_ok K w216 p0.Nodes f218 x212 O' _ i220)) ?_
         rintro v228 H229 ⟨G222, O223, s224, sm227, rfl⟩
         replace O223 : Ow G222 H229 (eVar b62 41 rV w181 :: eSl w181 9 rS x174.2 :: eVar b161 114 T_Item x153 :: eSl w131 114 T_Item x123 :: eVar b2 48 T_Network p0 :: L) := O223
         refine W.pure (v := (.bool (!x219))) rfl rfl (bool_not (a := x219) (oo rfl rfl)) ?_
         refine .nil ?_
         refine .cond (b := (!x219)) rfl rfl (fun g230 => ?_) (fun g230 => ?_)
         ·have h231 := pos_inv g230 h221
          refine .seq ?_
          refine .region ?_
          refine W.pure (v := (.int .i64 6)) rfl rfl (v_assign (oo rfl rfl)) ?_
          refine .nil ?_
          refine .ret ?_
          have O232 : Ow G222 H229 (eSl w181 9 rS x174.2 :: eVar b161 114 T_Item x153 :: eSl w131 114 T_Item x123 :: eVar b2 48 T_Network p0 :: L) := O223.drop 0
          have O233 : Ow G222 H229 (eVar b161 114 T_Item x153 :: eSl w131 114 T_Item x123 :: eVar b2 48 T_Network p0 :: L) := O232.drop 0
          have O234 : Ow G222 H229 (eSl w131 114 T_Item x123 :: eVar b2 48 T_Network p0 :: L) := O233.drop 0
          have O235 : Ow G222 H229 (eVar b2 48 T_Network p0 :: L) := O234.drop 0
          have O236 : Ow G222 H229 (L) := O235.drop 0
          obtain rfl := Option.some.inj h231
          have h237 := tu1_inv (outS_l h199)
          obtain rfl := Option.some.inj h237
          have h238 := tu1_inv (outS_l h138)
          obtain rfl := Option.some.inj h238
          refine ret1R (P := Try.prog) (fn := Try.f23) (n := 105) (R := fun v H' => ∃ G', Ow G' H' (L) ∧ G.le G' ∧ v = .int .i64 6) (v1 := (.int .i64 6)) (by rfl) (rr_tmp (by rfl) (by exact rfl)) ?_
          exact ⟨_, O236, (GM.le.trans s53 (GM.le.trans s116 (GM.le.trans s128 (GM.le.trans s147 (GM.le.trans s179 (GM.le.trans s207 s224)))))), rfl⟩
         ·have h239 := neg_b g230 h221
          refine .skip ?_
          refine .region ?_
          refine W.pure (v := (.int .i64 (kwrap .i64 (x201 + 1)))) rfl rfl (v_int (oo rfl t209) (oo rfl rfl) rfl) ?_
          refine W.pure (v := (.int .i64 (kwrap .i64 (x201 + 1)))) rfl rfl (v_move (oo rfl rfl)) ?_
          refine .nil ?_
          exact ⟨k200, Nat.lt_succ_self _, ⟨kwrap .i64 (x201 + 1), _, h239, O223, (GM.le.trans s207 s224), rfl⟩⟩
        ·have h240 := neg_b g210 h208
         refine .exit ?_
         obtain rfl := Option.some.inj h240
         exact ⟨_, rfl, O206, s207⟩
       ·rintro σ241 H242 fr243 ⟨G244, rfl, O245, s246⟩
        have h248 := tu0_inv (outS_r h199)
        refine .seq ?_
        refine .seq ?_
        obtain ⟨q249, h250, h251⟩ := bd_inv h248
        refine AW.midT (fun σ' H' => ∃ (y1 : Bool) (G' : GM), y1 = q249 ∧ Ow G' H' (eVar b62 41 rV w181 :: eSl w181 9 rS x174.2 :: eVar b161 114 T_Item x153 :: eSl w131 114 T_Item x123 :: eVar b2 48 T_Network p0 :: L) ∧ GM.le G244 G' ∧ σ' 101 = .bool y1) ?_ ?_
        ·refine .draw2 (M := [0, 1, 3, 7, 15, 31, 63, 7, 135, 391, 903, 2047, 4095]) mixed (by kernel_rfl) (by kernel_rfl) fun H252 N256 x253 F255 => ?_
         have O254 := O245.ext x253
         refine D2.pure (v := (padd (.pointer (some ⟨b161, 0, none⟩)) 2)) rfl rfl (v_fldA fl114_2 (oo rfl ((fr243 9 rfl).trans rfl)) (O254.atVar (j := 2) rfl)) ?_
         refine D2.load1' (v := (.bool x153.apart)) (r := []) rfl rfl ag4 (pt_px rfl (At.bool (At.proj (O254.atVar (j := 2) rfl) p_Item_apart))) fa_nil ?_
         refine D2.pure (v := (.bool x153.apart)) rfl rfl (v_move (oo rfl rfl)) ?_
         refine D2.splitAt (t := 91) (b := x153.apart) rfl (fun g257 gv258 => ?_) (fun g257 gv258 => ?_)
         ·have h259 := pos_inv g257 h250
          refine D2.pure (v := (padd (.pointer (some ⟨b161, 0, none⟩)) 1)) (gk rfl rfl gv258 rfl) rfl (v_fldA fl114_1 (oo rfl ((fr243 9 rfl).trans rfl)) (O254.atVar (j := 2) rfl)) ?_
          obtain ⟨w260, p261, f262⟩ := At.sl (At.proj (O254.atVar (j := 2) rfl) p_Item_nodes)
          refine D2.load1' (v := w260) (r := []) (gk rfl rfl gv258 rfl) rfl ag41 (pt_px rfl p261) fa_nil ?_
          obtain ⟨x263, i264, h265⟩ := bd_inv h259
          have j266 := idx_inv i264
          refine D2.pure (v := (selem w260 (Int.toNat 0 * 1))) (gk rfl rfl gv258 rfl) rfl (v_idx el41 sz9 (oo rfl rfl) (oo rfl rfl) (sl_len f262) j266.1 j266.2.1) ?_
          refine D2.load1' (v := (.string x263)) (r := []) (gk rfl rfl gv258 rfl) rfl ag9 (pt_px rfl (At.str (At.le (sl_idx f262 j266.2.2) (GM.le.refl _) O254.fro))) fa_nil ?_
          refine D2.pure (v := (padd (.pointer (some ⟨b161, 0, none⟩)) 1)) (gk rfl rfl gv258 rfl) rfl (v_fldA fl114_1 (oo rfl ((fr243 9 rfl).trans rfl)) (O254.atVar (j := 2) rfl)) ?_
          obtain ⟨w267, p268, f269⟩ := At.sl (At.proj (O254.atVar (j := 2) rfl) p_Item_nodes)
          refine D2.load1' (v := w267) (r := []) (gk rfl rfl gv258 rfl) rfl ag41 (pt_px rfl p268) fa_nil ?_
          obtain ⟨x270, i271, h272⟩ := bd_inv h265
          have j273 := idx_inv i271
          refine D2.pure (v := (selem w267 (Int.toNat 1 * 1))) (gk rfl rfl gv258 rfl) rfl (v_idx el41 sz9 (oo rfl rfl) (oo rfl rfl) (sl_len f269) j273.1 j273.2.1) ?_
          refine D2.load1' (v := (.string x270)) (r := []) (gk rfl rfl gv258 rfl) rfl ag9 (pt_px rfl (At.str (At.le (sl_idx f269 j273.2.2) (GM.le.refl _) O254.fro))) fa_nil ?_
          refine D2.pure (v := (.bool (sEq x263 x270))) (gk rfl rfl gv258 rfl) rfl (vs_eql (oo rfl rfl) (oo rfl rfl)) ?_
          refine D2.pure (v := (.bool (sEq x263 x270))) rfl rfl (v_pickT (oo rfl gv258) (oo rfl rfl)) ?_
          refine .nil ?_
          obtain rfl := Option.some.inj h272
          exact ⟨sEq x263 x270, _, rfl, O254, (GM.le.refl _), rfl⟩
         ·have h274 := neg_b g257 h250
          refine D2.skip (gk rfl rfl gv258 rfl) rfl ?_
          refine D2.skip (gk rfl rfl gv258 rfl) rfl ?_
          refine D2.skip (gk rfl rfl gv258 rfl) rfl ?_
          refine D2.skip (gk rfl rfl gv258 rfl) rfl ?_
          refine D2.skip (gk rfl rfl gv258 rfl) rfl ?_
          refine D2.skip (gk rfl rfl gv258 rfl) rfl ?_
          refine D2.skip (gk rfl rfl gv258 rfl) rfl ?_
          refine D2.skip (gk rfl rfl gv258 rfl) rfl ?_
          refine D2.skip (gk rfl rfl gv258 rfl) rfl ?_
          refine D2.pure (v := (.bool false)) rfl rfl (v_pickF (oo rfl gv258) (oo rfl rfl)) ?_
          refine .nil ?_
          obtain rfl := Option.some.inj h274
          exact ⟨false, _, rfl, O254, (GM.le.refl _), rfl⟩
        ·rintro σ276 H277 fr278 ⟨x275, G279, rfl, O280, s281, t283⟩
         have h284 := tu1_inv h251
         refine .cond (b := x275) rfl t283 (fun g285 => ?_) (fun g285 => ?_)
         ·have h286 := pos_inv g285 h284
          refine .seq ?_
          refine .region ?_
          refine W.pure (v := (.int .i64 3)) rfl rfl (v_assign (oo rfl rfl)) ?_
          refine .nil ?_
          refine .ret ?_
          have O287 : Ow G279 H277 (eSl w181 9 rS x174.2 :: eVar b161 114 T_Item x153 :: eSl w131 114 T_Item x123 :: eVar b2 48 T_Network p0 :: L) := O280.drop 0
          have O288 : Ow G279 H277 (eVar b161 114 T_Item x153 :: eSl w131 114 T_Item x123 :: eVar b2 48 T_Network p0 :: L) := O287.drop 0
          have O289 : Ow G279 H277 (eSl w131 114 T_Item x123 :: eVar b2 48 T_Network p0 :: L) := O288.drop 0
          have O290 : Ow G279 H277 (eVar b2 48 T_Network p0 :: L) := O289.drop 0
          have O291 : Ow G279 H277 (L) := O290.drop 0
          obtain rfl := Option.some.inj h286
          have h292 := tu1_inv (outS_l h138)
          obtain rfl := Option.some.inj h292
          refine ret1R (P := Try.prog) (fn := Try.f23) (n := 105) (R := fun v H' => ∃ G', Ow G' H' (L) ∧ G.le G' ∧ v = .int .i64 3) (v1 := (.int .i64 3)) (by rfl) (rr_tmp (by rfl) (by exact rfl)) ?_
          exact ⟨_, O291, (GM.le.trans s53 (GM.le.trans s116 (GM.le.trans s128 (GM.le.trans s147 (GM.le.trans s179 (GM.le.trans s246 s281)))))), rfl⟩
         ·have h293 := neg_b g285 h284
          refine .skip ?_
          refine .seq ?_
          refine .region ?_
          refine W.pure (v := (padd (.pointer (some ⟨b161, 0, none⟩)) 3)) rfl rfl (v_fldA fl114_3 (oo rfl ((fr278 9 rfl).trans ((fr243 9 rfl).trans rfl))) (O280.atVar (j := 2) rfl)) ?_
          refine W.load1 (v := (.bool x153.bad)) (r := []) rfl rfl ag4 (pt_px rfl (At.bool (At.proj (O280.atVar (j := 2) rfl) p_Item_bad))) ?_
          refine .nil ?_
          refine .cond (b := x153.bad) rfl rfl (fun g294 => ?_) (fun g294 => ?_)
          ·have h295 := pos_inv g294 h293
           refine .seq ?_
           refine .region ?_
           refine W.pure (v := (.int .i64 4)) rfl rfl (v_assign (oo rfl rfl)) ?_
           refine .nil ?_
           refine .ret ?_
           have O296 : Ow G279 H277 (eSl w181 9 rS x174.2 :: eVar b161 114 T_Item x153 :: eSl w131 114 T_Item x123 :: eVar b2 48 T_Network p0 :: L) := O280.drop 0
           have O297 : Ow G279 H277 (eVar b161 114 T_Item x153 :: eSl w131 114 T_Item x123 :: eVar b2 48 T_Network p0 :: L) := O296.drop 0
           have O298 : Ow G279 H277 (eSl w131 114 T_Item x123 :: eVar b2 48 T_Network p0 :: L) := O297.drop 0
           have O299 : Ow G279 H277 (eVar b2 48 T_Network p0 :: L) := O298.drop 0
           have O300 : Ow G279 H277 (L) := O299.drop 0
           obtain rfl := Option.some.inj h295
           have h301 := tu1_inv (outS_l h138)
           obtain rfl := Option.some.inj h301
           refine ret1R (P := Try.prog) (fn := Try.f23) (n := 105) (R := fun v H' => ∃ G', Ow G' H' (L) ∧ G.le G' ∧ v = .int .i64 4) (v1 := (.int .i64 4)) (by rfl) (rr_tmp (by rfl) (by exact rfl)) ?_
           exact ⟨_, O300, (GM.le.trans s53 (GM.le.trans s116 (GM.le.trans s128 (GM.le.trans s147 (GM.le.trans s179 (GM.le.trans s246 s281)))))), rfl⟩
          ·have h302 := neg_b g294 h293
           refine .skip ?_
           refine .region ?_
           refine W.pure (v := (.int .i64 (kwrap .i64 (x141 + 1)))) rfl rfl (v_int (oo rfl ((fr278 65 rfl).trans ((fr243 65 rfl).trans t150))) (oo rfl rfl) rfl) ?_
           refine W.pure (v := (.int .i64 (kwrap .i64 (x141 + 1)))) rfl rfl (v_move (oo rfl rfl)) ?_
           refine .nil ?_
           have O303 : Ow G279 H277 (eVar b62 41 rV w181 :: eSl w181 9 rS x174.2 :: eSl w131 114 T_Item x123 :: eVar b2 48 T_Network p0 :: L) := O280.drop 2
           have O304 : Ow G279 H277 (eVar b2 48 T_Network p0 :: eVar b62 41 rV w181 :: eSl w181 9 rS x174.2 :: eSl w131 114 T_Item x123 :: L) := O303.front (j := 3) rfl
           have O305 : Ow G279 H277 (eSl w181 9 rS x174.2 :: eVar b2 48 T_Network p0 :: eVar b62 41 rV w181 :: eSl w131 114 T_Item x123 :: L) := O304.front (j := 2) rfl
           have O306 : Ow G279 H277 (eVar b62 41 rV w181 :: eSl w181 9 rS x174.2 :: eVar b2 48 T_Network p0 :: eSl w131 114 T_Item x123 :: L) := O305.front (j := 2) rfl
           have O307 : Ow G279 H277 (eSl w131 114 T_Item x123 :: eVar b62 41 rV w181 :: eSl w181 9 rS x174.2 :: eVar b2 48 T_Network p0 :: L) := O306.front (j := 3) rfl
           exact ⟨k139, Nat.lt_succ_self _, ⟨x174.2, kwrap .i64 (x141 + 1), w181, _, h302, O307, (GM.le.trans s147 (GM.le.trans s179 (GM.le.trans s246 s281))), rfl⟩⟩
     ·have h309 := neg_b g151 h148
      refine .exit ?_
      obtain rfl := Option.some.inj h309
      exact ⟨x140, w149, _, rfl, O146, s147⟩
    ·rintro σ311 H312 fr313 ⟨x310, w318, G314, rfl, O315, s316⟩
     have h319 := tu1_inv (outS_r h138)
     refine .seq ?_
     refine .region ?_
     refine W.pure (v := (.int .i64 0)) rfl rfl (v_assign (oo rfl rfl)) ?_
     refine .nil ?_
     refine .ret ?_
     have O320 : Ow G314 H312 (eVar b62 41 rV w318 :: eSl w318 9 rS x310 :: eVar b2 48 T_Network p0 :: L) := O315.drop 0
     have O321 : Ow G314 H312 (eSl w318 9 rS x310 :: eVar b2 48 T_Network p0 :: L) := O320.drop 0
     have O322 : Ow G314 H312 (eVar b2 48 T_Network p0 :: L) := O321.drop 0
     have O323 : Ow G314 H312 (L) := O322.drop 0
     obtain rfl := Option.some.inj h319
     refine ret1R (P := Try.prog) (fn := Try.f23) (n := 105) (R := fun v H' => ∃ G', Ow G' H' (L) ∧ G.le G' ∧ v = .int .i64 0) (v1 := (.int .i64 0)) (by rfl) (rr_tmp (by rfl) (by exact rfl)) ?_
     exact ⟨_, O323, (GM.le.trans s53 (GM.le.trans s116 (GM.le.trans s128 s316))), rfl⟩
end Go.Am.Try
