/- Typed functions with the same answers as the program's, and the walks that show it. -/
import Derived.Test.YtlcdhgcfamjioaaP6x0Z8
namespace Go.Am.Try
open Go Go.Am Go.Proofs
set_option linter.unusedVariables false
set_option linter.unusedSimpArgs false
set_option maxRecDepth 10000

def g_graph_Way_l4 (K : Nat) (x35 : Int) (x71 : List Int) (x103 : Int) (x107 : Int) : Nat → List Int → Bool → Int → Option (List Int × Bool)
 | 0, _, _, _ => none
 | k + 1, x121, x122, x123 => (if (decide (x123 < 2)) = true then (Option.bind (((idx [x71, [x103, x107]] x123).bind fun x138 => (Option.bind (((idx x138 0).bind fun x155 => ((idx x121 x155).bind fun x159 => (if (x159 == x35) = true then ((idx x138 1).bind fun x166 => ((idx x121 x166).bind fun x170 => some (decide (x170 < 0)))) else some false)))) (tu1 fun x175 => (if x175 = true then ((idx x138 1).bind fun x187 => ((idx x121 x187).bind fun x191 => some ((List.set x121 (Int.toNat x187) (kwrap .i64 (x35 + 1))), true))) else some (x121, x122)))))) (tu2 fun x202 x203 => g_graph_Way_l4 K x35 x71 x103 x107 k x202 x203 (kwrap .i64 (x123 + 1)))) else some (x121, x122))
def g_graph_Way_l2 (K : Nat) (p1 : List (List Int)) (p4 : Int → Option Bool) (x35 : Int) : Nat → List Int → Bool → Int → Option (List Int × Bool)
 | 0, _, _, _ => none
 | k + 1, x54, x55, x56 => (if (decide (x56 < (List.length p1 : Int))) = true then (Option.bind (((idx p1 x56).bind fun x71 => ((p4 x56).bind fun x87 => (if (!x87) = true then some (x54, x55) else ((idx x71 1).bind fun x103 => ((idx x71 0).bind fun x107 => (Option.bind (g_graph_Way_l4 K x35 x71 x103 x107 K x54 x55 0) (tu2 fun x214 x215 => some (x214, x215))))))))) (tu2 fun x226 x227 => g_graph_Way_l2 K p1 p4 x35 k x226 x227 (kwrap .i64 (x56 + 1)))) else some (x54, x55))
def g_graph_Way_l0 (K : Nat) (p2 : Int) (p1 : List (List Int)) (p4 : Int → Option Bool) : Nat → List Int → Int → Option ((List Int × Bool) ⊕ (List Int))
 | 0, _, _ => none
 | k + 1, x34, x35 => ((idx x34 p2).bind fun x44 => (if (decide (x44 < 0)) = true then (Option.bind (g_graph_Way_l2 K p1 p4 x35 K x34 false 0) (tu2 fun x238 x239 => (Option.bind ((if (!x239) = true then ((idx x238 p2).bind fun x255 => some (decide (x255 < 0))) else some false)) (tu1 fun x260 => (if x260 = true then some (.inl ([], false)) else g_graph_Way_l0 K p2 p1 p4 k x238 (kwrap .i64 (x35 + 1))))))) else some (.inr x34)))
def g_graph_Way_l8 (K : Nat) (p1 : List (List Int)) (p4 : Int → Option Bool) (x277 : List Int) (x291 : List Int) (x292 : Int) : Nat → Int → Option (List Int × Int)
 | 0, _ => none
 | k + 1, x307 => (if (decide (x307 < (List.length p1 : Int))) = true then ((idx p1 x307).bind fun x320 => ((idx x320 0).bind fun x336 => ((idx x320 1).bind fun x340 => (Option.bind (((p4 x307).bind fun x352 => (if x352 = true then ((idx x320 0).bind fun x364 => (if (x364 == x292) = true then ((idx x277 (kwrap .i64 ((kwrap .i64 (x336 + x340)) - x292))).bind fun x371 => ((idx x277 x292).bind fun x375 => some (x371 == (kwrap .i64 (x375 - 1))))) else ((idx x320 1).bind fun x380 => (if (x380 == x292) = true then ((idx x277 (kwrap .i64 ((kwrap .i64 (x336 + x340)) - x292))).bind fun x387 => ((idx x277 x292).bind fun x391 => some (x387 == (kwrap .i64 (x391 - 1))))) else some false)))) else some false))) (tu1 fun x397 => (if x397 = true then (if List.length x291 + List.length [x307] ≤ 16777216 then some ((x291 ++ [x307]), kwrap .i64 ((kwrap .i64 (x336 + x340)) - x292)) else none) else g_graph_Way_l8 K p1 p4 x277 x291 x292 k (kwrap .i64 (x307 + 1)))))))) else some (x291, x292))
def g_graph_Way_l6 (K : Nat) (p3 : Int) (p1 : List (List Int)) (p4 : Int → Option Bool) (x277 : List Int) : Nat → List Int → Int → Option (List Int)
 | 0, _, _ => none
 | k + 1, x291, x292 => (if (x292 != p3) = true then (Option.bind (g_graph_Way_l8 K p1 p4 x277 x291 x292 K 0) (tu2 fun x427 x428 => g_graph_Way_l6 K p3 p1 p4 x277 k x427 x428)) else some x291)
def g_graph_Way (K : Nat) (p0 : Int) (p1 : List (List Int)) (p2 : Int) (p3 : Int) (p4 : Int → Option Bool) : Option (List Int × Bool) := ((g_slices_Repeat_int K [(-1)] p0).bind fun x9 => ((idx x9 p3).bind fun x22 => (bindS (g_graph_Way_l0 K p2 p1 p4 K (List.set x9 (Int.toNat p3) 0) 0) (tu2 fun a451 a452 => some (a451, a452)) (tu1 fun x277 => (Option.bind (g_graph_Way_l6 K p3 p1 p4 x277 K [] p2) (tu1 fun x441 => some (x441, true)))))))
set_option maxHeartbeats 4000000 in
theorem g_graph_Way_ok (K : Nat) {G : GM} {H : AH} {L : List Pc} (p0 : Int) (v1 : Value) (p1 : List (List Int)) (hp1 : (rSl (rArr 2 (rI .i64))).rep G [v1] p1) (p2 : Int) (p3 : Int) (v4 : Value) (p4 : Int → Option Bool) (hp4 : FnOk Try.prog G v4 (fun _ vs (x : (Int)) => vs = [.int .i64 x]) (fun _ v (rr : (Bool)) => v = .bool rr) p4) (O : Ow G H (L)) (r : List Int × Bool) (h : g_graph_Way K p0 p1 p2 p3 p4 = some r) :
  CRF Try.prog 58 [(.int .i64 p0), v1, (.int .i64 p2), (.int .i64 p3), v4] G H (fun w0 => (eSl w0 3 (rI .i64) r.1 :: L)) (fun w0 v G' => v = .tuple #[w0, .bool r.2]) := by
 unfold g_graph_Way at h
 refine CRF.of (calls_of_AW (n := 140) (fn := Try.f58) (R := fun v H' => ∃ w0 G', Ow G' H' (eSl w0 3 (rI .i64) r.1 :: L) ∧ G.le G' ∧ v = .tuple #[w0, .bool r.2]) (by kernel_rfl) rfl rfl ?_)
 refine .seq ?_
 refine .region ?_
 refine W.pure (v := (.slice none 0 0)) rfl rfl (v_assign (oo rfl rfl)) ?_
 refine W.pure (v := (.bool false)) rfl rfl (v_assign (oo rfl rfl)) ?_
 refine .nil ?_
 refine .seq ?_
 refine .region ?_
 refine W.lo rfl rfl (Lo.buildSlice (r := (rI .i64)) (vs := [(.int .i64 (-1))]) (xs := [(-1)]) el24 ze3 sz3 (by kernel_rfl) rfl (qc rfl qn) rfl (.cons rfl .nil) O) ?_
 rintro v3 H4 ⟨O1, sm2⟩
 refine W.pure (v := (.int .i64 p0)) rfl rfl (v_move (oo rfl rfl)) ?_
 obtain ⟨G5, O6, s7, f8⟩ := O1.frzSl (j := 0) rfl
 replace O6 : Ow G5 H4 (L) := O6
 obtain ⟨x9, i10, h11⟩ := bd_inv h
 refine W.lo rfl rfl (Lo.callPF (ps := []) (pw := fun w => [eSl w 3 (rI .i64) x9]) rfl (fn := Try.f97) (by kernel_rfl) rfl (mc rfl (mc rfl mn)) O6 (fun L' O' => g_slices_Repeat_int_ok K v3 [(-1)] f8 p0 O' _ i10)) ?_
 rintro v20 H21 ⟨w17, G12, O13, s14, sm19, rfl⟩
 replace O13 : Ow G12 H21 (eSl w17 3 (rI .i64) x9 :: L) := O13
 refine W.pure (v := w17) rfl rfl (v_assign (oo rfl rfl)) ?_
 refine .nil ?_
 refine .seq ?_
 refine .region ?_
 refine W.pure (v := w17) rfl rfl (v_move (oo rfl rfl)) ?_
 refine W.pure (v := (.int .i64 p3)) rfl rfl (v_move (oo rfl rfl)) ?_
 obtain ⟨x22, i23, h24⟩ := bd_inv h11
 have j25 := idx_inv i23
 refine W.pure (v := (selem w17 (Int.toNat p3 * 1))) rfl rfl (v_idx el24 sz3 (oo rfl rfl) (oo rfl rfl) (O13.slLen (j := 0) rfl) j25.1 j25.2.1) ?_
 refine W.lo rfl rfl (Lo.storeSl0 (j := 0) (y0 := 0) (v := (.int .i64 0)) rfl j25.2.2  rfl sz3 rfl rfl rfl O13) ?_
 rintro v28 H29 ⟨O26, sm27⟩
 replace O26 : Ow G12 H29 (eSl w17 3 (rI .i64) (List.set x9 (Int.toNat p3) 0) :: L) := O26
 refine .nil ?_
 refine .seq ?_
 refine .seq ?_
 refine .region ?_
 refine W.pure (v := (.int .i64 0)) rfl rfl (v_assign (oo rfl rfl)) ?_
 refine .nil ?_
 obtain ⟨q30, h31, h32⟩ := bindS_inv h24
 refine AW.midT (fun σ' H' => ∃ (y1 : List Int) (G' : GM), (.inr y1) = q30 ∧ Ow G' H' (eSl w17 3 (rI .i64) y1 :: L) ∧ GM.le G12 G') ?_ ?_
 ·refine .block ?_
  refine AW.loop (α := Nat) (fun k' σ' H' => ∃ (y1 : List Int) (y2 : Int) (G' : GM), g_graph_Way_l0 K p2 p1 p4 k' y1 y2 = some q30 ∧ Ow G' H' (eSl w17 3 (rI .i64) y1 :: L) ∧ GM.le G12 G' ∧ σ' 13 = .int .i64 y2) (fun k' => k') K ⟨(List.set x9 (Int.toNat p3) 0), 0, _, h31, O26, (GM.le.refl _), rfl⟩ ?_
  rintro k33
  rintro σ36 H37 fr38 ⟨x34, x35, G39, h42, O40, s41, t43⟩
  rcases k33 with _ | k33
  ·exact none_absurd h42
  rw [g_graph_Way_l0] at h42
  refine .seq ?_
  refine .seq ?_
  refine .region ?_
  refine W.pure (v := w17) rfl rfl (v_move (oo rfl ((fr38 12 rfl).trans rfl))) ?_
  refine W.pure (v := (.int .i64 p2)) rfl rfl (v_move (oo rfl ((fr38 2 rfl).trans rfl))) ?_
  obtain ⟨x44, i45, h46⟩ := bd_inv h42
  have j47 := idx_inv i45
  refine W.pure (v := (selem w17 (Int.toNat p2 * 1))) rfl rfl (v_idx el24 sz3 (oo rfl rfl) (oo rfl rfl) (O40.slLen (j := 0) rfl) j47.1 j47.2.1) ?_
  refine W.load1 (v := (.int .i64 x44)) (r := []) rfl rfl ag3 (pt_px rfl (At.int (O40.atSl (j := 0) rfl j47.2.2))) ?_
  refine W.pure (v := (.bool (decide (x44 < 0)))) rfl rfl (v_int (oo rfl rfl) (oo rfl rfl) rfl) ?_
  refine .nil ?_
  refine .cond (b := decide (x44 < 0)) rfl rfl (fun g48 => ?_) (fun g48 => ?_)
  ·have h49 := pos_inv g48 h46
   refine .skip ?_
   refine .seq ?_
   refine .block ?_
   refine .seq ?_
   refine .region ?_
   refine W.pure (v := (.bool false)) rfl rfl (v_assign (oo rfl rfl)) ?_
   refine .nil ?_
   refine .seq ?_
   refine .seq ?_
   refine .region ?_
   refine W.pure (v := v1) rfl rfl (v_move (oo rfl ((fr38 1 rfl).trans rfl))) ?_
   refine W.pure (v := (.int .i64 (List.length p1 : Int))) rfl rfl (len_sl (oo rfl rfl) (sl_len (RT.mono _ (GM.le.trans s7 (GM.le.trans s14 s41)) hp1)) (elemT_inv el22)) ?_
   refine W.pure (v := (.int .i64 0)) rfl rfl (v_move (oo rfl rfl)) ?_
   refine .nil ?_
   obtain ⟨q50, h51, h52⟩ := bd_inv h49
   refine AW.midT (fun σ' H' => ∃ (y1 : List Int) (y2 : Bool) (G' : GM), (y1, y2) = q50 ∧ Ow G' H' (eSl w17 3 (rI .i64) y1 :: L) ∧ GM.le G39 G' ∧ σ' 14 = .bool y2) ?_ ?_
   ·refine .block ?_
    refine AW.loop (α := Nat) (fun k' σ' H' => ∃ (y1 : List Int) (y2 : Bool) (y3 : Int) (G' : GM), g_graph_Way_l2 K p1 p4 x35 k' y1 y2 y3 = some q50 ∧ Ow G' H' (eSl w17 3 (rI .i64) y1 :: L) ∧ GM.le G39 G' ∧ σ' 14 = .bool y2 ∧ σ' 38 = .int .i64 y3) (fun k' => k') K ⟨x34, false, 0, _, h51, O40, (GM.le.refl _), rfl, rfl⟩ ?_
    rintro k53
    rintro σ57 H58 fr59 ⟨x54, x55, x56, G60, h63, O61, s62, t64, t65⟩
    rcases k53 with _ | k53
    ·exact none_absurd h63
    rw [g_graph_Way_l2] at h63
    refine .seq ?_
    refine .region ?_
    refine W.pure (v := (.bool (decide (x56 < (List.length p1 : Int))))) rfl rfl (v_int (oo rfl t65) (oo rfl ((fr59 37 rfl).trans rfl)) rfl) ?_
    refine .nil ?_
    refine .seq ?_
    refine .cond (b := decide (x56 < (List.length p1 : Int))) rfl rfl (fun g66 => ?_) (fun g66 => ?_)
    ·have h67 := pos_inv g66 h63
     refine .skip ?_
     refine .seq ?_
     obtain ⟨q68, h69, h70⟩ := bd_inv h67
     refine AW.midT (fun σ' H' => ∃ (y1 : List Int) (y2 : Bool) (G' : GM), (y1, y2) = q68 ∧ Ow G' H' (eSl w17 3 (rI .i64) y1 :: L) ∧ GM.le G60 G' ∧ σ' 14 = .bool y2) ?_ ?_
     ·refine .block ?_
      refine .seq ?_
      refine .region ?_
      refine W.pure (v := (.int .i64 x56)) rfl rfl (v_move (oo rfl t65)) ?_
      obtain ⟨x71, i72, h73⟩ := bd_inv h69
      have j74 := idx_inv i72
      refine W.pure (v := (selem v1 (Int.toNat x56 * 2))) rfl rfl (v_idx el22 sz29 (oo rfl ((fr59 36 rfl).trans rfl)) (oo rfl t65) (sl_len (RT.mono _ (GM.le.trans s7 (GM.le.trans s14 (GM.le.trans s41 s62))) hp1)) j74.1 j74.2.1) ?_
      obtain ⟨c75, p76, f77⟩ := (At.le (At.le (sl_idx hp1 j74.2.2) (GM.le.trans s7 (GM.le.trans s14 (GM.le.trans s41 s62))) (GM.le.trans s7 (GM.le.trans s14 (GM.le.trans s41 s62)))) (GM.le.refl _) O61.fro)
      refine W.loadA (cs := c75) rfl rfl ag29 sz29 (pt_px rfl p76) (RT.len _ f77) ?_
      refine W.lo rfl rfl (Lo.alloc (r := (rArr 2 (rI .i64))) (x0 := (List.replicate 2 0)) ze29 (by kernel_rfl) (fun G => ⟨by simp, List.replicate 2 [.int .i64 0], rfl, All2.replicate ((zI .i64) G) 2⟩) O61) ?_
      rintro v81 H82 ⟨b79, rfl, O78, sm80⟩
      refine W.pure (v := (.int .i64 x56)) rfl rfl (v_assign (oo rfl rfl)) ?_
      refine W.lo rfl rfl (Lo.storeVar (j := 0) (s := (rArr 2 (rI .i64))) (y0 := x71) (v := (.agg (List.toArray c75))) (o := 0) rfl ((Put.at (Put.self _) _ _)) rfl sz29 rfl (by omega) rfl f77 O78) ?_
      rintro v85 H86 ⟨O83, sm84⟩
      replace O83 : Ow G60 H86 (eVar b79 29 (rArr 2 (rI .i64)) x71 :: eSl w17 3 (rI .i64) x54 :: L) := O83
      refine .nil ?_
      refine .seq ?_
      refine .seq ?_
      refine .region ?_
      refine W.pure (v := v4) rfl rfl (v_move (oo rfl ((fr59 4 rfl).trans ((fr38 4 rfl).trans rfl)))) ?_
      refine W.pure (v := (.int .i64 x56)) rfl rfl (v_move (oo rfl rfl)) ?_
      obtain ⟨x87, i88, h89⟩ := bd_inv h73
      refine W.lo rfl rfl (Lo.callF (x0 := x56) rfl rfl (FnOk.le hp4 (GM.le.trans s7 (GM.le.trans s14 (GM.le.trans s41 s62)))) (mc rfl mn) rfl i88 O83) ?_
      rintro v94 H95 ⟨G90, O91, s92, sm93, rfl⟩
      refine W.pure (v := (.bool (!x87))) rfl rfl (bool_not (a := x87) (oo rfl rfl)) ?_
      refine .nil ?_
      refine .cond (b := (!x87)) rfl rfl (fun g96 => ?_) (fun g96 => ?_)
      ·have h97 := pos_inv g96 h89
       refine .exit ?_
       have O98 : Ow G90 H95 (eSl w17 3 (rI .i64) x54 :: L) := O91.drop 0
       obtain rfl := Option.some.inj h97
       exact ⟨x54, x55, _, rfl, O98, s92, t64⟩
      ·have h99 := neg_b g96 h89
       refine .skip ?_
       refine .seq ?_
       refine .region ?_
       obtain ⟨c100, p101, f102⟩ := (O91.atVar (j := 0) rfl)
       refine W.loadA (cs := c100) rfl rfl ag29 sz29 (pt_px rfl p101) (RT.len _ f102) ?_
       obtain ⟨x103, i104, h105⟩ := bd_inv h99
       have j106 := idx_inv i104
       refine W.pure (v := (padd (.pointer (some ⟨b79, 0, none⟩)) (Int.toNat 1 * 1))) rfl rfl (v_idxAA ar29 sz3 (oo rfl rfl) (oo rfl rfl) (O91.atVar (j := 0) rfl) j106.1 j106.2.1) ?_
       refine W.load1 (v := (.int .i64 x103)) (r := []) rfl rfl ag3 (pt_px rfl (At.int (At.aidx (O91.atVar (j := 0) rfl) j106.2.2))) ?_
       obtain ⟨x107, i108, h109⟩ := bd_inv h105
       have j110 := idx_inv i108
       refine W.pure (v := (padd (.pointer (some ⟨b79, 0, none⟩)) (Int.toNat 0 * 1))) rfl rfl (v_idxAA ar29 sz3 (oo rfl rfl) (oo rfl rfl) (O91.atVar (j := 0) rfl) j110.1 j110.2.1) ?_
       refine W.load1 (v := (.int .i64 x107)) (r := []) rfl rfl ag3 (pt_px rfl (At.int (At.aidx (O91.atVar (j := 0) rfl) j110.2.2))) ?_
       obtain ⟨c111, e113, f112⟩ := v_buildAA (P := Try.prog) (r := (rI .i64)) (vs := [(.int .i64 x103), (.int .i64 x107)]) (xs := [x103, x107]) ar29 sz3 ze29 zo29 rfl (by kernel_rfl) (.cons rfl (.cons rfl .nil))
       refine W.pure (v := .agg (List.toArray c111)) rfl rfl (e113 (opndP_oo rfl (qc rfl (qc rfl qn)))) ?_
       obtain ⟨c114, e116, f115⟩ := v_buildAA (P := Try.prog) (r := (rArr 2 (rI .i64))) (vs := [(.agg (List.toArray c100)), (.agg (List.toArray c111))]) (xs := [x71, [x103, x107]]) ar135 sz29 ze135 zo135 rfl (by kernel_rfl) (.cons f102 (.cons f112 .nil))
       refine W.pure (v := .agg (List.toArray c114)) rfl rfl (e116 (opndP_oo rfl (qc rfl (qc rfl qn)))) ?_
       refine W.pure (v := (.int .i64 0)) rfl rfl (v_move (oo rfl rfl)) ?_
       refine .nil ?_
       obtain ⟨q117, h118, h119⟩ := bd_inv h109
       refine AW.midT (fun σ' H' => ∃ (y1 : List Int) (y2 : Bool) (G' : GM), (y1, y2) = q117 ∧ Ow G' H' (eVar b79 29 (rArr 2 (rI .i64)) x71 :: eSl w17 3 (rI .i64) y1 :: L) ∧ GM.le G90 G' ∧ σ' 14 = .bool y2) ?_ ?_
       ·refine .block ?_
        refine AW.loop (α := Nat) (fun k' σ' H' => ∃ (y1 : List Int) (y2 : Bool) (y3 : Int) (G' : GM), g_graph_Way_l4 K x35 x71 x103 x107 k' y1 y2 y3 = some q117 ∧ Ow G' H' (eVar b79 29 (rArr 2 (rI .i64)) x71 :: eSl w17 3 (rI .i64) y1 :: L) ∧ GM.le G90 G' ∧ σ' 14 = .bool y2 ∧ σ' 54 = .int .i64 y3) (fun k' => k') K ⟨x54, x55, 0, _, h118, O91, (GM.le.refl _), t64, rfl⟩ ?_
        rintro k120
        rintro σ124 H125 fr126 ⟨x121, x122, x123, G127, h130, O128, s129, t131, t132⟩
        rcases k120 with _ | k120
        ·exact none_absurd h130
        rw [g_graph_Way_l4] at h130
        refine .seq ?_
        refine .region ?_
        refine W.pure (v := (.bool (decide (x123 < 2)))) rfl rfl (v_int (oo rfl t132) (oo rfl rfl) rfl) ?_
        refine .nil ?_
        refine .seq ?_
        refine .cond (b := decide (x123 < 2)) rfl rfl (fun g133 => ?_) (fun g133 => ?_)
        ·have h134 := pos_inv g133 h130
         refine .skip ?_
         refine .seq ?_
         obtain ⟨q135, h136, h137⟩ := bd_inv h134
         refine AW.midT (fun σ' H' => ∃ (y1 : List Int) (y2 : Bool) (G' : GM), (y1, y2) = q135 ∧ Ow G' H' (eVar b79 29 (rArr 2 (rI .i64)) x71 :: eSl w17 3 (rI .i64) y1 :: L) ∧ GM.le G127 G' ∧ σ' 14 = .bool y2) ?_ ?_
         ·refine .block ?_
          refine .seq ?_
          refine .region ?_
          obtain ⟨x138, i139, h140⟩ := bd_inv h136
          have j141 := idx_inv i139
          have f142 := (arr_idx (RT.mono _ s129 f115) j141.2.2).1
          refine W.pure (v := .agg (List.toArray ((List.drop (Int.toNat x123 * 2) c114).take 2))) rfl rfl (v_indexAA ar135 sz29 ag29 (oo rfl ((fr126 53 rfl).trans rfl)) (oo rfl t132) (RT.mono _ s129 f115) j141.1 j141.2.1) ?_
          refine W.lo rfl rfl (Lo.alloc (r := (rArr 2 (rI .i64))) (x0 := (List.replicate 2 0)) ze29 (by kernel_rfl) (fun G => ⟨by simp, List.replicate 2 [.int .i64 0], rfl, All2.replicate ((zI .i64) G) 2⟩) O128) ?_
          rintro v146 H147 ⟨b144, rfl, O143, sm145⟩
          refine W.lo rfl rfl (Lo.storeVar (j := 0) (s := (rArr 2 (rI .i64))) (y0 := x138) (v := (.agg (List.toArray ((List.drop (Int.toNat x123 * 2) c114).take 2)))) (o := 0) rfl ((Put.at (Put.self _) _ _)) rfl sz29 rfl (by omega) rfl f142 O143) ?_
          rintro v150 H151 ⟨O148, sm149⟩
          replace O148 : Ow G127 H151 (eVar b144 29 (rArr 2 (rI .i64)) x138 :: eVar b79 29 (rArr 2 (rI .i64)) x71 :: eSl w17 3 (rI .i64) x121 :: L) := O148
          refine .nil ?_
          refine .seq ?_
          obtain ⟨q152, h153, h154⟩ := bd_inv h140
          refine AW.midT (fun σ' H' => ∃ (y1 : Bool) (G' : GM), y1 = q152 ∧ Ow G' H' (eVar b144 29 (rArr 2 (rI .i64)) x138 :: eVar b79 29 (rArr 2 (rI .i64)) x71 :: eSl w17 3 (rI .i64) x121 :: L) ∧ GM.le G127 G' ∧ σ' 71 = .bool y1) ?_ ?_
          ·refine .region ?_
           refine W.pure (v := w17) rfl rfl (v_move (oo rfl ((fr126 12 rfl).trans ((fr59 12 rfl).trans ((fr38 12 rfl).trans rfl))))) ?_
           obtain ⟨x155, i156, h157⟩ := bd_inv h153
           have j158 := idx_inv i156
           refine W.pure (v := (padd (.pointer (some ⟨b144, 0, none⟩)) (Int.toNat 0 * 1))) rfl rfl (v_idxAA ar29 sz3 (oo rfl rfl) (oo rfl rfl) (O148.atVar (j := 0) rfl) j158.1 j158.2.1) ?_
           refine W.load1 (v := (.int .i64 x155)) (r := []) rfl rfl ag3 (pt_px rfl (At.int (At.aidx (O148.atVar (j := 0) rfl) j158.2.2))) ?_
           obtain ⟨x159, i160, h161⟩ := bd_inv h157
           have j162 := idx_inv i160
           refine W.pure (v := (selem w17 (Int.toNat x155 * 1))) rfl rfl (v_idx el24 sz3 (oo rfl rfl) (oo rfl rfl) (O148.slLen (j := 2) rfl) j162.1 j162.2.1) ?_
           refine W.load1 (v := (.int .i64 x159)) (r := []) rfl rfl ag3 (pt_px rfl (At.int (O148.atSl (j := 2) rfl j162.2.2))) ?_
           refine W.pure (v := (.int .i64 x35)) rfl rfl (v_move (oo rfl ((fr126 13 rfl).trans ((fr59 13 rfl).trans t43)))) ?_
           refine W.pure (v := (.bool (x159 == x35))) rfl rfl (v_int (oo rfl rfl) (oo rfl rfl) rfl) ?_
           refine W.pure (v := (.bool (x159 == x35))) rfl rfl (v_move (oo rfl rfl)) ?_
           refine W.splitAt (t := 64) (b := (x159 == x35)) rfl (fun g163 gv164 => ?_) (fun g163 gv164 => ?_)
           ·have h165 := pos_inv g163 h161
            refine W.pure (v := w17) (gk rfl rfl gv164 rfl) rfl (v_move (oo rfl ((fr126 12 rfl).trans ((fr59 12 rfl).trans ((fr38 12 rfl).trans rfl))))) ?_
            obtain ⟨x166, i167, h168⟩ := bd_inv h165
            have j169 := idx_inv i167
            refine W.pure (v := (padd (.pointer (some ⟨b144, 0, none⟩)) (Int.toNat 1 * 1))) (gk rfl rfl gv164 rfl) rfl (v_idxAA ar29 sz3 (oo rfl rfl) (oo rfl rfl) (O148.atVar (j := 0) rfl) j169.1 j169.2.1) ?_
            refine W.load1 (v := (.int .i64 x166)) (r := []) (gk rfl rfl gv164 rfl) rfl ag3 (pt_px rfl (At.int (At.aidx (O148.atVar (j := 0) rfl) j169.2.2))) ?_
            obtain ⟨x170, i171, h172⟩ := bd_inv h168
            have j173 := idx_inv i171
            refine W.pure (v := (selem w17 (Int.toNat x166 * 1))) (gk rfl rfl gv164 rfl) rfl (v_idx el24 sz3 (oo rfl rfl) (oo rfl rfl) (O148.slLen (j := 2) rfl) j173.1 j173.2.1) ?_
            refine W.load1 (v := (.int .i64 x170)) (r := []) (gk rfl rfl gv164 rfl) rfl ag3 (pt_px rfl (At.int (O148.atSl (j := 2) rfl j173.2.2))) ?_
            refine W.pure (v := (.bool (decide (x170 < 0)))) (gk rfl rfl gv164 rfl) rfl (v_int (oo rfl rfl) (oo rfl rfl) rfl) ?_
            refine W.pure (v := (.bool (decide (x170 < 0)))) rfl rfl (v_pickT (oo rfl gv164) (oo rfl rfl)) ?_
            refine .nil ?_
            obtain rfl := Option.some.inj h172
            exact ⟨decide (x170 < 0), _, rfl, O148, (GM.le.refl _), rfl⟩
           ·have h174 := neg_b g163 h161
            refine W.skip (gk rfl rfl gv164 rfl) rfl ?_
            refine W.skip (gk rfl rfl gv164 rfl) rfl ?_
            refine W.skip (gk rfl rfl gv164 rfl) rfl ?_
            refine W.skip (gk rfl rfl gv164 rfl) rfl ?_
            refine W.skip (gk rfl rfl gv164 rfl) rfl ?_
            refine W.skip (gk rfl rfl gv164 rfl) rfl ?_
            refine W.pure (v := (.bool false)) rfl rfl (v_pickF (oo rfl gv164) (oo rfl rfl)) ?_
            refine .nil ?_
            obtain rfl := Option.some.inj h174
            exact ⟨false, _, rfl, O148, (GM.le.refl _), rfl⟩
          ·rintro σ176 H177 fr178 ⟨x175, G179, rfl, O180, s181, t183⟩
           have h184 := tu1_inv h154
           refine .cond (b := x175) rfl t183 (fun g185 => ?_) (fun g185 => ?_)
           ·have h186 := pos_inv g185 h184
            refine .region ?_
            refine W.pure (v := w17) rfl rfl (v_move (oo rfl ((fr178 12 rfl).trans ((fr126 12 rfl).trans ((fr59 12 rfl).trans ((fr38 12 rfl).trans rfl)))))) ?_
            obtain ⟨x187, i188, h189⟩ := bd_inv h186
            have j190 := idx_inv i188
            refine W.pure (v := (padd (.pointer (some ⟨b144, 0, none⟩)) (Int.toNat 1 * 1))) rfl rfl (v_idxAA ar29 sz3 (oo rfl ((fr178 18 rfl).trans rfl)) (oo rfl rfl) (O180.atVar (j := 0) rfl) j190.1 j190.2.1) ?_
            refine W.load1 (v := (.int .i64 x187)) (r := []) rfl rfl ag3 (pt_px rfl (At.int (At.aidx (O180.atVar (j := 0) rfl) j190.2.2))) ?_
            refine W.pure (v := (.int .i64 x35)) rfl rfl (v_move (oo rfl ((fr178 13 rfl).trans ((fr126 13 rfl).trans ((fr59 13 rfl).trans t43))))) ?_
            refine W.pure (v := (.int .i64 (kwrap .i64 (x35 + 1)))) rfl rfl (v_int (oo rfl rfl) (oo rfl rfl) rfl) ?_
            obtain ⟨x191, i192, h193⟩ := bd_inv h189
            have j194 := idx_inv i192
            refine W.pure (v := (selem w17 (Int.toNat x187 * 1))) rfl rfl (v_idx el24 sz3 (oo rfl rfl) (oo rfl rfl) (O180.slLen (j := 2) rfl) j194.1 j194.2.1) ?_
            refine W.lo rfl rfl (Lo.storeSl0 (j := 2) (y0 := kwrap .i64 (x35 + 1)) (v := (.int .i64 (kwrap .i64 (x35 + 1)))) rfl j194.2.2  rfl sz3 rfl rfl rfl O180) ?_
            rintro v197 H198 ⟨O195, sm196⟩
            replace O195 : Ow G179 H198 (eVar b144 29 (rArr 2 (rI .i64)) x138 :: eVar b79 29 (rArr 2 (rI .i64)) x71 :: eSl w17 3 (rI .i64) (List.set x121 (Int.toNat x187) (kwrap .i64 (x35 + 1))) :: L) := O195
            refine W.pure (v := (.bool true)) rfl rfl (v_assign (oo rfl rfl)) ?_
            refine .nil ?_
            have O199 : Ow G179 H198 (eVar b79 29 (rArr 2 (rI .i64)) x71 :: eSl w17 3 (rI .i64) (List.set x121 (Int.toNat x187) (kwrap .i64 (x35 + 1))) :: L) := O195.drop 0
            obtain rfl := Option.some.inj h193
            exact ⟨(List.set x121 (Int.toNat x187) (kwrap .i64 (x35 + 1))), true, _, rfl, O199, s181, rfl⟩
           ·have h200 := neg_b g185 h184
            refine .skip ?_
            have O201 : Ow G179 H177 (eVar b79 29 (rArr 2 (rI .i64)) x71 :: eSl w17 3 (rI .i64) x121 :: L) := O180.drop 0
            obtain rfl := Option.some.inj h200
            exact ⟨x121, x122, _, rfl, O201, s181, ((fr178 14 rfl).trans t131)⟩
         ·rintro σ204 H205 fr206 ⟨x202, x203, G207, rfl, O208, s209, t211⟩
          have h212 := tu2_inv h137
          refine .region ?_
          refine W.pure (v := (.int .i64 (kwrap .i64 (x123 + 1)))) rfl rfl (v_int (oo rfl ((fr206 54 rfl).trans t132)) (oo rfl rfl) rfl) ?_
          refine W.pure (v := (.int .i64 (kwrap .i64 (x123 + 1)))) rfl rfl (v_move (oo rfl rfl)) ?_
          refine .nil ?_
          exact ⟨k120, Nat.lt_succ_self _, ⟨x202, x203, kwrap .i64 (x123 + 1), _, h212, O208, (GM.le.trans s129 s209), t211, rfl⟩⟩
        ·have h213 := neg_b g133 h130
         refine .exit ?_
         obtain rfl := Option.some.inj h213
         exact ⟨x121, x122, _, rfl, O128, s129, t131⟩
       ·rintro σ216 H217 fr218 ⟨x214, x215, G219, rfl, O220, s221, t223⟩
        have h224 := tu2_inv h119
        have O225 : Ow G219 H217 (eSl w17 3 (rI .i64) x214 :: L) := O220.drop 0
        obtain rfl := Option.some.inj h224
        exact ⟨x214, x215, _, rfl, O225, (GM.le.trans s92 s221), t223⟩
     ·rintro σ228 H229 fr230 ⟨x226, x227, G231, rfl, O232, s233, t235⟩
      have h236 := tu2_inv h70
      refine .region ?_
      refine W.pure (v := (.int .i64 (kwrap .i64 (x56 + 1)))) rfl rfl (v_int (oo rfl ((fr230 38 rfl).trans t65)) (oo rfl rfl) rfl) ?_
      refine W.pure (v := (.int .i64 (kwrap .i64 (x56 + 1)))) rfl rfl (v_move (oo rfl rfl)) ?_
      refine .nil ?_
      exact ⟨k53, Nat.lt_succ_self _, ⟨x226, x227, kwrap .i64 (x56 + 1), _, h236, O232, (GM.le.trans s62 s233), t235, rfl⟩⟩
    ·have h237 := neg_b g66 h63
     refine .exit ?_
     obtain rfl := Option.some.inj h237
     exact ⟨x54, x55, _, rfl, O61, s62, t64⟩
   ·rintro σ240 H241 fr242 ⟨x238, x239, G243, rfl, O244, s245, t247⟩
    have h248 := tu2_inv h52
    refine .seq ?_
    obtain ⟨q249, h250, h251⟩ := bd_inv h248
    refine AW.midT (fun σ' H' => ∃ (y1 : Bool) (G' : GM), y1 = q249 ∧ Ow G' H' (eSl w17 3 (rI .i64) x238 :: L) ∧ GM.le G243 G' ∧ σ' 88 = .bool y1) ?_ ?_
    ·refine .region ?_
     refine W.pure (v := (.bool x239)) rfl rfl (v_move (oo rfl t247)) ?_
     refine W.pure (v := (.bool (!x239))) rfl rfl (bool_not (a := x239) (oo rfl rfl)) ?_
     refine W.pure (v := (.bool (!x239))) rfl rfl (v_move (oo rfl rfl)) ?_
     refine W.splitAt (t := 82) (b := (!x239)) rfl (fun g252 gv253 => ?_) (fun g252 gv253 => ?_)
     ·have h254 := pos_inv g252 h250
      refine W.pure (v := w17) (gk rfl rfl gv253 rfl) rfl (v_move (oo rfl ((fr242 12 rfl).trans ((fr38 12 rfl).trans rfl)))) ?_
      refine W.pure (v := (.int .i64 p2)) (gk rfl rfl gv253 rfl) rfl (v_move (oo rfl ((fr242 2 rfl).trans ((fr38 2 rfl).trans rfl)))) ?_
      obtain ⟨x255, i256, h257⟩ := bd_inv h254
      have j258 := idx_inv i256
      refine W.pure (v := (selem w17 (Int.toNat p2 * 1))) (gk rfl rfl gv253 rfl) rfl (v_idx el24 sz3 (oo rfl rfl) (oo rfl rfl) (O244.slLen (j := 0) rfl) j258.1 j258.2.1) ?_
      refine W.load1 (v := (.int .i64 x255)) (r := []) (gk rfl rfl gv253 rfl) rfl ag3 (pt_px rfl (At.int (O244.atSl (j := 0) rfl j258.2.2))) ?_
      refine W.pure (v := (.bool (decide (x255 < 0)))) (gk rfl rfl gv253 rfl) rfl (v_int (oo rfl rfl) (oo rfl rfl) rfl) ?_
      refine W.pure (v := (.bool (decide (x255 < 0)))) rfl rfl (v_pickT (oo rfl gv253) (oo rfl rfl)) ?_
      refine .nil ?_
      obtain rfl := Option.some.inj h257
      exact ⟨decide (x255 < 0), _, rfl, O244, (GM.le.refl _), rfl⟩
     ·have h259 := neg_b g252 h250
      refine W.skip (gk rfl rfl gv253 rfl) rfl ?_
      refine W.skip (gk rfl rfl gv253 rfl) rfl ?_
      refine W.skip (gk rfl rfl gv253 rfl) rfl ?_
      refine W.skip (gk rfl rfl gv253 rfl) rfl ?_
      refine W.skip (gk rfl rfl gv253 rfl) rfl ?_
      refine W.pure (v := (.bool false)) rfl rfl (v_pickF (oo rfl gv253) (oo rfl rfl)) ?_
      refine .nil ?_
      obtain rfl := Option.some.inj h259
      exact ⟨false, _, rfl, O244, (GM.le.refl _), rfl⟩
    ·rintro σ261 H262 fr263 ⟨x260, G264, rfl, O265, s266, t268⟩
     have h269 := tu1_inv h251
     refine .cond (b := x260) rfl t268 (fun g270 => ?_) (fun g270 => ?_)
     ·have h271 := pos_inv g270 h269
      refine .seq ?_
      refine .region ?_
      refine W.pure (v := (.slice none 0 0)) rfl rfl (v_assign (oo rfl rfl)) ?_
      refine W.pure (v := (.bool false)) rfl rfl (v_assign (oo rfl rfl)) ?_
      refine .nil ?_
      refine .ret ?_
      have O272 := O265.nilSl 3 (rI .i64)
      have O273 : Ow G264 H262 (eSl (.slice none 0 0) 3 (rI .i64) [] :: L) := O272.drop 1
      obtain rfl := Option.some.inj h271
      have h274 := tu2_inv (outS_l h32)
      obtain rfl := Option.some.inj h274
      refine ret2R (P := Try.prog) (fn := Try.f58) (n := 140) (R := fun v H' => ∃ w0 G', Ow G' H' (eSl w0 3 (rI .i64) ([], false).1 :: L) ∧ G.le G' ∧ v = .tuple #[w0, .bool ([], false).2]) (v1 := (.slice none 0 0)) (v2 := (.bool false)) (by rfl) (rr_tmp (by rfl) (by exact rfl)) (rr_tmp (by rfl) (by exact rfl)) ?_
      exact ⟨(.slice none 0 0), _, O273, (GM.le.trans s7 (GM.le.trans s14 (GM.le.trans s41 (GM.le.trans s245 s266)))), rfl⟩
     ·have h275 := neg_b g270 h269
      refine .skip ?_
      refine .region ?_
      refine W.pure (v := (.int .i64 x35)) rfl rfl (v_move (oo rfl ((fr263 13 rfl).trans ((fr242 13 rfl).trans t43)))) ?_
      refine W.pure (v := (.int .i64 (kwrap .i64 (x35 + 1)))) rfl rfl (v_int (oo rfl rfl) (oo rfl rfl) rfl) ?_
      refine W.pure (v := (.int .i64 (kwrap .i64 (x35 + 1)))) rfl rfl (v_assign (oo rfl rfl)) ?_
      refine .nil ?_
      exact ⟨k33, Nat.lt_succ_self _, ⟨x238, kwrap .i64 (x35 + 1), _, h275, O265, (GM.le.trans s41 (GM.le.trans s245 s266)), rfl⟩⟩
  ·have h276 := neg_b g48 h46
   refine .exit ?_
   obtain rfl := Option.some.inj h276
   exact ⟨x34, _, rfl, O40, s41⟩
 ·rintro σ278 H279 fr280 ⟨x277, G281, rfl, O282, s283⟩
  have h285 := tu1_inv (outS_r h32)
  refine .seq ?_
  refine .region ?_
  refine W.pure (v := (.slice none 0 0)) rfl rfl (v_assign (oo rfl rfl)) ?_
  refine .nil ?_
  refine .seq ?_
  obtain ⟨q286, h287, h288⟩ := bd_inv h285
  refine AW.midT (fun σ' H' => ∃ (y1 : List Int) (G' : GM), y1 = q286 ∧ Ow G' H' (eSl w17 3 (rI .i64) x277 :: eSl (σ' 19) 3 (rI .i64) y1 :: L) ∧ GM.le G281 G') ?_ ?_
  ·refine .block ?_
   have O289 := O282.nilSl 3 (rI .i64)
   refine AW.loop (α := Nat) (fun k' σ' H' => ∃ (y1 : List Int) (y2 : Int) (G' : GM), g_graph_Way_l6 K p3 p1 p4 x277 k' y1 y2 = some q286 ∧ Ow G' H' (eSl (σ' 19) 3 (rI .i64) y1 :: eSl w17 3 (rI .i64) x277 :: L) ∧ GM.le G281 G' ∧ σ' 2 = .int .i64 y2) (fun k' => k') K ⟨[], p2, _, h287, O289, (GM.le.refl _), ((fr280 2 rfl).trans rfl)⟩ ?_
   rintro k290
   rintro σ293 H294 fr295 ⟨x291, x292, G296, h299, O297, s298, t300⟩
   rcases k290 with _ | k290
   ·exact none_absurd h299
   rw [g_graph_Way_l6] at h299
   refine .seq ?_
   refine .seq ?_
   refine .region ?_
   refine W.pure (v := (.int .i64 x292)) rfl rfl (v_move (oo rfl t300)) ?_
   refine W.pure (v := (.int .i64 p3)) rfl rfl (v_move (oo rfl ((fr295 3 rfl).trans ((fr280 3 rfl).trans rfl)))) ?_
   refine W.pure (v := (.bool (x292 != p3))) rfl rfl (v_int (oo rfl rfl) (oo rfl rfl) rfl) ?_
   refine .nil ?_
   refine .cond (b := (x292 != p3)) rfl rfl (fun g301 => ?_) (fun g301 => ?_)
   ·have h302 := pos_inv g301 h299
    refine .skip ?_
    refine .block ?_
    refine .seq ?_
    refine .region ?_
    refine W.pure (v := v1) rfl rfl (v_move (oo rfl ((fr295 1 rfl).trans ((fr280 1 rfl).trans rfl)))) ?_
    refine W.pure (v := (.int .i64 (List.length p1 : Int))) rfl rfl (len_sl (oo rfl rfl) (sl_len (RT.mono _ (GM.le.trans s7 (GM.le.trans s14 (GM.le.trans s283 s298))) hp1)) (elemT_inv el22)) ?_
    refine W.pure (v := (.int .i64 0)) rfl rfl (v_move (oo rfl rfl)) ?_
    refine .nil ?_
    obtain ⟨q303, h304, h305⟩ := bd_inv h302
    refine AW.midT (fun σ' H' => ∃ (y1 : List Int) (y2 : Int) (G' : GM), (y1, y2) = q303 ∧ Ow G' H' (eSl (σ' 19) 3 (rI .i64) y1 :: eSl w17 3 (rI .i64) x277 :: L) ∧ GM.le G296 G' ∧ σ' 2 = .int .i64 y2) ?_ ?_
    ·refine .block ?_
     refine AW.loop (α := Nat) (fun k' σ' H' => ∃ (y1 : Int) (G' : GM), g_graph_Way_l8 K p1 p4 x277 x291 x292 k' y1 = some q303 ∧ Ow G' H' (eSl (σ293 19) 3 (rI .i64) x291 :: eSl w17 3 (rI .i64) x277 :: L) ∧ GM.le G296 G' ∧ σ' 94 = .int .i64 y1 ∧ σ' 2 = (.int .i64 x292) ∧ σ' 19 = (σ293 19)) (fun k' => k') K ⟨0, _, h304, O297, (GM.le.refl _), rfl, t300, rfl⟩ ?_
     rintro k306
     rintro σ308 H309 fr310 ⟨x307, G311, h314, O312, s313, t315, t316, t317⟩
     rcases k306 with _ | k306
     ·exact none_absurd h314
     rw [g_graph_Way_l8] at h314
     refine .seq ?_
     refine .region ?_
     refine W.pure (v := (.bool (decide (x307 < (List.length p1 : Int))))) rfl rfl (v_int (oo rfl t315) (oo rfl ((fr310 93 rfl).trans rfl)) rfl) ?_
     refine .nil ?_
     refine .seq ?_
     refine .cond (b := decide (x307 < (List.length p1 : Int))) rfl rfl (fun g318 => ?_) (fun g318 => ?_)
     ·have h319 := pos_inv g318 h314
      refine .skip ?_
      refine .seq ?_
      refine .block ?_
      refine .seq ?_
      refine .region ?_
      refine W.pure (v := (.int .i64 x307)) rfl rfl (v_move (oo rfl t315)) ?_
      obtain ⟨x320, i321, h322⟩ := bd_inv h319
      have j323 := idx_inv i321
      refine W.pure (v := (selem v1 (Int.toNat x307 * 2))) rfl rfl (v_idx el22 sz29 (oo rfl ((fr310 92 rfl).trans rfl)) (oo rfl t315) (sl_len (RT.mono _ (GM.le.trans s7 (GM.le.trans s14 (GM.le.trans s283 (GM.le.trans s298 s313)))) hp1)) j323.1 j323.2.1) ?_
      obtain ⟨c324, p325, f326⟩ := (At.le (At.le (sl_idx hp1 j323.2.2) (GM.le.trans s7 (GM.le.trans s14 (GM.le.trans s283 (GM.le.trans s298 s313)))) (GM.le.trans s7 (GM.le.trans s14 (GM.le.trans s283 (GM.le.trans s298 s313))))) (GM.le.refl _) O312.fro)
      refine W.loadA (cs := c324) rfl rfl ag29 sz29 (pt_px rfl p325) (RT.len _ f326) ?_
      refine W.lo rfl rfl (Lo.alloc (r := (rArr 2 (rI .i64))) (x0 := (List.replicate 2 0)) ze29 (by kernel_rfl) (fun G => ⟨by simp, List.replicate 2 [.int .i64 0], rfl, All2.replicate ((zI .i64) G) 2⟩) O312) ?_
      rintro v330 H331 ⟨b328, rfl, O327, sm329⟩
      refine W.pure (v := (.int .i64 x307)) rfl rfl (v_assign (oo rfl rfl)) ?_
      refine W.lo rfl rfl (Lo.storeVar (j := 0) (s := (rArr 2 (rI .i64))) (y0 := x320) (v := (.agg (List.toArray c324))) (o := 0) rfl ((Put.at (Put.self _) _ _)) rfl sz29 rfl (by omega) rfl f326 O327) ?_
      rintro v334 H335 ⟨O332, sm333⟩
      replace O332 : Ow G311 H335 (eVar b328 29 (rArr 2 (rI .i64)) x320 :: eSl (σ293 19) 3 (rI .i64) x291 :: eSl w17 3 (rI .i64) x277 :: L) := O332
      refine .nil ?_
      refine .seq ?_
      refine .region ?_
      obtain ⟨x336, i337, h338⟩ := bd_inv h322
      have j339 := idx_inv i337
      refine W.pure (v := (padd (.pointer (some ⟨b328, 0, none⟩)) (Int.toNat 0 * 1))) rfl rfl (v_idxAA ar29 sz3 (oo rfl rfl) (oo rfl rfl) (O332.atVar (j := 0) rfl) j339.1 j339.2.1) ?_
      refine W.load1 (v := (.int .i64 x336)) (r := []) rfl rfl ag3 (pt_px rfl (At.int (At.aidx (O332.atVar (j := 0) rfl) j339.2.2))) ?_
      obtain ⟨x340, i341, h342⟩ := bd_inv h338
      have j343 := idx_inv i341
      refine W.pure (v := (padd (.pointer (some ⟨b328, 0, none⟩)) (Int.toNat 1 * 1))) rfl rfl (v_idxAA ar29 sz3 (oo rfl rfl) (oo rfl rfl) (O332.atVar (j := 0) rfl) j343.1 j343.2.1) ?_
      refine W.load1 (v := (.int .i64 x340)) (r := []) rfl rfl ag3 (pt_px rfl (At.int (At.aidx (O332.atVar (j := 0) rfl) j343.2.2))) ?_
      refine W.pure (v := (.int .i64 (kwrap .i64 (x336 + x340)))) rfl rfl (v_int (oo rfl rfl) (oo rfl rfl) rfl) ?_
      refine W.pure (v := (.int .i64 x292)) rfl rfl (v_move (oo rfl t316)) ?_
      refine W.pure (v := (.int .i64 (kwrap .i64 ((kwrap .i64 (x336 + x340)) - x292)))) rfl rfl (v_int (oo rfl rfl) (oo rfl rfl) rfl) ?_
      refine W.pure (v := (.int .i64 (kwrap .i64 ((kwrap .i64 (x336 + x340)) - x292)))) rfl rfl (v_assign (oo rfl rfl)) ?_
      refine .nil ?_
      refine .seq ?_
      obtain ⟨q344, h345, h346⟩ := bd_inv h342
      refine AW.midT (fun σ' H' => ∃ (y1 : Bool) (G' : GM), y1 = q344 ∧ Ow G' H' (eVar b328 29 (rArr 2 (rI .i64)) x320 :: eSl (σ293 19) 3 (rI .i64) x291 :: eSl w17 3 (rI .i64) x277 :: L) ∧ GM.le G311 G' ∧ σ' 132 = .bool y1) ?_ ?_
      ·refine .draw2 (M := [0, 0, 3, 7, 15, 31, 15, 127, 255, 511, 1023, 511, 4095, 8191, 16383, 32767, 65535, 65535, 262143, 524287, 65535, 65535, 3211263, 7405567, 15794175, 33554431, 67108863]) mixed (by kernel_rfl) (by kernel_rfl) fun H347 N351 x348 F350 => ?_
       have O349 := O332.ext x348
       refine D2.pure (v := v4) rfl rfl (v_move (oo rfl ((fr310 4 rfl).trans ((fr295 4 rfl).trans ((fr280 4 rfl).trans rfl))))) ?_
       refine D2.pure (v := (.int .i64 x307)) rfl rfl (v_move (oo rfl rfl)) ?_
       obtain ⟨x352, i353, h354⟩ := bd_inv h345
       refine D2.lo rfl rfl (Lo.callF (x0 := x307) rfl rfl (FnOk.le hp4 (GM.le.trans s7 (GM.le.trans s14 (GM.le.trans s283 (GM.le.trans s298 s313))))) (mc rfl mn) rfl i353 O349) ?_ fa_nil ?_ ?_
       ·rintro v359 H360 ⟨G355, O356, s357, sm358, rfl⟩; exact fa_nil
       ·rintro v359 H360 ⟨G355, O356, s357, sm358, rfl⟩; exact fa_nil
       rintro v359 H360 ⟨G355, O356, s357, sm358, rfl⟩
       refine D2.pure (v := (.bool x352)) rfl rfl (v_move (oo rfl rfl)) ?_
       refine D2.splitAt (t := 109) (b := x352) rfl (fun g361 gv362 => ?_) (fun g361 gv362 => ?_)
       ·have h363 := pos_inv g361 h354
        obtain ⟨x364, i365, h366⟩ := bd_inv h363
        have j367 := idx_inv i365
        refine D2.pure (v := (padd (.pointer (some ⟨b328, 0, none⟩)) (Int.toNat 0 * 1))) (gk rfl rfl gv362 rfl) rfl (v_idxAA ar29 sz3 (oo rfl rfl) (oo rfl rfl) (O356.atVar (j := 0) rfl) j367.1 j367.2.1) ?_
        refine D2.load1' (v := (.int .i64 x364)) (r := []) (gk rfl rfl gv362 rfl) rfl ag3 (pt_px rfl (At.int (At.aidx (O356.atVar (j := 0) rfl) j367.2.2))) (faQ_bit (by decide) fa_nil) ?_
        refine D2.pure (v := (.int .i64 x292)) (gk rfl rfl gv362 rfl) rfl (v_move (oo rfl t316)) ?_
        refine D2.pure (v := (.bool (x364 == x292))) (gk rfl rfl gv362 rfl) rfl (v_int (oo rfl rfl) (oo rfl rfl) rfl) ?_
        refine D2.pure (v := (.bool (x364 == x292))) (gk rfl rfl gv362 rfl) rfl (v_move (oo rfl rfl)) ?_
        refine D2.splitAt (t := 114) (b := (x364 == x292)) rfl (fun g368 gv369 => ?_) (fun g368 gv369 => ?_)
        ·have h370 := pos_inv g368 h366
         refine D2.skip (gk rfl rfl gv369 rfl) rfl ?_
         refine D2.skip (gk rfl rfl gv369 rfl) rfl ?_
         refine D2.skip (gk rfl rfl gv369 rfl) rfl ?_
         refine D2.skip (gk rfl rfl gv369 rfl) rfl ?_
         refine D2.pure (v := (.bool true)) (gk rfl rfl gv362 rfl) rfl (v_pickT (oo rfl gv369) (oo rfl rfl)) ?_
         refine D2.pure (v := (.bool true)) rfl rfl (v_pickT (oo rfl gv362) (oo rfl rfl)) ?_
         refine D2.pure (v := (.bool true)) rfl rfl (v_move (oo rfl rfl)) ?_
         refine D2.pure (v := w17) (gk rfl rfl rfl rfl) rfl (v_move (oo rfl ((fr310 12 rfl).trans ((fr295 12 rfl).trans ((fr280 12 rfl).trans rfl))))) ?_
         refine D2.pure (v := (.int .i64 (kwrap .i64 ((kwrap .i64 (x336 + x340)) - x292)))) (gk rfl rfl rfl rfl) rfl (v_move (oo rfl rfl)) ?_
         obtain ⟨x371, i372, h373⟩ := bd_inv h370
         have j374 := idx_inv i372
         refine D2.pure (v := (selem w17 (Int.toNat (kwrap .i64 ((kwrap .i64 (x336 + x340)) - x292)) * 1))) (gk rfl rfl rfl rfl) rfl (v_idx el24 sz3 (oo rfl rfl) (oo rfl rfl) (O356.slLen (j := 2) rfl) j374.1 j374.2.1) ?_
         refine D2.load1' (v := (.int .i64 x371)) (r := []) (gk rfl rfl rfl rfl) rfl ag3 (pt_px rfl (At.int (O356.atSl (j := 2) rfl j374.2.2))) (faQ_bit (by decide) fa_nil) ?_
         refine D2.pure (v := w17) (gk rfl rfl rfl rfl) rfl (v_move (oo rfl ((fr310 12 rfl).trans ((fr295 12 rfl).trans ((fr280 12 rfl).trans rfl))))) ?_
         refine D2.pure (v := (.int .i64 x292)) (gk rfl rfl rfl rfl) rfl (v_move (oo rfl t316)) ?_
         obtain ⟨x375, i376, h377⟩ := bd_inv h373
         have j378 := idx_inv i376
         refine D2.pure (v := (selem w17 (Int.toNat x292 * 1))) (gk rfl rfl rfl rfl) rfl (v_idx el24 sz3 (oo rfl rfl) (oo rfl rfl) (O356.slLen (j := 2) rfl) j378.1 j378.2.1) ?_
         refine D2.load1' (v := (.int .i64 x375)) (r := []) (gk rfl rfl rfl rfl) rfl ag3 (pt_px rfl (At.int (O356.atSl (j := 2) rfl j378.2.2))) (faQ_bit (by decide) fa_nil) ?_
         refine D2.pure (v := (.int .i64 (kwrap .i64 (x375 - 1)))) (gk rfl rfl rfl rfl) rfl (v_int (oo rfl rfl) (oo rfl rfl) rfl) ?_
         refine D2.pure (v := (.bool (x371 == (kwrap .i64 (x375 - 1))))) (gk rfl rfl rfl rfl) rfl (v_int (oo rfl rfl) (oo rfl rfl) rfl) ?_
         refine D2.pure (v := (.bool (x371 == (kwrap .i64 (x375 - 1))))) rfl rfl (v_pickT (oo rfl rfl) (oo rfl rfl)) ?_
         refine .nil ?_
         obtain rfl := Option.some.inj h377
         exact ⟨(x371 == (kwrap .i64 (x375 - 1))), _, rfl, O356, s357, rfl⟩
        ·have h379 := neg_b g368 h366
         obtain ⟨x380, i381, h382⟩ := bd_inv h379
         have j383 := idx_inv i381
         refine D2.pure (v := (padd (.pointer (some ⟨b328, 0, none⟩)) (Int.toNat 1 * 1))) (gk rfl rfl gv369 rfl) rfl (v_idxAA ar29 sz3 (oo rfl rfl) (oo rfl rfl) (O356.atVar (j := 0) rfl) j383.1 j383.2.1) ?_
         refine D2.load1' (v := (.int .i64 x380)) (r := []) (gk rfl rfl gv369 rfl) rfl ag3 (pt_px rfl (At.int (At.aidx (O356.atVar (j := 0) rfl) j383.2.2))) (faQ_bit (by decide) fa_nil) ?_
         refine D2.pure (v := (.int .i64 x292)) (gk rfl rfl gv369 rfl) rfl (v_move (oo rfl t316)) ?_
         refine D2.pure (v := (.bool (x380 == x292))) (gk rfl rfl gv369 rfl) rfl (v_int (oo rfl rfl) (oo rfl rfl) rfl) ?_
         refine D2.pure (v := (.bool (x380 == x292))) (gk rfl rfl gv362 rfl) rfl (v_pickF (oo rfl gv369) (oo rfl rfl)) ?_
         refine D2.pure (v := (.bool (x380 == x292))) rfl rfl (v_pickT (oo rfl gv362) (oo rfl rfl)) ?_
         refine D2.pure (v := (.bool (x380 == x292))) rfl rfl (v_move (oo rfl rfl)) ?_
         refine D2.splitAt (t := 121) (b := (x380 == x292)) rfl (fun g384 gv385 => ?_) (fun g384 gv385 => ?_)
         ·have h386 := pos_inv g384 h382
          refine D2.pure (v := w17) (gk rfl rfl gv385 rfl) rfl (v_move (oo rfl ((fr310 12 rfl).trans ((fr295 12 rfl).trans ((fr280 12 rfl).trans rfl))))) ?_
          refine D2.pure (v := (.int .i64 (kwrap .i64 ((kwrap .i64 (x336 + x340)) - x292)))) (gk rfl rfl gv385 rfl) rfl (v_move (oo rfl rfl)) ?_
          obtain ⟨x387, i388, h389⟩ := bd_inv h386
          have j390 := idx_inv i388
          refine D2.pure (v := (selem w17 (Int.toNat (kwrap .i64 ((kwrap .i64 (x336 + x340)) - x292)) * 1))) (gk rfl rfl gv385 rfl) rfl (v_idx el24 sz3 (oo rfl rfl) (oo rfl rfl) (O356.slLen (j := 2) rfl) j390.1 j390.2.1) ?_
          refine D2.load1' (v := (.int .i64 x387)) (r := []) (gk rfl rfl gv385 rfl) rfl ag3 (pt_px rfl (At.int (O356.atSl (j := 2) rfl j390.2.2))) (faQ_bit (by decide) fa_nil) ?_
          refine D2.pure (v := w17) (gk rfl rfl gv385 rfl) rfl (v_move (oo rfl ((fr310 12 rfl).trans ((fr295 12 rfl).trans ((fr280 12 rfl).trans rfl))))) ?_
          refine D2.pure (v := (.int .i64 x292)) (gk rfl rfl gv385 rfl) rfl (v_move (oo rfl t316)) ?_
          obtain ⟨x391, i392, h393⟩ := bd_inv h389
          have j394 := idx_inv i392
          refine D2.pure (v := (selem w17 (Int.toNat x292 * 1))) (gk rfl rfl gv385 rfl) rfl (v_idx el24 sz3 (oo rfl rfl) (oo rfl rfl) (O356.slLen (j := 2) rfl) j394.1 j394.2.1) ?_
          refine D2.load1' (v := (.int .i64 x391)) (r := []) (gk rfl rfl gv385 rfl) rfl ag3 (pt_px rfl (At.int (O356.atSl (j := 2) rfl j394.2.2))) (faQ_bit (by decide) fa_nil) ?_
          refine D2.pure (v := (.int .i64 (kwrap .i64 (x391 - 1)))) (gk rfl rfl gv385 rfl) rfl (v_int (oo rfl rfl) (oo rfl rfl) rfl) ?_
          refine D2.pure (v := (.bool (x387 == (kwrap .i64 (x391 - 1))))) (gk rfl rfl gv385 rfl) rfl (v_int (oo rfl rfl) (oo rfl rfl) rfl) ?_
          refine D2.pure (v := (.bool (x387 == (kwrap .i64 (x391 - 1))))) rfl rfl (v_pickT (oo rfl gv385) (oo rfl rfl)) ?_
          refine .nil ?_
          obtain rfl := Option.some.inj h393
          exact ⟨(x387 == (kwrap .i64 (x391 - 1))), _, rfl, O356, s357, rfl⟩
         ·have h395 := neg_b g384 h382
          refine D2.skip (gk rfl rfl gv385 rfl) rfl ?_
          refine D2.skip (gk rfl rfl gv385 rfl) rfl ?_
          refine D2.skip (gk rfl rfl gv385 rfl) rfl ?_
          refine D2.skip (gk rfl rfl gv385 rfl) rfl ?_
          refine D2.skip (gk rfl rfl gv385 rfl) rfl ?_
          refine D2.skip (gk rfl rfl gv385 rfl) rfl ?_
          refine D2.skip (gk rfl rfl gv385 rfl) rfl ?_
          refine D2.skip (gk rfl rfl gv385 rfl) rfl ?_
          refine D2.skip (gk rfl rfl gv385 rfl) rfl ?_
          refine D2.skip (gk rfl rfl gv385 rfl) rfl ?_
          refine D2.pure (v := (.bool false)) rfl rfl (v_pickF (oo rfl gv385) (oo rfl rfl)) ?_
          refine .nil ?_
          obtain rfl := Option.some.inj h395
          exact ⟨false, _, rfl, O356, s357, rfl⟩
       ·have h396 := neg_b g361 h354
        refine D2.skip (gk rfl rfl gv362 rfl) rfl ?_
        refine D2.skip (gk rfl rfl gv362 rfl) rfl ?_
        refine D2.skip (gk rfl rfl gv362 rfl) rfl ?_
        refine D2.skip (gk rfl rfl gv362 rfl) rfl ?_
        refine D2.skip (gk rfl rfl gv362 rfl) rfl ?_
        refine D2.skipU rfl rfl rfl rfl ?_
        refine D2.skipU rfl rfl rfl rfl ?_
        refine D2.skipU rfl rfl rfl rfl ?_
        refine D2.skipU rfl rfl rfl rfl ?_
        refine D2.skip (gk rfl rfl gv362 rfl) rfl ?_
        refine D2.pure (v := (.bool false)) rfl rfl (v_pickF (oo rfl gv362) (oo rfl rfl)) ?_
        refine D2.pure (v := (.bool false)) rfl rfl (v_move (oo rfl rfl)) ?_
        refine D2.skip (gk rfl rfl rfl rfl) rfl ?_
        refine D2.skip (gk rfl rfl rfl rfl) rfl ?_
        refine D2.skip (gk rfl rfl rfl rfl) rfl ?_
        refine D2.skip (gk rfl rfl rfl rfl) rfl ?_
        refine D2.skip (gk rfl rfl rfl rfl) rfl ?_
        refine D2.skip (gk rfl rfl rfl rfl) rfl ?_
        refine D2.skip (gk rfl rfl rfl rfl) rfl ?_
        refine D2.skip (gk rfl rfl rfl rfl) rfl ?_
        refine D2.skip (gk rfl rfl rfl rfl) rfl ?_
        refine D2.skip (gk rfl rfl rfl rfl) rfl ?_
        refine D2.pure (v := (.bool false)) rfl rfl (v_pickF (oo rfl rfl) (oo rfl rfl)) ?_
        refine .nil ?_
        obtain rfl := Option.some.inj h396
        exact ⟨false, _, rfl, O356, s357, rfl⟩
      ·rintro σ398 H399 fr400 ⟨x397, G401, rfl, O402, s403, t405⟩
       have h406 := tu1_inv h346
       refine .cond (b := x397) rfl t405 (fun g407 => ?_) (fun g407 => ?_)
       ·have h408 := pos_inv g407 h406
        refine .seq ?_
        refine .region ?_
        refine W.pure (v := (σ293 19)) rfl rfl (v_move (oo rfl ((fr400 19 rfl).trans t317))) ?_
        refine W.pure (v := (.int .i64 x307)) rfl rfl (v_move (oo rfl ((fr400 20 rfl).trans rfl))) ?_
        refine W.lo rfl rfl (Lo.buildSlice (r := (rI .i64)) (vs := [(.int .i64 x307)]) (xs := [x307]) el24 ze3 sz3 (by kernel_rfl) rfl (qc rfl qn) rfl (.cons rfl .nil) O402) ?_
        rintro v411 H412 ⟨O409, sm410⟩
        obtain ⟨es414, e415, e416⟩ := src_own (j := 0) rfl O409
        obtain ⟨g417, h418⟩ := gd_inv h408
        refine W.lo rfl rfl (Lo.append (j := 2) (v := (σ293 19)) rfl rfl el24 ni24 ze3 sz3 by3 (by decide) (by decide) rfl e415 e416 g417 O409) ?_
        rintro v420 H421 ⟨O413, sm419⟩
        replace O413 : Ow G401 H421 (eSl v411 3 (rI .i64) [x307] :: eVar b328 29 (rArr 2 (rI .i64)) x320 :: eSl v420 3 (rI .i64) (x291 ++ [x307]) :: eSl w17 3 (rI .i64) x277 :: L) := O413
        refine W.pure (v := v420) rfl rfl (v_assign (oo rfl rfl)) ?_
        refine .nil ?_
        refine .seq ?_
        refine .region ?_
        refine W.pure (v := (.int .i64 (kwrap .i64 ((kwrap .i64 (x336 + x340)) - x292)))) rfl rfl (v_move (oo rfl ((fr400 22 rfl).trans rfl))) ?_
        refine W.pure (v := (.int .i64 (kwrap .i64 ((kwrap .i64 (x336 + x340)) - x292)))) rfl rfl (v_assign (oo rfl rfl)) ?_
        refine .nil ?_
        refine .exit ?_
        have O422 : Ow G401 H421 (eVar b328 29 (rArr 2 (rI .i64)) x320 :: eSl v420 3 (rI .i64) (x291 ++ [x307]) :: eSl w17 3 (rI .i64) x277 :: L) := O413.drop 0
        have O423 : Ow G401 H421 (eSl v420 3 (rI .i64) (x291 ++ [x307]) :: eSl w17 3 (rI .i64) x277 :: L) := O422.drop 0
        obtain rfl := Option.some.inj h418
        exact ⟨(x291 ++ [x307]), kwrap .i64 ((kwrap .i64 (x336 + x340)) - x292), _, rfl, O423, (GM.le.trans s313 s403), rfl⟩
       ·have h424 := neg_b g407 h406
        refine .skip ?_
        refine .region ?_
        refine W.pure (v := (.int .i64 (kwrap .i64 (x307 + 1)))) rfl rfl (v_int (oo rfl ((fr400 94 rfl).trans t315)) (oo rfl rfl) rfl) ?_
        refine W.pure (v := (.int .i64 (kwrap .i64 (x307 + 1)))) rfl rfl (v_move (oo rfl rfl)) ?_
        refine .nil ?_
        have O425 : Ow G401 H399 (eSl (σ293 19) 3 (rI .i64) x291 :: eSl w17 3 (rI .i64) x277 :: L) := O402.drop 0
        exact ⟨k306, Nat.lt_succ_self _, ⟨kwrap .i64 (x307 + 1), _, h424, O425, (GM.le.trans s313 s403), rfl, ((fr400 2 rfl).trans t316), ((fr400 19 rfl).trans t317)⟩⟩
     ·have h426 := neg_b g318 h314
      refine .exit ?_
      obtain rfl := Option.some.inj h426
      exact ⟨x291, x292, _, rfl, (Ow.reval (j := 0) O312 rfl t317), s313, t316⟩
    ·rintro σ429 H430 fr431 ⟨x427, x428, G432, rfl, O433, s434, t436⟩
     have h437 := tu2_inv h305
     exact ⟨k290, Nat.lt_succ_self _, ⟨x427, x428, _, h437, O433, (GM.le.trans s298 s434), t436⟩⟩
   ·have h438 := neg_b g301 h299
    refine .exit ?_
    have O439 : Ow G296 H294 (eSl (σ293 19) 3 (rI .i64) x291 :: eSl w17 3 (rI .i64) x277 :: L) := O297.front (j := 0) rfl
    have O440 : Ow G296 H294 (eSl w17 3 (rI .i64) x277 :: eSl (σ293 19) 3 (rI .i64) x291 :: L) := O439.front (j := 1) rfl
    obtain rfl := Option.some.inj h438
    exact ⟨x291, _, rfl, O440, s298⟩
  ·rintro σ442 H443 fr444 ⟨x441, G445, rfl, O446, s447⟩
   have h449 := tu1_inv h288
   refine .seq ?_
   refine .region ?_
   refine W.pure (v := (σ442 19)) rfl rfl (v_move (oo rfl rfl)) ?_
   refine W.pure (v := (σ442 19)) rfl rfl (v_assign (oo rfl rfl)) ?_
   refine W.pure (v := (.bool true)) rfl rfl (v_assign (oo rfl rfl)) ?_
   refine .nil ?_
   refine .ret ?_
   have O450 : Ow G445 H443 (eSl (σ442 19) 3 (rI .i64) x441 :: L) := O446.drop 0
   obtain rfl := Option.some.inj h449
   refine ret2R (P := Try.prog) (fn := Try.f58) (n := 140) (R := fun v H' => ∃ w0 G', Ow G' H' (eSl w0 3 (rI .i64) (x441, true).1 :: L) ∧ G.le G' ∧ v = .tuple #[w0, .bool (x441, true).2]) (v1 := (σ442 19)) (v2 := (.bool true)) (by rfl) (rr_tmp (by rfl) (by exact rfl)) (rr_tmp (by rfl) (by exact rfl)) ?_
   exact ⟨(σ442 19), _, O450, (GM.le.trans s7 (GM.le.trans s14 (GM.le.trans s283 s447))), rfl⟩
def g_station_Path_l0 (K : Nat) (p0 : Network) (x57 : List Int × Bool) : Nat → List ByteArray → Int → Option (List ByteArray)
 | 0, _, _ => none
 | k + 1, x80, x81 => (if (decide (x81 < (List.length x57.1 : Int))) = true then ((idx x57.1 x81).bind fun x92 => ((idx p0.Switches x92).bind fun x99 => (if List.length x80 + List.length [x99.Name] ≤ 16777216 then g_station_Path_l0 K p0 x57 k (x80 ++ [x99.Name]) (kwrap .i64 (x81 + 1)) else none))) else some x80)
def g_station_Path (K : Nat) (p0 : Network) (p1 : ByteArray) (p2 : ByteArray) : Option (List ByteArray × Int) := ((g_station_two K p0 p1 p2).bind fun x9 => (if (x9.2.2 != 0) = true then some ([], x9.2.2) else ((g_station_Edges K p0).bind fun x36 => ((g_graph_Way K (List.length p0.Nodes : Int) x36 x9.1 x9.2.1 (fun x => g_station_Path_1 K x p0)).bind fun x57 => (if (!x57.2) = true then some ([], 8) else (Option.bind (g_station_Path_l0 K p0 x57 K [] 0) (tu1 fun x120 => some (x120, 0))))))))
set_option maxHeartbeats 4000000 in
theorem g_station_Path_ok (K : Nat) {G : GM} {H : AH} {L : List Pc} (v0 : List Value) (p0 : Network) (hp0 : T_Network.rep G v0 p0) (p1 : ByteArray) (p2 : ByteArray) (O : Ow G H (L)) (r : List ByteArray × Int) (h : g_station_Path K p0 p1 p2 = some r) :
  CRF Try.prog 43 [.agg (List.toArray v0), (.string p1), (.string p2)] G H (fun w0 => (eSl w0 9 rS r.1 :: L)) (fun w0 v G' => v = .tuple #[w0, .int .i64 r.2]) := by
 unfold g_station_Path at h
 refine CRF.of (calls_of_AW (n := 58) (fn := Try.f43) (R := fun v H' => ∃ w0 G', Ow G' H' (eSl w0 9 rS r.1 :: L) ∧ G.le G' ∧ v = .tuple #[w0, .int .i64 r.2]) (by kernel_rfl) rfl rfl ?_)
 refine .seq ?_
 refine .region ?_
 refine W.lo rfl rfl (Lo.box (r := T_Network) (x0 := p0) (v := (.agg (List.toArray v0))) rfl rfl hp0 O) ?_
 rintro v4 H5 ⟨b2, rfl, O1, sm3⟩
 refine W.pure (v := (.slice none 0 0)) rfl rfl (v_assign (oo rfl rfl)) ?_
 refine W.pure (v := (.int .i64 0)) rfl rfl (v_assign (oo rfl rfl)) ?_
 refine .nil ?_
 refine .seq ?_
 refine .region ?_
 obtain ⟨c6, p7, f8⟩ := (O1.atVar (j := 0) rfl)
 refine W.loadA (cs := c6) rfl rfl ag48 sz48 (pt_px rfl p7) (RT.len _ f8) ?_
 refine W.pure (v := (.string p1)) rfl rfl (v_move (oo rfl rfl)) ?_
 refine W.pure (v := (.string p2)) rfl rfl (v_move (oo rfl rfl)) ?_
 obtain ⟨x9, i10, h11⟩ := bd_inv h
 refine W.lo rfl rfl (Lo.callP (ps := []) (ps' := []) rfl (fn := Try.f87) (by kernel_rfl) rfl (mc rfl (mc rfl (mc rfl mn))) O1 (fun L' O' => g_station_two_ok K c6 p0 f8 p1 p2 O' _ i10)) ?_
 rintro v18 H19 ⟨G12, O13, s14, sm17, rfl⟩
 replace O13 : Ow G12 H19 (eVar b2 48 T_Network p0 :: L) := O13
 refine W.pure (v := (.tuple #[(.int .i64 x9.1), (.int .i64 x9.2.1), (.int .i64 x9.2.2)])) rfl rfl (v_move (oo rfl rfl)) ?_
 refine W.pure (v := (.int .i64 x9.1)) rfl rfl (v_extract (oo rfl rfl) rfl) ?_
 refine W.pure (v := (.int .i64 x9.2.1)) rfl rfl (v_extract (oo rfl rfl) rfl) ?_
 refine W.pure (v := (.int .i64 x9.2.2)) rfl rfl (v_extract (oo rfl rfl) rfl) ?_
 refine W.pure (v := (.int .i64 x9.1)) rfl rfl (v_assign (oo rfl rfl)) ?_
 refine W.pure (v := (.int .i64 x9.2.1)) rfl rfl (v_assign (oo rfl rfl)) ?_
 refine W.pure (v := (.int .i64 x9.2.2)) rfl rfl (v_assign (oo rfl rfl)) ?_
 refine .nil ?_
 refine .seq ?_
 refine .seq ?_
 refine .region ?_
 refine W.pure (v := (.int .i64 x9.2.2)) rfl rfl (v_move (oo rfl rfl)) ?_
 refine W.pure (v := (.bool (x9.2.2 != 0))) rfl rfl (v_int (oo rfl rfl) (oo rfl rfl) rfl) ?_
 refine .nil ?_
 refine .cond (b := (x9.2.2 != 0)) rfl rfl (fun g20 => ?_) (fun g20 => ?_)
 ·have h21 := pos_inv g20 h11
  refine .seq ?_
  refine .region ?_
  refine W.pure (v := (.int .i64 x9.2.2)) rfl rfl (v_move (oo rfl rfl)) ?_
  refine W.pure (v := (.slice none 0 0)) rfl rfl (v_assign (oo rfl rfl)) ?_
  refine W.pure (v := (.int .i64 x9.2.2)) rfl rfl (v_assign (oo rfl rfl)) ?_
  refine .nil ?_
  refine .ret ?_
  have O22 := O13.nilSl 9 rS
  have O23 : Ow G12 H19 (eSl (.slice none 0 0) 9 rS [] :: L) := O22.drop 1
  obtain rfl := Option.some.inj h21
  refine ret2R (P := Try.prog) (fn := Try.f43) (n := 58) (R := fun v H' => ∃ w0 G', Ow G' H' (eSl w0 9 rS ([], x9.2.2).1 :: L) ∧ G.le G' ∧ v = .tuple #[w0, .int .i64 ([], x9.2.2).2]) (v1 := (.slice none 0 0)) (v2 := (.int .i64 x9.2.2)) (by rfl) (rr_tmp (by rfl) (by exact rfl)) (rr_tmp (by rfl) (by exact rfl)) ?_
  exact ⟨(.slice none 0 0), _, O23, s14, rfl⟩
 ·have h24 := neg_b g20 h11
  refine .skip ?_
  refine .seq ?_
  refine .draw2 (M := [0, 1, 3, 0, 8, 0, 0, 0, 255, 511, 1023, 1023, 2047, 8191]) mixed (by kernel_rfl) (by kernel_rfl) fun H25 N29 x26 F28 => ?_
  have O27 := O13.ext x26
  refine D2.pure (v := (padd (.pointer (some ⟨b2, 0, none⟩)) 0)) rfl rfl (v_fldA fl48_0 (oo rfl rfl) (O27.atVar (j := 0) rfl)) ?_
  obtain ⟨w30, p31, f32⟩ := At.sl (At.proj (O27.atVar (j := 0) rfl) p_Network_Nodes)
  refine D2.load1' (v := w30) (r := []) rfl rfl ag41 (pt_px rfl p31) fa_nil ?_
  refine D2.pure (v := (.int .i64 (List.length p0.Nodes : Int))) rfl rfl (len_sl (oo rfl rfl) (sl_len f32) (elemT_inv el41)) ?_
  obtain ⟨c33, p34, f35⟩ := (O27.atVar (j := 0) rfl)
  refine D2.loadA' (cs := c33) rfl rfl ag48 sz48 (pt_px rfl p34) (RT.len _ f35) fa_nil ?_
  obtain ⟨x36, i37, h38⟩ := bd_inv h24
  refine D2.lo rfl rfl (Lo.callPF (ps := []) (pw := fun w => [eSl w 29 (rArr 2 (rI .i64)) x36]) rfl (fn := Try.f88) (by kernel_rfl) rfl (mc rfl mn) O27 (fun L' O' => g_station_Edges_ok K c33 p0 f35 O' _ i37)) ?_ fa_nil ?_ ?_
  ·rintro v47 H48 ⟨w44, G39, O40, s41, sm46, rfl⟩; exact (faR1 (.inl (by decide)) (faR1 (.inr (sm46 _ (Or.inr ⟨0, _, rfl, List.mem_singleton.2 rfl⟩))) fa_nil))
  ·rintro v47 H48 ⟨w44, G39, O40, s41, sm46, rfl⟩; exact fa_nil
  rintro v47 H48 ⟨w44, G39, O40, s41, sm46, rfl⟩
  replace O40 : Ow G39 H48 (eSl w44 29 (rArr 2 (rI .i64)) x36 :: eVar b2 48 T_Network p0 :: L) := O40
  refine D2.pure (v := (.int .i64 x9.1)) rfl rfl (v_move (oo rfl rfl)) ?_
  refine D2.pure (v := (.int .i64 x9.2.1)) rfl rfl (v_move (oo rfl rfl)) ?_
  refine D2.pure (v := (.func (.func 89) #[] #[(.pointer (some ⟨b2, 0, none⟩))])) rfl rfl (v_makeFunc (opndL_ooL rfl mn) (opndL_ooL rfl (mc rfl mn))) ?_
  obtain ⟨G49, O50, s51, f52⟩ := O40.frzSl (j := 0) rfl
  replace O50 : Ow G49 H48 (eVar b2 48 T_Network p0 :: L) := O50
  obtain ⟨G53, O54, s55, f56⟩ := O50.frzVar (j := 0) rfl
  replace O54 : Ow G53 H48 (L) := O54
  obtain ⟨x57, i58, h59⟩ := bd_inv h38
  refine D2.lo rfl rfl (Lo.callPF (ps := []) (pw := fun w => [eSl w 3 (rI .i64) x57.1]) rfl (fn := Try.f58) (by kernel_rfl) rfl (mc rfl (mc rfl (mc rfl (mc rfl (mc rfl mn))))) O54 (fun L' O' => g_graph_Way_ok K (List.length p0.Nodes : Int) w44 x36 (RT.mono _ s55 f52) x9.1 x9.2.1 (.func (.func 89) #[] #[(.pointer (some ⟨b2, 0, none⟩))]) (fun x => g_station_Path_1 K x p0) ⟨89, _, _, Try.f89, rfl, by kernel_rfl, rfl, fun G1 H L vs x r hG O hA hF => by obtain rfl := hA; exact g_station_Path_1_ok K x (.pointer (some ⟨b2, 0, none⟩)) p0 (At.le f56 hG hG) O _ hF⟩ O' _ i58)) ?_ (faL_bit (by decide) fa_nil) ?_ ?_
  ·rintro v68 H69 ⟨w65, G60, O61, s62, sm67, rfl⟩; exact (faR1 (.inl (by decide)) (faR1 (.inl (by decide)) fa_nil))
  ·rintro v68 H69 ⟨w65, G60, O61, s62, sm67, rfl⟩; exact fa_nil
  rintro v68 H69 ⟨w65, G60, O61, s62, sm67, rfl⟩
  replace O61 : Ow G60 H69 (eSl w65 3 (rI .i64) x57.1 :: L) := O61
  refine D2.pure (v := (.tuple #[w65, (.bool x57.2)])) rfl rfl (v_move (oo rfl rfl)) ?_
  refine D2.pure (v := w65) rfl rfl (v_extract (oo rfl rfl) rfl) ?_
  refine D2.pure (v := (.bool x57.2)) rfl rfl (v_extract (oo rfl rfl) rfl) ?_
  refine D2.pure (v := w65) rfl rfl (v_assign (oo rfl rfl)) ?_
  refine D2.pure (v := (.bool x57.2)) rfl rfl (v_assign (oo rfl rfl)) ?_
  refine .nil ?_
  refine .seq ?_
  refine .seq ?_
  refine .region ?_
  refine W.pure (v := (.bool x57.2)) rfl rfl (v_move (oo rfl rfl)) ?_
  refine W.pure (v := (.bool (!x57.2))) rfl rfl (bool_not (a := x57.2) (oo rfl rfl)) ?_
  refine .nil ?_
  refine .cond (b := (!x57.2)) rfl rfl (fun g70 => ?_) (fun g70 => ?_)
  ·have h71 := pos_inv g70 h59
   refine .seq ?_
   refine .region ?_
   refine W.pure (v := (.slice none 0 0)) rfl rfl (v_assign (oo rfl rfl)) ?_
   refine W.pure (v := (.int .i64 8)) rfl rfl (v_assign (oo rfl rfl)) ?_
   refine .nil ?_
   refine .ret ?_
   have O72 := O61.nilSl 9 rS
   have O73 : Ow G60 H69 (eSl (.slice none 0 0) 9 rS [] :: L) := O72.drop 1
   obtain rfl := Option.some.inj h71
   refine ret2R (P := Try.prog) (fn := Try.f43) (n := 58) (R := fun v H' => ∃ w0 G', Ow G' H' (eSl w0 9 rS ([], 8).1 :: L) ∧ G.le G' ∧ v = .tuple #[w0, .int .i64 ([], 8).2]) (v1 := (.slice none 0 0)) (v2 := (.int .i64 8)) (by rfl) (rr_tmp (by rfl) (by exact rfl)) (rr_tmp (by rfl) (by exact rfl)) ?_
   exact ⟨(.slice none 0 0), _, O73, (GM.le.trans s14 (GM.le.trans s41 (GM.le.trans s51 (GM.le.trans s55 s62)))), rfl⟩
  ·have h74 := neg_b g70 h59
   refine .skip ?_
   refine .seq ?_
   refine .region ?_
   refine W.pure (v := (.slice none 0 0)) rfl rfl (v_assign (oo rfl rfl)) ?_
   refine .nil ?_
   refine .seq ?_
   refine .seq ?_
   refine .region ?_
   refine W.pure (v := w65) rfl rfl (v_move (oo rfl rfl)) ?_
   refine W.pure (v := (.int .i64 (List.length x57.1 : Int))) rfl rfl (len_sl (oo rfl rfl) (O61.slLen (j := 0) rfl) (elemT_inv el24)) ?_
   refine W.pure (v := (.int .i64 0)) rfl rfl (v_move (oo rfl rfl)) ?_
   refine .nil ?_
   obtain ⟨q75, h76, h77⟩ := bd_inv h74
   refine AW.midT (fun σ' H' => ∃ (y1 : List ByteArray) (G' : GM), y1 = q75 ∧ Ow G' H' (eSl w65 3 (rI .i64) x57.1 :: eSl (σ' 13) 9 rS y1 :: L) ∧ GM.le G60 G') ?_ ?_
   ·refine .block ?_
    have O78 := O61.nilSl 9 rS
    refine AW.loop (α := Nat) (fun k' σ' H' => ∃ (y1 : List ByteArray) (y2 : Int) (G' : GM), g_station_Path_l0 K p0 x57 k' y1 y2 = some q75 ∧ Ow G' H' (eSl (σ' 13) 9 rS y1 :: eSl w65 3 (rI .i64) x57.1 :: L) ∧ GM.le G60 G' ∧ σ' 43 = .int .i64 y2) (fun k' => k') K ⟨[], 0, _, h76, O78, (GM.le.refl _), rfl⟩ ?_
    rintro k79
    rintro σ82 H83 fr84 ⟨x80, x81, G85, h88, O86, s87, t89⟩
    rcases k79 with _ | k79
    ·exact none_absurd h88
    rw [g_station_Path_l0] at h88
    refine .seq ?_
    refine .region ?_
    refine W.pure (v := (.bool (decide (x81 < (List.length x57.1 : Int))))) rfl rfl (v_int (oo rfl t89) (oo rfl ((fr84 42 rfl).trans rfl)) rfl) ?_
    refine .nil ?_
    refine .seq ?_
    refine .cond (b := decide (x81 < (List.length x57.1 : Int))) rfl rfl (fun g90 => ?_) (fun g90 => ?_)
    ·have h91 := pos_inv g90 h88
     refine .skip ?_
     refine .seq ?_
     refine .block ?_
     refine .seq ?_
     refine .region ?_
     obtain ⟨x92, i93, h94⟩ := bd_inv h91
     have j95 := idx_inv i93
     refine W.pure (v := (selem w65 (Int.toNat x81 * 1))) rfl rfl (v_idx el24 sz3 (oo rfl ((fr84 41 rfl).trans rfl)) (oo rfl t89) (O86.slLen (j := 1) rfl) j95.1 j95.2.1) ?_
     refine W.load1 (v := (.int .i64 x92)) (r := []) rfl rfl ag3 (pt_px rfl (At.int (O86.atSl (j := 1) rfl j95.2.2))) ?_
     refine W.pure (v := (.int .i64 x92)) rfl rfl (v_assign (oo rfl rfl)) ?_
     refine .nil ?_
     refine .region ?_
     refine W.pure (v := (σ82 13)) rfl rfl (v_move (oo rfl rfl)) ?_
     refine W.pure (v := (padd (.pointer (some ⟨b2, 0, none⟩)) 1)) rfl rfl (v_fldA fl48_1 (oo rfl ((fr84 3 rfl).trans rfl)) (At.le (At.le f56 (GM.le.trans s62 s87) (GM.le.trans s62 s87)) (GM.le.refl _) O86.fro)) ?_
     obtain ⟨w96, p97, f98⟩ := At.sl (At.le (At.proj f56 p_Network_Switches) (GM.le.trans s62 s87) (GM.le.trans s62 s87))
     replace p97 := PtG.le p97 O86.fro
     refine W.load1 (v := w96) (r := []) rfl rfl ag42 (pt_px rfl p97) ?_
     refine W.pure (v := (.int .i64 x92)) rfl rfl (v_move (oo rfl rfl)) ?_
     obtain ⟨x99, i100, h101⟩ := bd_inv h94
     have j102 := idx_inv i100
     refine W.pure (v := (selem w96 (Int.toNat x92 * 5))) rfl rfl (v_idx el42 sz81 (oo rfl rfl) (oo rfl rfl) (sl_len f98) j102.1 j102.2.1) ?_
     refine W.pure (v := (padd (selem w96 (Int.toNat x92 * 5)) 0)) rfl rfl (v_fldA fl81_0 (oo rfl rfl) (At.le (sl_idx f98 j102.2.2) (GM.le.refl _) O86.fro)) ?_
     refine W.load1 (v := (.string x99.Name)) (r := []) rfl rfl ag9 (pt_px rfl (At.str (At.le (At.proj (sl_idx f98 j102.2.2) p_Switch_Name) (GM.le.refl _) O86.fro))) ?_
     refine W.lo rfl rfl (Lo.buildSlice (r := rS) (vs := [(.string x99.Name)]) (xs := [x99.Name]) el41 ze9 sz9 (by kernel_rfl) rfl (qc rfl qn) rfl (.cons rfl .nil) O86) ?_
     rintro v105 H106 ⟨O103, sm104⟩
     obtain ⟨es108, e109, e110⟩ := src_own (j := 0) rfl O103
     obtain ⟨g111, h112⟩ := gd_inv h101
     refine W.lo rfl rfl (Lo.append (j := 1) (v := (σ82 13)) rfl rfl el41 ni41 ze9 sz9 by9 (by decide) (by decide) rfl e109 e110 g111 O103) ?_
     rintro v114 H115 ⟨O107, sm113⟩
     replace O107 : Ow G85 H115 (eSl v105 9 rS [x99.Name] :: eSl v114 9 rS (x80 ++ [x99.Name]) :: eSl w65 3 (rI .i64) x57.1 :: L) := O107
     refine W.pure (v := v114) rfl rfl (v_assign (oo rfl rfl)) ?_
     refine .nil ?_
     refine .region ?_
     refine W.pure (v := (.int .i64 (kwrap .i64 (x81 + 1)))) rfl rfl (v_int (oo rfl t89) (oo rfl rfl) rfl) ?_
     refine W.pure (v := (.int .i64 (kwrap .i64 (x81 + 1)))) rfl rfl (v_move (oo rfl rfl)) ?_
     refine .nil ?_
     have O116 : Ow G85 H115 (eSl v114 9 rS (x80 ++ [x99.Name]) :: eSl w65 3 (rI .i64) x57.1 :: L) := O107.drop 0
     exact ⟨k79, Nat.lt_succ_self _, ⟨(x80 ++ [x99.Name]), kwrap .i64 (x81 + 1), _, h112, O116, s87, rfl⟩⟩
    ·have h117 := neg_b g90 h88
     refine .exit ?_
     have O118 : Ow G85 H83 (eSl (σ82 13) 9 rS x80 :: eSl w65 3 (rI .i64) x57.1 :: L) := O86.front (j := 0) rfl
     have O119 : Ow G85 H83 (eSl w65 3 (rI .i64) x57.1 :: eSl (σ82 13) 9 rS x80 :: L) := O118.front (j := 1) rfl
     obtain rfl := Option.some.inj h117
     exact ⟨x80, _, rfl, O119, s87⟩
   ·rintro σ121 H122 fr123 ⟨x120, G124, rfl, O125, s126⟩
    have h128 := tu1_inv h77
    refine .seq ?_
    refine .region ?_
    refine W.pure (v := (σ121 13)) rfl rfl (v_move (oo rfl rfl)) ?_
    refine W.pure (v := (σ121 13)) rfl rfl (v_assign (oo rfl rfl)) ?_
    refine W.pure (v := (.int .i64 0)) rfl rfl (v_assign (oo rfl rfl)) ?_
    refine .nil ?_
    refine .ret ?_
    have O129 : Ow G124 H122 (eSl (σ121 13) 9 rS x120 :: L) := O125.drop 0
    obtain rfl := Option.some.inj h128
    refine ret2R (P := Try.prog) (fn := Try.f43) (n := 58) (R := fun v H' => ∃ w0 G', Ow G' H' (eSl w0 9 rS (x120, 0).1 :: L) ∧ G.le G' ∧ v = .tuple #[w0, .int .i64 (x120, 0).2]) (v1 := (σ121 13)) (v2 := (.int .i64 0)) (by rfl) (rr_tmp (by rfl) (by exact rfl)) (rr_tmp (by rfl) (by exact rfl)) ?_
    exact ⟨(σ121 13), _, O129, (GM.le.trans s14 (GM.le.trans s41 (GM.le.trans s51 (GM.le.trans s55 (GM.le.trans s62 s126))))), rfl⟩
def g_station_Buses_1 (K : Nat) (p0 : Int) (p1 : Network) : Option Bool := ((idx p1.Switches p0).bind fun x4 => some (!x4.Open))
set_option maxHeartbeats 4000000 in
theorem g_station_Buses_1_ok (K : Nat) {G : GM} {H : AH} {L : List Pc} (p0 : Int) (v1 : Value) (p1 : Network) (hp1 : At G G v1 T_Network p1) (O : Ow G H (L)) (r : Bool) (h : g_station_Buses_1 K p0 p1 = some r) :
  CR Try.prog 123 [(.int .i64 p0), v1] G H (L) (fun v G' _ => v = .bool r) := by
 unfold g_station_Buses_1 at h
 refine CR.of (calls_of_AW (n := 11) (fn := Try.f123) (R := fun v H' => ∃ G', Ow G' H' (L) ∧ G.le G' ∧ v = .bool r) (by kernel_rfl) rfl rfl ?_)
 refine .seq ?_
 refine .region ?_
 refine W.pure (v := (.bool false)) rfl rfl (v_assign (oo rfl rfl)) ?_
 refine .nil ?_
 refine .seq ?_
 refine .region ?_
 refine W.pure (v := (padd v1 1)) rfl rfl (v_fldA fl48_1 (oo rfl rfl) (At.le hp1 (GM.le.refl _) O.fro)) ?_
 obtain ⟨w1, p2, f3⟩ := At.sl (At.proj hp1 p_Network_Switches)
 replace p2 := PtG.le p2 O.fro
 refine W.load1 (v := w1) (r := []) rfl rfl ag42 (pt_px rfl p2) ?_
 refine W.pure (v := (.int .i64 p0)) rfl rfl (v_move (oo rfl rfl)) ?_
 obtain ⟨x4, i5, h6⟩ := bd_inv h
 have j7 := idx_inv i5
 refine W.pure (v := (selem w1 (Int.toNat p0 * 5))) rfl rfl (v_idx el42 sz81 (oo rfl rfl) (oo rfl rfl) (sl_len f3) j7.1 j7.2.1) ?_
 refine W.pure (v := (padd (selem w1 (Int.toNat p0 * 5)) 4)) rfl rfl (v_fldA fl81_4 (oo rfl rfl) (At.le (sl_idx f3 j7.2.2) (GM.le.refl _) O.fro)) ?_
 refine W.load1 (v := (.bool x4.Open)) (r := []) rfl rfl ag4 (pt_px rfl (At.bool (At.le (At.proj (sl_idx f3 j7.2.2) p_Switch_Open) (GM.le.refl _) O.fro))) ?_
 refine W.pure (v := (.bool (!x4.Open))) rfl rfl (bool_not (a := x4.Open) (oo rfl rfl)) ?_
 refine W.pure (v := (.bool (!x4.Open))) rfl rfl (v_assign (oo rfl rfl)) ?_
 refine .nil ?_
 refine .ret ?_
 obtain rfl := Option.some.inj h6
 refine ret1R (P := Try.prog) (fn := Try.f123) (n := 11) (R := fun v H' => ∃ G', Ow G' H' (L) ∧ G.le G' ∧ v = .bool (!x4.Open)) (v1 := (.bool (!x4.Open))) (by rfl) (rr_tmp (by rfl) (by exact rfl)) ?_
 exact ⟨_, O, (GM.le.refl _), rfl⟩
def g_graph_Parts_l4 (K : Nat) (p1 : List (List Int)) (p2 : Int → Option Bool) (x27 : Int) : Nat → List Int → Bool → Int → Option (List Int × Bool)
 | 0, _, _, _ => none
 | k + 1, x78, x79, x80 => (if (decide (x80 < (List.length p1 : Int))) = true then (Option.bind (((idx p1 x80).bind fun x95 => ((idx x95 0).bind fun x116 => ((idx x78 x116).bind fun x120 => ((idx x95 1).bind fun x124 => ((idx x78 x124).bind fun x128 => (Option.bind ((if (!((x120 == x27) == (x128 == x27))) = true then ((p2 x80).bind fun x138 => some x138) else some false)) (tu1 fun x148 => (if x148 = true then ((idx x95 0).bind fun x165 => ((idx x95 1).bind fun x169 => ((idx x78 x165).bind fun x173 => ((idx (List.set x78 (Int.toNat x165) x27) x169).bind fun x181 => some ((List.set (List.set x78 (Int.toNat x165) x27) (Int.toNat x169) x27), true))))) else some (x78, x79)))))))))) (tu2 fun x192 x193 => g_graph_Parts_l4 K p1 p2 x27 k x192 x193 (kwrap .i64 (x80 + 1)))) else some (x78, x79))
def g_graph_Parts_l2 (K : Nat) (p1 : List (List Int)) (p2 : Int → Option Bool) (x27 : Int) : Nat → List Int → Bool → Option (List Int)
 | 0, _, _ => none
 | k + 1, x62, x63 => (if x63 = true then (Option.bind (g_graph_Parts_l4 K p1 p2 x27 K x62 false 0) (tu2 fun x204 x205 => g_graph_Parts_l2 K p1 p2 x27 k x204 x205)) else some x62)
def g_graph_Parts_l0 (K : Nat) (p0 : Int) (p1 : List (List Int)) (p2 : Int → Option Bool) : Nat → List Int → Int → Int → Option (List Int)
 | 0, _, _, _ => none
 | k + 1, x26, x27, x28 => (if (decide (x28 < p0)) = true then (Option.bind (((idx x26 x28).bind fun x43 => (if (decide (x43 ≥ 0)) = true then some (x26, x27) else ((idx x26 x28).bind fun x50 => (Option.bind (g_graph_Parts_l2 K p1 p2 x27 K (List.set x26 (Int.toNat x28) x27) true) (tu1 fun x216 => some (x216, kwrap .i64 (x27 + 1)))))))) (tu2 fun x225 x226 => g_graph_Parts_l0 K p0 p1 p2 k x225 x226 (kwrap .i64 (x28 + 1)))) else some x26)
def g_graph_Parts (K : Nat) (p0 : Int) (p1 : List (List Int)) (p2 : Int → Option Bool) : Option (List Int) := ((g_slices_Repeat_int K [(-1)] p0).bind fun x9 => (Option.bind (g_graph_Parts_l0 K p0 p1 p2 K x9 0 0) (tu1 fun x237 => some x237)))
set_option maxHeartbeats 4000000 in
theorem g_graph_Parts_ok (K : Nat) {G : GM} {H : AH} {L : List Pc} (p0 : Int) (v1 : Value) (p1 : List (List Int)) (hp1 : (rSl (rArr 2 (rI .i64))).rep G [v1] p1) (v2 : Value) (p2 : Int → Option Bool) (hp2 : FnOk Try.prog G v2 (fun _ vs (x : (Int)) => vs = [.int .i64 x]) (fun _ v (rr : (Bool)) => v = .bool rr) p2) (O : Ow G H (L)) (r : List Int) (h : g_graph_Parts K p0 p1 p2 = some r) :
  CRF Try.prog 55 [(.int .i64 p0), v1, v2] G H (fun w0 => (eSl w0 3 (rI .i64) r :: L)) (fun w0 v G' => w0 = v) := by
 unfold g_graph_Parts at h
 refine CRF.of (calls_of_AW (n := 76) (fn := Try.f55) (R := fun v H' => ∃ w0 G', Ow G' H' (eSl w0 3 (rI .i64) r :: L) ∧ G.le G' ∧ w0 = v) (by kernel_rfl) rfl rfl ?_)
 refine .seq ?_
 refine .region ?_
 refine W.pure (v := (.slice none 0 0)) rfl rfl (v_assign (oo rfl rfl)) ?_
 refine .nil ?_
 refine .seq ?_
 refine .region ?_
 refine W.lo rfl rfl (Lo.buildSlice (r := (rI .i64)) (vs := [(.int .i64 (-1))]) (xs := [(-1)]) el24 ze3 sz3 (by kernel_rfl) rfl (qc rfl qn) rfl (.cons rfl .nil) O) ?_
 rintro v3 H4 ⟨O1, sm2⟩
 refine W.pure (v := (.int .i64 p0)) rfl rfl (v_move (oo rfl rfl)) ?_
 obtain ⟨G5, O6, s7, f8⟩ := O1.frzSl (j := 0) rfl
 replace O6 : Ow G5 H4 (L) := O6
 obtain ⟨x9, i10, h11⟩ := bd_inv h
 refine W.lo rfl rfl (Lo.callPF (ps := []) (pw := fun w => [eSl w 3 (rI .i64) x9]) rfl (fn := Try.f97) (by kernel_rfl) rfl (mc rfl (mc rfl mn)) O6 (fun L' O' => g_slices_Repeat_int_ok K v3 [(-1)] f8 p0 O' _ i10)) ?_
 rintro v20 H21 ⟨w17, G12, O13, s14, sm19, rfl⟩
 replace O13 : Ow G12 H21 (eSl w17 3 (rI .i64) x9 :: L) := O13
 refine W.pure (v := w17) rfl rfl (v_assign (oo rfl rfl)) ?_
 refine .nil ?_
 refine .seq ?_
 refine .region ?_
 refine W.pure (v := (.int .i64 0)) rfl rfl (v_assign (oo rfl rfl)) ?_
 refine .nil ?_
 refine .seq ?_
 refine .seq ?_
 refine .region ?_
 refine W.pure (v := (.int .i64 p0)) rfl rfl (v_move (oo rfl rfl)) ?_
 refine W.pure (v := (.int .i64 0)) rfl rfl (v_move (oo rfl rfl)) ?_
 refine .nil ?_
 obtain ⟨q22, h23, h24⟩ := bd_inv h11
 refine AW.midT (fun σ' H' => ∃ (y1 : List Int) (G' : GM), y1 = q22 ∧ Ow G' H' (eSl w17 3 (rI .i64) y1 :: L) ∧ GM.le G12 G') ?_ ?_
 ·refine .block ?_
  refine AW.loop (α := Nat) (fun k' σ' H' => ∃ (y1 : List Int) (y2 : Int) (y3 : Int) (G' : GM), g_graph_Parts_l0 K p0 p1 p2 k' y1 y2 y3 = some q22 ∧ Ow G' H' (eSl w17 3 (rI .i64) y1 :: L) ∧ GM.le G12 G' ∧ σ' 8 = .int .i64 y2 ∧ σ' 19 = .int .i64 y3) (fun k' => k') K ⟨x9, 0, 0, _, h23, O13, (GM.le.refl _), rfl, rfl⟩ ?_
  rintro k25
  rintro σ29 H30 fr31 ⟨x26, x27, x28, G32, h35, O33, s34, t36, t37⟩
  rcases k25 with _ | k25
  ·exact none_absurd h35
  rw [g_graph_Parts_l0] at h35
  refine .seq ?_
  refine .region ?_
  refine W.pure (v := (.bool (decide (x28 < p0)))) rfl rfl (v_int (oo rfl t37) (oo rfl ((fr31 18 rfl).trans rfl)) rfl) ?_
  refine .nil ?_
  refine .seq ?_
  refine .cond (b := decide (x28 < p0)) rfl rfl (fun g38 => ?_) (fun g38 => ?_)
  ·have h39 := pos_inv g38 h35
   refine .skip ?_
   refine .seq ?_
   obtain ⟨q40, h41, h42⟩ := bd_inv h39
   refine AW.midT (fun σ' H' => ∃ (y1 : List Int) (y2 : Int) (G' : GM), (y1, y2) = q40 ∧ Ow G' H' (eSl w17 3 (rI .i64) y1 :: L) ∧ GM.le G32 G' ∧ σ' 8 = .int .i64 y2) ?_ ?_
   ·refine .block ?_
    refine .seq ?_
    refine .region ?_
    refine W.pure (v := (.int .i64 x28)) rfl rfl (v_move (oo rfl t37)) ?_
    refine W.pure (v := (.int .i64 x28)) rfl rfl (v_assign (oo rfl rfl)) ?_
    refine .nil ?_
    refine .seq ?_
    refine .seq ?_
    refine .region ?_
    refine W.pure (v := w17) rfl rfl (v_move (oo rfl ((fr31 7 rfl).trans rfl))) ?_
    refine W.pure (v := (.int .i64 x28)) rfl rfl (v_move (oo rfl rfl)) ?_
    obtain ⟨x43, i44, h45⟩ := bd_inv h41
    have j46 := idx_inv i44
    refine W.pure (v := (selem w17 (Int.toNat x28 * 1))) rfl rfl (v_idx el24 sz3 (oo rfl rfl) (oo rfl rfl) (O33.slLen (j := 0) rfl) j46.1 j46.2.1) ?_
    refine W.load1 (v := (.int .i64 x43)) (r := []) rfl rfl ag3 (pt_px rfl (At.int (O33.atSl (j := 0) rfl j46.2.2))) ?_
    refine W.pure (v := (.bool (decide (x43 ≥ 0)))) rfl rfl (v_int (oo rfl rfl) (oo rfl rfl) rfl) ?_
    refine .nil ?_
    refine .cond (b := decide (x43 ≥ 0)) rfl rfl (fun g47 => ?_) (fun g47 => ?_)
    ·have h48 := pos_inv g47 h45
     refine .exit ?_
     obtain rfl := Option.some.inj h48
     exact ⟨x26, x27, _, rfl, O33, (GM.le.refl _), t36⟩
    ·have h49 := neg_b g47 h45
     refine .skip ?_
     refine .seq ?_
     refine .region ?_
     refine W.pure (v := w17) rfl rfl (v_move (oo rfl ((fr31 7 rfl).trans rfl))) ?_
     refine W.pure (v := (.int .i64 x28)) rfl rfl (v_move (oo rfl rfl)) ?_
     refine W.pure (v := (.int .i64 x27)) rfl rfl (v_move (oo rfl t36)) ?_
     obtain ⟨x50, i51, h52⟩ := bd_inv h49
     have j53 := idx_inv i51
     refine W.pure (v := (selem w17 (Int.toNat x28 * 1))) rfl rfl (v_idx el24 sz3 (oo rfl rfl) (oo rfl rfl) (O33.slLen (j := 0) rfl) j53.1 j53.2.1) ?_
     refine W.lo rfl rfl (Lo.storeSl0 (j := 0) (y0 := x27) (v := (.int .i64 x27)) rfl j53.2.2  rfl sz3 rfl rfl rfl O33) ?_
     rintro v56 H57 ⟨O54, sm55⟩
     replace O54 : Ow G32 H57 (eSl w17 3 (rI .i64) (List.set x26 (Int.toNat x28) x27) :: L) := O54
     refine .nil ?_
     refine .seq ?_
     refine .seq ?_
     refine .region ?_
     refine W.pure (v := (.bool true)) rfl rfl (v_assign (oo rfl rfl)) ?_
     refine .nil ?_
     obtain ⟨q58, h59, h60⟩ := bd_inv h52
     refine AW.midT (fun σ' H' => ∃ (y1 : List Int) (G' : GM), y1 = q58 ∧ Ow G' H' (eSl w17 3 (rI .i64) y1 :: L) ∧ GM.le G32 G') ?_ ?_
     ·refine .block ?_
      refine AW.loop (α := Nat) (fun k' σ' H' => ∃ (y1 : List Int) (y2 : Bool) (G' : GM), g_graph_Parts_l2 K p1 p2 x27 k' y1 y2 = some q58 ∧ Ow G' H' (eSl w17 3 (rI .i64) y1 :: L) ∧ GM.le G32 G' ∧ σ' 10 = .bool y2) (fun k' => k') K ⟨(List.set x26 (Int.toNat x28) x27), true, _, h59, O54, (GM.le.refl _), rfl⟩ ?_
      rintro k61
      rintro σ64 H65 fr66 ⟨x62, x63, G67, h70, O68, s69, t71⟩
      rcases k61 with _ | k61
      ·exact none_absurd h70
      rw [g_graph_Parts_l2] at h70
      refine .seq ?_
      refine .seq ?_
      refine .region ?_
      refine W.pure (v := (.bool x63)) rfl rfl (v_move (oo rfl t71)) ?_
      refine .nil ?_
      refine .cond (b := x63) rfl rfl (fun g72 => ?_) (fun g72 => ?_)
      ·have h73 := pos_inv g72 h70
       refine .skip ?_
       refine .block ?_
       refine .seq ?_
       refine .region ?_
       refine W.pure (v := (.bool false)) rfl rfl (v_assign (oo rfl rfl)) ?_
       refine .nil ?_
       refine .seq ?_
       refine .region ?_
       refine W.pure (v := v1) rfl rfl (v_move (oo rfl ((fr66 1 rfl).trans ((fr31 1 rfl).trans rfl)))) ?_
       refine W.pure (v := (.int .i64 (List.length p1 : Int))) rfl rfl (len_sl (oo rfl rfl) (sl_len (RT.mono _ (GM.le.trans s7 (GM.le.trans s14 (GM.le.trans s34 s69))) hp1)) (elemT_inv el22)) ?_
       refine W.pure (v := (.int .i64 0)) rfl rfl (v_move (oo rfl rfl)) ?_
       refine .nil ?_
       obtain ⟨q74, h75, h76⟩ := bd_inv h73
       refine AW.midT (fun σ' H' => ∃ (y1 : List Int) (y2 : Bool) (G' : GM), (y1, y2) = q74 ∧ Ow G' H' (eSl w17 3 (rI .i64) y1 :: L) ∧ GM.le G67 G' ∧ σ' 10 = .bool y2) ?_ ?_
       ·refine .block ?_
        refine AW.loop (α := Nat) (fun k' σ' H' => ∃ (y1 : List Int) (y2 : Bool) (y3 : Int) (G' : GM), g_graph_Parts_l4 K p1 p2 x27 k' y1 y2 y3 = some q74 ∧ Ow G' H' (eSl w17 3 (rI .i64) y1 :: L) ∧ GM.le G67 G' ∧ σ' 10 = .bool y2 ∧ σ' 34 = .int .i64 y3) (fun k' => k') K ⟨x62, false, 0, _, h75, O68, (GM.le.refl _), rfl, rfl⟩ ?_
        rintro k77
        rintro σ81 H82 fr83 ⟨x78, x79, x80, G84, h87, O85, s86, t88, t89⟩
        rcases k77 with _ | k77
        ·exact none_absurd h87
        rw [g_graph_Parts_l4] at h87
        refine .seq ?_
        refine .region ?_
        refine W.pure (v := (.bool (decide (x80 < (List.length p1 : Int))))) rfl rfl (v_int (oo rfl t89) (oo rfl ((fr83 33 rfl).trans rfl)) rfl) ?_
        refine .nil ?_
        refine .seq ?_
        refine .cond (b := decide (x80 < (List.length p1 : Int))) rfl rfl (fun g90 => ?_) (fun g90 => ?_)
        ·have h91 := pos_inv g90 h87
         refine .skip ?_
         refine .seq ?_
         obtain ⟨q92, h93, h94⟩ := bd_inv h91
         refine AW.midT (fun σ' H' => ∃ (y1 : List Int) (y2 : Bool) (G' : GM), (y1, y2) = q92 ∧ Ow G' H' (eSl w17 3 (rI .i64) y1 :: L) ∧ GM.le G84 G' ∧ σ' 10 = .bool y2) ?_ ?_
         ·refine .block ?_
          refine .seq ?_
          refine .region ?_
          refine W.pure (v := (.int .i64 x80)) rfl rfl (v_move (oo rfl t89)) ?_
          obtain ⟨x95, i96, h97⟩ := bd_inv h93
          have j98 := idx_inv i96
          refine W.pure (v := (selem v1 (Int.toNat x80 * 2))) rfl rfl (v_idx el22 sz29 (oo rfl ((fr83 32 rfl).trans rfl)) (oo rfl t89) (sl_len (RT.mono _ (GM.le.trans s7 (GM.le.trans s14 (GM.le.trans s34 (GM.le.trans s69 s86)))) hp1)) j98.1 j98.2.1) ?_
          obtain ⟨c99, p100, f101⟩ := (At.le (At.le (sl_idx hp1 j98.2.2) (GM.le.trans s7 (GM.le.trans s14 (GM.le.trans s34 (GM.le.trans s69 s86)))) (GM.le.trans s7 (GM.le.trans s14 (GM.le.trans s34 (GM.le.trans s69 s86))))) (GM.le.refl _) O85.fro)
          refine W.loadA (cs := c99) rfl rfl ag29 sz29 (pt_px rfl p100) (RT.len _ f101) ?_
          refine W.lo rfl rfl (Lo.alloc (r := (rArr 2 (rI .i64))) (x0 := (List.replicate 2 0)) ze29 (by kernel_rfl) (fun G => ⟨by simp, List.replicate 2 [.int .i64 0], rfl, All2.replicate ((zI .i64) G) 2⟩) O85) ?_
          rintro v105 H106 ⟨b103, rfl, O102, sm104⟩
          refine W.pure (v := (.int .i64 x80)) rfl rfl (v_assign (oo rfl rfl)) ?_
          refine W.lo rfl rfl (Lo.storeVar (j := 0) (s := (rArr 2 (rI .i64))) (y0 := x95) (v := (.agg (List.toArray c99))) (o := 0) rfl ((Put.at (Put.self _) _ _)) rfl sz29 rfl (by omega) rfl f101 O102) ?_
          rintro v109 H110 ⟨O107, sm108⟩
          replace O107 : Ow G84 H110 (eVar b103 29 (rArr 2 (rI .i64)) x95 :: eSl w17 3 (rI .i64) x78 :: L) := O107
          refine .nil ?_
          refine .seq ?_
          refine .draw2 (M := [0, 0, 2, 7, 15, 0, 63, 0, 0, 256, 896, 1920, 0, 8064, 127, 32767]) mixed (by kernel_rfl) (by kernel_rfl) fun H111 N115 x112 F114 => ?_
          have O113 := O107.ext x112
          refine D2.pure (v := w17) rfl rfl (v_move (oo rfl ((fr83 7 rfl).trans ((fr66 7 rfl).trans ((fr31 7 rfl).trans rfl))))) ?_
          obtain ⟨x116, i117, h118⟩ := bd_inv h97
          have j119 := idx_inv i117
          refine D2.pure (v := (padd (.pointer (some ⟨b103, 0, none⟩)) (Int.toNat 0 * 1))) rfl rfl (v_idxAA ar29 sz3 (oo rfl rfl) (oo rfl rfl) (O113.atVar (j := 0) rfl) j119.1 j119.2.1) ?_
          refine D2.load1' (v := (.int .i64 x116)) (r := []) rfl rfl ag3 (pt_px rfl (At.int (At.aidx (O113.atVar (j := 0) rfl) j119.2.2))) fa_nil ?_
          obtain ⟨x120, i121, h122⟩ := bd_inv h118
          have j123 := idx_inv i121
          refine D2.pure (v := (selem w17 (Int.toNat x116 * 1))) rfl rfl (v_idx el24 sz3 (oo rfl rfl) (oo rfl rfl) (O113.slLen (j := 1) rfl) j123.1 j123.2.1) ?_
          refine D2.load1' (v := (.int .i64 x120)) (r := []) rfl rfl ag3 (pt_px rfl (At.int (O113.atSl (j := 1) rfl j123.2.2))) fa_nil ?_
          refine D2.pure (v := (.int .i64 x27)) rfl rfl (v_move (oo rfl ((fr83 8 rfl).trans ((fr66 8 rfl).trans t36)))) ?_
          refine D2.pure (v := (.bool (x120 == x27))) rfl rfl (v_int (oo rfl rfl) (oo rfl rfl) rfl) ?_
          refine D2.pure (v := w17) rfl rfl (v_move (oo rfl ((fr83 7 rfl).trans ((fr66 7 rfl).trans ((fr31 7 rfl).trans rfl))))) ?_
          obtain ⟨x124, i125, h126⟩ := bd_inv h122
          have j127 := idx_inv i125
          refine D2.pure (v := (padd (.pointer (some ⟨b103, 0, none⟩)) (Int.toNat 1 * 1))) rfl rfl (v_idxAA ar29 sz3 (oo rfl rfl) (oo rfl rfl) (O113.atVar (j := 0) rfl) j127.1 j127.2.1) ?_
          refine D2.load1' (v := (.int .i64 x124)) (r := []) rfl rfl ag3 (pt_px rfl (At.int (At.aidx (O113.atVar (j := 0) rfl) j127.2.2))) fa_nil ?_
          obtain ⟨x128, i129, h130⟩ := bd_inv h126
          have j131 := idx_inv i129
          refine D2.pure (v := (selem w17 (Int.toNat x124 * 1))) rfl rfl (v_idx el24 sz3 (oo rfl rfl) (oo rfl rfl) (O113.slLen (j := 1) rfl) j131.1 j131.2.1) ?_
          refine D2.load1' (v := (.int .i64 x128)) (r := []) rfl rfl ag3 (pt_px rfl (At.int (O113.atSl (j := 1) rfl j131.2.2))) fa_nil ?_
          refine D2.pure (v := (.int .i64 x27)) rfl rfl (v_move (oo rfl ((fr83 8 rfl).trans ((fr66 8 rfl).trans t36)))) ?_
          refine D2.pure (v := (.bool (x128 == x27))) rfl rfl (v_int (oo rfl rfl) (oo rfl rfl) rfl) ?_
          refine D2.pure (v := (.bool (x120 == x27))) rfl rfl (v_assign (oo rfl rfl)) ?_
          refine D2.pure (v := (.bool (x128 == x27))) rfl rfl (v_assign (oo rfl rfl)) ?_
          refine .nil ?_
          refine .seq ?_
          obtain ⟨q132, h133, h134⟩ := bd_inv h130
          refine AW.midT (fun σ' H' => ∃ (y1 : Bool) (G' : GM), y1 = q132 ∧ Ow G' H' (eVar b103 29 (rArr 2 (rI .i64)) x95 :: eSl w17 3 (rI .i64) x78 :: L) ∧ GM.le G84 G' ∧ σ' 60 = .bool y1) ?_ ?_
          ·refine .region ?_
           refine W.pure (v := (.bool (x120 == x27))) rfl rfl (v_move (oo rfl rfl)) ?_
           refine W.pure (v := (.bool (x128 == x27))) rfl rfl (v_move (oo rfl rfl)) ?_
           refine W.pure (v := (.bool (!((x120 == x27) == (x128 == x27))))) rfl rfl (bool_neq (oo rfl rfl) (oo rfl rfl) un4) ?_
           refine W.pure (v := (.bool (!((x120 == x27) == (x128 == x27))))) rfl rfl (v_move (oo rfl rfl)) ?_
           refine W.splitAt (t := 56) (b := (!((x120 == x27) == (x128 == x27)))) rfl (fun g135 gv136 => ?_) (fun g135 gv136 => ?_)
           ·have h137 := pos_inv g135 h133
            refine W.pure (v := v2) (gk rfl rfl gv136 rfl) rfl (v_move (oo rfl ((fr83 2 rfl).trans ((fr66 2 rfl).trans ((fr31 2 rfl).trans rfl))))) ?_
            refine W.pure (v := (.int .i64 x80)) (gk rfl rfl gv136 rfl) rfl (v_move (oo rfl rfl)) ?_
            obtain ⟨x138, i139, h140⟩ := bd_inv h137
            refine W.lo (gk rfl rfl gv136 rfl) rfl (Lo.callF (x0 := x80) rfl rfl (FnOk.le hp2 (GM.le.trans s7 (GM.le.trans s14 (GM.le.trans s34 (GM.le.trans s69 s86))))) (mc rfl mn) rfl i139 O113) ?_
            rintro v145 H146 ⟨G141, O142, s143, sm144, rfl⟩
            refine W.pure (v := (.bool x138)) rfl rfl (v_pickT (oo rfl gv136) (oo rfl rfl)) ?_
            refine .nil ?_
            obtain rfl := Option.some.inj h140
            exact ⟨x138, _, rfl, O142, s143, rfl⟩
           ·have h147 := neg_b g135 h133
            refine W.skip (gk rfl rfl gv136 rfl) rfl ?_
            refine W.skip (gk rfl rfl gv136 rfl) rfl ?_
            refine W.skip (gk rfl rfl gv136 rfl) rfl ?_
            refine W.pure (v := (.bool false)) rfl rfl (v_pickF (oo rfl gv136) (oo rfl rfl)) ?_
            refine .nil ?_
            obtain rfl := Option.some.inj h147
            exact ⟨false, _, rfl, O113, (GM.le.refl _), rfl⟩
          ·rintro σ149 H150 fr151 ⟨x148, G152, rfl, O153, s154, t156⟩
           have h157 := tu1_inv h134
           refine .cond (b := x148) rfl t156 (fun g158 => ?_) (fun g158 => ?_)
           ·have h159 := pos_inv g158 h157
            refine .draw2 (M := [0, 0, 2, 0, 0, 16, 0, 0, 71, 327, 1023, 2047, 4095]) mixed (by kernel_rfl) (by kernel_rfl) fun H160 N164 x161 F163 => ?_
            have O162 := O153.ext x161
            refine D2.pure (v := w17) rfl rfl (v_move (oo rfl ((fr151 7 rfl).trans ((fr83 7 rfl).trans ((fr66 7 rfl).trans ((fr31 7 rfl).trans rfl)))))) ?_
            obtain ⟨x165, i166, h167⟩ := bd_inv h159
            have j168 := idx_inv i166
            refine D2.pure (v := (padd (.pointer (some ⟨b103, 0, none⟩)) (Int.toNat 0 * 1))) rfl rfl (v_idxAA ar29 sz3 (oo rfl ((fr151 12 rfl).trans rfl)) (oo rfl rfl) (O162.atVar (j := 0) rfl) j168.1 j168.2.1) ?_
            refine D2.load1' (v := (.int .i64 x165)) (r := []) rfl rfl ag3 (pt_px rfl (At.int (At.aidx (O162.atVar (j := 0) rfl) j168.2.2))) fa_nil ?_
            refine D2.pure (v := w17) rfl rfl (v_move (oo rfl ((fr151 7 rfl).trans ((fr83 7 rfl).trans ((fr66 7 rfl).trans ((fr31 7 rfl).trans rfl)))))) ?_
            obtain ⟨x169, i170, h171⟩ := bd_inv h167
            have j172 := idx_inv i170
            refine D2.pure (v := (padd (.pointer (some ⟨b103, 0, none⟩)) (Int.toNat 1 * 1))) rfl rfl (v_idxAA ar29 sz3 (oo rfl ((fr151 12 rfl).trans rfl)) (oo rfl rfl) (O162.atVar (j := 0) rfl) j172.1 j172.2.1) ?_
            refine D2.load1' (v := (.int .i64 x169)) (r := []) rfl rfl ag3 (pt_px rfl (At.int (At.aidx (O162.atVar (j := 0) rfl) j172.2.2))) fa_nil ?_
            refine D2.pure (v := (.int .i64 x27)) rfl rfl (v_move (oo rfl ((fr151 8 rfl).trans ((fr83 8 rfl).trans ((fr66 8 rfl).trans t36))))) ?_
            refine D2.pure (v := (.int .i64 x27)) rfl rfl (v_move (oo rfl ((fr151 8 rfl).trans ((fr83 8 rfl).trans ((fr66 8 rfl).trans t36))))) ?_
            obtain ⟨x173, i174, h175⟩ := bd_inv h171
            have j176 := idx_inv i174
            refine D2.pure (v := (selem w17 (Int.toNat x165 * 1))) rfl rfl (v_idx el24 sz3 (oo rfl rfl) (oo rfl rfl) (O162.slLen (j := 1) rfl) j176.1 j176.2.1) ?_
            refine D2.lo rfl rfl (Lo.storeSl0 (j := 1) (y0 := x27) (v := (.int .i64 x27)) rfl j176.2.2  rfl sz3 rfl rfl rfl O162) ?_ fa_nil ?_ ?_
            ·rintro v179 H180 ⟨O177, sm178⟩; exact (faR1 (.inr (sm178 _ (O162.neP (i := 0) (j := 1) (by decide) rfl rfl (List.mem_singleton.2 rfl) (O162.footSl' (j := 1) rfl j176.2.2)))) (faR1 (.inl (by decide)) fa_nil))
            ·rintro v179 H180 ⟨O177, sm178⟩; exact fa_nil
            rintro v179 H180 ⟨O177, sm178⟩
            replace O177 : Ow G152 H180 (eVar b103 29 (rArr 2 (rI .i64)) x95 :: eSl w17 3 (rI .i64) (List.set x78 (Int.toNat x165) x27) :: L) := O177
            obtain ⟨x181, i182, h183⟩ := bd_inv h175
            have j184 := idx_inv i182
            refine D2.pure (v := (selem w17 (Int.toNat x169 * 1))) rfl rfl (v_idx el24 sz3 (oo rfl rfl) (oo rfl rfl) (O177.slLen (j := 1) rfl) j184.1 j184.2.1) ?_
            refine D2.lo rfl rfl (Lo.storeSl0 (j := 1) (y0 := x27) (v := (.int .i64 x27)) rfl j184.2.2  rfl sz3 rfl rfl rfl O177) ?_ (faL_bit (by decide) fa_nil) ?_ ?_
            ·rintro v187 H188 ⟨O185, sm186⟩; exact (faR1 (.inl (by decide)) (faR1 (.inl (by decide)) fa_nil))
            ·rintro v187 H188 ⟨O185, sm186⟩; exact fa_nil
            rintro v187 H188 ⟨O185, sm186⟩
            replace O185 : Ow G152 H188 (eVar b103 29 (rArr 2 (rI .i64)) x95 :: eSl w17 3 (rI .i64) (List.set (List.set x78 (Int.toNat x165) x27) (Int.toNat x169) x27) :: L) := O185
            refine D2.pure (v := (.bool true)) rfl rfl (v_assign (oo rfl rfl)) ?_
            refine .nil ?_
            have O189 : Ow G152 H188 (eSl w17 3 (rI .i64) (List.set (List.set x78 (Int.toNat x165) x27) (Int.toNat x169) x27) :: L) := O185.drop 0
            obtain rfl := Option.some.inj h183
            exact ⟨(List.set (List.set x78 (Int.toNat x165) x27) (Int.toNat x169) x27), true, _, rfl, O189, s154, rfl⟩
           ·have h190 := neg_b g158 h157
            refine .skip ?_
            have O191 : Ow G152 H150 (eSl w17 3 (rI .i64) x78 :: L) := O153.drop 0
            obtain rfl := Option.some.inj h190
            exact ⟨x78, x79, _, rfl, O191, s154, ((fr151 10 rfl).trans t88)⟩
         ·rintro σ194 H195 fr196 ⟨x192, x193, G197, rfl, O198, s199, t201⟩
          have h202 := tu2_inv h94
          refine .region ?_
          refine W.pure (v := (.int .i64 (kwrap .i64 (x80 + 1)))) rfl rfl (v_int (oo rfl ((fr196 34 rfl).trans t89)) (oo rfl rfl) rfl) ?_
          refine W.pure (v := (.int .i64 (kwrap .i64 (x80 + 1)))) rfl rfl (v_move (oo rfl rfl)) ?_
          refine .nil ?_
          exact ⟨k77, Nat.lt_succ_self _, ⟨x192, x193, kwrap .i64 (x80 + 1), _, h202, O198, (GM.le.trans s86 s199), t201, rfl⟩⟩
        ·have h203 := neg_b g90 h87
         refine .exit ?_
         obtain rfl := Option.some.inj h203
         exact ⟨x78, x79, _, rfl, O85, s86, t88⟩
       ·rintro σ206 H207 fr208 ⟨x204, x205, G209, rfl, O210, s211, t213⟩
        have h214 := tu2_inv h76
        exact ⟨k61, Nat.lt_succ_self _, ⟨x204, x205, _, h214, O210, (GM.le.trans s69 s211), t213⟩⟩
      ·have h215 := neg_b g72 h70
       refine .exit ?_
       obtain rfl := Option.some.inj h215
       exact ⟨x62, _, rfl, O68, s69⟩
     ·rintro σ217 H218 fr219 ⟨x216, G220, rfl, O221, s222⟩
      have h224 := tu1_inv h60
      refine .region ?_
      refine W.pure (v := (.int .i64 x27)) rfl rfl (v_move (oo rfl ((fr219 8 rfl).trans t36))) ?_
      refine W.pure (v := (.int .i64 (kwrap .i64 (x27 + 1)))) rfl rfl (v_int (oo rfl rfl) (oo rfl rfl) rfl) ?_
      refine W.pure (v := (.int .i64 (kwrap .i64 (x27 + 1)))) rfl rfl (v_assign (oo rfl rfl)) ?_
      refine .nil ?_
      obtain rfl := Option.some.inj h224
      exact ⟨x216, kwrap .i64 (x27 + 1), _, rfl, O221, s222, rfl⟩
   ·rintro σ227 H228 fr229 ⟨x225, x226, G230, rfl, O231, s232, t234⟩
    have h235 := tu2_inv h42
    refine .region ?_
    refine W.pure (v := (.int .i64 (kwrap .i64 (x28 + 1)))) rfl rfl (v_int (oo rfl ((fr229 19 rfl).trans t37)) (oo rfl rfl) rfl) ?_
    refine W.pure (v := (.int .i64 (kwrap .i64 (x28 + 1)))) rfl rfl (v_move (oo rfl rfl)) ?_
    refine .nil ?_
    exact ⟨k25, Nat.lt_succ_self _, ⟨x225, x226, kwrap .i64 (x28 + 1), _, h235, O231, (GM.le.trans s34 s232), t234, rfl⟩⟩
  ·have h236 := neg_b g38 h35
   refine .exit ?_
   obtain rfl := Option.some.inj h236
   exact ⟨x26, _, rfl, O33, s34⟩
 ·rintro σ238 H239 fr240 ⟨x237, G241, rfl, O242, s243⟩
  have h245 := tu1_inv h24
  refine .seq ?_
  refine .region ?_
  refine W.pure (v := w17) rfl rfl (v_move (oo rfl ((fr240 7 rfl).trans rfl))) ?_
  refine W.pure (v := w17) rfl rfl (v_assign (oo rfl rfl)) ?_
  refine .nil ?_
  refine .ret ?_
  obtain rfl := Option.some.inj h245
  refine ret1R (P := Try.prog) (fn := Try.f55) (n := 76) (R := fun v H' => ∃ w0 G', Ow G' H' (eSl w0 3 (rI .i64) x237 :: L) ∧ G.le G' ∧ w0 = v) (v1 := w17) (by rfl) (rr_tmp (by rfl) (by exact rfl)) ?_
  exact ⟨w17, _, O242, (GM.le.trans s7 (GM.le.trans s14 s243)), rfl⟩
def g_station_Buses (K : Nat) (p0 : Network) : Option (List Int) := ((g_station_Edges K p0).bind fun x17 => ((g_graph_Parts K (List.length p0.Nodes : Int) x17 (fun x => g_station_Buses_1 K x p0)).bind fun x38 => some x38))
set_option maxHeartbeats 4000000 in
theorem g_station_Buses_ok (K : Nat) {G : GM} {H : AH} {L : List Pc} (v0 : List Value) (p0 : Network) (hp0 : T_Network.rep G v0 p0) (O : Ow G H (L)) (r : List Int) (h : g_station_Buses K p0 = some r) :
  CRF Try.prog 86 [.agg (List.toArray v0)] G H (fun w0 => (eSl w0 3 (rI .i64) r :: L)) (fun w0 v G' => w0 = v) := by
 unfold g_station_Buses at h
 refine CRF.of (calls_of_AW (n := 10) (fn := Try.f86) (R := fun v H' => ∃ w0 G', Ow G' H' (eSl w0 3 (rI .i64) r :: L) ∧ G.le G' ∧ w0 = v) (by kernel_rfl) rfl rfl ?_)
 refine .seq ?_
 refine .region ?_
 refine W.lo rfl rfl (Lo.box (r := T_Network) (x0 := p0) (v := (.agg (List.toArray v0))) rfl rfl hp0 O) ?_
 rintro v4 H5 ⟨b2, rfl, O1, sm3⟩
 refine W.pure (v := (.slice none 0 0)) rfl rfl (v_assign (oo rfl rfl)) ?_
 refine .nil ?_
 refine .seq ?_
 refine .draw2 (M := [0, 1, 3, 0, 8, 0, 63, 127]) mixed (by kernel_rfl) (by kernel_rfl) fun H6 N10 x7 F9 => ?_
 have O8 := O1.ext x7
 refine D2.pure (v := (padd (.pointer (some ⟨b2, 0, none⟩)) 0)) rfl rfl (v_fldA fl48_0 (oo rfl rfl) (O8.atVar (j := 0) rfl)) ?_
 obtain ⟨w11, p12, f13⟩ := At.sl (At.proj (O8.atVar (j := 0) rfl) p_Network_Nodes)
 refine D2.load1' (v := w11) (r := []) rfl rfl ag41 (pt_px rfl p12) fa_nil ?_
 refine D2.pure (v := (.int .i64 (List.length p0.Nodes : Int))) rfl rfl (len_sl (oo rfl rfl) (sl_len f13) (elemT_inv el41)) ?_
 obtain ⟨c14, p15, f16⟩ := (O8.atVar (j := 0) rfl)
 refine D2.loadA' (cs := c14) rfl rfl ag48 sz48 (pt_px rfl p15) (RT.len _ f16) fa_nil ?_
 obtain ⟨x17, i18, h19⟩ := bd_inv h
 refine D2.lo rfl rfl (Lo.callPF (ps := []) (pw := fun w => [eSl w 29 (rArr 2 (rI .i64)) x17]) rfl (fn := Try.f88) (by kernel_rfl) rfl (mc rfl mn) O8 (fun L' O' => g_station_Edges_ok K c14 p0 f16 O' _ i18)) ?_ fa_nil ?_ ?_
 ·rintro v28 H29 ⟨w25, G20, O21, s22, sm27, rfl⟩; exact (faR1 (.inl (by decide)) (faR1 (.inr (sm27 _ (Or.inr ⟨0, _, rfl, List.mem_singleton.2 rfl⟩))) fa_nil))
 ·rintro v28 H29 ⟨w25, G20, O21, s22, sm27, rfl⟩; exact fa_nil
 rintro v28 H29 ⟨w25, G20, O21, s22, sm27, rfl⟩
 replace O21 : Ow G20 H29 (eSl w25 29 (rArr 2 (rI .i64)) x17 :: eVar b2 48 T_Network p0 :: L) := O21
 refine D2.pure (v := (.func (.func 123) #[] #[(.pointer (some ⟨b2, 0, none⟩))])) rfl rfl (v_makeFunc (opndL_ooL rfl mn) (opndL_ooL rfl (mc rfl mn))) ?_
 obtain ⟨G30, O31, s32, f33⟩ := O21.frzSl (j := 0) rfl
 replace O31 : Ow G30 H29 (eVar b2 48 T_Network p0 :: L) := O31
 obtain ⟨G34, O35, s36, f37⟩ := O31.frzVar (j := 0) rfl
 replace O35 : Ow G34 H29 (L) := O35
 obtain ⟨x38, i39, h40⟩ := bd_inv h19
 refine D2.lo rfl rfl (Lo.callPF (ps := []) (pw := fun w => [eSl w 3 (rI .i64) x38]) rfl (fn := Try.f55) (by kernel_rfl) rfl (mc rfl (mc rfl (mc rfl mn))) O35 (fun L' O' => g_graph_Parts_ok K (List.length p0.Nodes : Int) w25 x17 (RT.mono _ s36 f33) (.func (.func 123) #[] #[(.pointer (some ⟨b2, 0, none⟩))]) (fun x => g_station_Buses_1 K x p0) ⟨123, _, _, Try.f123, rfl, by kernel_rfl, rfl, fun G1 H L vs x r hG O hA hF => by obtain rfl := hA; exact g_station_Buses_1_ok K x (.pointer (some ⟨b2, 0, none⟩)) p0 (At.le f37 hG hG) O _ hF⟩ O' _ i39)) ?_ (faL_bit (by decide) fa_nil) ?_ ?_
 ·rintro v49 H50 ⟨w46, G41, O42, s43, sm48, rfl⟩; exact (faR1 (.inl (by decide)) (faR1 (.inl (by decide)) fa_nil))
 ·rintro v49 H50 ⟨w46, G41, O42, s43, sm48, rfl⟩; exact fa_nil
 rintro v49 H50 ⟨w46, G41, O42, s43, sm48, rfl⟩
 replace O42 : Ow G41 H50 (eSl w46 3 (rI .i64) x38 :: L) := O42
 refine D2.pure (v := w46) rfl rfl (v_assign (oo rfl rfl)) ?_
 refine .nil ?_
 refine .ret ?_
 obtain rfl := Option.some.inj h40
 refine ret1R (P := Try.prog) (fn := Try.f86) (n := 10) (R := fun v H' => ∃ w0 G', Ow G' H' (eSl w0 3 (rI .i64) x38 :: L) ∧ G.le G' ∧ w0 = v) (v1 := w46) (by rfl) (rr_tmp (by rfl) (by exact rfl)) ?_
 exact ⟨w46, _, O42, (GM.le.trans s22 (GM.le.trans s32 (GM.le.trans s36 s43))), rfl⟩
def g_graph_Count_l0 (K : Nat) (p0 : List Int) : Nat → Int → Int → Option (Int)
 | 0, _, _ => none
 | k + 1, x5, x6 => (if (decide (x6 < (List.length p0 : Int))) = true then ((idx p0 x6).bind fun x18 => g_graph_Count_l0 K p0 k (imax x5 (kwrap .i64 (x18 + 1))) (kwrap .i64 (x6 + 1))) else some x5)
def g_graph_Count (K : Nat) (p0 : List Int) : Option Int := (Option.bind (g_graph_Count_l0 K p0 K 0 0) (tu1 fun x23 => some x23))
set_option maxHeartbeats 4000000 in
theorem g_graph_Count_ok (K : Nat) {G : GM} {H : AH} {L : List Pc} (v0 : Value) (p0 : List Int) (hp0 : (rSl (rI .i64)).rep G [v0] p0) (O : Ow G H (L)) (r : Int) (h : g_graph_Count K p0 = some r) :
  CR Try.prog 80 [v0] G H (L) (fun v G' _ => v = .int .i64 r) := by
 unfold g_graph_Count at h
 refine CR.of (calls_of_AW (n := 18) (fn := Try.f80) (R := fun v H' => ∃ G', Ow G' H' (L) ∧ G.le G' ∧ v = .int .i64 r) (by kernel_rfl) rfl rfl ?_)
 refine .seq ?_
 refine .region ?_
 refine W.pure (v := (.int .i64 0)) rfl rfl (v_assign (oo rfl rfl)) ?_
 refine .nil ?_
 refine .seq ?_
 refine .region ?_
 refine W.pure (v := (.int .i64 0)) rfl rfl (v_assign (oo rfl rfl)) ?_
 refine .nil ?_
 refine .seq ?_
 refine .seq ?_
 refine .region ?_
 refine W.pure (v := v0) rfl rfl (v_move (oo rfl rfl)) ?_
 refine W.pure (v := (.int .i64 (List.length p0 : Int))) rfl rfl (len_sl (oo rfl rfl) (sl_len hp0) (elemT_inv el24)) ?_
 refine W.pure (v := (.int .i64 0)) rfl rfl (v_move (oo rfl rfl)) ?_
 refine .nil ?_
 obtain ⟨q1, h2, h3⟩ := bd_inv h
 refine AW.midT (fun σ' H' => ∃ (y1 : Int) (G' : GM), y1 = q1 ∧ Ow G' H' (L) ∧ GM.le G G' ∧ σ' 3 = .int .i64 y1) ?_ ?_
 ·refine .block ?_
  refine AW.loop (α := Nat) (fun k' σ' H' => ∃ (y1 : Int) (y2 : Int) (G' : GM), g_graph_Count_l0 K p0 k' y1 y2 = some q1 ∧ Ow G' H' (L) ∧ GM.le G G' ∧ σ' 3 = .int .i64 y1 ∧ σ' 8 = .int .i64 y2) (fun k' => k') K ⟨0, 0, _, h2, O, (GM.le.refl _), rfl, rfl⟩ ?_
  rintro k4
  rintro σ7 H8 fr9 ⟨x5, x6, G10, h13, O11, s12, t14, t15⟩
  rcases k4 with _ | k4
  ·exact none_absurd h13
  rw [g_graph_Count_l0] at h13
  refine .seq ?_
  refine .region ?_
  refine W.pure (v := (.bool (decide (x6 < (List.length p0 : Int))))) rfl rfl (v_int (oo rfl t15) (oo rfl ((fr9 7 rfl).trans rfl)) rfl) ?_
  refine .nil ?_
  refine .seq ?_
  refine .cond (b := decide (x6 < (List.length p0 : Int))) rfl rfl (fun g16 => ?_) (fun g16 => ?_)
  ·have h17 := pos_inv g16 h13
   refine .skip ?_
   refine .seq ?_
   refine .block ?_
   refine .seq ?_
   refine .region ?_
   obtain ⟨x18, i19, h20⟩ := bd_inv h17
   have j21 := idx_inv i19
   refine W.pure (v := (selem v0 (Int.toNat x6 * 1))) rfl rfl (v_idx el24 sz3 (oo rfl ((fr9 6 rfl).trans rfl)) (oo rfl t15) (sl_len (RT.mono _ s12 hp0)) j21.1 j21.2.1) ?_
   refine W.load1 (v := (.int .i64 x18)) (r := []) rfl rfl ag3 (pt_px rfl (At.int (At.le (At.le (sl_idx hp0 j21.2.2) s12 s12) (GM.le.refl _) O11.fro))) ?_
   refine W.pure (v := (.int .i64 x18)) rfl rfl (v_assign (oo rfl rfl)) ?_
   refine .nil ?_
   refine .region ?_
   refine W.pure (v := (.int .i64 x5)) rfl rfl (v_move (oo rfl t14)) ?_
   refine W.pure (v := (.int .i64 x18)) rfl rfl (v_move (oo rfl rfl)) ?_
   refine W.pure (v := (.int .i64 (kwrap .i64 (x18 + 1)))) rfl rfl (v_int (oo rfl rfl) (oo rfl rfl) rfl) ?_
   refine W.pure (v := (.int .i64 (imax x5 (kwrap .i64 (x18 + 1))))) rfl rfl (v_max2 (oo rfl rfl) (oo rfl rfl)) ?_
   refine W.pure (v := (.int .i64 (imax x5 (kwrap .i64 (x18 + 1))))) rfl rfl (v_assign (oo rfl rfl)) ?_
   refine .nil ?_
   refine .region ?_
   refine W.pure (v := (.int .i64 (kwrap .i64 (x6 + 1)))) rfl rfl (v_int (oo rfl t15) (oo rfl rfl) rfl) ?_
   refine W.pure (v := (.int .i64 (kwrap .i64 (x6 + 1)))) rfl rfl (v_move (oo rfl rfl)) ?_
   refine .nil ?_
   exact ⟨k4, Nat.lt_succ_self _, ⟨imax x5 (kwrap .i64 (x18 + 1)), kwrap .i64 (x6 + 1), _, h20, O11, s12, rfl, rfl⟩⟩
  ·have h22 := neg_b g16 h13
   refine .exit ?_
   obtain rfl := Option.some.inj h22
   exact ⟨x5, _, rfl, O11, s12, t14⟩
 ·rintro σ24 H25 fr26 ⟨x23, G27, rfl, O28, s29, t31⟩
  have h32 := tu1_inv h3
  refine .seq ?_
  refine .region ?_
  refine W.pure (v := (.int .i64 x23)) rfl rfl (v_move (oo rfl t31)) ?_
  refine W.pure (v := (.int .i64 x23)) rfl rfl (v_assign (oo rfl rfl)) ?_
  refine .nil ?_
  refine .ret ?_
  obtain rfl := Option.some.inj h32
  refine ret1R (P := Try.prog) (fn := Try.f80) (n := 18) (R := fun v H' => ∃ G', Ow G' H' (L) ∧ G.le G' ∧ v = .int .i64 x23) (v1 := (.int .i64 x23)) (by rfl) (rr_tmp (by rfl) (by exact rfl)) ?_
  exact ⟨_, O28, s29, rfl⟩
def g_station_Join_1 (K : Nat) (p0 : Int) (p1 : Network) (p2 : List (List Int)) : Option Bool := (Option.bind (((idx p1.Switches p0).bind fun x12 => (if x12.Open = true then ((idx p2 p0).bind fun x22 => ((idx x22 0).bind fun x26 => ((idx p2 p0).bind fun x33 => ((idx x33 1).bind fun x37 => some (x26 != x37))))) else some false))) (tu1 fun x42 => some x42))
set_option maxHeartbeats 4000000 in
theorem g_station_Join_1_ok (K : Nat) {G : GM} {H : AH} {L : List Pc} (p0 : Int) (v1 : Value) (p1 : Network) (hp1 : At G G v1 T_Network p1) (v2 : Value) (p2 : List (List Int)) (hp2 : At G G v2 (rSl (rArr 2 (rI .i64))) p2) (O : Ow G H (L)) (r : Bool) (h : g_station_Join_1 K p0 p1 p2 = some r) :
  CR Try.prog 90 [(.int .i64 p0), v1, v2] G H (L) (fun v G' _ => v = .bool r) := by
 unfold g_station_Join_1 at h
 refine CR.of (calls_of_AW (n := 24) (fn := Try.f90) (R := fun v H' => ∃ G', Ow G' H' (L) ∧ G.le G' ∧ v = .bool r) (by kernel_rfl) rfl rfl ?_)
 refine .seq ?_
 refine .region ?_
 refine W.pure (v := (.bool false)) rfl rfl (v_assign (oo rfl rfl)) ?_
 refine .nil ?_
 refine .seq ?_
 obtain ⟨q1, h2, h3⟩ := bd_inv h
 refine AW.midT (fun σ' H' => ∃ (y1 : Bool) (G' : GM), y1 = q1 ∧ Ow G' H' (L) ∧ GM.le G G' ∧ σ' 4 = .bool y1) ?_ ?_
 ·refine .draw2 (M := [0, 1, 0, 7, 15, 31, 63, 127, 127, 511, 1023, 2047, 127, 127, 12415, 28799, 61567, 131071, 262143, 524287]) mixed (by kernel_rfl) (by kernel_rfl) fun H4 N8 x5 F7 => ?_
  have O6 := O.ext x5
  refine D2.pure (v := (padd v1 1)) rfl rfl (v_fldA fl48_1 (oo rfl rfl) (At.le hp1 (GM.le.refl _) O6.fro)) ?_
  obtain ⟨w9, p10, f11⟩ := At.sl (At.proj hp1 p_Network_Switches)
  replace p10 := PtG.le p10 O6.fro
  refine D2.load1' (v := w9) (r := []) rfl rfl ag42 (pt_px rfl p10) fa_nil ?_
  refine D2.pure (v := (.int .i64 p0)) rfl rfl (v_move (oo rfl rfl)) ?_
  obtain ⟨x12, i13, h14⟩ := bd_inv h2
  have j15 := idx_inv i13
  refine D2.pure (v := (selem w9 (Int.toNat p0 * 5))) rfl rfl (v_idx el42 sz81 (oo rfl rfl) (oo rfl rfl) (sl_len f11) j15.1 j15.2.1) ?_
  refine D2.pure (v := (padd (selem w9 (Int.toNat p0 * 5)) 4)) rfl rfl (v_fldA fl81_4 (oo rfl rfl) (At.le (sl_idx f11 j15.2.2) (GM.le.refl _) O6.fro)) ?_
  refine D2.load1' (v := (.bool x12.Open)) (r := []) rfl rfl ag4 (pt_px rfl (At.bool (At.le (At.proj (sl_idx f11 j15.2.2) p_Switch_Open) (GM.le.refl _) O6.fro))) fa_nil ?_
  refine D2.pure (v := (.bool x12.Open)) rfl rfl (v_move (oo rfl rfl)) ?_
  refine D2.splitAt (t := 11) (b := x12.Open) rfl (fun g16 gv17 => ?_) (fun g16 gv17 => ?_)
  ·have h18 := pos_inv g16 h14
   obtain ⟨w19, p20, f21⟩ := At.sl hp2
   replace p20 := PtG.le p20 O6.fro
   refine D2.load1' (v := w19) (r := []) (gk rfl rfl gv17 rfl) rfl ag22 (pt_px rfl p20) fa_nil ?_
   refine D2.pure (v := (.int .i64 p0)) (gk rfl rfl gv17 rfl) rfl (v_move (oo rfl rfl)) ?_
   obtain ⟨x22, i23, h24⟩ := bd_inv h18
   have j25 := idx_inv i23
   refine D2.pure (v := (selem w19 (Int.toNat p0 * 2))) (gk rfl rfl gv17 rfl) rfl (v_idx el22 sz29 (oo rfl rfl) (oo rfl rfl) (sl_len f21) j25.1 j25.2.1) ?_
   obtain ⟨x26, i27, h28⟩ := bd_inv h24
   have j29 := idx_inv i27
   refine D2.pure (v := (padd (selem w19 (Int.toNat p0 * 2)) (Int.toNat 0 * 1))) (gk rfl rfl gv17 rfl) rfl (v_idxAA ar29 sz3 (oo rfl rfl) (oo rfl rfl) (At.le (sl_idx f21 j25.2.2) (GM.le.refl _) O6.fro) j29.1 j29.2.1) ?_
   refine D2.load1' (v := (.int .i64 x26)) (r := []) (gk rfl rfl gv17 rfl) rfl ag3 (pt_px rfl (At.int (At.le (At.aidx (sl_idx f21 j25.2.2) j29.2.2) (GM.le.refl _) O6.fro))) fa_nil ?_
   obtain ⟨w30, p31, f32⟩ := At.sl hp2
   replace p31 := PtG.le p31 O6.fro
   refine D2.load1' (v := w30) (r := []) (gk rfl rfl gv17 rfl) rfl ag22 (pt_px rfl p31) fa_nil ?_
   refine D2.pure (v := (.int .i64 p0)) (gk rfl rfl gv17 rfl) rfl (v_move (oo rfl rfl)) ?_
   obtain ⟨x33, i34, h35⟩ := bd_inv h28
   have j36 := idx_inv i34
   refine D2.pure (v := (selem w30 (Int.toNat p0 * 2))) (gk rfl rfl gv17 rfl) rfl (v_idx el22 sz29 (oo rfl rfl) (oo rfl rfl) (sl_len f32) j36.1 j36.2.1) ?_
   obtain ⟨x37, i38, h39⟩ := bd_inv h35
   have j40 := idx_inv i38
   refine D2.pure (v := (padd (selem w30 (Int.toNat p0 * 2)) (Int.toNat 1 * 1))) (gk rfl rfl gv17 rfl) rfl (v_idxAA ar29 sz3 (oo rfl rfl) (oo rfl rfl) (At.le (sl_idx f32 j36.2.2) (GM.le.refl _) O6.fro) j40.1 j40.2.1) ?_
   refine D2.load1' (v := (.int .i64 x37)) (r := []) (gk rfl rfl gv17 rfl) rfl ag3 (pt_px rfl (At.int (At.le (At.aidx (sl_idx f32 j36.2.2) j40.2.2) (GM.le.refl _) O6.fro))) fa_nil ?_
   refine D2.pure (v := (.bool (x26 != x37))) (gk rfl rfl gv17 rfl) rfl (v_int (oo rfl rfl) (oo rfl rfl) rfl) ?_
   refine D2.pure (v := (.bool (x26 != x37))) rfl rfl (v_pickT (oo rfl gv17) (oo rfl rfl)) ?_
   refine D2.pure (v := (.bool (x26 != x37))) rfl rfl (v_assign (oo rfl rfl)) ?_
   refine .nil ?_
   obtain rfl := Option.some.inj h39
   exact ⟨(x26 != x37), _, rfl, O6, (GM.le.refl _), rfl⟩
  ·have h41 := neg_b g16 h14
   refine D2.skip (gk rfl rfl gv17 rfl) rfl ?_
   refine D2.skip (gk rfl rfl gv17 rfl) rfl ?_
   refine D2.skip (gk rfl rfl gv17 rfl) rfl ?_
   refine D2.skip (gk rfl rfl gv17 rfl) rfl ?_
   refine D2.skip (gk rfl rfl gv17 rfl) rfl ?_
   refine D2.skip (gk rfl rfl gv17 rfl) rfl ?_
   refine D2.skip (gk rfl rfl gv17 rfl) rfl ?_
   refine D2.skip (gk rfl rfl gv17 rfl) rfl ?_
   refine D2.skip (gk rfl rfl gv17 rfl) rfl ?_
   refine D2.skip (gk rfl rfl gv17 rfl) rfl ?_
   refine D2.skip (gk rfl rfl gv17 rfl) rfl ?_
   refine D2.pure (v := (.bool false)) rfl rfl (v_pickF (oo rfl gv17) (oo rfl rfl)) ?_
   refine D2.pure (v := (.bool false)) rfl rfl (v_assign (oo rfl rfl)) ?_
   refine .nil ?_
   obtain rfl := Option.some.inj h41
   exact ⟨false, _, rfl, O6, (GM.le.refl _), rfl⟩
 ·rintro σ43 H44 fr45 ⟨x42, G46, rfl, O47, s48, t50⟩
  have h51 := tu1_inv h3
  refine .ret ?_
  obtain rfl := Option.some.inj h51
  refine ret1R (P := Try.prog) (fn := Try.f90) (n := 24) (R := fun v H' => ∃ G', Ow G' H' (L) ∧ G.le G' ∧ v = .bool x42) (v1 := (.bool x42)) (by rfl) (rr_tmp (by rfl) (by exact t50)) ?_
  exact ⟨_, O47, s48, rfl⟩
def g_station_Join_l0 (K : Nat) (x28 : List Int) (x50 : List (List Int)) : Nat → List (List Int) → Int → Option (List (List Int))
 | 0, _, _ => none
 | k + 1, x67, x68 => (if (decide (x68 < (List.length x50 : Int))) = true then ((idx x50 x68).bind fun x80 => ((idx x80 0).bind fun x101 => ((idx x28 x101).bind fun x105 => ((idx x80 1).bind fun x109 => ((idx x28 x109).bind fun x113 => (if List.length x67 + List.length [[x105, x113]] ≤ 16777216 then g_station_Join_l0 K x28 x50 k (x67 ++ [[x105, x113]]) (kwrap .i64 (x68 + 1)) else none)))))) else some x67)
def g_station_Join_l2 (K : Nat) (p0 : Network) (x189 : List Int × Bool) : Nat → List ByteArray → Int → Option (List ByteArray)
 | 0, _, _ => none
 | k + 1, x214, x215 => (if (decide (x215 < (List.length x189.1 : Int))) = true then ((idx x189.1 x215).bind fun x226 => ((idx p0.Switches x226).bind fun x233 => (if List.length x214 + List.length [x233.Name] ≤ 16777216 then g_station_Join_l2 K p0 x189 k (x214 ++ [x233.Name]) (kwrap .i64 (x215 + 1)) else none))) else some x214)
def g_station_Join (K : Nat) (p0 : Network) (p1 : ByteArray) (p2 : ByteArray) : Option (List ByteArray × Int) := ((g_station_two K p0 p1 p2).bind fun x9 => (if (x9.2.2 != 0) = true then some ([], x9.2.2) else ((g_station_Buses K p0).bind fun x28 => ((g_station_Edges K p0).bind fun x50 => (Option.bind (g_station_Join_l0 K x28 x50 K [] 0) (tu1 fun x142 => ((g_graph_Count K x28).bind fun x157 => ((idx x28 x9.1).bind fun x168 => ((idx x28 x9.2.1).bind fun x172 => ((g_graph_Way K x157 x142 x168 x172 (fun x => g_station_Join_1 K x p0 x142)).bind fun x189 => (if (!x189.2) = true then some ([], 8) else (Option.bind (g_station_Join_l2 K p0 x189 K [] 0) (tu1 fun x256 => some (x256, 0))))))))))))))
set_option maxHeartbeats 4000000 in
theorem g_station_Join_ok (K : Nat) {G : GM} {H : AH} {L : List Pc} (v0 : List Value) (p0 : Network) (hp0 : T_Network.rep G v0 p0) (p1 : ByteArray) (p2 : ByteArray) (O : Ow G H (L)) (r : List ByteArray × Int) (h : g_station_Join K p0 p1 p2 = some r) :
  CRF Try.prog 44 [.agg (List.toArray v0), (.string p1), (.string p2)] G H (fun w0 => (eSl w0 9 rS r.1 :: L)) (fun w0 v G' => v = .tuple #[w0, .int .i64 r.2]) := by
 unfold g_station_Join at h
 refine CRF.of (calls_of_AW (n := 90) (fn := Try.f44) (R := fun v H' => ∃ w0 G', Ow G' H' (eSl w0 9 rS r.1 :: L) ∧ G.le G' ∧ v = .tuple #[w0, .int .i64 r.2]) (by kernel_rfl) rfl rfl ?_)
 refine .seq ?_
 refine .region ?_
 refine W.lo rfl rfl (Lo.box (r := T_Network) (x0 := p0) (v := (.agg (List.toArray v0))) rfl rfl hp0 O) ?_
 rintro v4 H5 ⟨b2, rfl, O1, sm3⟩
 refine W.pure (v := (.slice none 0 0)) rfl rfl (v_assign (oo rfl rfl)) ?_
 refine W.pure (v := (.int .i64 0)) rfl rfl (v_assign (oo rfl rfl)) ?_
 refine .nil ?_
 refine .seq ?_
 refine .region ?_
 obtain ⟨c6, p7, f8⟩ := (O1.atVar (j := 0) rfl)
 refine W.loadA (cs := c6) rfl rfl ag48 sz48 (pt_px rfl p7) (RT.len _ f8) ?_
 refine W.pure (v := (.string p1)) rfl rfl (v_move (oo rfl rfl)) ?_
 refine W.pure (v := (.string p2)) rfl rfl (v_move (oo rfl rfl)) ?_
 obtain ⟨x9, i10, h11⟩ := bd_inv h
 refine W.lo rfl rfl (Lo.callP (ps := []) (ps' := []) rfl (fn := Try.f87) (by kernel_rfl) rfl (mc rfl (mc rfl (mc rfl mn))) O1 (fun L' O' => g_station_two_ok K c6 p0 f8 p1 p2 O' _ i10)) ?_
 rintro v18 H19 ⟨G12, O13, s14, sm17, rfl⟩
 replace O13 : Ow G12 H19 (eVar b2 48 T_Network p0 :: L) := O13
 refine W.pure (v := (.tuple #[(.int .i64 x9.1), (.int .i64 x9.2.1), (.int .i64 x9.2.2)])) rfl rfl (v_move (oo rfl rfl)) ?_
 refine W.pure (v := (.int .i64 x9.1)) rfl rfl (v_extract (oo rfl rfl) rfl) ?_
 refine W.pure (v := (.int .i64 x9.2.1)) rfl rfl (v_extract (oo rfl rfl) rfl) ?_
 refine W.pure (v := (.int .i64 x9.2.2)) rfl rfl (v_extract (oo rfl rfl) rfl) ?_
 refine W.pure (v := (.int .i64 x9.1)) rfl rfl (v_assign (oo rfl rfl)) ?_
 refine W.pure (v := (.int .i64 x9.2.1)) rfl rfl (v_assign (oo rfl rfl)) ?_
 refine W.pure (v := (.int .i64 x9.2.2)) rfl rfl (v_assign (oo rfl rfl)) ?_
 refine .nil ?_
 refine .seq ?_
 refine .seq ?_
 refine .region ?_
 refine W.pure (v := (.int .i64 x9.2.2)) rfl rfl (v_move (oo rfl rfl)) ?_
 refine W.pure (v := (.bool (x9.2.2 != 0))) rfl rfl (v_int (oo rfl rfl) (oo rfl rfl) rfl) ?_
 refine .nil ?_
 refine .cond (b := (x9.2.2 != 0)) rfl rfl (fun g20 => ?_) (fun g20 => ?_)
 ·have h21 := pos_inv g20 h11
  refine .seq ?_
  refine .region ?_
  refine W.pure (v := (.int .i64 x9.2.2)) rfl rfl (v_move (oo rfl rfl)) ?_
  refine W.pure (v := (.slice none 0 0)) rfl rfl (v_assign (oo rfl rfl)) ?_
  refine W.pure (v := (.int .i64 x9.2.2)) rfl rfl (v_assign (oo rfl rfl)) ?_
  refine .nil ?_
  refine .ret ?_
  have O22 := O13.nilSl 9 rS
  have O23 : Ow G12 H19 (eSl (.slice none 0 0) 9 rS [] :: L) := O22.drop 1
  obtain rfl := Option.some.inj h21
  refine ret2R (P := Try.prog) (fn := Try.f44) (n := 90) (R := fun v H' => ∃ w0 G', Ow G' H' (eSl w0 9 rS ([], x9.2.2).1 :: L) ∧ G.le G' ∧ v = .tuple #[w0, .int .i64 ([], x9.2.2).2]) (v1 := (.slice none 0 0)) (v2 := (.int .i64 x9.2.2)) (by rfl) (rr_tmp (by rfl) (by exact rfl)) (rr_tmp (by rfl) (by exact rfl)) ?_
  exact ⟨(.slice none 0 0), _, O23, s14, rfl⟩
 ·have h24 := neg_b g20 h11
  refine .skip ?_
  refine .seq ?_
  refine .region ?_
  obtain ⟨c25, p26, f27⟩ := (O13.atVar (j := 0) rfl)
  refine W.loadA (cs := c25) rfl rfl ag48 sz48 (pt_px rfl p26) (RT.len _ f27) ?_
  obtain ⟨x28, i29, h30⟩ := bd_inv h24
  refine W.lo rfl rfl (Lo.callPF (ps := []) (pw := fun w => [eSl w 3 (rI .i64) x28]) rfl (fn := Try.f86) (by kernel_rfl) rfl (mc rfl mn) O13 (fun L' O' => g_station_Buses_ok K c25 p0 f27 O' _ i29)) ?_
  rintro v39 H40 ⟨w36, G31, O32, s33, sm38, rfl⟩
  replace O32 : Ow G31 H40 (eSl w36 3 (rI .i64) x28 :: eVar b2 48 T_Network p0 :: L) := O32
  refine W.pure (v := w36) rfl rfl (v_assign (oo rfl rfl)) ?_
  refine .nil ?_
  refine .seq ?_
  refine .region ?_
  have O43 := O32.nilSl 29 (rArr 2 (rI .i64))
  refine W.lo rfl rfl (Lo.alloc (r := rV) (x0 := (.slice none 0 0)) ze22 (by kernel_rfl) zV O43) ?_
  rintro v45 H46 ⟨b42, rfl, O41, sm44⟩
  refine .nil ?_
  refine .seq ?_
  refine .seq ?_
  refine .region ?_
  obtain ⟨c47, p48, f49⟩ := (O41.atVar (j := 3) rfl)
  refine W.loadA (cs := c47) rfl rfl ag48 sz48 (pt_px rfl p48) (RT.len _ f49) ?_
  obtain ⟨x50, i51, h52⟩ := bd_inv h30
  refine W.lo rfl rfl (Lo.callPF (ps := []) (pw := fun w => [eSl w 29 (rArr 2 (rI .i64)) x50]) rfl (fn := Try.f88) (by kernel_rfl) rfl (mc rfl mn) O41 (fun L' O' => g_station_Edges_ok K c47 p0 f49 O' _ i51)) ?_
  rintro v61 H62 ⟨w58, G53, O54, s55, sm60, rfl⟩
  replace O54 : Ow G53 H62 (eSl w58 29 (rArr 2 (rI .i64)) x50 :: eVar b42 22 rV (.slice none 0 0) :: eSl (.slice none 0 0) 29 (rArr 2 (rI .i64)) [] :: eSl w36 3 (rI .i64) x28 :: eVar b2 48 T_Network p0 :: L) := O54
  refine W.pure (v := (.int .i64 (List.length x50 : Int))) rfl rfl (len_sl (oo rfl rfl) (O54.slLen (j := 0) rfl) (elemT_inv el22)) ?_
  refine W.pure (v := (.int .i64 0)) rfl rfl (v_move (oo rfl rfl)) ?_
  refine .nil ?_
  obtain ⟨q63, h64, h65⟩ := bd_inv h52
  refine AW.midT (fun σ' H' => ∃ (y1 : List (List Int)) (w_l12 : Value) (G' : GM), y1 = q63 ∧ Ow G' H' (eSl w58 29 (rArr 2 (rI .i64)) x50 :: eVar b42 22 rV w_l12 :: eSl w_l12 29 (rArr 2 (rI .i64)) y1 :: eSl w36 3 (rI .i64) x28 :: eVar b2 48 T_Network p0 :: L) ∧ GM.le G53 G') ?_ ?_
  ·refine .block ?_
   refine AW.loop (α := Nat) (fun k' σ' H' => ∃ (y1 : List (List Int)) (y2 : Int) (w_l12 : Value) (G' : GM), g_station_Join_l0 K x28 x50 k' y1 y2 = some q63 ∧ Ow G' H' (eSl w58 29 (rArr 2 (rI .i64)) x50 :: eVar b42 22 rV w_l12 :: eSl w_l12 29 (rArr 2 (rI .i64)) y1 :: eSl w36 3 (rI .i64) x28 :: eVar b2 48 T_Network p0 :: L) ∧ GM.le G53 G' ∧ σ' 36 = .int .i64 y2) (fun k' => k') K ⟨[], 0, (.slice none 0 0), _, h64, O54, (GM.le.refl _), rfl⟩ ?_
   rintro k66
   rintro σ69 H70 fr71 ⟨x67, x68, w76, G72, h75, O73, s74, t77⟩
   rcases k66 with _ | k66
   ·exact none_absurd h75
   rw [g_station_Join_l0] at h75
   refine .seq ?_
   refine .region ?_
   refine W.pure (v := (.bool (decide (x68 < (List.length x50 : Int))))) rfl rfl (v_int (oo rfl t77) (oo rfl ((fr71 35 rfl).trans rfl)) rfl) ?_
   refine .nil ?_
   refine .seq ?_
   refine .cond (b := decide (x68 < (List.length x50 : Int))) rfl rfl (fun g78 => ?_) (fun g78 => ?_)
   ·have h79 := pos_inv g78 h75
    refine .skip ?_
    refine .seq ?_
    refine .block ?_
    refine .seq ?_
    refine .region ?_
    obtain ⟨x80, i81, h82⟩ := bd_inv h79
    have j83 := idx_inv i81
    refine W.pure (v := (selem w58 (Int.toNat x68 * 2))) rfl rfl (v_idx el22 sz29 (oo rfl ((fr71 34 rfl).trans rfl)) (oo rfl t77) (O73.slLen (j := 0) rfl) j83.1 j83.2.1) ?_
    obtain ⟨c84, p85, f86⟩ := (O73.atSl (j := 0) rfl j83.2.2)
    refine W.loadA (cs := c84) rfl rfl ag29 sz29 (pt_px rfl p85) (RT.len _ f86) ?_
    refine W.lo rfl rfl (Lo.alloc (r := (rArr 2 (rI .i64))) (x0 := (List.replicate 2 0)) ze29 (by kernel_rfl) (fun G => ⟨by simp, List.replicate 2 [.int .i64 0], rfl, All2.replicate ((zI .i64) G) 2⟩) O73) ?_
    rintro v90 H91 ⟨b88, rfl, O87, sm89⟩
    refine W.lo rfl rfl (Lo.storeVar (j := 0) (s := (rArr 2 (rI .i64))) (y0 := x80) (v := (.agg (List.toArray c84))) (o := 0) rfl ((Put.at (Put.self _) _ _)) rfl sz29 rfl (by omega) rfl f86 O87) ?_
    rintro v94 H95 ⟨O92, sm93⟩
    replace O92 : Ow G72 H95 (eVar b88 29 (rArr 2 (rI .i64)) x80 :: eSl w58 29 (rArr 2 (rI .i64)) x50 :: eVar b42 22 rV w76 :: eSl w76 29 (rArr 2 (rI .i64)) x67 :: eSl w36 3 (rI .i64) x28 :: eVar b2 48 T_Network p0 :: L) := O92
    refine .nil ?_
    refine .draw2 (M := [0, 0, 0, 4, 14, 30, 0, 0, 128, 448, 960, 2046, 4094, 8191, 16383]) mixed (by kernel_rfl) (by kernel_rfl) fun H96 N100 x97 F99 => ?_
    have O98 := O92.ext x97
    refine D2.load1' (v := w76) (r := []) rfl rfl ag22 (pt_px ((fr71 12 rfl).trans rfl) (At.raw (O98.atVar (j := 2) rfl))) fa_nil ?_
    refine D2.pure (v := w36) rfl rfl (v_move (oo rfl ((fr71 11 rfl).trans rfl))) ?_
    obtain ⟨x101, i102, h103⟩ := bd_inv h82
    have j104 := idx_inv i102
    refine D2.pure (v := (padd (.pointer (some ⟨b88, 0, none⟩)) (Int.toNat 0 * 1))) rfl rfl (v_idxAA ar29 sz3 (oo rfl rfl) (oo rfl rfl) (O98.atVar (j := 0) rfl) j104.1 j104.2.1) ?_
    refine D2.load1' (v := (.int .i64 x101)) (r := []) rfl rfl ag3 (pt_px rfl (At.int (At.aidx (O98.atVar (j := 0) rfl) j104.2.2))) fa_nil ?_
    obtain ⟨x105, i106, h107⟩ := bd_inv h103
    have j108 := idx_inv i106
    refine D2.pure (v := (selem w36 (Int.toNat x101 * 1))) rfl rfl (v_idx el24 sz3 (oo rfl rfl) (oo rfl rfl) (O98.slLen (j := 4) rfl) j108.1 j108.2.1) ?_
    refine D2.load1' (v := (.int .i64 x105)) (r := []) rfl rfl ag3 (pt_px rfl (At.int (O98.atSl (j := 4) rfl j108.2.2))) fa_nil ?_
    refine D2.pure (v := w36) rfl rfl (v_move (oo rfl ((fr71 11 rfl).trans rfl))) ?_
    obtain ⟨x109, i110, h111⟩ := bd_inv h107
    have j112 := idx_inv i110
    refine D2.pure (v := (padd (.pointer (some ⟨b88, 0, none⟩)) (Int.toNat 1 * 1))) rfl rfl (v_idxAA ar29 sz3 (oo rfl rfl) (oo rfl rfl) (O98.atVar (j := 0) rfl) j112.1 j112.2.1) ?_
    refine D2.load1' (v := (.int .i64 x109)) (r := []) rfl rfl ag3 (pt_px rfl (At.int (At.aidx (O98.atVar (j := 0) rfl) j112.2.2))) fa_nil ?_
    obtain ⟨x113, i114, h115⟩ := bd_inv h111
    have j116 := idx_inv i114
    refine D2.pure (v := (selem w36 (Int.toNat x109 * 1))) rfl rfl (v_idx el24 sz3 (oo rfl rfl) (oo rfl rfl) (O98.slLen (j := 4) rfl) j116.1 j116.2.1) ?_
    refine D2.load1' (v := (.int .i64 x113)) (r := []) rfl rfl ag3 (pt_px rfl (At.int (O98.atSl (j := 4) rfl j116.2.2))) fa_nil ?_
    obtain ⟨c117, e119, f118⟩ := v_buildAA (P := Try.prog) (r := (rI .i64)) (vs := [(.int .i64 x105), (.int .i64 x113)]) (xs := [x105, x113]) ar29 sz3 ze29 zo29 rfl (by kernel_rfl) (.cons rfl (.cons rfl .nil))
    refine D2.pure (v := .agg (List.toArray c117)) rfl rfl (e119 (opndP_oo rfl (qc rfl (qc rfl qn)))) ?_
    refine D2.alloc (m := 15) rfl rfl (Al.buildSlice (r := (rArr 2 (rI .i64))) (vs := [(.agg (List.toArray c117))]) (xs := [[x105, x113]]) el22 ze29 sz29 (by kernel_rfl) rfl (qc rfl qn) rfl (.cons f118 .nil)) (Free.up (by decide) F99) (by decide) O98 ?_
    rintro b121 H122 ⟨O123, sm124, F125⟩
    obtain ⟨es127, e128, e129⟩ := src_own (j := 0) rfl O123
    obtain ⟨g130, h131⟩ := gd_inv h115
    refine D2.lo rfl rfl (Lo.append (j := 4) (v := w76) rfl rfl el22 ni22 ze29 sz29 by29 (by decide) (by decide) rfl e128 e129 g130 O123) ?_ fa_nil ?_ ?_
    ·rintro v133 H134 ⟨O126, sm132⟩; exact (faR1 (.inl (by decide)) (faR1 (.inl (by decide)) (faR1 (.inl (by decide)) (faR1 (.inl (by decide)) (faR1 (.inl (by decide)) fa_nil)))))
    ·rintro v133 H134 ⟨O126, sm132⟩; exact (faR1 (.inl (by decide)) fa_nil)
    rintro v133 H134 ⟨O126, sm132⟩
    replace O126 : Ow G72 H134 (eSl (.slice (some ⟨b121, 0, some 0⟩) 1 1) 29 (rArr 2 (rI .i64)) [[x105, x113]] :: eVar b88 29 (rArr 2 (rI .i64)) x80 :: eSl w58 29 (rArr 2 (rI .i64)) x50 :: eVar b42 22 rV w76 :: eSl v133 29 (rArr 2 (rI .i64)) (x67 ++ [[x105, x113]]) :: eSl w36 3 (rI .i64) x28 :: eVar b2 48 T_Network p0 :: L) := O126
    refine D2.lo rfl rfl (Lo.storeVar (j := 3) (s := rV) (y0 := v133) (v := v133) (o := 0) rfl ((Put.at (Put.self _) _ _)) rfl sz22 ((fr71 12 rfl).trans rfl) (by omega) rfl (rv_ok (O126.slLen (j := 4) rfl)) O126) ?_ (faL_bit (by decide) fa_nil) ?_ ?_
    ·rintro v137 H138 ⟨O135, sm136⟩; exact (faR1 (.inl (by decide)) (faR1 (.inl (by decide)) (faR1 (.inl (by decide)) (faR1 (.inl (by decide)) (faR1 (.inl (by decide)) fa_nil)))))
    ·rintro v137 H138 ⟨O135, sm136⟩; exact (faR1 (.inl (by decide)) fa_nil)
    rintro v137 H138 ⟨O135, sm136⟩
    replace O135 : Ow G72 H138 (eSl (.slice (some ⟨b121, 0, some 0⟩) 1 1) 29 (rArr 2 (rI .i64)) [[x105, x113]] :: eVar b88 29 (rArr 2 (rI .i64)) x80 :: eSl w58 29 (rArr 2 (rI .i64)) x50 :: eVar b42 22 rV v133 :: eSl v133 29 (rArr 2 (rI .i64)) (x67 ++ [[x105, x113]]) :: eSl w36 3 (rI .i64) x28 :: eVar b2 48 T_Network p0 :: L) := O135
    refine .nil ?_
    refine .region ?_
    refine W.pure (v := (.int .i64 (kwrap .i64 (x68 + 1)))) rfl rfl (v_int (oo rfl t77) (oo rfl rfl) rfl) ?_
    refine W.pure (v := (.int .i64 (kwrap .i64 (x68 + 1)))) rfl rfl (v_move (oo rfl rfl)) ?_
    refine .nil ?_
    have O139 : Ow G72 H138 (eVar b88 29 (rArr 2 (rI .i64)) x80 :: eSl w58 29 (rArr 2 (rI .i64)) x50 :: eVar b42 22 rV v133 :: eSl v133 29 (rArr 2 (rI .i64)) (x67 ++ [[x105, x113]]) :: eSl w36 3 (rI .i64) x28 :: eVar b2 48 T_Network p0 :: L) := O135.drop 0
    have O140 : Ow G72 H138 (eSl w58 29 (rArr 2 (rI .i64)) x50 :: eVar b42 22 rV v133 :: eSl v133 29 (rArr 2 (rI .i64)) (x67 ++ [[x105, x113]]) :: eSl w36 3 (rI .i64) x28 :: eVar b2 48 T_Network p0 :: L) := O139.drop 0
    exact ⟨k66, Nat.lt_succ_self _, ⟨(x67 ++ [[x105, x113]]), kwrap .i64 (x68 + 1), v133, _, h131, O140, s74, rfl⟩⟩
   ·have h141 := neg_b g78 h75
    refine .exit ?_
    obtain rfl := Option.some.inj h141
    exact ⟨x67, w76, _, rfl, O73, s74⟩
  ·rintro σ143 H144 fr145 ⟨x142, w150, G146, rfl, O147, s148⟩
   have h151 := tu1_inv h65
   refine .seq ?_
   refine .draw2 (M := [0, 1, 0, 0, 0, 24, 56, 0, 0, 384, 896, 0, 4095, 8191, 16383, 16383, 32767, 131071]) mixed (by kernel_rfl) (by kernel_rfl) fun H152 N156 x153 F155 => ?_
   have O154 := O147.ext x153
   refine D2.pure (v := w36) rfl rfl (v_move (oo rfl ((fr145 11 rfl).trans rfl))) ?_
   obtain ⟨x157, i158, h159⟩ := bd_inv h151
   refine D2.lo rfl rfl (Lo.callB (j := 3) rfl rfl (fn := Try.f80) (by kernel_rfl) rfl (mc rfl mn) O154 (fun G' L' hG O' hB => g_graph_Count_ok K w36 x28 hB O' _ i158)) ?_ fa_nil ?_ ?_
   ·rintro v166 H167 ⟨G160, O161, s162, sm165, rfl⟩; exact fa_nil
   ·rintro v166 H167 ⟨G160, O161, s162, sm165, rfl⟩; exact fa_nil
   rintro v166 H167 ⟨G160, O161, s162, sm165, rfl⟩
   replace O161 : Ow G160 H167 (eSl w58 29 (rArr 2 (rI .i64)) x50 :: eVar b42 22 rV w150 :: eSl w150 29 (rArr 2 (rI .i64)) x142 :: eSl w36 3 (rI .i64) x28 :: eVar b2 48 T_Network p0 :: L) := O161
   refine D2.load1' (v := w150) (r := []) rfl rfl ag22 (pt_px ((fr145 12 rfl).trans rfl) (At.raw (O161.atVar (j := 1) rfl))) (faQ_eq (fa_px ((fr145 12 rfl).trans rfl) (sm165 _ (Or.inr ⟨1, _, rfl, List.mem_singleton.2 rfl⟩))) fa_nil) ?_
   refine D2.pure (v := w36) rfl rfl (v_move (oo rfl ((fr145 11 rfl).trans rfl))) ?_
   refine D2.pure (v := (.int .i64 x9.1)) rfl rfl (v_move (oo rfl ((fr145 8 rfl).trans rfl))) ?_
   obtain ⟨x168, i169, h170⟩ := bd_inv h159
   have j171 := idx_inv i169
   refine D2.pure (v := (selem w36 (Int.toNat x9.1 * 1))) rfl rfl (v_idx el24 sz3 (oo rfl rfl) (oo rfl rfl) (O161.slLen (j := 3) rfl) j171.1 j171.2.1) ?_
   refine D2.load1' (v := (.int .i64 x168)) (r := []) rfl rfl ag3 (pt_px rfl (At.int (O161.atSl (j := 3) rfl j171.2.2))) (faQ_eq (sm165 _ (Or.inr ⟨3, _, rfl, (O154.footSl (j := 3) rfl j171.2.2)⟩)) fa_nil) ?_
   refine D2.pure (v := w36) rfl rfl (v_move (oo rfl ((fr145 11 rfl).trans rfl))) ?_
   refine D2.pure (v := (.int .i64 x9.2.1)) rfl rfl (v_move (oo rfl ((fr145 9 rfl).trans rfl))) ?_
   obtain ⟨x172, i173, h174⟩ := bd_inv h170
   have j175 := idx_inv i173
   refine D2.pure (v := (selem w36 (Int.toNat x9.2.1 * 1))) rfl rfl (v_idx el24 sz3 (oo rfl rfl) (oo rfl rfl) (O161.slLen (j := 3) rfl) j175.1 j175.2.1) ?_
   refine D2.load1' (v := (.int .i64 x172)) (r := []) rfl rfl ag3 (pt_px rfl (At.int (O161.atSl (j := 3) rfl j175.2.2))) (faQ_eq (sm165 _ (Or.inr ⟨3, _, rfl, (O154.footSl (j := 3) rfl j175.2.2)⟩)) fa_nil) ?_
   refine D2.pure (v := (.func (.func 90) #[] #[(.pointer (some ⟨b2, 0, none⟩)), (.pointer (some ⟨b42, 0, none⟩))])) rfl rfl (v_makeFunc (opndL_ooL rfl mn) (opndL_ooL rfl (mc ((fr145 3 rfl).trans rfl) (mc ((fr145 12 rfl).trans rfl) mn)))) ?_
   obtain ⟨G177, O178, s179, f180⟩ := O161.frzSl (j := 2) rfl
   replace O178 : Ow G177 H167 (eSl w58 29 (rArr 2 (rI .i64)) x50 :: eVar b42 22 rV w150 :: eSl w36 3 (rI .i64) x28 :: eVar b2 48 T_Network p0 :: L) := O178
   have O176 := O178.unraw (j := 1) rfl f180
   replace O176 : Ow G177 H167 (eSl w58 29 (rArr 2 (rI .i64)) x50 :: eVar b42 22 (rSl (rArr 2 (rI .i64))) x142 :: eSl w36 3 (rI .i64) x28 :: eVar b2 48 T_Network p0 :: L) := O176
   obtain ⟨G181, O182, s183, f184⟩ := O176.frzVar (j := 3) rfl
   replace O182 : Ow G181 H167 (eSl w58 29 (rArr 2 (rI .i64)) x50 :: eVar b42 22 (rSl (rArr 2 (rI .i64))) x142 :: eSl w36 3 (rI .i64) x28 :: L) := O182
   obtain ⟨G185, O186, s187, f188⟩ := O182.frzVar (j := 1) rfl
   replace O186 : Ow G185 H167 (eSl w58 29 (rArr 2 (rI .i64)) x50 :: eSl w36 3 (rI .i64) x28 :: L) := O186
   obtain ⟨x189, i190, h191⟩ := bd_inv h174
   refine D2.lo rfl rfl (Lo.callPF (ps := []) (pw := fun w => [eSl w 3 (rI .i64) x189.1]) rfl (fn := Try.f58) (by kernel_rfl) rfl (mc rfl (mc rfl (mc rfl (mc rfl (mc rfl mn))))) O186 (fun L' O' => g_graph_Way_ok K x157 w150 x142 (RT.mono _ (GM.le.trans s183 s187) f180) x168 x172 (.func (.func 90) #[] #[(.pointer (some ⟨b2, 0, none⟩)), (.pointer (some ⟨b42, 0, none⟩))]) (fun x => g_station_Join_1 K x p0 x142) ⟨90, _, _, Try.f90, rfl, by kernel_rfl, rfl, fun G1 H L vs x r hG O hA hF => by obtain rfl := hA; exact g_station_Join_1_ok K x (.pointer (some ⟨b2, 0, none⟩)) p0 (At.le (At.le f184 s187 s187) hG hG) (.pointer (some ⟨b42, 0, none⟩)) x142 (At.le f188 hG hG) O _ hF⟩ O' _ i190)) ?_ (faL_bit (by decide) fa_nil) ?_ ?_
   ·rintro v200 H201 ⟨w197, G192, O193, s194, sm199, rfl⟩; exact (faR1 (.inl (by decide)) (faR1 (.inl (by decide)) (faR1 (.inl (by decide)) fa_nil)))
   ·rintro v200 H201 ⟨w197, G192, O193, s194, sm199, rfl⟩; exact fa_nil
   rintro v200 H201 ⟨w197, G192, O193, s194, sm199, rfl⟩
   replace O193 : Ow G192 H201 (eSl w197 3 (rI .i64) x189.1 :: eSl w58 29 (rArr 2 (rI .i64)) x50 :: eSl w36 3 (rI .i64) x28 :: L) := O193
   refine D2.pure (v := (.tuple #[w197, (.bool x189.2)])) rfl rfl (v_move (oo rfl rfl)) ?_
   refine D2.pure (v := w197) rfl rfl (v_extract (oo rfl rfl) rfl) ?_
   refine D2.pure (v := (.bool x189.2)) rfl rfl (v_extract (oo rfl rfl) rfl) ?_
   refine D2.pure (v := w197) rfl rfl (v_assign (oo rfl rfl)) ?_
   refine D2.pure (v := (.bool x189.2)) rfl rfl (v_assign (oo rfl rfl)) ?_
   refine .nil ?_
   refine .seq ?_
   refine .seq ?_
   refine .region ?_
   refine W.pure (v := (.bool x189.2)) rfl rfl (v_move (oo rfl rfl)) ?_
   refine W.pure (v := (.bool (!x189.2))) rfl rfl (bool_not (a := x189.2) (oo rfl rfl)) ?_
   refine .nil ?_
   refine .cond (b := (!x189.2)) rfl rfl (fun g202 => ?_) (fun g202 => ?_)
   ·have h203 := pos_inv g202 h191
    refine .seq ?_
    refine .region ?_
    refine W.pure (v := (.slice none 0 0)) rfl rfl (v_assign (oo rfl rfl)) ?_
    refine W.pure (v := (.int .i64 8)) rfl rfl (v_assign (oo rfl rfl)) ?_
    refine .nil ?_
    refine .ret ?_
    have O204 := O193.nilSl 9 rS
    have O205 : Ow G192 H201 (eSl (.slice none 0 0) 9 rS [] :: eSl w58 29 (rArr 2 (rI .i64)) x50 :: eSl w36 3 (rI .i64) x28 :: L) := O204.drop 1
    have O206 : Ow G192 H201 (eSl (.slice none 0 0) 9 rS [] :: eSl w36 3 (rI .i64) x28 :: L) := O205.drop 1
    have O207 : Ow G192 H201 (eSl (.slice none 0 0) 9 rS [] :: L) := O206.drop 1
    obtain rfl := Option.some.inj h203
    refine ret2R (P := Try.prog) (fn := Try.f44) (n := 90) (R := fun v H' => ∃ w0 G', Ow G' H' (eSl w0 9 rS ([], 8).1 :: L) ∧ G.le G' ∧ v = .tuple #[w0, .int .i64 ([], 8).2]) (v1 := (.slice none 0 0)) (v2 := (.int .i64 8)) (by rfl) (rr_tmp (by rfl) (by exact rfl)) (rr_tmp (by rfl) (by exact rfl)) ?_
    exact ⟨(.slice none 0 0), _, O207, (GM.le.trans s14 (GM.le.trans s33 (GM.le.trans s55 (GM.le.trans s148 (GM.le.trans s162 (GM.le.trans s179 (GM.le.trans s183 (GM.le.trans s187 s194)))))))), rfl⟩
   ·have h208 := neg_b g202 h191
    refine .skip ?_
    refine .seq ?_
    refine .region ?_
    refine W.pure (v := (.slice none 0 0)) rfl rfl (v_assign (oo rfl rfl)) ?_
    refine .nil ?_
    refine .seq ?_
    refine .seq ?_
    refine .region ?_
    refine W.pure (v := w197) rfl rfl (v_move (oo rfl rfl)) ?_
    refine W.pure (v := (.int .i64 (List.length x189.1 : Int))) rfl rfl (len_sl (oo rfl rfl) (O193.slLen (j := 0) rfl) (elemT_inv el24)) ?_
    refine W.pure (v := (.int .i64 0)) rfl rfl (v_move (oo rfl rfl)) ?_
    refine .nil ?_
    obtain ⟨q209, h210, h211⟩ := bd_inv h208
    refine AW.midT (fun σ' H' => ∃ (y1 : List ByteArray) (G' : GM), y1 = q209 ∧ Ow G' H' (eSl w197 3 (rI .i64) x189.1 :: eSl w58 29 (rArr 2 (rI .i64)) x50 :: eSl w36 3 (rI .i64) x28 :: eSl (σ' 17) 9 rS y1 :: L) ∧ GM.le G192 G') ?_ ?_
    ·refine .block ?_
     have O212 := O193.nilSl 9 rS
     refine AW.loop (α := Nat) (fun k' σ' H' => ∃ (y1 : List ByteArray) (y2 : Int) (G' : GM), g_station_Join_l2 K p0 x189 k' y1 y2 = some q209 ∧ Ow G' H' (eSl (σ' 17) 9 rS y1 :: eSl w197 3 (rI .i64) x189.1 :: eSl w58 29 (rArr 2 (rI .i64)) x50 :: eSl w36 3 (rI .i64) x28 :: L) ∧ GM.le G192 G' ∧ σ' 75 = .int .i64 y2) (fun k' => k') K ⟨[], 0, _, h210, O212, (GM.le.refl _), rfl⟩ ?_
     rintro k213
     rintro σ216 H217 fr218 ⟨x214, x215, G219, h222, O220, s221, t223⟩
     rcases k213 with _ | k213
     ·exact none_absurd h222
     rw [g_station_Join_l2] at h222
     refine .seq ?_
     refine .region ?_
     refine W.pure (v := (.bool (decide (x215 < (List.length x189.1 : Int))))) rfl rfl (v_int (oo rfl t223) (oo rfl ((fr218 74 rfl).trans rfl)) rfl) ?_
     refine .nil ?_
     refine .seq ?_
     refine .cond (b := decide (x215 < (List.length x189.1 : Int))) rfl rfl (fun g224 => ?_) (fun g224 => ?_)
     ·have h225 := pos_inv g224 h222
      refine .skip ?_
      refine .seq ?_
      refine .block ?_
      refine .seq ?_
      refine .region ?_
      obtain ⟨x226, i227, h228⟩ := bd_inv h225
      have j229 := idx_inv i227
      refine W.pure (v := (selem w197 (Int.toNat x215 * 1))) rfl rfl (v_idx el24 sz3 (oo rfl ((fr218 73 rfl).trans rfl)) (oo rfl t223) (O220.slLen (j := 1) rfl) j229.1 j229.2.1) ?_
      refine W.load1 (v := (.int .i64 x226)) (r := []) rfl rfl ag3 (pt_px rfl (At.int (O220.atSl (j := 1) rfl j229.2.2))) ?_
      refine W.pure (v := (.int .i64 x226)) rfl rfl (v_assign (oo rfl rfl)) ?_
      refine .nil ?_
      refine .region ?_
      refine W.pure (v := (σ216 17)) rfl rfl (v_move (oo rfl rfl)) ?_
      refine W.pure (v := (padd (.pointer (some ⟨b2, 0, none⟩)) 1)) rfl rfl (v_fldA fl48_1 (oo rfl ((fr218 3 rfl).trans ((fr145 3 rfl).trans rfl))) (At.le (At.le f184 (GM.le.trans s187 (GM.le.trans s194 s221)) (GM.le.trans s187 (GM.le.trans s194 s221))) (GM.le.refl _) O220.fro)) ?_
      obtain ⟨w230, p231, f232⟩ := At.sl (At.le (At.proj f184 p_Network_Switches) (GM.le.trans s187 (GM.le.trans s194 s221)) (GM.le.trans s187 (GM.le.trans s194 s221)))
      replace p231 := PtG.le p231 O220.fro
      refine W.load1 (v := w230) (r := []) rfl rfl ag42 (pt_px rfl p231) ?_
      refine W.pure (v := (.int .i64 x226)) rfl rfl (v_move (oo rfl rfl)) ?_
      obtain ⟨x233, i234, h235⟩ := bd_inv h228
      have j236 := idx_inv i234
      refine W.pure (v := (selem w230 (Int.toNat x226 * 5))) rfl rfl (v_idx el42 sz81 (oo rfl rfl) (oo rfl rfl) (sl_len f232) j236.1 j236.2.1) ?_
      refine W.pure (v := (padd (selem w230 (Int.toNat x226 * 5)) 0)) rfl rfl (v_fldA fl81_0 (oo rfl rfl) (At.le (sl_idx f232 j236.2.2) (GM.le.refl _) O220.fro)) ?_
      refine W.load1 (v := (.string x233.Name)) (r := []) rfl rfl ag9 (pt_px rfl (At.str (At.le (At.proj (sl_idx f232 j236.2.2) p_Switch_Name) (GM.le.refl _) O220.fro))) ?_
      refine W.lo rfl rfl (Lo.buildSlice (r := rS) (vs := [(.string x233.Name)]) (xs := [x233.Name]) el41 ze9 sz9 (by kernel_rfl) rfl (qc rfl qn) rfl (.cons rfl .nil) O220) ?_
      rintro v239 H240 ⟨O237, sm238⟩
      obtain ⟨es242, e243, e244⟩ := src_own (j := 0) rfl O237
      obtain ⟨g245, h246⟩ := gd_inv h235
      refine W.lo rfl rfl (Lo.append (j := 1) (v := (σ216 17)) rfl rfl el41 ni41 ze9 sz9 by9 (by decide) (by decide) rfl e243 e244 g245 O237) ?_
      rintro v248 H249 ⟨O241, sm247⟩
      replace O241 : Ow G219 H249 (eSl v239 9 rS [x233.Name] :: eSl v248 9 rS (x214 ++ [x233.Name]) :: eSl w197 3 (rI .i64) x189.1 :: eSl w58 29 (rArr 2 (rI .i64)) x50 :: eSl w36 3 (rI .i64) x28 :: L) := O241
      refine W.pure (v := v248) rfl rfl (v_assign (oo rfl rfl)) ?_
      refine .nil ?_
      refine .region ?_
      refine W.pure (v := (.int .i64 (kwrap .i64 (x215 + 1)))) rfl rfl (v_int (oo rfl t223) (oo rfl rfl) rfl) ?_
      refine W.pure (v := (.int .i64 (kwrap .i64 (x215 + 1)))) rfl rfl (v_move (oo rfl rfl)) ?_
      refine .nil ?_
      have O250 : Ow G219 H249 (eSl v248 9 rS (x214 ++ [x233.Name]) :: eSl w197 3 (rI .i64) x189.1 :: eSl w58 29 (rArr 2 (rI .i64)) x50 :: eSl w36 3 (rI .i64) x28 :: L) := O241.drop 0
      exact ⟨k213, Nat.lt_succ_self _, ⟨(x214 ++ [x233.Name]), kwrap .i64 (x215 + 1), _, h246, O250, s221, rfl⟩⟩
     ·have h251 := neg_b g224 h222
      refine .exit ?_
      have O252 : Ow G219 H217 (eSl (σ216 17) 9 rS x214 :: eSl w197 3 (rI .i64) x189.1 :: eSl w58 29 (rArr 2 (rI .i64)) x50 :: eSl w36 3 (rI .i64) x28 :: L) := O220.front (j := 0) rfl
      have O253 : Ow G219 H217 (eSl w36 3 (rI .i64) x28 :: eSl (σ216 17) 9 rS x214 :: eSl w197 3 (rI .i64) x189.1 :: eSl w58 29 (rArr 2 (rI .i64)) x50 :: L) := O252.front (j := 3) rfl
      have O254 : Ow G219 H217 (eSl w58 29 (rArr 2 (rI .i64)) x50 :: eSl w36 3 (rI .i64) x28 :: eSl (σ216 17) 9 rS x214 :: eSl w197 3 (rI .i64) x189.1 :: L) := O253.front (j := 3) rfl
      have O255 : Ow G219 H217 (eSl w197 3 (rI .i64) x189.1 :: eSl w58 29 (rArr 2 (rI .i64)) x50 :: eSl w36 3 (rI .i64) x28 :: eSl (σ216 17) 9 rS x214 :: L) := O254.front (j := 3) rfl
      obtain rfl := Option.some.inj h251
      exact ⟨x214, _, rfl, O255, s221⟩
    ·rintro σ257 H258 fr259 ⟨x256, G260, rfl, O261, s262⟩
     have h264 := tu1_inv h211
     refine .seq ?_
     refine .region ?_
     refine W.pure (v := (σ257 17)) rfl rfl (v_move (oo rfl rfl)) ?_
     refine W.pure (v := (σ257 17)) rfl rfl (v_assign (oo rfl rfl)) ?_
     refine W.pure (v := (.int .i64 0)) rfl rfl (v_assign (oo rfl rfl)) ?_
     refine .nil ?_
     refine .ret ?_
     have O265 : Ow G260 H258 (eSl w58 29 (rArr 2 (rI .i64)) x50 :: eSl w36 3 (rI .i64) x28 :: eSl (σ257 17) 9 rS x256 :: L) := O261.drop 0
     have O266 : Ow G260 H258 (eSl w36 3 (rI .i64) x28 :: eSl (σ257 17) 9 rS x256 :: L) := O265.drop 0
     have O267 : Ow G260 H258 (eSl (σ257 17) 9 rS x256 :: L) := O266.drop 0
     obtain rfl := Option.some.inj h264
     refine ret2R (P := Try.prog) (fn := Try.f44) (n := 90) (R := fun v H' => ∃ w0 G', Ow G' H' (eSl w0 9 rS (x256, 0).1 :: L) ∧ G.le G' ∧ v = .tuple #[w0, .int .i64 (x256, 0).2]) (v1 := (σ257 17)) (v2 := (.int .i64 0)) (by rfl) (rr_tmp (by rfl) (by exact rfl)) (rr_tmp (by rfl) (by exact rfl)) ?_
     exact ⟨(σ257 17), _, O267, (GM.le.trans s14 (GM.le.trans s33 (GM.le.trans s55 (GM.le.trans s148 (GM.le.trans s162 (GM.le.trans s179 (GM.le.trans s183 (GM.le.trans s187 (GM.le.trans s194 s262))))))))), rfl⟩
def g_R_IsName_l0 (K : Nat) (p0 : ByteArray) : Nat → Int → Option (Bool ⊕ Unit)
 | 0, _ => none
 | k + 1, x39 => (if (decide (x39 < (p0.size : Int))) = true then ((bidx p0 x39).bind fun x50 => (Option.bind ((if (decide (x50 < 65)) = true then (if (decide (x50 < 48)) = true then some true else some (decide (x50 > 57))) else (if (decide (x50 > 90)) = true then (if (decide (x50 < 48)) = true then some true else some (decide (x50 > 57))) else some false))) (tu1 fun x72 => (if x72 = true then some (.inl false) else g_R_IsName_l0 K p0 k (kwrap .i64 (x39 + 1)))))) else some (.inr ()))
def g_R_IsName (K : Nat) (p0 : ByteArray) : Option Bool := (Option.bind ((if ((p0.size : Int) == 0) = true then some true else (if (decide ((p0.size : Int) > 8)) = true then some true else ((bidx p0 0).bind fun x12 => (if (decide (x12 < 65)) = true then some true else ((bidx p0 0).bind fun x19 => some (decide (x19 > 90)))))))) (tu1 fun x22 => (if x22 = true then some false else (bindS (g_R_IsName_l0 K p0 K 0) (tu1 fun a95 => some a95) (tu0 (some true))))))
set_option maxHeartbeats 4000000 in
theorem g_R_IsName_ok (K : Nat) {G : GM} {H : AH} {L : List Pc} (p0 : ByteArray) (O : Ow G H (L)) (r : Bool) (h : g_R_IsName K p0 = some r) :
  CR Try.prog 25 [(.string p0)] G H (L) (fun v G' _ => v = .bool r) := by
 unfold g_R_IsName at h
 refine CR.of (calls_of_AW (n := 46) (fn := Try.f25) (R := fun v H' => ∃ G', Ow G' H' (L) ∧ G.le G' ∧ v = .bool r) (by kernel_rfl) rfl rfl ?_)
 refine .seq ?_
 refine .region ?_
 refine W.pure (v := (.bool false)) rfl rfl (v_assign (oo rfl rfl)) ?_
 refine .nil ?_
 refine .seq ?_
 refine .seq ?_
 obtain ⟨q1, h2, h3⟩ := bd_inv h
 refine AW.midT (fun σ' H' => ∃ (y1 : Bool) (G' : GM), y1 = q1 ∧ Ow G' H' (L) ∧ GM.le G G' ∧ σ' 22 = .bool y1) ?_ ?_
 ·refine .region ?_
  refine W.pure (v := (.string p0)) rfl rfl (v_move (oo rfl rfl)) ?_
  refine W.pure (v := (.int .i64 (p0.size : Int))) rfl rfl (len_str (oo rfl rfl) un9) ?_
  refine W.pure (v := (.bool ((p0.size : Int) == 0))) rfl rfl (v_int (oo rfl rfl) (oo rfl rfl) rfl) ?_
  refine W.pure (v := (.bool ((p0.size : Int) == 0))) rfl rfl (v_move (oo rfl rfl)) ?_
  refine W.splitAt (t := 8) (b := ((p0.size : Int) == 0)) rfl (fun g4 gv5 => ?_) (fun g4 gv5 => ?_)
  ·have h6 := pos_inv g4 h2
   refine W.skip (gk rfl rfl gv5 rfl) rfl ?_
   refine W.skip (gk rfl rfl gv5 rfl) rfl ?_
   refine W.skip (gk rfl rfl gv5 rfl) rfl ?_
   refine W.pure (v := (.bool true)) rfl rfl (v_pickT (oo rfl gv5) (oo rfl rfl)) ?_
   refine W.pure (v := (.bool true)) rfl rfl (v_move (oo rfl rfl)) ?_
   refine W.skip (gk rfl rfl rfl rfl) rfl ?_
   refine W.skip (gk rfl rfl rfl rfl) rfl ?_
   refine W.skip (gk rfl rfl rfl rfl) rfl ?_
   refine W.pure (v := (.bool true)) rfl rfl (v_pickT (oo rfl rfl) (oo rfl rfl)) ?_
   refine W.pure (v := (.bool true)) rfl rfl (v_move (oo rfl rfl)) ?_
   refine W.skip (gk rfl rfl rfl rfl) rfl ?_
   refine W.skip (gk rfl rfl rfl rfl) rfl ?_
   refine W.skip (gk rfl rfl rfl rfl) rfl ?_
   refine W.pure (v := (.bool true)) rfl rfl (v_pickT (oo rfl rfl) (oo rfl rfl)) ?_
   refine .nil ?_
   obtain rfl := Option.some.inj h6
   exact ⟨true, _, rfl, O, (GM.le.refl _), rfl⟩
  ·have h7 := neg_b g4 h2
   refine W.pure (v := (.string p0)) (gk rfl rfl gv5 rfl) rfl (v_move (oo rfl rfl)) ?_
   refine W.pure (v := (.int .i64 (p0.size : Int))) (gk rfl rfl gv5 rfl) rfl (len_str (oo rfl rfl) un9) ?_
   refine W.pure (v := (.bool (decide ((p0.size : Int) > 8)))) (gk rfl rfl gv5 rfl) rfl (v_int (oo rfl rfl) (oo rfl rfl) rfl) ?_
   refine W.pure (v := (.bool (decide ((p0.size : Int) > 8)))) rfl rfl (v_pickF (oo rfl gv5) (oo rfl rfl)) ?_
   refine W.pure (v := (.bool (decide ((p0.size : Int) > 8)))) rfl rfl (v_move (oo rfl rfl)) ?_
   refine W.splitAt (t := 13) (b := decide ((p0.size : Int) > 8)) rfl (fun g8 gv9 => ?_) (fun g8 gv9 => ?_)
   ·have h10 := pos_inv g8 h7
    refine W.skip (gk rfl rfl gv9 rfl) rfl ?_
    refine W.skip (gk rfl rfl gv9 rfl) rfl ?_
    refine W.skip (gk rfl rfl gv9 rfl) rfl ?_
    refine W.pure (v := (.bool true)) rfl rfl (v_pickT (oo rfl gv9) (oo rfl rfl)) ?_
    refine W.pure (v := (.bool true)) rfl rfl (v_move (oo rfl rfl)) ?_
    refine W.skip (gk rfl rfl rfl rfl) rfl ?_
    refine W.skip (gk rfl rfl rfl rfl) rfl ?_
    refine W.skip (gk rfl rfl rfl rfl) rfl ?_
    refine W.pure (v := (.bool true)) rfl rfl (v_pickT (oo rfl rfl) (oo rfl rfl)) ?_
    refine .nil ?_
    obtain rfl := Option.some.inj h10
    exact ⟨true, _, rfl, O, (GM.le.refl _), rfl⟩
   ·have h11 := neg_b g8 h7
    refine W.pure (v := (.string p0)) (gk rfl rfl gv9 rfl) rfl (v_move (oo rfl rfl)) ?_
    obtain ⟨x12, i13, h14⟩ := bd_inv h11
    refine W.pure (v := (.int .u8 x12)) (gk rfl rfl gv9 rfl) rfl (v_sidx un9 (oo rfl rfl) (oo rfl rfl) i13) ?_
    refine W.pure (v := (.bool (decide (x12 < 65)))) (gk rfl rfl gv9 rfl) rfl (v_int (oo rfl rfl) (oo rfl rfl) rfl) ?_
    refine W.pure (v := (.bool (decide (x12 < 65)))) rfl rfl (v_pickF (oo rfl gv9) (oo rfl rfl)) ?_
    refine W.pure (v := (.bool (decide (x12 < 65)))) rfl rfl (v_move (oo rfl rfl)) ?_
    refine W.splitAt (t := 18) (b := decide (x12 < 65)) rfl (fun g15 gv16 => ?_) (fun g15 gv16 => ?_)
    ·have h17 := pos_inv g15 h14
     refine W.skip (gk rfl rfl gv16 rfl) rfl ?_
     refine W.skip (gk rfl rfl gv16 rfl) rfl ?_
     refine W.skip (gk rfl rfl gv16 rfl) rfl ?_
     refine W.pure (v := (.bool true)) rfl rfl (v_pickT (oo rfl gv16) (oo rfl rfl)) ?_
     refine .nil ?_
     obtain rfl := Option.some.inj h17
     exact ⟨true, _, rfl, O, (GM.le.refl _), rfl⟩
    ·have h18 := neg_b g15 h14
     refine W.pure (v := (.string p0)) (gk rfl rfl gv16 rfl) rfl (v_move (oo rfl rfl)) ?_
     obtain ⟨x19, i20, h21⟩ := bd_inv h18
     refine W.pure (v := (.int .u8 x19)) (gk rfl rfl gv16 rfl) rfl (v_sidx un9 (oo rfl rfl) (oo rfl rfl) i20) ?_
     refine W.pure (v := (.bool (decide (x19 > 90)))) (gk rfl rfl gv16 rfl) rfl (v_int (oo rfl rfl) (oo rfl rfl) rfl) ?_
     refine W.pure (v := (.bool (decide (x19 > 90)))) rfl rfl (v_pickF (oo rfl gv16) (oo rfl rfl)) ?_
     refine .nil ?_
     obtain rfl := Option.some.inj h21
     exact ⟨decide (x19 > 90), _, rfl, O, (GM.le.refl _), rfl⟩
 ·rintro σ23 H24 fr25 ⟨x22, G26, rfl, O27, s28, t30⟩
  have h31 := tu1_inv h3
  refine .cond (b := x22) rfl t30 (fun g32 => ?_) (fun g32 => ?_)
  ·have h33 := pos_inv g32 h31
   refine .seq ?_
   refine .region ?_
   refine W.pure (v := (.bool false)) rfl rfl (v_assign (oo rfl rfl)) ?_
   refine .nil ?_
   refine .ret ?_
   obtain rfl := Option.some.inj h33
   refine ret1R (P := Try.prog) (fn := Try.f25) (n := 46) (R := fun v H' => ∃ G', Ow G' H' (L) ∧ G.le G' ∧ v = .bool false) (v1 := (.bool false)) (by rfl) (rr_tmp (by rfl) (by exact rfl)) ?_
   exact ⟨_, O27, s28, rfl⟩
  ·have h34 := neg_b g32 h31
   refine .skip ?_
   refine .seq ?_
   refine .seq ?_
   refine .region ?_
   refine W.pure (v := (.string p0)) rfl rfl (v_move (oo rfl ((fr25 0 rfl).trans rfl))) ?_
   refine W.pure (v := (.int .i64 (p0.size : Int))) rfl rfl (len_str (oo rfl rfl) un9) ?_
   refine W.pure (v := (.int .i64 0)) rfl rfl (v_move (oo rfl rfl)) ?_
   refine .nil ?_
   obtain ⟨q35, h36, h37⟩ := bindS_inv h34
   refine AW.midT (fun σ' H' => ∃  (G' : GM), (.inr ()) = q35 ∧ Ow G' H' (L) ∧ GM.le G26 G') ?_ ?_
   ·refine .block ?_
    refine AW.loop (α := Nat) (fun k' σ' H' => ∃ (y1 : Int) (G' : GM), g_R_IsName_l0 K p0 k' y1 = some q35 ∧ Ow G' H' (L) ∧ GM.le G26 G' ∧ σ' 25 = .int .i64 y1) (fun k' => k') K ⟨0, _, h36, O27, (GM.le.refl _), rfl⟩ ?_
    rintro k38
    rintro σ40 H41 fr42 ⟨x39, G43, h46, O44, s45, t47⟩
    rcases k38 with _ | k38
    ·exact none_absurd h46
    rw [g_R_IsName_l0] at h46
    refine .seq ?_
    refine .region ?_
    refine W.pure (v := (.bool (decide (x39 < (p0.size : Int))))) rfl rfl (v_int (oo rfl t47) (oo rfl ((fr42 24 rfl).trans rfl)) rfl) ?_
    refine .nil ?_
    refine .seq ?_
    refine .cond (b := decide (x39 < (p0.size : Int))) rfl rfl (fun g48 => ?_) (fun g48 => ?_)
    ·have h49 := pos_inv g48 h46
     refine .skip ?_
     refine .seq ?_
     refine .block ?_
     refine .seq ?_
     refine .region ?_
     refine W.pure (v := (.int .i64 x39)) rfl rfl (v_move (oo rfl t47)) ?_
     refine W.pure (v := (.int .i64 x39)) rfl rfl (v_assign (oo rfl rfl)) ?_
     refine .nil ?_
     refine .seq ?_
     refine .region ?_
     refine W.pure (v := (.string p0)) rfl rfl (v_move (oo rfl ((fr42 0 rfl).trans ((fr25 0 rfl).trans rfl)))) ?_
     refine W.pure (v := (.int .i64 x39)) rfl rfl (v_move (oo rfl rfl)) ?_
     obtain ⟨x50, i51, h52⟩ := bd_inv h49
     refine W.pure (v := (.int .u8 x50)) rfl rfl (v_sidx un9 (oo rfl rfl) (oo rfl rfl) i51) ?_
     refine W.pure (v := (.int .u8 x50)) rfl rfl (v_assign (oo rfl rfl)) ?_
     refine .nil ?_
     refine .seq ?_
     obtain ⟨q53, h54, h55⟩ := bd_inv h52
     refine AW.midT (fun σ' H' => ∃ (y1 : Bool) (G' : GM), y1 = q53 ∧ Ow G' H' (L) ∧ GM.le G43 G' ∧ σ' 44 = .bool y1) ?_ ?_
     ·refine .region ?_
      refine W.pure (v := (.int .u8 x50)) rfl rfl (v_move (oo rfl rfl)) ?_
      refine W.pure (v := (.bool (decide (x50 < 65)))) rfl rfl (v_int (oo rfl rfl) (oo rfl rfl) rfl) ?_
      refine W.pure (v := (.bool (decide (x50 < 65)))) rfl rfl (v_move (oo rfl rfl)) ?_
      refine W.splitAt (t := 33) (b := decide (x50 < 65)) rfl (fun g56 gv57 => ?_) (fun g56 gv57 => ?_)
      ·have h58 := pos_inv g56 h54
       refine W.skip (gk rfl rfl gv57 rfl) rfl ?_
       refine W.skip (gk rfl rfl gv57 rfl) rfl ?_
       refine W.pure (v := (.bool true)) rfl rfl (v_pickT (oo rfl gv57) (oo rfl rfl)) ?_
       refine W.pure (v := (.bool true)) rfl rfl (v_move (oo rfl rfl)) ?_
       refine W.pure (v := (.int .u8 x50)) (gk rfl rfl rfl rfl) rfl (v_move (oo rfl rfl)) ?_
       refine W.pure (v := (.bool (decide (x50 < 48)))) (gk rfl rfl rfl rfl) rfl (v_int (oo rfl rfl) (oo rfl rfl) rfl) ?_
       refine W.pure (v := (.bool (decide (x50 < 48)))) (gk rfl rfl rfl rfl) rfl (v_move (oo rfl rfl)) ?_
       refine W.splitAt (t := 40) (b := decide (x50 < 48)) rfl (fun g59 gv60 => ?_) (fun g59 gv60 => ?_)
       ·have h61 := pos_inv g59 h58
        refine W.skip (gk rfl rfl gv60 rfl) rfl ?_
        refine W.skip (gk rfl rfl gv60 rfl) rfl ?_
        refine W.pure (v := (.bool true)) (gk rfl rfl rfl rfl) rfl (v_pickT (oo rfl gv60) (oo rfl rfl)) ?_
        refine W.pure (v := (.bool true)) rfl rfl (v_pickT (oo rfl rfl) (oo rfl rfl)) ?_
        refine .nil ?_
        obtain rfl := Option.some.inj h61
        exact ⟨true, _, rfl, O44, (GM.le.refl _), rfl⟩
       ·have h62 := neg_b g59 h58
        refine W.pure (v := (.int .u8 x50)) (gk rfl rfl gv60 rfl) rfl (v_move (oo rfl rfl)) ?_
        refine W.pure (v := (.bool (decide (x50 > 57)))) (gk rfl rfl gv60 rfl) rfl (v_int (oo rfl rfl) (oo rfl rfl) rfl) ?_
        refine W.pure (v := (.bool (decide (x50 > 57)))) (gk rfl rfl rfl rfl) rfl (v_pickF (oo rfl gv60) (oo rfl rfl)) ?_
        refine W.pure (v := (.bool (decide (x50 > 57)))) rfl rfl (v_pickT (oo rfl rfl) (oo rfl rfl)) ?_
        refine .nil ?_
        obtain rfl := Option.some.inj h62
        exact ⟨decide (x50 > 57), _, rfl, O44, (GM.le.refl _), rfl⟩
      ·have h63 := neg_b g56 h54
       refine W.pure (v := (.int .u8 x50)) (gk rfl rfl gv57 rfl) rfl (v_move (oo rfl rfl)) ?_
       refine W.pure (v := (.bool (decide (x50 > 90)))) (gk rfl rfl gv57 rfl) rfl (v_int (oo rfl rfl) (oo rfl rfl) rfl) ?_
       refine W.pure (v := (.bool (decide (x50 > 90)))) rfl rfl (v_pickF (oo rfl gv57) (oo rfl rfl)) ?_
       refine W.pure (v := (.bool (decide (x50 > 90)))) rfl rfl (v_move (oo rfl rfl)) ?_
       refine W.splitAt (t := 37) (b := decide (x50 > 90)) rfl (fun g64 gv65 => ?_) (fun g64 gv65 => ?_)
       ·have h66 := pos_inv g64 h63
        refine W.pure (v := (.int .u8 x50)) (gk rfl rfl gv65 rfl) rfl (v_move (oo rfl rfl)) ?_
        refine W.pure (v := (.bool (decide (x50 < 48)))) (gk rfl rfl gv65 rfl) rfl (v_int (oo rfl rfl) (oo rfl rfl) rfl) ?_
        refine W.pure (v := (.bool (decide (x50 < 48)))) (gk rfl rfl gv65 rfl) rfl (v_move (oo rfl rfl)) ?_
        refine W.splitAt (t := 40) (b := decide (x50 < 48)) rfl (fun g67 gv68 => ?_) (fun g67 gv68 => ?_)
        ·have h69 := pos_inv g67 h66
         refine W.skip (gk rfl rfl gv68 rfl) rfl ?_
         refine W.skip (gk rfl rfl gv68 rfl) rfl ?_
         refine W.pure (v := (.bool true)) (gk rfl rfl gv65 rfl) rfl (v_pickT (oo rfl gv68) (oo rfl rfl)) ?_
         refine W.pure (v := (.bool true)) rfl rfl (v_pickT (oo rfl gv65) (oo rfl rfl)) ?_
         refine .nil ?_
         obtain rfl := Option.some.inj h69
         exact ⟨true, _, rfl, O44, (GM.le.refl _), rfl⟩
        ·have h70 := neg_b g67 h66
         refine W.pure (v := (.int .u8 x50)) (gk rfl rfl gv68 rfl) rfl (v_move (oo rfl rfl)) ?_
         refine W.pure (v := (.bool (decide (x50 > 57)))) (gk rfl rfl gv68 rfl) rfl (v_int (oo rfl rfl) (oo rfl rfl) rfl) ?_
         refine W.pure (v := (.bool (decide (x50 > 57)))) (gk rfl rfl gv65 rfl) rfl (v_pickF (oo rfl gv68) (oo rfl rfl)) ?_
         refine W.pure (v := (.bool (decide (x50 > 57)))) rfl rfl (v_pickT (oo rfl gv65) (oo rfl rfl)) ?_
         refine .nil ?_
         obtain rfl := Option.some.inj h70
         exact ⟨decide (x50 > 57), _, rfl, O44, (GM.le.refl _), rfl⟩
       ·have h71 := neg_b g64 h63
        refine W.skip (gk rfl rfl gv65 rfl) rfl ?_
        refine W.skip (gk rfl rfl gv65 rfl) rfl ?_
        refine W.skip (gk rfl rfl gv65 rfl) rfl ?_
        refine W.skipU rfl rfl rfl rfl ?_
        refine W.skipU rfl rfl rfl rfl ?_
        refine W.skip (gk rfl rfl gv65 rfl) rfl ?_
        refine W.pure (v := (.bool false)) rfl rfl (v_pickF (oo rfl gv65) (oo rfl rfl)) ?_
        refine .nil ?_
        obtain rfl := Option.some.inj h71
        exact ⟨false, _, rfl, O44, (GM.le.refl _), rfl⟩
     ·rintro σ73 H74 fr75 ⟨x72, G76, rfl, O77, s78, t80⟩
      have h81 := tu1_inv h55
      refine .cond (b := x72) rfl t80 (fun g82 => ?_) (fun g82 => ?_)
      ·have h83 := pos_inv g82 h81
       refine .seq ?_
       refine .region ?_
       refine W.pure (v := (.bool false)) rfl rfl (v_assign (oo rfl rfl)) ?_
       refine .nil ?_
       refine .ret ?_
       obtain rfl := Option.some.inj h83
       have h84 := tu1_inv (outS_l h37)
       obtain rfl := Option.some.inj h84
       refine ret1R (P := Try.prog) (fn := Try.f25) (n := 46) (R := fun v H' => ∃ G', Ow G' H' (L) ∧ G.le G' ∧ v = .bool false) (v1 := (.bool false)) (by rfl) (rr_tmp (by rfl) (by exact rfl)) ?_
       exact ⟨_, O77, (GM.le.trans s28 (GM.le.trans s45 s78)), rfl⟩
      ·have h85 := neg_b g82 h81
       refine .skip ?_
       refine .region ?_
       refine W.pure (v := (.int .i64 (kwrap .i64 (x39 + 1)))) rfl rfl (v_int (oo rfl ((fr75 25 rfl).trans t47)) (oo rfl rfl) rfl) ?_
       refine W.pure (v := (.int .i64 (kwrap .i64 (x39 + 1)))) rfl rfl (v_move (oo rfl rfl)) ?_
       refine .nil ?_
       exact ⟨k38, Nat.lt_succ_self _, ⟨kwrap .i64 (x39 + 1), _, h85, O77, (GM.le.trans s45 s78), rfl⟩⟩
    ·have h86 := neg_b g48 h46
     refine .exit ?_
     obtain rfl := Option.some.inj h86
     exact ⟨_, rfl, O44, s45⟩
   ·rintro σ87 H88 fr89 ⟨G90, rfl, O91, s92⟩
    have h94 := tu0_inv (outS_r h37)
    refine .seq ?_
    refine .region ?_
    refine W.pure (v := (.bool true)) rfl rfl (v_assign (oo rfl rfl)) ?_
    refine .nil ?_
    refine .ret ?_
    obtain rfl := Option.some.inj h94
    refine ret1R (P := Try.prog) (fn := Try.f25) (n := 46) (R := fun v H' => ∃ G', Ow G' H' (L) ∧ G.le G' ∧ v = .bool true) (v1 := (.bool true)) (by rfl) (rr_tmp (by rfl) (by exact rfl)) ?_
    exact ⟨_, O91, (GM.le.trans s28 s92), rfl⟩
def g_R_Place_l0 (K : Nat) (p0 : List ByteArray) (p1 : ByteArray) : Nat → Int → Option (Int ⊕ Unit)
 | 0, _ => none
 | k + 1, x5 => (if (decide (x5 < (List.length p0 : Int))) = true then ((idx p0 x5).bind fun x16 => (if (sEq x16 p1) = true then some (.inl x5) else g_R_Place_l0 K p0 p1 k (kwrap .i64 (x5 + 1)))) else some (.inr ()))
def g_R_Place (K : Nat) (p0 : List ByteArray) (p1 : ByteArray) : Option Int := (bindS (g_R_Place_l0 K p0 p1 K 0) (tu1 fun a33 => some a33) (tu0 (some (-1))))
set_option maxHeartbeats 4000000 in
theorem g_R_Place_ok (K : Nat) {G : GM} {H : AH} {L : List Pc} (v0 : Value) (p0 : List ByteArray) (hp0 : (rSl rS).rep G [v0] p0) (p1 : ByteArray) (O : Ow G H (L)) (r : Int) (h : g_R_Place K p0 p1 = some r) :
  CR Try.prog 46 [v0, (.string p1)] G H (L) (fun v G' _ => v = .int .i64 r) := by
 unfold g_R_Place at h
 refine CR.of (calls_of_AW (n := 19) (fn := Try.f46) (R := fun v H' => ∃ G', Ow G' H' (L) ∧ G.le G' ∧ v = .int .i64 r) (by kernel_rfl) rfl rfl ?_)
 refine .seq ?_
 refine .region ?_
 refine W.pure (v := (.int .i64 0)) rfl rfl (v_assign (oo rfl rfl)) ?_
 refine .nil ?_
 refine .seq ?_
 refine .seq ?_
 refine .region ?_
 refine W.pure (v := v0) rfl rfl (v_move (oo rfl rfl)) ?_
 refine W.pure (v := (.int .i64 (List.length p0 : Int))) rfl rfl (len_sl (oo rfl rfl) (sl_len hp0) (elemT_inv el41)) ?_
 refine W.pure (v := (.int .i64 0)) rfl rfl (v_move (oo rfl rfl)) ?_
 refine .nil ?_
 obtain ⟨q1, h2, h3⟩ := bindS_inv h
 refine AW.midT (fun σ' H' => ∃  (G' : GM), (.inr ()) = q1 ∧ Ow G' H' (L) ∧ GM.le G G') ?_ ?_
 ·refine .block ?_
  refine AW.loop (α := Nat) (fun k' σ' H' => ∃ (y1 : Int) (G' : GM), g_R_Place_l0 K p0 p1 k' y1 = some q1 ∧ Ow G' H' (L) ∧ GM.le G G' ∧ σ' 9 = .int .i64 y1) (fun k' => k') K ⟨0, _, h2, O, (GM.le.refl _), rfl⟩ ?_
  rintro k4
  rintro σ6 H7 fr8 ⟨x5, G9, h12, O10, s11, t13⟩
  rcases k4 with _ | k4
  ·exact none_absurd h12
  rw [g_R_Place_l0] at h12
  refine .seq ?_
  refine .region ?_
  refine W.pure (v := (.bool (decide (x5 < (List.length p0 : Int))))) rfl rfl (v_int (oo rfl t13) (oo rfl ((fr8 8 rfl).trans rfl)) rfl) ?_
  refine .nil ?_
  refine .seq ?_
  refine .cond (b := decide (x5 < (List.length p0 : Int))) rfl rfl (fun g14 => ?_) (fun g14 => ?_)
  ·have h15 := pos_inv g14 h12
   refine .skip ?_
   refine .seq ?_
   refine .block ?_
   refine .seq ?_
   refine .region ?_
   refine W.pure (v := (.int .i64 x5)) rfl rfl (v_move (oo rfl t13)) ?_
   obtain ⟨x16, i17, h18⟩ := bd_inv h15
   have j19 := idx_inv i17
   refine W.pure (v := (selem v0 (Int.toNat x5 * 1))) rfl rfl (v_idx el41 sz9 (oo rfl ((fr8 7 rfl).trans rfl)) (oo rfl t13) (sl_len (RT.mono _ s11 hp0)) j19.1 j19.2.1) ?_
   refine W.load1 (v := (.string x16)) (r := []) rfl rfl ag9 (pt_px rfl (At.str (At.le (At.le (sl_idx hp0 j19.2.2) s11 s11) (GM.le.refl _) O10.fro))) ?_
   refine W.pure (v := (.int .i64 x5)) rfl rfl (v_assign (oo rfl rfl)) ?_
   refine W.pure (v := (.string x16)) rfl rfl (v_assign (oo rfl rfl)) ?_
   refine .nil ?_
   refine .seq ?_
   refine .region ?_
   refine W.pure (v := (.string x16)) rfl rfl (v_move (oo rfl rfl)) ?_
   refine W.pure (v := (.string p1)) rfl rfl (v_move (oo rfl ((fr8 1 rfl).trans rfl))) ?_
   refine W.pure (v := (.bool (sEq x16 p1))) rfl rfl (vs_eql (oo rfl rfl) (oo rfl rfl)) ?_
   refine .nil ?_
   refine .cond (b := sEq x16 p1) rfl rfl (fun g20 => ?_) (fun g20 => ?_)
   ·have h21 := pos_inv g20 h18
    refine .seq ?_
    refine .region ?_
    refine W.pure (v := (.int .i64 x5)) rfl rfl (v_move (oo rfl rfl)) ?_
    refine W.pure (v := (.int .i64 x5)) rfl rfl (v_assign (oo rfl rfl)) ?_
    refine .nil ?_
    refine .ret ?_
    obtain rfl := Option.some.inj h21
    have h22 := tu1_inv (outS_l h3)
    obtain rfl := Option.some.inj h22
    refine ret1R (P := Try.prog) (fn := Try.f46) (n := 19) (R := fun v H' => ∃ G', Ow G' H' (L) ∧ G.le G' ∧ v = .int .i64 x5) (v1 := (.int .i64 x5)) (by rfl) (rr_tmp (by rfl) (by exact rfl)) ?_
    exact ⟨_, O10, s11, rfl⟩
   ·have h23 := neg_b g20 h18
    refine .skip ?_
    refine .region ?_
    refine W.pure (v := (.int .i64 (kwrap .i64 (x5 + 1)))) rfl rfl (v_int (oo rfl t13) (oo rfl rfl) rfl) ?_
    refine W.pure (v := (.int .i64 (kwrap .i64 (x5 + 1)))) rfl rfl (v_move (oo rfl rfl)) ?_
    refine .nil ?_
    exact ⟨k4, Nat.lt_succ_self _, ⟨kwrap .i64 (x5 + 1), _, h23, O10, s11, rfl⟩⟩
  ·have h24 := neg_b g14 h12
   refine .exit ?_
   obtain rfl := Option.some.inj h24
   exact ⟨_, rfl, O10, s11⟩
 ·rintro σ25 H26 fr27 ⟨G28, rfl, O29, s30⟩
  have h32 := tu0_inv (outS_r h3)
  refine .seq ?_
  refine .region ?_
  refine W.pure (v := (.int .i64 (-1))) rfl rfl (v_assign (oo rfl rfl)) ?_
  refine .nil ?_
  refine .ret ?_
  obtain rfl := Option.some.inj h32
  refine ret1R (P := Try.prog) (fn := Try.f46) (n := 19) (R := fun v H' => ∃ G', Ow G' H' (L) ∧ G.le G' ∧ v = .int .i64 (-1)) (v1 := (.int .i64 (-1))) (by rfl) (rr_tmp (by rfl) (by exact rfl)) ?_
  exact ⟨_, O29, s30, rfl⟩
def g_R_Has (K : Nat) (p0 : List ByteArray) (p1 : ByteArray) : Option Bool := ((g_R_Place K p0 p1).bind fun x1 => some (decide (x1 ≥ 0)))
set_option maxHeartbeats 4000000 in
theorem g_R_Has_ok (K : Nat) {G : GM} {H : AH} {L : List Pc} (v0 : Value) (p0 : List ByteArray) (hp0 : (rSl rS).rep G [v0] p0) (p1 : ByteArray) (O : Ow G H (L)) (r : Bool) (h : g_R_Has K p0 p1 = some r) :
  CR Try.prog 42 [v0, (.string p1)] G H (L) (fun v G' _ => v = .bool r) := by
 unfold g_R_Has at h
 refine CR.of (calls_of_AW (n := 9) (fn := Try.f42) (R := fun v H' => ∃ G', Ow G' H' (L) ∧ G.le G' ∧ v = .bool r) (by kernel_rfl) rfl rfl ?_)
 refine .seq ?_
 refine .region ?_
 refine W.pure (v := (.bool false)) rfl rfl (v_assign (oo rfl rfl)) ?_
 refine .nil ?_
 refine .seq ?_
 refine .region ?_
 refine W.pure (v := v0) rfl rfl (v_move (oo rfl rfl)) ?_
 refine W.pure (v := (.string p1)) rfl rfl (v_move (oo rfl rfl)) ?_
 obtain ⟨x1, i2, h3⟩ := bd_inv h
 refine W.lo rfl rfl (Lo.callP (ps := []) (ps' := []) rfl (fn := Try.f46) (by kernel_rfl) rfl (mc rfl (mc rfl mn)) O (fun L' O' => g_R_Place_ok K v0 p0 hp0 p1 O' _ i2)) ?_
 rintro v10 H11 ⟨G4, O5, s6, sm9, rfl⟩
 replace O5 : Ow G4 H11 (L) := O5
 refine W.pure (v := (.bool (decide (x1 ≥ 0)))) rfl rfl (v_int (oo rfl rfl) (oo rfl rfl) rfl) ?_
 refine W.pure (v := (.bool (decide (x1 ≥ 0)))) rfl rfl (v_assign (oo rfl rfl)) ?_
 refine .nil ?_
 refine .ret ?_
 obtain rfl := Option.some.inj h3
 refine ret1R (P := Try.prog) (fn := Try.f42) (n := 9) (R := fun v H' => ∃ G', Ow G' H' (L) ∧ G.le G' ∧ v = .bool (decide (x1 ≥ 0))) (v1 := (.bool (decide (x1 ≥ 0)))) (by rfl) (rr_tmp (by rfl) (by exact rfl)) ?_
 exact ⟨_, O5, s6, rfl⟩
def g_R_NetError_1 (K : Nat) (p0 : ByteArray) (p1 : List ByteArray) : Option (Int × List ByteArray) := ((g_R_IsName K p0).bind fun x1 => (if (!x1) = true then some (5, p1) else ((g_R_Has K p1 p0).bind fun x15 => (if x15 = true then some (7, p1) else (if List.length p1 + List.length [p0] ≤ 16777216 then some (0, (p1 ++ [p0])) else none)))))
set_option maxHeartbeats 4000000 in
theorem g_R_NetError_1_ok (K : Nat) {G : GM} {H : AH} {L : List Pc} (p0 : ByteArray) (b1 : Nat) (v1 : Value) (p1 : List ByteArray) (O : Ow G H (eVar b1 41 rV v1 :: eSl v1 9 rS p1 :: L)) (r : Int × List ByteArray) (h : g_R_NetError_1 K p0 p1 = some r) :
  CRF Try.prog 70 [(.string p0), .pointer (some ⟨b1, 0, none⟩)] G H (fun wl => (eVar b1 41 rV wl :: eSl wl 9 rS r.2 :: L)) (fun wl v G' => v = .int .i64 r.1) := by
 unfold g_R_NetError_1 at h
 refine CRF.of (calls_of_AW (n := 14) (fn := Try.f70) (R := fun v H' => ∃ wl G', Ow G' H' (eVar b1 41 rV wl :: eSl wl 9 rS r.2 :: L) ∧ G.le G' ∧ v = .int .i64 r.1) (by kernel_rfl) rfl rfl ?_)
 refine .seq ?_
 refine .region ?_
 refine W.pure (v := (.int .i64 0)) rfl rfl (v_assign (oo rfl rfl)) ?_
 refine .nil ?_
 refine .seq ?_
 refine .seq ?_
 refine .region ?_
 refine W.pure (v := (.string p0)) rfl rfl (v_move (oo rfl rfl)) ?_
 obtain ⟨x1, i2, h3⟩ := bd_inv h
 refine W.lo rfl rfl (Lo.callP (ps := []) (ps' := []) rfl (fn := Try.f25) (by kernel_rfl) rfl (mc rfl mn) O (fun L' O' => g_R_IsName_ok K p0 O' _ i2)) ?_
 rintro v10 H11 ⟨G4, O5, s6, sm9, rfl⟩
 replace O5 : Ow G4 H11 (eVar b1 41 rV v1 :: eSl v1 9 rS p1 :: L) := O5
 refine W.pure (v := (.bool (!x1))) rfl rfl (bool_not (a := x1) (oo rfl rfl)) ?_
 refine .nil ?_
 refine .cond (b := (!x1)) rfl rfl (fun g12 => ?_) (fun g12 => ?_)
 ·have h13 := pos_inv g12 h3
  refine .seq ?_
  refine .region ?_
  refine W.pure (v := (.int .i64 5)) rfl rfl (v_assign (oo rfl rfl)) ?_
  refine .nil ?_
  refine .ret ?_
  obtain rfl := Option.some.inj h13
  refine ret1R (P := Try.prog) (fn := Try.f70) (n := 14) (R := fun v H' => ∃ wl G', Ow G' H' (eVar b1 41 rV wl :: eSl wl 9 rS (5, p1).2 :: L) ∧ G.le G' ∧ v = .int .i64 (5, p1).1) (v1 := (.int .i64 5)) (by rfl) (rr_tmp (by rfl) (by exact rfl)) ?_
  exact ⟨v1, _, O5, s6, rfl⟩
 ·have h14 := neg_b g12 h3
  refine .skip ?_
  refine .seq ?_
  refine .seq ?_
  refine .region ?_
  refine W.load1 (v := v1) (r := []) rfl rfl ag41 (pt_px rfl (At.raw (O5.atVar (j := 0) rfl))) ?_
  refine W.pure (v := (.string p0)) rfl rfl (v_move (oo rfl rfl)) ?_
  obtain ⟨x15, i16, h17⟩ := bd_inv h14
  refine W.lo rfl rfl (Lo.callB (j := 1) rfl rfl (fn := Try.f42) (by kernel_rfl) rfl (mc rfl (mc rfl mn)) O5 (fun G' L' hG O' hB => g_R_Has_ok K v1 p1 hB p0 O' _ i16)) ?_
  rintro v24 H25 ⟨G18, O19, s20, sm23, rfl⟩
  replace O19 : Ow G18 H25 (eVar b1 41 rV v1 :: eSl v1 9 rS p1 :: L) := O19
  refine .nil ?_
  refine .cond (b := x15) rfl rfl (fun g26 => ?_) (fun g26 => ?_)
  ·have h27 := pos_inv g26 h17
   refine .seq ?_
   refine .region ?_
   refine W.pure (v := (.int .i64 7)) rfl rfl (v_assign (oo rfl rfl)) ?_
   refine .nil ?_
   refine .ret ?_
   obtain rfl := Option.some.inj h27
   refine ret1R (P := Try.prog) (fn := Try.f70) (n := 14) (R := fun v H' => ∃ wl G', Ow G' H' (eVar b1 41 rV wl :: eSl wl 9 rS (7, p1).2 :: L) ∧ G.le G' ∧ v = .int .i64 (7, p1).1) (v1 := (.int .i64 7)) (by rfl) (rr_tmp (by rfl) (by exact rfl)) ?_
   exact ⟨v1, _, O19, (GM.le.trans s6 s20), rfl⟩
  ·have h28 := neg_b g26 h17
   refine .skip ?_
   refine .seq ?_
   refine .region ?_
   refine W.load1 (v := v1) (r := []) rfl rfl ag41 (pt_px rfl (At.raw (O19.atVar (j := 0) rfl))) ?_
   refine W.pure (v := (.string p0)) rfl rfl (v_move (oo rfl rfl)) ?_
   refine W.lo rfl rfl (Lo.buildSlice (r := rS) (vs := [(.string p0)]) (xs := [p0]) el41 ze9 sz9 (by kernel_rfl) rfl (qc rfl qn) rfl (.cons rfl .nil) O19) ?_
   rintro v31 H32 ⟨O29, sm30⟩
   obtain ⟨es34, e35, e36⟩ := src_own (j := 0) rfl O29
   obtain ⟨g37, h38⟩ := gd_inv h28
   refine W.lo rfl rfl (Lo.append (j := 2) (v := v1) rfl rfl el41 ni41 ze9 sz9 by9 (by decide) (by decide) rfl e35 e36 g37 O29) ?_
   rintro v40 H41 ⟨O33, sm39⟩
   replace O33 : Ow G18 H41 (eSl v31 9 rS [p0] :: eVar b1 41 rV v1 :: eSl v40 9 rS (p1 ++ [p0]) :: L) := O33
   refine W.lo rfl rfl (Lo.storeVar (j := 1) (s := rV) (y0 := v40) (v := v40) (o := 0) rfl ((Put.at (Put.self _) _ _)) rfl sz41 rfl (by omega) rfl (rv_ok (O33.slLen (j := 2) rfl)) O33) ?_
   rintro v44 H45 ⟨O42, sm43⟩
   replace O42 : Ow G18 H45 (eSl v31 9 rS [p0] :: eVar b1 41 rV v40 :: eSl v40 9 rS (p1 ++ [p0]) :: L) := O42
   refine .nil ?_
   refine .seq ?_
   refine .region ?_
   refine W.pure (v := (.int .i64 0)) rfl rfl (v_assign (oo rfl rfl)) ?_
   refine .nil ?_
   refine .ret ?_
   have O46 : Ow G18 H45 (eVar b1 41 rV v40 :: eSl v40 9 rS (p1 ++ [p0]) :: L) := O42.drop 0
   obtain rfl := Option.some.inj h38
   refine ret1R (P := Try.prog) (fn := Try.f70) (n := 14) (R := fun v H' => ∃ wl G', Ow G' H' (eVar b1 41 rV wl :: eSl wl 9 rS (0, (p1 ++ [p0])).2 :: L) ∧ G.le G' ∧ v = .int .i64 (0, (p1 ++ [p0])).1) (v1 := (.int .i64 0)) (by rfl) (rr_tmp (by rfl) (by exact rfl)) ?_
   exact ⟨v40, _, O46, (GM.le.trans s6 s20), rfl⟩
def g_R_in (K : Nat) (p0 : Int) (p1 : Int) (p2 : Int) : Option Bool := (Option.bind ((if (decide (p0 < p1)) = true then some false else some (!(decide (p0 > p2))))) (tu1 fun x8 => some x8))
set_option maxHeartbeats 4000000 in
theorem g_R_in_ok (K : Nat) {G : GM} {H : AH} {L : List Pc} (p0 : Int) (p1 : Int) (p2 : Int) (O : Ow G H (L)) (r : Bool) (h : g_R_in K p0 p1 p2 = some r) :
  CR Try.prog 73 [(.int .i64 p0), (.int .i64 p1), (.int .i64 p2)] G H (L) (fun v G' _ => v = .bool r) := by
 unfold g_R_in at h
 refine CR.of (calls_of_AW (n := 16) (fn := Try.f73) (R := fun v H' => ∃ G', Ow G' H' (L) ∧ G.le G' ∧ v = .bool r) (by kernel_rfl) rfl rfl ?_)
 refine .seq ?_
 refine .region ?_
 refine W.pure (v := (.bool false)) rfl rfl (v_assign (oo rfl rfl)) ?_
 refine .nil ?_
 refine .seq ?_
 obtain ⟨q1, h2, h3⟩ := bd_inv h
 refine AW.midT (fun σ' H' => ∃ (y1 : Bool) (G' : GM), y1 = q1 ∧ Ow G' H' (L) ∧ GM.le G G' ∧ σ' 6 = .bool y1) ?_ ?_
 ·refine .region ?_
  refine W.pure (v := (.int .i64 p0)) rfl rfl (v_move (oo rfl rfl)) ?_
  refine W.pure (v := (.int .i64 p1)) rfl rfl (v_move (oo rfl rfl)) ?_
  refine W.pure (v := (.bool (decide (p0 < p1)))) rfl rfl (v_int (oo rfl rfl) (oo rfl rfl) rfl) ?_
  refine W.pure (v := (.bool (decide (p0 < p1)))) rfl rfl (v_move (oo rfl rfl)) ?_
  refine W.splitAt (t := 10) (b := decide (p0 < p1)) rfl (fun g4 gv5 => ?_) (fun g4 gv5 => ?_)
  ·have h6 := pos_inv g4 h2
   refine W.skip (gk rfl rfl gv5 rfl) rfl ?_
   refine W.skip (gk rfl rfl gv5 rfl) rfl ?_
   refine W.skip (gk rfl rfl gv5 rfl) rfl ?_
   refine W.pure (v := (.bool true)) rfl rfl (v_pickT (oo rfl gv5) (oo rfl rfl)) ?_
   refine W.pure (v := (.bool false)) rfl rfl (bool_not (a := true) (oo rfl rfl)) ?_
   refine W.pure (v := (.bool false)) rfl rfl (v_assign (oo rfl rfl)) ?_
   refine .nil ?_
   obtain rfl := Option.some.inj h6
   exact ⟨false, _, rfl, O, (GM.le.refl _), rfl⟩
  ·have h7 := neg_b g4 h2
   refine W.pure (v := (.int .i64 p0)) (gk rfl rfl gv5 rfl) rfl (v_move (oo rfl rfl)) ?_
   refine W.pure (v := (.int .i64 p2)) (gk rfl rfl gv5 rfl) rfl (v_move (oo rfl rfl)) ?_
   refine W.pure (v := (.bool (decide (p0 > p2)))) (gk rfl rfl gv5 rfl) rfl (v_int (oo rfl rfl) (oo rfl rfl) rfl) ?_
   refine W.pure (v := (.bool (decide (p0 > p2)))) rfl rfl (v_pickF (oo rfl gv5) (oo rfl rfl)) ?_
   refine W.pure (v := (.bool (!(decide (p0 > p2))))) rfl rfl (bool_not (a := decide (p0 > p2)) (oo rfl rfl)) ?_
   refine W.pure (v := (.bool (!(decide (p0 > p2))))) rfl rfl (v_assign (oo rfl rfl)) ?_
   refine .nil ?_
   obtain rfl := Option.some.inj h7
   exact ⟨(!(decide (p0 > p2))), _, rfl, O, (GM.le.refl _), rfl⟩
 ·rintro σ9 H10 fr11 ⟨x8, G12, rfl, O13, s14, t16⟩
  have h17 := tu1_inv h3
  refine .ret ?_
  obtain rfl := Option.some.inj h17
  refine ret1R (P := Try.prog) (fn := Try.f73) (n := 16) (R := fun v H' => ∃ G', Ow G' H' (L) ∧ G.le G' ∧ v = .bool x8) (v1 := (.bool x8)) (by rfl) (rr_tmp (by rfl) (by exact t16)) ?_
  exact ⟨_, O13, s14, rfl⟩
def g_R_BranchError (K : Nat) (p0 : Branch) : Option Int := (Option.bind (((g_R_in K p0.X 1 10000).bind fun x9 => (if x9 = true then ((g_R_in K p0.Tap 500 1500).bind fun x23 => (if x23 = true then ((g_R_in K p0.Shift (-1000) 1000).bind fun x37 => (if x37 = true then ((g_R_in K p0.Limit 0 100000).bind fun x51 => (if x51 = true then ((g_R_in K p0.Short p0.Limit 100000).bind fun x65 => (if x65 = true then ((g_R_in K p0.Hold 0 200000).bind fun x79 => some x79) else some false)) else some false)) else some false)) else some false)) else some false))) (tu1 fun x95 => (if x95 = true then some 0 else some 4)))
set_option maxHeartbeats 4000000 in
theorem g_R_BranchError_ok (K : Nat) {G : GM} {H : AH} {L : List Pc} (v0 : List Value) (p0 : Branch) (hp0 : T_Branch.rep G v0 p0) (O : Ow G H (L)) (r : Int) (h : g_R_BranchError K p0 = some r) :
  CR Try.prog 27 [.agg (List.toArray v0)] G H (L) (fun v G' _ => v = .int .i64 r) := by
 unfold g_R_BranchError at h
 refine CR.of (calls_of_AW (n := 33) (fn := Try.f27) (R := fun v H' => ∃ G', Ow G' H' (L) ∧ G.le G' ∧ v = .int .i64 r) (by kernel_rfl) rfl rfl ?_)
 refine .seq ?_
 refine .region ?_
 refine W.lo rfl rfl (Lo.box (r := T_Branch) (x0 := p0) (v := (.agg (List.toArray v0))) rfl rfl hp0 O) ?_
 rintro v4 H5 ⟨b2, rfl, O1, sm3⟩
 refine W.pure (v := (.int .i64 0)) rfl rfl (v_assign (oo rfl rfl)) ?_
 refine .nil ?_
 refine .seq ?_
 refine .seq ?_
 obtain ⟨q6, h7, h8⟩ := bd_inv h
 refine AW.midT (fun σ' H' => ∃ (y1 : Bool) (G' : GM), y1 = q6 ∧ Ow G' H' (eVar b2 50 T_Branch p0 :: L) ∧ GM.le G G' ∧ σ' 32 = .bool y1) ?_ ?_
 ·refine .region ?_
  refine W.pure (v := (padd (.pointer (some ⟨b2, 0, none⟩)) 3)) rfl rfl (v_fldA fl50_3 (oo rfl rfl) (O1.atVar (j := 0) rfl)) ?_
  refine W.load1 (v := (.int .i64 p0.X)) (r := []) rfl rfl ag3 (pt_px rfl (At.int (At.proj (O1.atVar (j := 0) rfl) p_Branch_X))) ?_
  obtain ⟨x9, i10, h11⟩ := bd_inv h7
  refine W.lo rfl rfl (Lo.callP (ps := []) (ps' := []) rfl (fn := Try.f73) (by kernel_rfl) rfl (mc rfl (mc rfl (mc rfl mn))) O1 (fun L' O' => g_R_in_ok K p0.X 1 10000 O' _ i10)) ?_
  rintro v18 H19 ⟨G12, O13, s14, sm17, rfl⟩
  replace O13 : Ow G12 H19 (eVar b2 50 T_Branch p0 :: L) := O13
  refine W.pure (v := (.bool x9)) rfl rfl (v_move (oo rfl rfl)) ?_
  refine W.splitAt (t := 6) (b := x9) rfl (fun g20 gv21 => ?_) (fun g20 gv21 => ?_)
  ·have h22 := pos_inv g20 h11
   refine W.pure (v := (padd (.pointer (some ⟨b2, 0, none⟩)) 4)) (gk rfl rfl gv21 rfl) rfl (v_fldA fl50_4 (oo rfl rfl) (O13.atVar (j := 0) rfl)) ?_
   refine W.load1 (v := (.int .i64 p0.Tap)) (r := []) (gk rfl rfl gv21 rfl) rfl ag3 (pt_px rfl (At.int (At.proj (O13.atVar (j := 0) rfl) p_Branch_Tap))) ?_
   obtain ⟨x23, i24, h25⟩ := bd_inv h22
   refine W.lo (gk rfl rfl gv21 rfl) rfl (Lo.callP (ps := []) (ps' := []) rfl (fn := Try.f73) (by kernel_rfl) rfl (mc rfl (mc rfl (mc rfl mn))) O13 (fun L' O' => g_R_in_ok K p0.Tap 500 1500 O' _ i24)) ?_
   rintro v32 H33 ⟨G26, O27, s28, sm31, rfl⟩
   replace O27 : Ow G26 H33 (eVar b2 50 T_Branch p0 :: L) := O27
   refine W.pure (v := (.bool x23)) rfl rfl (v_pickT (oo rfl gv21) (oo rfl rfl)) ?_
   refine W.pure (v := (.bool x23)) rfl rfl (v_move (oo rfl rfl)) ?_
   refine W.splitAt (t := 11) (b := x23) rfl (fun g34 gv35 => ?_) (fun g34 gv35 => ?_)
   ·have h36 := pos_inv g34 h25
    refine W.pure (v := (padd (.pointer (some ⟨b2, 0, none⟩)) 5)) (gk rfl rfl gv35 rfl) rfl (v_fldA fl50_5 (oo rfl rfl) (O27.atVar (j := 0) rfl)) ?_
    refine W.load1 (v := (.int .i64 p0.Shift)) (r := []) (gk rfl rfl gv35 rfl) rfl ag3 (pt_px rfl (At.int (At.proj (O27.atVar (j := 0) rfl) p_Branch_Shift))) ?_
    obtain ⟨x37, i38, h39⟩ := bd_inv h36
    refine W.lo (gk rfl rfl gv35 rfl) rfl (Lo.callP (ps := []) (ps' := []) rfl (fn := Try.f73) (by kernel_rfl) rfl (mc rfl (mc rfl (mc rfl mn))) O27 (fun L' O' => g_R_in_ok K p0.Shift (-1000) 1000 O' _ i38)) ?_
    rintro v46 H47 ⟨G40, O41, s42, sm45, rfl⟩
    replace O41 : Ow G40 H47 (eVar b2 50 T_Branch p0 :: L) := O41
    refine W.pure (v := (.bool x37)) rfl rfl (v_pickT (oo rfl gv35) (oo rfl rfl)) ?_
    refine W.pure (v := (.bool x37)) rfl rfl (v_move (oo rfl rfl)) ?_
    refine W.splitAt (t := 16) (b := x37) rfl (fun g48 gv49 => ?_) (fun g48 gv49 => ?_)
    ·have h50 := pos_inv g48 h39
     refine W.pure (v := (padd (.pointer (some ⟨b2, 0, none⟩)) 6)) (gk rfl rfl gv49 rfl) rfl (v_fldA fl50_6 (oo rfl rfl) (O41.atVar (j := 0) rfl)) ?_
     refine W.load1 (v := (.int .i64 p0.Limit)) (r := []) (gk rfl rfl gv49 rfl) rfl ag3 (pt_px rfl (At.int (At.proj (O41.atVar (j := 0) rfl) p_Branch_Limit))) ?_
     obtain ⟨x51, i52, h53⟩ := bd_inv h50
     refine W.lo (gk rfl rfl gv49 rfl) rfl (Lo.callP (ps := []) (ps' := []) rfl (fn := Try.f73) (by kernel_rfl) rfl (mc rfl (mc rfl (mc rfl mn))) O41 (fun L' O' => g_R_in_ok K p0.Limit 0 100000 O' _ i52)) ?_
     rintro v60 H61 ⟨G54, O55, s56, sm59, rfl⟩
     replace O55 : Ow G54 H61 (eVar b2 50 T_Branch p0 :: L) := O55
     refine W.pure (v := (.bool x51)) rfl rfl (v_pickT (oo rfl gv49) (oo rfl rfl)) ?_
     refine W.pure (v := (.bool x51)) rfl rfl (v_move (oo rfl rfl)) ?_
     refine W.splitAt (t := 21) (b := x51) rfl (fun g62 gv63 => ?_) (fun g62 gv63 => ?_)
     ·have h64 := pos_inv g62 h53
      refine W.pure (v := (padd (.pointer (some ⟨b2, 0, none⟩)) 7)) (gk rfl rfl gv63 rfl) rfl (v_fldA fl50_7 (oo rfl rfl) (O55.atVar (j := 0) rfl)) ?_
      refine W.load1 (v := (.int .i64 p0.Short)) (r := []) (gk rfl rfl gv63 rfl) rfl ag3 (pt_px rfl (At.int (At.proj (O55.atVar (j := 0) rfl) p_Branch_Short))) ?_
      refine W.pure (v := (padd (.pointer (some ⟨b2, 0, none⟩)) 6)) (gk rfl rfl gv63 rfl) rfl (v_fldA fl50_6 (oo rfl rfl) (O55.atVar (j := 0) rfl)) ?_
      refine W.load1 (v := (.int .i64 p0.Limit)) (r := []) (gk rfl rfl gv63 rfl) rfl ag3 (pt_px rfl (At.int (At.proj (O55.atVar (j := 0) rfl) p_Branch_Limit))) ?_
      obtain ⟨x65, i66, h67⟩ := bd_inv h64
      refine W.lo (gk rfl rfl gv63 rfl) rfl (Lo.callP (ps := []) (ps' := []) rfl (fn := Try.f73) (by kernel_rfl) rfl (mc rfl (mc rfl (mc rfl mn))) O55 (fun L' O' => g_R_in_ok K p0.Short p0.Limit 100000 O' _ i66)) ?_
      rintro v74 H75 ⟨G68, O69, s70, sm73, rfl⟩
      replace O69 : Ow G68 H75 (eVar b2 50 T_Branch p0 :: L) := O69
      refine W.pure (v := (.bool x65)) rfl rfl (v_pickT (oo rfl gv63) (oo rfl rfl)) ?_
      refine W.pure (v := (.bool x65)) rfl rfl (v_move (oo rfl rfl)) ?_
      refine W.splitAt (t := 28) (b := x65) rfl (fun g76 gv77 => ?_) (fun g76 gv77 => ?_)
      ·have h78 := pos_inv g76 h67
       refine W.pure (v := (padd (.pointer (some ⟨b2, 0, none⟩)) 8)) (gk rfl rfl gv77 rfl) rfl (v_fldA fl50_8 (oo rfl rfl) (O69.atVar (j := 0) rfl)) ?_
       refine W.load1 (v := (.int .i64 p0.Hold)) (r := []) (gk rfl rfl gv77 rfl) rfl ag3 (pt_px rfl (At.int (At.proj (O69.atVar (j := 0) rfl) p_Branch_Hold))) ?_
       obtain ⟨x79, i80, h81⟩ := bd_inv h78
       refine W.lo (gk rfl rfl gv77 rfl) rfl (Lo.callP (ps := []) (ps' := []) rfl (fn := Try.f73) (by kernel_rfl) rfl (mc rfl (mc rfl (mc rfl mn))) O69 (fun L' O' => g_R_in_ok K p0.Hold 0 200000 O' _ i80)) ?_
       rintro v88 H89 ⟨G82, O83, s84, sm87, rfl⟩
       replace O83 : Ow G82 H89 (eVar b2 50 T_Branch p0 :: L) := O83
       refine W.pure (v := (.bool x79)) rfl rfl (v_pickT (oo rfl gv77) (oo rfl rfl)) ?_
       refine .nil ?_
       obtain rfl := Option.some.inj h81
       exact ⟨x79, _, rfl, O83, (GM.le.trans s14 (GM.le.trans s28 (GM.le.trans s42 (GM.le.trans s56 (GM.le.trans s70 s84))))), rfl⟩
      ·have h90 := neg_b g76 h67
       refine W.skip (gk rfl rfl gv77 rfl) rfl ?_
       refine W.skip (gk rfl rfl gv77 rfl) rfl ?_
       refine W.skip (gk rfl rfl gv77 rfl) rfl ?_
       refine W.pure (v := (.bool false)) rfl rfl (v_pickF (oo rfl gv77) (oo rfl rfl)) ?_
       refine .nil ?_
       obtain rfl := Option.some.inj h90
       exact ⟨false, _, rfl, O69, (GM.le.trans s14 (GM.le.trans s28 (GM.le.trans s42 (GM.le.trans s56 s70)))), rfl⟩
     ·have h91 := neg_b g62 h53
      refine W.skip (gk rfl rfl gv63 rfl) rfl ?_
      refine W.skip (gk rfl rfl gv63 rfl) rfl ?_
      refine W.skip (gk rfl rfl gv63 rfl) rfl ?_
      refine W.skip (gk rfl rfl gv63 rfl) rfl ?_
      refine W.skip (gk rfl rfl gv63 rfl) rfl ?_
      refine W.pure (v := (.bool false)) rfl rfl (v_pickF (oo rfl gv63) (oo rfl rfl)) ?_
      refine W.pure (v := (.bool false)) rfl rfl (v_move (oo rfl rfl)) ?_
      refine W.skip (gk rfl rfl rfl rfl) rfl ?_
      refine W.skip (gk rfl rfl rfl rfl) rfl ?_
      refine W.skip (gk rfl rfl rfl rfl) rfl ?_
      refine W.pure (v := (.bool false)) rfl rfl (v_pickF (oo rfl rfl) (oo rfl rfl)) ?_
      refine .nil ?_
      obtain rfl := Option.some.inj h91
      exact ⟨false, _, rfl, O55, (GM.le.trans s14 (GM.le.trans s28 (GM.le.trans s42 s56))), rfl⟩
    ·have h92 := neg_b g48 h39
     refine W.skip (gk rfl rfl gv49 rfl) rfl ?_
     refine W.skip (gk rfl rfl gv49 rfl) rfl ?_
     refine W.skip (gk rfl rfl gv49 rfl) rfl ?_
     refine W.pure (v := (.bool false)) rfl rfl (v_pickF (oo rfl gv49) (oo rfl rfl)) ?_
     refine W.pure (v := (.bool false)) rfl rfl (v_move (oo rfl rfl)) ?_
     refine W.skip (gk rfl rfl rfl rfl) rfl ?_
     refine W.skip (gk rfl rfl rfl rfl) rfl ?_
     refine W.skip (gk rfl rfl rfl rfl) rfl ?_
     refine W.skip (gk rfl rfl rfl rfl) rfl ?_
     refine W.skip (gk rfl rfl rfl rfl) rfl ?_
     refine W.pure (v := (.bool false)) rfl rfl (v_pickF (oo rfl rfl) (oo rfl rfl)) ?_
     refine W.pure (v := (.bool false)) rfl rfl (v_move (oo rfl rfl)) ?_
     refine W.skip (gk rfl rfl rfl rfl) rfl ?_
     refine W.skip (gk rfl rfl rfl rfl) rfl ?_
     refine W.skip (gk rfl rfl rfl rfl) rfl ?_
     refine W.pure (v := (.bool false)) rfl rfl (v_pickF (oo rfl rfl) (oo rfl rfl)) ?_
     refine .nil ?_
     obtain rfl := Option.some.inj h92
     exact ⟨false, _, rfl, O41, (GM.le.trans s14 (GM.le.trans s28 s42)), rfl⟩
   ·have h93 := neg_b g34 h25
    refine W.skip (gk rfl rfl gv35 rfl) rfl ?_
    refine W.skip (gk rfl rfl gv35 rfl) rfl ?_
    refine W.skip (gk rfl rfl gv35 rfl) rfl ?_
    refine W.pure (v := (.bool false)) rfl rfl (v_pickF (oo rfl gv35) (oo rfl rfl)) ?_
    refine W.pure (v := (.bool false)) rfl rfl (v_move (oo rfl rfl)) ?_
    refine W.skip (gk rfl rfl rfl rfl) rfl ?_
    refine W.skip (gk rfl rfl rfl rfl) rfl ?_
    refine W.skip (gk rfl rfl rfl rfl) rfl ?_
    refine W.pure (v := (.bool false)) rfl rfl (v_pickF (oo rfl rfl) (oo rfl rfl)) ?_
    refine W.pure (v := (.bool false)) rfl rfl (v_move (oo rfl rfl)) ?_
    refine W.skip (gk rfl rfl rfl rfl) rfl ?_
    refine W.skip (gk rfl rfl rfl rfl) rfl ?_
    refine W.skip (gk rfl rfl rfl rfl) rfl ?_
    refine W.skip (gk rfl rfl rfl rfl) rfl ?_
    refine W.skip (gk rfl rfl rfl rfl) rfl ?_
    refine W.pure (v := (.bool false)) rfl rfl (v_pickF (oo rfl rfl) (oo rfl rfl)) ?_
    refine W.pure (v := (.bool false)) rfl rfl (v_move (oo rfl rfl)) ?_
    refine W.skip (gk rfl rfl rfl rfl) rfl ?_
    refine W.skip (gk rfl rfl rfl rfl) rfl ?_
    refine W.skip (gk rfl rfl rfl rfl) rfl ?_
    refine W.pure (v := (.bool false)) rfl rfl (v_pickF (oo rfl rfl) (oo rfl rfl)) ?_
    refine .nil ?_
    obtain rfl := Option.some.inj h93
    exact ⟨false, _, rfl, O27, (GM.le.trans s14 s28), rfl⟩
  ·have h94 := neg_b g20 h11
   refine W.skip (gk rfl rfl gv21 rfl) rfl ?_
   refine W.skip (gk rfl rfl gv21 rfl) rfl ?_
   refine W.skip (gk rfl rfl gv21 rfl) rfl ?_
   refine W.pure (v := (.bool false)) rfl rfl (v_pickF (oo rfl gv21) (oo rfl rfl)) ?_
   refine W.pure (v := (.bool false)) rfl rfl (v_move (oo rfl rfl)) ?_
   refine W.skip (gk rfl rfl rfl rfl) rfl ?_
   refine W.skip (gk rfl rfl rfl rfl) rfl ?_
   refine W.skip (gk rfl rfl rfl rfl) rfl ?_
   refine W.pure (v := (.bool false)) rfl rfl (v_pickF (oo rfl rfl) (oo rfl rfl)) ?_
   refine W.pure (v := (.bool false)) rfl rfl (v_move (oo rfl rfl)) ?_
   refine W.skip (gk rfl rfl rfl rfl) rfl ?_
   refine W.skip (gk rfl rfl rfl rfl) rfl ?_
   refine W.skip (gk rfl rfl rfl rfl) rfl ?_
   refine W.pure (v := (.bool false)) rfl rfl (v_pickF (oo rfl rfl) (oo rfl rfl)) ?_
   refine W.pure (v := (.bool false)) rfl rfl (v_move (oo rfl rfl)) ?_
   refine W.skip (gk rfl rfl rfl rfl) rfl ?_
   refine W.skip (gk rfl rfl rfl rfl) rfl ?_
   refine W.skip (gk rfl rfl rfl rfl) rfl ?_
   refine W.skip (gk rfl rfl rfl rfl) rfl ?_
   refine W.skip (gk rfl rfl rfl rfl) rfl ?_
   refine W.pure (v := (.bool false)) rfl rfl (v_pickF (oo rfl rfl) (oo rfl rfl)) ?_
   refine W.pure (v := (.bool false)) rfl rfl (v_move (oo rfl rfl)) ?_
   refine W.skip (gk rfl rfl rfl rfl) rfl ?_
   refine W.skip (gk rfl rfl rfl rfl) rfl ?_
   refine W.skip (gk rfl rfl rfl rfl) rfl ?_
   refine W.pure (v := (.bool false)) rfl rfl (v_pickF (oo rfl rfl) (oo rfl rfl)) ?_
   refine .nil ?_
   obtain rfl := Option.some.inj h94
   exact ⟨false, _, rfl, O13, s14, rfl⟩
 ·rintro σ96 H97 fr98 ⟨x95, G99, rfl, O100, s101, t103⟩
  have h104 := tu1_inv h8
  refine .cond (b := x95) rfl t103 (fun g105 => ?_) (fun g105 => ?_)
  ·have h106 := pos_inv g105 h104
   refine .seq ?_
   refine .region ?_
   refine W.pure (v := (.int .i64 0)) rfl rfl (v_assign (oo rfl rfl)) ?_
   refine .nil ?_
   refine .ret ?_
   have O107 : Ow G99 H97 (L) := O100.drop 0
   obtain rfl := Option.some.inj h106
   refine ret1R (P := Try.prog) (fn := Try.f27) (n := 33) (R := fun v H' => ∃ G', Ow G' H' (L) ∧ G.le G' ∧ v = .int .i64 0) (v1 := (.int .i64 0)) (by rfl) (rr_tmp (by rfl) (by exact rfl)) ?_
   exact ⟨_, O107, s101, rfl⟩
  ·have h108 := neg_b g105 h104
   refine .skip ?_
   refine .seq ?_
   refine .region ?_
   refine W.pure (v := (.int .i64 4)) rfl rfl (v_assign (oo rfl rfl)) ?_
   refine .nil ?_
   refine .ret ?_
   have O109 : Ow G99 H97 (L) := O100.drop 0
   obtain rfl := Option.some.inj h108
   refine ret1R (P := Try.prog) (fn := Try.f27) (n := 33) (R := fun v H' => ∃ G', Ow G' H' (L) ∧ G.le G' ∧ v = .int .i64 4) (v1 := (.int .i64 4)) (by rfl) (rr_tmp (by rfl) (by exact rfl)) ?_
   exact ⟨_, O109, s101, rfl⟩
end Go.Am.Try
