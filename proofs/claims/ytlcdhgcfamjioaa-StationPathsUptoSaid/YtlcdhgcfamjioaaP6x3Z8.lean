/- Typed functions with the same answers as the program's, and the walks that show it. -/
import Derived.Test.YtlcdhgcfamjioaaP6x2Z8
namespace Go.Am.Try
open Go Go.Am Go.Proofs
set_option linter.unusedVariables false
set_option linter.unusedSimpArgs false
set_option maxRecDepth 10000

def g_R_Numbers_l2 (K : Nat) (p0 : List (List Bool)) (x6 : List Int) (x8 : Int) : Nat → Int → Int → Option (Int)
 | 0, _, _ => none
 | k + 1, x24, x25 => (if (decide (x25 < x8)) = true then (Option.bind ((Option.bind (((idx p0 x8).bind fun x43 => ((idx x43 x25).bind fun x50 => (if x50 = true then some (decide (x24 < 0)) else some false)))) (tu1 fun x58 => (if x58 = true then ((idx x6 x25).bind fun x70 => some x70) else some x24)))) (tu1 fun x75 => g_R_Numbers_l2 K p0 x6 x8 k x75 (kwrap .i64 (x25 + 1)))) else some x24)
def g_R_Numbers_l0 (K : Nat) (p0 : List (List Bool)) : Nat → List Int → Int → Int → Option (List Int)
 | 0, _, _, _ => none
 | k + 1, x6, x7, x8 => (if (decide (x8 < (List.length p0 : Int))) = true then (Option.bind (g_R_Numbers_l2 K p0 x6 x8 K (-1) 0) (tu1 fun x86 => (Option.bind ((if (decide (x86 < 0)) = true then some (kwrap .i64 (x7 + 1), x7) else some (x7, x86))) (tu2 fun x102 x103 => (if List.length x6 + List.length [x103] ≤ 16777216 then g_R_Numbers_l0 K p0 k (x6 ++ [x103]) x102 (kwrap .i64 (x8 + 1)) else none))))) else some x6)
def g_R_Numbers (K : Nat) (p0 : List (List Bool)) : Option (List Int) := (Option.bind (g_R_Numbers_l0 K p0 K [] 0 0) (tu1 fun x129 => some x129))
set_option maxHeartbeats 4000000 in
theorem g_R_Numbers_ok (K : Nat) {G : GM} {H : AH} {L : List Pc} (v0 : Value) (p0 : List (List Bool)) (hp0 : (rSl (rSl rB)).rep G [v0] p0) (O : Ow G H (L)) (r : List Int) (h : g_R_Numbers K p0 = some r) :
  CRF Try.prog 17 [v0] G H (fun w0 => (eSl w0 3 (rI .i64) r :: L)) (fun w0 v G' => w0 = v) := by
 unfold g_R_Numbers at h
 refine CRF.of (calls_of_AW (n := 44) (fn := Try.f17) (R := fun v H' => ∃ w0 G', Ow G' H' (eSl w0 3 (rI .i64) r :: L) ∧ G.le G' ∧ w0 = v) (by kernel_rfl) rfl rfl ?_)
 refine .seq ?_
 refine .region ?_
 refine W.pure (v := (.slice none 0 0)) rfl rfl (v_assign (oo rfl rfl)) ?_
 refine .nil ?_
 refine .seq ?_
 refine .region ?_
 refine W.pure (v := (.slice none 0 0)) rfl rfl (v_assign (oo rfl rfl)) ?_
 refine .nil ?_
 refine .seq ?_
 refine .region ?_
 refine W.pure (v := (.int .i64 0)) rfl rfl (v_assign (oo rfl rfl)) ?_
 refine .nil ?_
 refine .seq ?_
 refine .seq ?_
 refine .region ?_
 refine W.pure (v := v0) rfl rfl (v_move (oo rfl rfl)) ?_
 refine W.pure (v := (.int .i64 (List.length p0 : Int))) rfl rfl (len_sl (oo rfl rfl) (sl_len hp0) (elemT_inv el31)) ?_
 refine W.pure (v := (.int .i64 0)) rfl rfl (v_move (oo rfl rfl)) ?_
 refine .nil ?_
 obtain ⟨q1, h2, h3⟩ := bd_inv h
 refine AW.midT (fun σ' H' => ∃ (y1 : List Int) (G' : GM), y1 = q1 ∧ Ow G' H' (eSl (σ' 3) 3 (rI .i64) y1 :: L) ∧ GM.le G G') ?_ ?_
 ·refine .block ?_
  have O4 := O.nilSl 3 (rI .i64)
  refine AW.loop (α := Nat) (fun k' σ' H' => ∃ (y1 : List Int) (y2 : Int) (y3 : Int) (G' : GM), g_R_Numbers_l0 K p0 k' y1 y2 y3 = some q1 ∧ Ow G' H' (eSl (σ' 3) 3 (rI .i64) y1 :: L) ∧ GM.le G G' ∧ σ' 4 = .int .i64 y2 ∧ σ' 10 = .int .i64 y3) (fun k' => k') K ⟨[], 0, 0, _, h2, O4, (GM.le.refl _), rfl, rfl⟩ ?_
  rintro k5
  rintro σ9 H10 fr11 ⟨x6, x7, x8, G12, h15, O13, s14, t16, t17⟩
  rcases k5 with _ | k5
  ·exact none_absurd h15
  rw [g_R_Numbers_l0] at h15
  refine .seq ?_
  refine .region ?_
  refine W.pure (v := (.bool (decide (x8 < (List.length p0 : Int))))) rfl rfl (v_int (oo rfl t17) (oo rfl ((fr11 9 rfl).trans rfl)) rfl) ?_
  refine .nil ?_
  refine .seq ?_
  refine .cond (b := decide (x8 < (List.length p0 : Int))) rfl rfl (fun g18 => ?_) (fun g18 => ?_)
  ·have h19 := pos_inv g18 h15
   refine .skip ?_
   refine .seq ?_
   refine .block ?_
   refine .seq ?_
   refine .region ?_
   refine W.pure (v := (.int .i64 x8)) rfl rfl (v_move (oo rfl t17)) ?_
   refine W.pure (v := (.int .i64 x8)) rfl rfl (v_assign (oo rfl rfl)) ?_
   refine .nil ?_
   refine .seq ?_
   refine .region ?_
   refine W.pure (v := (.int .i64 (-1))) rfl rfl (v_assign (oo rfl rfl)) ?_
   refine .nil ?_
   refine .seq ?_
   refine .seq ?_
   refine .region ?_
   refine W.pure (v := (.int .i64 x8)) rfl rfl (v_move (oo rfl rfl)) ?_
   refine W.pure (v := (.int .i64 0)) rfl rfl (v_move (oo rfl rfl)) ?_
   refine .nil ?_
   obtain ⟨q20, h21, h22⟩ := bd_inv h19
   refine AW.midT (fun σ' H' => ∃ (y1 : Int) (G' : GM), y1 = q20 ∧ Ow G' H' (eSl (σ9 3) 3 (rI .i64) x6 :: L) ∧ GM.le G12 G' ∧ σ' 6 = .int .i64 y1) ?_ ?_
   ·refine .block ?_
    refine AW.loop (α := Nat) (fun k' σ' H' => ∃ (y1 : Int) (y2 : Int) (G' : GM), g_R_Numbers_l2 K p0 x6 x8 k' y1 y2 = some q20 ∧ Ow G' H' (eSl (σ9 3) 3 (rI .i64) x6 :: L) ∧ GM.le G12 G' ∧ σ' 6 = .int .i64 y1 ∧ σ' 14 = .int .i64 y2) (fun k' => k') K ⟨(-1), 0, _, h21, O13, (GM.le.refl _), rfl, rfl⟩ ?_
    rintro k23
    rintro σ26 H27 fr28 ⟨x24, x25, G29, h32, O30, s31, t33, t34⟩
    rcases k23 with _ | k23
    ·exact none_absurd h32
    rw [g_R_Numbers_l2] at h32
    refine .seq ?_
    refine .region ?_
    refine W.pure (v := (.bool (decide (x25 < x8)))) rfl rfl (v_int (oo rfl t34) (oo rfl ((fr28 13 rfl).trans rfl)) rfl) ?_
    refine .nil ?_
    refine .seq ?_
    refine .cond (b := decide (x25 < x8)) rfl rfl (fun g35 => ?_) (fun g35 => ?_)
    ·have h36 := pos_inv g35 h32
     refine .skip ?_
     refine .seq ?_
     obtain ⟨q37, h38, h39⟩ := bd_inv h36
     refine AW.midT (fun σ' H' => ∃ (y1 : Int) (G' : GM), y1 = q37 ∧ Ow G' H' (eSl (σ9 3) 3 (rI .i64) x6 :: L) ∧ GM.le G29 G' ∧ σ' 6 = .int .i64 y1) ?_ ?_
     ·refine .block ?_
      refine .seq ?_
      refine .region ?_
      refine W.pure (v := (.int .i64 x25)) rfl rfl (v_move (oo rfl t34)) ?_
      refine W.pure (v := (.int .i64 x25)) rfl rfl (v_assign (oo rfl rfl)) ?_
      refine .nil ?_
      refine .seq ?_
      obtain ⟨q40, h41, h42⟩ := bd_inv h38
      refine AW.midT (fun σ' H' => ∃ (y1 : Bool) (G' : GM), y1 = q40 ∧ Ow G' H' (eSl (σ9 3) 3 (rI .i64) x6 :: L) ∧ GM.le G29 G' ∧ σ' 27 = .bool y1) ?_ ?_
      ·refine .region ?_
       refine W.pure (v := v0) rfl rfl (v_move (oo rfl ((fr28 0 rfl).trans ((fr11 0 rfl).trans rfl)))) ?_
       refine W.pure (v := (.int .i64 x8)) rfl rfl (v_move (oo rfl ((fr28 5 rfl).trans rfl))) ?_
       obtain ⟨x43, i44, h45⟩ := bd_inv h41
       have j46 := idx_inv i44
       refine W.pure (v := (selem v0 (Int.toNat x8 * 1))) rfl rfl (v_idx el31 sz30 (oo rfl rfl) (oo rfl rfl) (sl_len (RT.mono _ (GM.le.trans s14 s31) hp0)) j46.1 j46.2.1) ?_
       obtain ⟨w47, p48, f49⟩ := At.sl (At.le (sl_idx hp0 j46.2.2) (GM.le.trans s14 s31) (GM.le.trans s14 s31))
       replace p48 := PtG.le p48 O30.fro
       refine W.load1 (v := w47) (r := []) rfl rfl ag30 (pt_px rfl p48) ?_
       refine W.pure (v := (.int .i64 x25)) rfl rfl (v_move (oo rfl rfl)) ?_
       obtain ⟨x50, i51, h52⟩ := bd_inv h45
       have j53 := idx_inv i51
       refine W.pure (v := (selem w47 (Int.toNat x25 * 1))) rfl rfl (v_idx el30 sz4 (oo rfl rfl) (oo rfl rfl) (sl_len f49) j53.1 j53.2.1) ?_
       refine W.load1 (v := (.bool x50)) (r := []) rfl rfl ag4 (pt_px rfl (At.bool (At.le (sl_idx f49 j53.2.2) (GM.le.refl _) O30.fro))) ?_
       refine W.pure (v := (.bool x50)) rfl rfl (v_move (oo rfl rfl)) ?_
       refine W.splitAt (t := 24) (b := x50) rfl (fun g54 gv55 => ?_) (fun g54 gv55 => ?_)
       ·have h56 := pos_inv g54 h52
        refine W.pure (v := (.int .i64 x24)) (gk rfl rfl gv55 rfl) rfl (v_move (oo rfl t33)) ?_
        refine W.pure (v := (.bool (decide (x24 < 0)))) (gk rfl rfl gv55 rfl) rfl (v_int (oo rfl rfl) (oo rfl rfl) rfl) ?_
        refine W.pure (v := (.bool (decide (x24 < 0)))) rfl rfl (v_pickT (oo rfl gv55) (oo rfl rfl)) ?_
        refine .nil ?_
        obtain rfl := Option.some.inj h56
        exact ⟨decide (x24 < 0), _, rfl, O30, (GM.le.refl _), rfl⟩
       ·have h57 := neg_b g54 h52
        refine W.skip (gk rfl rfl gv55 rfl) rfl ?_
        refine W.skip (gk rfl rfl gv55 rfl) rfl ?_
        refine W.pure (v := (.bool false)) rfl rfl (v_pickF (oo rfl gv55) (oo rfl rfl)) ?_
        refine .nil ?_
        obtain rfl := Option.some.inj h57
        exact ⟨false, _, rfl, O30, (GM.le.refl _), rfl⟩
      ·rintro σ59 H60 fr61 ⟨x58, G62, rfl, O63, s64, t66⟩
       have h67 := tu1_inv h42
       refine .cond (b := x58) rfl t66 (fun g68 => ?_) (fun g68 => ?_)
       ·have h69 := pos_inv g68 h67
        refine .region ?_
        refine W.pure (v := (σ9 3)) rfl rfl (v_move (oo rfl ((fr61 3 rfl).trans ((fr28 3 rfl).trans rfl)))) ?_
        refine W.pure (v := (.int .i64 x25)) rfl rfl (v_move (oo rfl ((fr61 7 rfl).trans rfl))) ?_
        obtain ⟨x70, i71, h72⟩ := bd_inv h69
        have j73 := idx_inv i71
        refine W.pure (v := (selem (σ9 3) (Int.toNat x25 * 1))) rfl rfl (v_idx el24 sz3 (oo rfl rfl) (oo rfl rfl) (O63.slLen (j := 0) rfl) j73.1 j73.2.1) ?_
        refine W.load1 (v := (.int .i64 x70)) (r := []) rfl rfl ag3 (pt_px rfl (At.int (O63.atSl (j := 0) rfl j73.2.2))) ?_
        refine W.pure (v := (.int .i64 x70)) rfl rfl (v_assign (oo rfl rfl)) ?_
        refine .nil ?_
        obtain rfl := Option.some.inj h72
        exact ⟨x70, _, rfl, O63, s64, rfl⟩
       ·have h74 := neg_b g68 h67
        refine .skip ?_
        obtain rfl := Option.some.inj h74
        exact ⟨x24, _, rfl, O63, s64, ((fr61 6 rfl).trans t33)⟩
     ·rintro σ76 H77 fr78 ⟨x75, G79, rfl, O80, s81, t83⟩
      have h84 := tu1_inv h39
      refine .region ?_
      refine W.pure (v := (.int .i64 (kwrap .i64 (x25 + 1)))) rfl rfl (v_int (oo rfl ((fr78 14 rfl).trans t34)) (oo rfl rfl) rfl) ?_
      refine W.pure (v := (.int .i64 (kwrap .i64 (x25 + 1)))) rfl rfl (v_move (oo rfl rfl)) ?_
      refine .nil ?_
      exact ⟨k23, Nat.lt_succ_self _, ⟨x75, kwrap .i64 (x25 + 1), _, h84, O80, (GM.le.trans s31 s81), t83, rfl⟩⟩
    ·have h85 := neg_b g35 h32
     refine .exit ?_
     obtain rfl := Option.some.inj h85
     exact ⟨x24, _, rfl, O30, s31, t33⟩
   ·rintro σ87 H88 fr89 ⟨x86, G90, rfl, O91, s92, t94⟩
    have h95 := tu1_inv h22
    refine .seq ?_
    refine .seq ?_
    refine .region ?_
    refine W.pure (v := (.int .i64 x86)) rfl rfl (v_move (oo rfl t94)) ?_
    refine W.pure (v := (.bool (decide (x86 < 0)))) rfl rfl (v_int (oo rfl rfl) (oo rfl rfl) rfl) ?_
    refine .nil ?_
    obtain ⟨q96, h97, h98⟩ := bd_inv h95
    refine AW.midT (fun σ' H' => ∃ (y1 : Int) (y2 : Int) (G' : GM), (y1, y2) = q96 ∧ Ow G' H' (eSl (σ9 3) 3 (rI .i64) x6 :: L) ∧ GM.le G90 G' ∧ σ' 4 = .int .i64 y1 ∧ σ' 6 = .int .i64 y2) ?_ ?_
    ·refine .cond (b := decide (x86 < 0)) rfl rfl (fun g99 => ?_) (fun g99 => ?_)
     ·have h100 := pos_inv g99 h97
      refine .seq ?_
      refine .region ?_
      refine W.pure (v := (.int .i64 x7)) rfl rfl (v_move (oo rfl ((fr89 4 rfl).trans t16))) ?_
      refine W.pure (v := (.int .i64 x7)) rfl rfl (v_assign (oo rfl rfl)) ?_
      refine .nil ?_
      refine .region ?_
      refine W.pure (v := (.int .i64 x7)) rfl rfl (v_move (oo rfl ((fr89 4 rfl).trans t16))) ?_
      refine W.pure (v := (.int .i64 (kwrap .i64 (x7 + 1)))) rfl rfl (v_int (oo rfl rfl) (oo rfl rfl) rfl) ?_
      refine W.pure (v := (.int .i64 (kwrap .i64 (x7 + 1)))) rfl rfl (v_assign (oo rfl rfl)) ?_
      refine .nil ?_
      obtain rfl := Option.some.inj h100
      exact ⟨kwrap .i64 (x7 + 1), x7, _, rfl, O91, (GM.le.refl _), rfl, rfl⟩
     ·have h101 := neg_b g99 h97
      refine .skip ?_
      obtain rfl := Option.some.inj h101
      exact ⟨x7, x86, _, rfl, O91, (GM.le.refl _), ((fr89 4 rfl).trans t16), t94⟩
    ·rintro σ104 H105 fr106 ⟨x102, x103, G107, rfl, O108, s109, t111, t112⟩
     have h113 := tu2_inv h98
     refine .region ?_
     refine W.pure (v := (σ9 3)) rfl rfl (v_move (oo rfl ((fr106 3 rfl).trans ((fr89 3 rfl).trans rfl)))) ?_
     refine W.pure (v := (.int .i64 x103)) rfl rfl (v_move (oo rfl t112)) ?_
     refine W.lo rfl rfl (Lo.buildSlice (r := (rI .i64)) (vs := [(.int .i64 x103)]) (xs := [x103]) el24 ze3 sz3 (by kernel_rfl) rfl (qc rfl qn) rfl (.cons rfl .nil) O108) ?_
     rintro v116 H117 ⟨O114, sm115⟩
     obtain ⟨es119, e120, e121⟩ := src_own (j := 0) rfl O114
     obtain ⟨g122, h123⟩ := gd_inv h113
     refine W.lo rfl rfl (Lo.append (j := 1) (v := (σ9 3)) rfl rfl el24 ni24 ze3 sz3 by3 (by decide) (by decide) rfl e120 e121 g122 O114) ?_
     rintro v125 H126 ⟨O118, sm124⟩
     replace O118 : Ow G107 H126 (eSl v116 3 (rI .i64) [x103] :: eSl v125 3 (rI .i64) (x6 ++ [x103]) :: L) := O118
     refine W.pure (v := v125) rfl rfl (v_assign (oo rfl rfl)) ?_
     refine .nil ?_
     refine .region ?_
     refine W.pure (v := (.int .i64 (kwrap .i64 (x8 + 1)))) rfl rfl (v_int (oo rfl ((fr106 10 rfl).trans ((fr89 10 rfl).trans t17))) (oo rfl rfl) rfl) ?_
     refine W.pure (v := (.int .i64 (kwrap .i64 (x8 + 1)))) rfl rfl (v_move (oo rfl rfl)) ?_
     refine .nil ?_
     have O127 : Ow G107 H126 (eSl v125 3 (rI .i64) (x6 ++ [x103]) :: L) := O118.drop 0
     exact ⟨k5, Nat.lt_succ_self _, ⟨(x6 ++ [x103]), x102, kwrap .i64 (x8 + 1), _, h123, O127, (GM.le.trans s14 (GM.le.trans s92 s109)), t111, rfl⟩⟩
  ·have h128 := neg_b g18 h15
   refine .exit ?_
   obtain rfl := Option.some.inj h128
   exact ⟨x6, _, rfl, O13, s14⟩
 ·rintro σ130 H131 fr132 ⟨x129, G133, rfl, O134, s135⟩
  have h137 := tu1_inv h3
  refine .seq ?_
  refine .region ?_
  refine W.pure (v := (σ130 3)) rfl rfl (v_move (oo rfl rfl)) ?_
  refine W.pure (v := (σ130 3)) rfl rfl (v_assign (oo rfl rfl)) ?_
  refine .nil ?_
  refine .ret ?_
  obtain rfl := Option.some.inj h137
  refine ret1R (P := Try.prog) (fn := Try.f17) (n := 44) (R := fun v H' => ∃ w0 G', Ow G' H' (eSl w0 3 (rI .i64) x129 :: L) ∧ G.le G' ∧ w0 = v) (v1 := (σ130 3)) (by rfl) (rr_tmp (by rfl) (by exact rfl)) ?_
  exact ⟨(σ130 3), _, O134, s135, rfl⟩
def g_R_Buses (K : Nat) (p0 : Network) : Option (List Int) := ((g_R_Switching K p0).bind fun x17 => ((g_R_Closed K p0).bind fun x33 => ((g_R_Joined K (List.length p0.Nodes : Int) x17 x33).bind fun x50 => ((g_R_Numbers K x50).bind fun x63 => some x63))))
set_option maxHeartbeats 4000000 in
theorem g_R_Buses_ok (K : Nat) {G : GM} {H : AH} {L : List Pc} (v0 : List Value) (p0 : Network) (hp0 : T_Network.rep G v0 p0) (O : Ow G H (L)) (r : List Int) (h : g_R_Buses K p0 = some r) :
  CRF Try.prog 40 [.agg (List.toArray v0)] G H (fun w0 => (eSl w0 3 (rI .i64) r :: L)) (fun w0 v G' => w0 = v) := by
 unfold g_R_Buses at h
 refine CRF.of (calls_of_AW (n := 12) (fn := Try.f40) (R := fun v H' => ∃ w0 G', Ow G' H' (eSl w0 3 (rI .i64) r :: L) ∧ G.le G' ∧ w0 = v) (by kernel_rfl) rfl rfl ?_)
 refine .seq ?_
 refine .region ?_
 refine W.lo rfl rfl (Lo.box (r := T_Network) (x0 := p0) (v := (.agg (List.toArray v0))) rfl rfl hp0 O) ?_
 rintro v4 H5 ⟨b2, rfl, O1, sm3⟩
 refine W.pure (v := (.slice none 0 0)) rfl rfl (v_assign (oo rfl rfl)) ?_
 refine .nil ?_
 refine .seq ?_
 refine .draw2 (M := [0, 1, 3, 0, 8, 0, 56, 127, 255, 511]) mixed (by kernel_rfl) (by kernel_rfl) fun H6 N10 x7 F9 => ?_
 have O8 := O1.ext x7
 refine D2.pure (v := (padd (.pointer (some ⟨b2, 0, none⟩)) 0)) rfl rfl (v_fldA fl48_0 (oo rfl rfl) (O8.atVar (j := 0) rfl)) ?_
 obtain ⟨w11, p12, f13⟩ := At.sl (At.proj (O8.atVar (j := 0) rfl) p_Network_Nodes)
 refine D2.load1' (v := w11) (r := []) rfl rfl ag41 (pt_px rfl p12) fa_nil ?_
 refine D2.pure (v := (.int .i64 (List.length p0.Nodes : Int))) rfl rfl (len_sl (oo rfl rfl) (sl_len f13) (elemT_inv el41)) ?_
 obtain ⟨c14, p15, f16⟩ := (O8.atVar (j := 0) rfl)
 refine D2.loadA' (cs := c14) rfl rfl ag48 sz48 (pt_px rfl p15) (RT.len _ f16) fa_nil ?_
 obtain ⟨x17, i18, h19⟩ := bd_inv h
 refine D2.lo rfl rfl (Lo.callPF (ps := []) (pw := fun w => [eSl w 29 (rArr 2 (rI .i64)) x17]) rfl (fn := Try.f47) (by kernel_rfl) rfl (mc rfl mn) O8 (fun L' O' => g_R_Switching_ok K c14 p0 f16 O' _ i18)) ?_ fa_nil ?_ ?_
 ·rintro v28 H29 ⟨w25, G20, O21, s22, sm27, rfl⟩; exact (faR1 (.inl (by decide)) (faR1 (.inr (sm27 _ (Or.inr ⟨0, _, rfl, List.mem_singleton.2 rfl⟩))) fa_nil))
 ·rintro v28 H29 ⟨w25, G20, O21, s22, sm27, rfl⟩; exact fa_nil
 rintro v28 H29 ⟨w25, G20, O21, s22, sm27, rfl⟩
 replace O21 : Ow G20 H29 (eSl w25 29 (rArr 2 (rI .i64)) x17 :: eVar b2 48 T_Network p0 :: L) := O21
 obtain ⟨c30, p31, f32⟩ := (O21.atVar (j := 1) rfl)
 refine D2.loadA' (cs := c30) rfl rfl ag48 sz48 (pt_px rfl p31) (RT.len _ f32) (faQ_eq (sm27 _ (Or.inr ⟨0, _, rfl, List.mem_singleton.2 rfl⟩)) fa_nil) ?_
 obtain ⟨x33, i34, h35⟩ := bd_inv h19
 refine D2.lo rfl rfl (Lo.callP (ps := []) (ps' := []) rfl (fn := Try.f48) (by kernel_rfl) rfl (mc rfl mn) O21 (fun L' O' => g_R_Closed_ok K c30 p0 f32 O' _ i34)) ?_ (faL_bit (by decide) fa_nil) ?_ ?_
 ·rintro v44 H45 ⟨G36, O37, s38, sm43, ⟨w40, rfl, f41⟩⟩; exact (faR1 (.inl (by decide)) (faR1 (.inl (by decide)) (faR1 (.inr (sm43 _ (Or.inr ⟨1, _, rfl, List.mem_singleton.2 rfl⟩))) fa_nil)))
 ·rintro v44 H45 ⟨G36, O37, s38, sm43, ⟨w40, rfl, f41⟩⟩; exact fa_nil
 rintro v44 H45 ⟨G36, O37, s38, sm43, ⟨w40, rfl, f41⟩⟩
 replace O37 : Ow G36 H45 (eSl w25 29 (rArr 2 (rI .i64)) x17 :: eVar b2 48 T_Network p0 :: L) := O37
 obtain ⟨G46, O47, s48, f49⟩ := O37.frzSl (j := 0) rfl
 replace O47 : Ow G46 H45 (eVar b2 48 T_Network p0 :: L) := O47
 obtain ⟨x50, i51, h52⟩ := bd_inv h35
 refine D2.lo rfl rfl (Lo.callP (ps := []) (ps' := []) rfl (fn := Try.f14) (by kernel_rfl) rfl (mc rfl (mc rfl (mc rfl mn))) O47 (fun L' O' => g_R_Joined_ok K (List.length p0.Nodes : Int) w25 x17 f49 w40 x33 (FnOk.le f41 s48) O' _ i51)) ?_ (faL_bit (by decide) (faL_bit (by decide) fa_nil)) ?_ ?_
 ·rintro v61 H62 ⟨G53, O54, s55, sm60, ⟨w57, rfl, f58⟩⟩; exact (faR1 (.inl (by decide)) (faR1 (.inl (by decide)) (faR1 (.inl (by decide)) fa_nil)))
 ·rintro v61 H62 ⟨G53, O54, s55, sm60, ⟨w57, rfl, f58⟩⟩; exact fa_nil
 rintro v61 H62 ⟨G53, O54, s55, sm60, ⟨w57, rfl, f58⟩⟩
 replace O54 : Ow G53 H62 (eVar b2 48 T_Network p0 :: L) := O54
 obtain ⟨x63, i64, h65⟩ := bd_inv h52
 refine D2.lo rfl rfl (Lo.callPF (ps := []) (pw := fun w => [eSl w 3 (rI .i64) x63]) rfl (fn := Try.f17) (by kernel_rfl) rfl (mc rfl mn) O54 (fun L' O' => g_R_Numbers_ok K w57 x50 f58 O' _ i64)) ?_ (faL_bit (by decide) (faL_bit (by decide) (faL_bit (by decide) fa_nil))) ?_ ?_
 ·rintro v74 H75 ⟨w71, G66, O67, s68, sm73, rfl⟩; exact (faR1 (.inl (by decide)) (faR1 (.inl (by decide)) (faR1 (.inl (by decide)) fa_nil)))
 ·rintro v74 H75 ⟨w71, G66, O67, s68, sm73, rfl⟩; exact fa_nil
 rintro v74 H75 ⟨w71, G66, O67, s68, sm73, rfl⟩
 replace O67 : Ow G66 H75 (eSl w71 3 (rI .i64) x63 :: eVar b2 48 T_Network p0 :: L) := O67
 refine D2.pure (v := w71) rfl rfl (v_assign (oo rfl rfl)) ?_
 refine .nil ?_
 refine .ret ?_
 have O76 : Ow G66 H75 (eSl w71 3 (rI .i64) x63 :: L) := O67.drop 1
 obtain rfl := Option.some.inj h65
 refine ret1R (P := Try.prog) (fn := Try.f40) (n := 12) (R := fun v H' => ∃ w0 G', Ow G' H' (eSl w0 3 (rI .i64) x63 :: L) ∧ G.le G' ∧ w0 = v) (v1 := w71) (by rfl) (rr_tmp (by rfl) (by exact rfl)) ?_
 exact ⟨w71, _, O76, (GM.le.trans s22 (GM.le.trans s38 (GM.le.trans s48 (GM.le.trans s55 s68)))), rfl⟩
def g_R_Most_l0 (K : Nat) (p0 : List Int) : Nat → Int → Int → Option (Int)
 | 0, _, _ => none
 | k + 1, x5, x6 => (if (decide (x6 < (List.length p0 : Int))) = true then (Option.bind (((idx p0 x6).bind fun x21 => (if (decide (x21 ≥ x5)) = true then some (kwrap .i64 (x21 + 1)) else some x5))) (tu1 fun x28 => g_R_Most_l0 K p0 k x28 (kwrap .i64 (x6 + 1)))) else some x5)
def g_R_Most (K : Nat) (p0 : List Int) : Option Int := (Option.bind (g_R_Most_l0 K p0 K 0 0) (tu1 fun x39 => some x39))
set_option maxHeartbeats 4000000 in
theorem g_R_Most_ok (K : Nat) {G : GM} {H : AH} {L : List Pc} (v0 : Value) (p0 : List Int) (hp0 : (rSl (rI .i64)).rep G [v0] p0) (O : Ow G H (L)) (r : Int) (h : g_R_Most K p0 = some r) :
  CR Try.prog 32 [v0] G H (L) (fun v G' _ => v = .int .i64 r) := by
 unfold g_R_Most at h
 refine CR.of (calls_of_AW (n := 19) (fn := Try.f32) (R := fun v H' => ∃ G', Ow G' H' (L) ∧ G.le G' ∧ v = .int .i64 r) (by kernel_rfl) rfl rfl ?_)
 refine .seq ?_
 refine .region ?_
 refine W.pure (v := (.int .i64 0)) rfl rfl (v_assign (oo rfl rfl)) ?_
 refine .nil ?_
 refine .seq ?_
 refine .region ?_
 refine W.pure (v := (.int .i64 0)) rfl rfl (v_assign (oo rfl rfl)) ?_
 refine .nil ?_
 refine .seq ?_
 refine .seq ?_
 refine .region ?_
 refine W.pure (v := v0) rfl rfl (v_move (oo rfl rfl)) ?_
 refine W.pure (v := (.int .i64 (List.length p0 : Int))) rfl rfl (len_sl (oo rfl rfl) (sl_len hp0) (elemT_inv el24)) ?_
 refine W.pure (v := (.int .i64 0)) rfl rfl (v_move (oo rfl rfl)) ?_
 refine .nil ?_
 obtain ⟨q1, h2, h3⟩ := bd_inv h
 refine AW.midT (fun σ' H' => ∃ (y1 : Int) (G' : GM), y1 = q1 ∧ Ow G' H' (L) ∧ GM.le G G' ∧ σ' 3 = .int .i64 y1) ?_ ?_
 ·refine .block ?_
  refine AW.loop (α := Nat) (fun k' σ' H' => ∃ (y1 : Int) (y2 : Int) (G' : GM), g_R_Most_l0 K p0 k' y1 y2 = some q1 ∧ Ow G' H' (L) ∧ GM.le G G' ∧ σ' 3 = .int .i64 y1 ∧ σ' 8 = .int .i64 y2) (fun k' => k') K ⟨0, 0, _, h2, O, (GM.le.refl _), rfl, rfl⟩ ?_
  rintro k4
  rintro σ7 H8 fr9 ⟨x5, x6, G10, h13, O11, s12, t14, t15⟩
  rcases k4 with _ | k4
  ·exact none_absurd h13
  rw [g_R_Most_l0] at h13
  refine .seq ?_
  refine .region ?_
  refine W.pure (v := (.bool (decide (x6 < (List.length p0 : Int))))) rfl rfl (v_int (oo rfl t15) (oo rfl ((fr9 7 rfl).trans rfl)) rfl) ?_
  refine .nil ?_
  refine .seq ?_
  refine .cond (b := decide (x6 < (List.length p0 : Int))) rfl rfl (fun g16 => ?_) (fun g16 => ?_)
  ·have h17 := pos_inv g16 h13
   refine .skip ?_
   refine .seq ?_
   obtain ⟨q18, h19, h20⟩ := bd_inv h17
   refine AW.midT (fun σ' H' => ∃ (y1 : Int) (G' : GM), y1 = q18 ∧ Ow G' H' (L) ∧ GM.le G10 G' ∧ σ' 3 = .int .i64 y1) ?_ ?_
   ·refine .block ?_
    refine .seq ?_
    refine .region ?_
    obtain ⟨x21, i22, h23⟩ := bd_inv h19
    have j24 := idx_inv i22
    refine W.pure (v := (selem v0 (Int.toNat x6 * 1))) rfl rfl (v_idx el24 sz3 (oo rfl ((fr9 6 rfl).trans rfl)) (oo rfl t15) (sl_len (RT.mono _ s12 hp0)) j24.1 j24.2.1) ?_
    refine W.load1 (v := (.int .i64 x21)) (r := []) rfl rfl ag3 (pt_px rfl (At.int (At.le (At.le (sl_idx hp0 j24.2.2) s12 s12) (GM.le.refl _) O11.fro))) ?_
    refine W.pure (v := (.int .i64 x21)) rfl rfl (v_assign (oo rfl rfl)) ?_
    refine .nil ?_
    refine .seq ?_
    refine .region ?_
    refine W.pure (v := (.int .i64 x21)) rfl rfl (v_move (oo rfl rfl)) ?_
    refine W.pure (v := (.int .i64 x5)) rfl rfl (v_move (oo rfl t14)) ?_
    refine W.pure (v := (.bool (decide (x21 ≥ x5)))) rfl rfl (v_int (oo rfl rfl) (oo rfl rfl) rfl) ?_
    refine .nil ?_
    refine .cond (b := decide (x21 ≥ x5)) rfl rfl (fun g25 => ?_) (fun g25 => ?_)
    ·have h26 := pos_inv g25 h23
     refine .region ?_
     refine W.pure (v := (.int .i64 x21)) rfl rfl (v_move (oo rfl rfl)) ?_
     refine W.pure (v := (.int .i64 (kwrap .i64 (x21 + 1)))) rfl rfl (v_int (oo rfl rfl) (oo rfl rfl) rfl) ?_
     refine W.pure (v := (.int .i64 (kwrap .i64 (x21 + 1)))) rfl rfl (v_assign (oo rfl rfl)) ?_
     refine .nil ?_
     obtain rfl := Option.some.inj h26
     exact ⟨kwrap .i64 (x21 + 1), _, rfl, O11, (GM.le.refl _), rfl⟩
    ·have h27 := neg_b g25 h23
     refine .skip ?_
     obtain rfl := Option.some.inj h27
     exact ⟨x5, _, rfl, O11, (GM.le.refl _), t14⟩
   ·rintro σ29 H30 fr31 ⟨x28, G32, rfl, O33, s34, t36⟩
    have h37 := tu1_inv h20
    refine .region ?_
    refine W.pure (v := (.int .i64 (kwrap .i64 (x6 + 1)))) rfl rfl (v_int (oo rfl ((fr31 8 rfl).trans t15)) (oo rfl rfl) rfl) ?_
    refine W.pure (v := (.int .i64 (kwrap .i64 (x6 + 1)))) rfl rfl (v_move (oo rfl rfl)) ?_
    refine .nil ?_
    exact ⟨k4, Nat.lt_succ_self _, ⟨x28, kwrap .i64 (x6 + 1), _, h37, O33, (GM.le.trans s12 s34), t36, rfl⟩⟩
  ·have h38 := neg_b g16 h13
   refine .exit ?_
   obtain rfl := Option.some.inj h38
   exact ⟨x5, _, rfl, O11, s12, t14⟩
 ·rintro σ40 H41 fr42 ⟨x39, G43, rfl, O44, s45, t47⟩
  have h48 := tu1_inv h3
  refine .seq ?_
  refine .region ?_
  refine W.pure (v := (.int .i64 x39)) rfl rfl (v_move (oo rfl t47)) ?_
  refine W.pure (v := (.int .i64 x39)) rfl rfl (v_assign (oo rfl rfl)) ?_
  refine .nil ?_
  refine .ret ?_
  obtain rfl := Option.some.inj h48
  refine ret1R (P := Try.prog) (fn := Try.f32) (n := 19) (R := fun v H' => ∃ G', Ow G' H' (L) ∧ G.le G' ∧ v = .int .i64 x39) (v1 := (.int .i64 x39)) (by rfl) (rr_tmp (by rfl) (by exact rfl)) ?_
  exact ⟨_, O44, s45, rfl⟩
def g_law_StationPaths_1 (K : Nat) (p0 : Int) (p1 : Network) : Option Bool := ((idx p1.Switches p0).bind fun x4 => some x4.Open)
set_option maxHeartbeats 4000000 in
theorem g_law_StationPaths_1_ok (K : Nat) {G : GM} {H : AH} {L : List Pc} (p0 : Int) (v1 : Value) (p1 : Network) (hp1 : At G G v1 T_Network p1) (O : Ow G H (L)) (r : Bool) (h : g_law_StationPaths_1 K p0 p1 = some r) :
  CR Try.prog 50 [(.int .i64 p0), v1] G H (L) (fun v G' _ => v = .bool r) := by
 unfold g_law_StationPaths_1 at h
 refine CR.of (calls_of_AW (n := 10) (fn := Try.f50) (R := fun v H' => ∃ G', Ow G' H' (L) ∧ G.le G' ∧ v = .bool r) (by kernel_rfl) rfl rfl ?_)
 refine .seq ?_
 refine .region ?_
 refine W.pure (v := (.bool false)) rfl rfl (v_assign (oo rfl rfl)) ?_
 refine .nil ?_
 refine .seq ?_
 refine .region ?_
 refine W.pure (v := (padd v1 1)) rfl rfl (v_fldA fl48_1 (oo rfl rfl) (At.le hp1 (GM.le.refl _) O.fro)) ?_
 obtain ⟨w1, p2, f3⟩ := At.sl (At.proj hp1 p_Network_Switches)
 replace p2 := PtG.le p2 O.fro
 refine W.load1 (v := w1) (r := []) rfl rfl ag42 (pt_px rfl p2) ?_
 refine W.pure (v := (.int .i64 p0)) rfl rfl (v_move (oo rfl rfl)) ?_
 obtain ⟨x4, i5, h6⟩ := bd_inv h
 have j7 := idx_inv i5
 refine W.pure (v := (selem w1 (Int.toNat p0 * 5))) rfl rfl (v_idx el42 sz81 (oo rfl rfl) (oo rfl rfl) (sl_len f3) j7.1 j7.2.1) ?_
 refine W.pure (v := (padd (selem w1 (Int.toNat p0 * 5)) 4)) rfl rfl (v_fldA fl81_4 (oo rfl rfl) (At.le (sl_idx f3 j7.2.2) (GM.le.refl _) O.fro)) ?_
 refine W.load1 (v := (.bool x4.Open)) (r := []) rfl rfl ag4 (pt_px rfl (At.bool (At.le (At.proj (sl_idx f3 j7.2.2) p_Switch_Open) (GM.le.refl _) O.fro))) ?_
 refine W.pure (v := (.bool x4.Open)) rfl rfl (v_assign (oo rfl rfl)) ?_
 refine .nil ?_
 refine .ret ?_
 obtain rfl := Option.some.inj h6
 refine ret1R (P := Try.prog) (fn := Try.f50) (n := 10) (R := fun v H' => ∃ G', Ow G' H' (L) ∧ G.le G' ∧ v = .bool x4.Open) (v1 := (.bool x4.Open)) (by rfl) (rr_tmp (by rfl) (by exact rfl)) ?_
 exact ⟨_, O, (GM.le.refl _), rfl⟩
def g_law_StationPaths_l0 (K : Nat) (x376 : List Int) (x392 : List (List Int)) : Nat → List (List Int) → Int → Option (List (List Int))
 | 0, _, _ => none
 | k + 1, x410, x411 => (if (decide (x411 < (List.length x392 : Int))) = true then ((idx x392 x411).bind fun x422 => ((idx x422 0).bind fun x443 => ((idx x376 x443).bind fun x447 => ((idx x422 1).bind fun x451 => ((idx x376 x451).bind fun x455 => (if List.length x410 + List.length [[x447, x455]] ≤ 16777216 then g_law_StationPaths_l0 K x376 x392 k (x410 ++ [[x447, x455]]) (kwrap .i64 (x411 + 1)) else none)))))) else some x410)
def g_law_StationPaths (K : Nat) (p0 : Network) (p1 : ByteArray) (p2 : ByteArray) : Option Bool := ((g_law_stationFact K ).bind fun x6 => (if (!x6) = true then some false else ((g_station_Path K p0 p1 p2).bind fun x24 => ((g_station_Join K p0 p1 p2).bind fun x40 => ((g_R_NetError K p0).bind fun x56 => (Option.bind ((if (x56 == 0) = true then ((g_R_Has K p0.Nodes p1).bind fun x76 => (if (!x76) = true then some true else ((g_R_Has K p0.Nodes p2).bind fun x94 => some (!x94)))) else some false)) (tu1 fun x106 => (Option.bind ((if x106 = true then some 6 else some x56)) (tu1 fun x122 => (if (x122 != 0) = true then (Option.bind ((if (x24.2 == x122) = true then (if (x40.2 == x122) = true then (lt (kwrap .i64 ((List.length x24.1 : Int) + (List.length x40.1 : Int))) fun x143 => some (x143 == 0)) else some false) else some false)) (tu1 fun x148 => some x148)) else (Option.bind (((g_law_wide K p0).bind fun x168 => (if x168 = true then some true else some (decide ((List.length p0.Switches : Int) > 8))))) (tu1 fun x186 => (if x186 = true then some true else ((g_R_Place K p0.Nodes p1).bind fun x210 => ((g_R_Place K p0.Nodes p2).bind fun x224 => ((g_R_Switching K p0).bind fun x246 => ((g_R_Closed K p0).bind fun x262 => ((g_R_Shortest K (List.length p0.Nodes : Int) x246 x210 x224 x262).bind fun x279 => (Option.bind ((if x279.2 = true then (if (x24.2 != 0) = true then some true else ((g_law_named K p0 x279.1).bind fun x309 => ((g_slices_Equal_string_string K x24.1 x309).bind fun x330 => (if (!x330) = true then some true else some false)))) else (if (x24.2 != 8) = true then some true else some (decide ((List.length x24.1 : Int) > 0))))) (tu1 fun x358 => (if x358 = true then some false else ((g_R_Buses K p0).bind fun x376 => ((g_R_Switching K p0).bind fun x392 => (Option.bind (g_law_StationPaths_l0 K x376 x392 K [] 0) (tu1 fun x485 => ((g_R_Most K x376).bind fun x499 => ((idx x376 x210).bind fun x510 => ((idx x376 x224).bind fun x514 => ((g_R_Shortest K x499 x485 x510 x514 (fun x => g_law_StationPaths_1 K x p0)).bind fun x526 => (if (!x526.2) = true then (Option.bind ((if (x40.2 == 8) = true then some ((List.length x40.1 : Int) == 0) else some false)) (tu1 fun x548 => some x548)) else (Option.bind ((if (x40.2 == 0) = true then ((g_law_named K p0 x526.1).bind fun x571 => ((g_slices_Equal_string_string K x40.1 x571).bind fun x592 => some x592)) else some false)) (tu1 fun x608 => some x608))))))))))))))))))))))))))))))))
set_option maxHeartbeats 4000000 in
theorem g_law_StationPaths_ok (K : Nat) {G : GM} {H : AH} {L : List Pc} (v0 : List Value) (p0 : Network) (hp0 : T_Network.rep G v0 p0) (p1 : ByteArray) (p2 : ByteArray) (O : Ow G H (L)) (r : Bool) (h : g_law_StationPaths K p0 p1 p2 = some r) :
  CR Try.prog 8 [.agg (List.toArray v0), (.string p1), (.string p2)] G H (L) (fun v G' _ => v = .bool r) := by
 unfold g_law_StationPaths at h
 refine CR.of (calls_of_AW (n := 185) (fn := Try.f8) (R := fun v H' => ∃ G', Ow G' H' (L) ∧ G.le G' ∧ v = .bool r) (by kernel_rfl) rfl rfl ?_)
 refine .seq ?_
 refine .region ?_
 refine W.lo rfl rfl (Lo.box (r := T_Network) (x0 := p0) (v := (.agg (List.toArray v0))) rfl rfl hp0 O) ?_
 rintro v4 H5 ⟨b2, rfl, O1, sm3⟩
 refine W.pure (v := (.bool false)) rfl rfl (v_assign (oo rfl rfl)) ?_
 refine .nil ?_
 refine .seq ?_
 refine .seq ?_
 refine .region ?_
 obtain ⟨x6, i7, h8⟩ := bd_inv h
 refine W.lo rfl rfl (Lo.callP (ps := []) (ps' := []) rfl (fn := Try.f37) (by kernel_rfl) rfl mn O1 (fun L' O' => g_law_stationFact_ok K  O' _ i7)) ?_
 rintro v15 H16 ⟨G9, O10, s11, sm14, rfl⟩
 replace O10 : Ow G9 H16 (eVar b2 48 T_Network p0 :: L) := O10
 refine W.pure (v := (.bool (!x6))) rfl rfl (bool_not (a := x6) (oo rfl rfl)) ?_
 refine .nil ?_
 refine .cond (b := (!x6)) rfl rfl (fun g17 => ?_) (fun g17 => ?_)
 ·have h18 := pos_inv g17 h8
  refine .seq ?_
  refine .region ?_
  refine W.pure (v := (.bool false)) rfl rfl (v_assign (oo rfl rfl)) ?_
  refine .nil ?_
  refine .ret ?_
  have O19 : Ow G9 H16 (L) := O10.drop 0
  obtain rfl := Option.some.inj h18
  refine ret1R (P := Try.prog) (fn := Try.f8) (n := 185) (R := fun v H' => ∃ G', Ow G' H' (L) ∧ G.le G' ∧ v = .bool false) (v1 := (.bool false)) (by rfl) (rr_tmp (by rfl) (by exact rfl)) ?_
  exact ⟨_, O19, s11, rfl⟩
 ·have h20 := neg_b g17 h8
  refine .skip ?_
  refine .seq ?_
  refine .region ?_
  obtain ⟨c21, p22, f23⟩ := (O10.atVar (j := 0) rfl)
  refine W.loadA (cs := c21) rfl rfl ag48 sz48 (pt_px rfl p22) (RT.len _ f23) ?_
  refine W.pure (v := (.string p1)) rfl rfl (v_move (oo rfl rfl)) ?_
  refine W.pure (v := (.string p2)) rfl rfl (v_move (oo rfl rfl)) ?_
  obtain ⟨x24, i25, h26⟩ := bd_inv h20
  refine W.lo rfl rfl (Lo.callPF (ps := []) (pw := fun w => [eSl w 9 rS x24.1]) rfl (fn := Try.f43) (by kernel_rfl) rfl (mc rfl (mc rfl (mc rfl mn))) O10 (fun L' O' => g_station_Path_ok K c21 p0 f23 p1 p2 O' _ i25)) ?_
  rintro v35 H36 ⟨w32, G27, O28, s29, sm34, rfl⟩
  replace O28 : Ow G27 H36 (eSl w32 9 rS x24.1 :: eVar b2 48 T_Network p0 :: L) := O28
  refine W.pure (v := (.tuple #[w32, (.int .i64 x24.2)])) rfl rfl (v_move (oo rfl rfl)) ?_
  refine W.pure (v := w32) rfl rfl (v_extract (oo rfl rfl) rfl) ?_
  refine W.pure (v := (.int .i64 x24.2)) rfl rfl (v_extract (oo rfl rfl) rfl) ?_
  refine W.pure (v := w32) rfl rfl (v_assign (oo rfl rfl)) ?_
  refine W.pure (v := (.int .i64 x24.2)) rfl rfl (v_assign (oo rfl rfl)) ?_
  refine .nil ?_
  refine .seq ?_
  refine .region ?_
  obtain ⟨c37, p38, f39⟩ := (O28.atVar (j := 1) rfl)
  refine W.loadA (cs := c37) rfl rfl ag48 sz48 (pt_px rfl p38) (RT.len _ f39) ?_
  refine W.pure (v := (.string p1)) rfl rfl (v_move (oo rfl rfl)) ?_
  refine W.pure (v := (.string p2)) rfl rfl (v_move (oo rfl rfl)) ?_
  obtain ⟨x40, i41, h42⟩ := bd_inv h26
  refine W.lo rfl rfl (Lo.callPF (ps := []) (pw := fun w => [eSl w 9 rS x40.1]) rfl (fn := Try.f44) (by kernel_rfl) rfl (mc rfl (mc rfl (mc rfl mn))) O28 (fun L' O' => g_station_Join_ok K c37 p0 f39 p1 p2 O' _ i41)) ?_
  rintro v51 H52 ⟨w48, G43, O44, s45, sm50, rfl⟩
  replace O44 : Ow G43 H52 (eSl w48 9 rS x40.1 :: eSl w32 9 rS x24.1 :: eVar b2 48 T_Network p0 :: L) := O44
  refine W.pure (v := (.tuple #[w48, (.int .i64 x40.2)])) rfl rfl (v_move (oo rfl rfl)) ?_
  refine W.pure (v := w48) rfl rfl (v_extract (oo rfl rfl) rfl) ?_
  refine W.pure (v := (.int .i64 x40.2)) rfl rfl (v_extract (oo rfl rfl) rfl) ?_
  refine W.pure (v := w48) rfl rfl (v_assign (oo rfl rfl)) ?_
  refine W.pure (v := (.int .i64 x40.2)) rfl rfl (v_assign (oo rfl rfl)) ?_
  refine .nil ?_
  refine .seq ?_
  refine .region ?_
  obtain ⟨c53, p54, f55⟩ := (O44.atVar (j := 2) rfl)
  refine W.loadA (cs := c53) rfl rfl ag48 sz48 (pt_px rfl p54) (RT.len _ f55) ?_
  obtain ⟨x56, i57, h58⟩ := bd_inv h42
  refine W.lo rfl rfl (Lo.callP (ps := []) (ps' := []) rfl (fn := Try.f23) (by kernel_rfl) rfl (mc rfl mn) O44 (fun L' O' => g_R_NetError_ok K c53 p0 f55 O' _ i57)) ?_
  rintro v65 H66 ⟨G59, O60, s61, sm64, rfl⟩
  replace O60 : Ow G59 H66 (eSl w48 9 rS x40.1 :: eSl w32 9 rS x24.1 :: eVar b2 48 T_Network p0 :: L) := O60
  refine W.pure (v := (.int .i64 x56)) rfl rfl (v_assign (oo rfl rfl)) ?_
  refine .nil ?_
  refine .seq ?_
  refine .seq ?_
  obtain ⟨q67, h68, h69⟩ := bd_inv h58
  refine AW.midT (fun σ' H' => ∃ (y1 : Bool) (G' : GM), y1 = q67 ∧ Ow G' H' (eSl w48 9 rS x40.1 :: eSl w32 9 rS x24.1 :: eVar b2 48 T_Network p0 :: L) ∧ GM.le G59 G' ∧ σ' 53 = .bool y1) ?_ ?_
  ·refine .region ?_
   refine W.pure (v := (.int .i64 x56)) rfl rfl (v_move (oo rfl rfl)) ?_
   refine W.pure (v := (.bool (x56 == 0))) rfl rfl (v_int (oo rfl rfl) (oo rfl rfl) rfl) ?_
   refine W.pure (v := (.bool (x56 == 0))) rfl rfl (v_move (oo rfl rfl)) ?_
   refine W.splitAt (t := 40) (b := (x56 == 0)) rfl (fun g70 gv71 => ?_) (fun g70 gv71 => ?_)
   ·have h72 := pos_inv g70 h68
    refine W.pure (v := (padd (.pointer (some ⟨b2, 0, none⟩)) 0)) (gk rfl rfl gv71 rfl) rfl (v_fldA fl48_0 (oo rfl rfl) (O60.atVar (j := 2) rfl)) ?_
    obtain ⟨w73, p74, f75⟩ := At.sl (At.proj (O60.atVar (j := 2) rfl) p_Network_Nodes)
    refine W.load1 (v := w73) (r := []) (gk rfl rfl gv71 rfl) rfl ag41 (pt_px rfl p74) ?_
    refine W.pure (v := (.string p1)) (gk rfl rfl gv71 rfl) rfl (v_move (oo rfl rfl)) ?_
    obtain ⟨x76, i77, h78⟩ := bd_inv h72
    refine W.lo (gk rfl rfl gv71 rfl) rfl (Lo.callP (ps := []) (ps' := []) rfl (fn := Try.f42) (by kernel_rfl) rfl (mc rfl (mc rfl mn)) O60 (fun L' O' => g_R_Has_ok K w73 p0.Nodes f75 p1 O' _ i77)) ?_
    rintro v85 H86 ⟨G79, O80, s81, sm84, rfl⟩
    replace O80 : Ow G79 H86 (eSl w48 9 rS x40.1 :: eSl w32 9 rS x24.1 :: eVar b2 48 T_Network p0 :: L) := O80
    refine W.pure (v := (.bool (!x76))) (gk rfl rfl gv71 rfl) rfl (bool_not (a := x76) (oo rfl rfl)) ?_
    refine W.pure (v := (.bool (!x76))) (gk rfl rfl gv71 rfl) rfl (v_move (oo rfl rfl)) ?_
    refine W.splitAt (t := 46) (b := (!x76)) rfl (fun g87 gv88 => ?_) (fun g87 gv88 => ?_)
    ·have h89 := pos_inv g87 h78
     refine W.skip (gk rfl rfl gv88 rfl) rfl ?_
     refine W.skip (gk rfl rfl gv88 rfl) rfl ?_
     refine W.skip (gk rfl rfl gv88 rfl) rfl ?_
     refine W.skip (gk rfl rfl gv88 rfl) rfl ?_
     refine W.skip (gk rfl rfl gv88 rfl) rfl ?_
     refine W.pure (v := (.bool true)) (gk rfl rfl gv71 rfl) rfl (v_pickT (oo rfl gv88) (oo rfl rfl)) ?_
     refine W.pure (v := (.bool true)) rfl rfl (v_pickT (oo rfl gv71) (oo rfl rfl)) ?_
     refine .nil ?_
     obtain rfl := Option.some.inj h89
     exact ⟨true, _, rfl, O80, s81, rfl⟩
    ·have h90 := neg_b g87 h78
     refine W.pure (v := (padd (.pointer (some ⟨b2, 0, none⟩)) 0)) (gk rfl rfl gv88 rfl) rfl (v_fldA fl48_0 (oo rfl rfl) (O80.atVar (j := 2) rfl)) ?_
     obtain ⟨w91, p92, f93⟩ := At.sl (At.proj (O80.atVar (j := 2) rfl) p_Network_Nodes)
     refine W.load1 (v := w91) (r := []) (gk rfl rfl gv88 rfl) rfl ag41 (pt_px rfl p92) ?_
     refine W.pure (v := (.string p2)) (gk rfl rfl gv88 rfl) rfl (v_move (oo rfl rfl)) ?_
     obtain ⟨x94, i95, h96⟩ := bd_inv h90
     refine W.lo (gk rfl rfl gv88 rfl) rfl (Lo.callP (ps := []) (ps' := []) rfl (fn := Try.f42) (by kernel_rfl) rfl (mc rfl (mc rfl mn)) O80 (fun L' O' => g_R_Has_ok K w91 p0.Nodes f93 p2 O' _ i95)) ?_
     rintro v103 H104 ⟨G97, O98, s99, sm102, rfl⟩
     replace O98 : Ow G97 H104 (eSl w48 9 rS x40.1 :: eSl w32 9 rS x24.1 :: eVar b2 48 T_Network p0 :: L) := O98
     refine W.pure (v := (.bool (!x94))) (gk rfl rfl gv88 rfl) rfl (bool_not (a := x94) (oo rfl rfl)) ?_
     refine W.pure (v := (.bool (!x94))) (gk rfl rfl gv71 rfl) rfl (v_pickF (oo rfl gv88) (oo rfl rfl)) ?_
     refine W.pure (v := (.bool (!x94))) rfl rfl (v_pickT (oo rfl gv71) (oo rfl rfl)) ?_
     refine .nil ?_
     obtain rfl := Option.some.inj h96
     exact ⟨(!x94), _, rfl, O98, (GM.le.trans s81 s99), rfl⟩
   ·have h105 := neg_b g70 h68
    refine W.skip (gk rfl rfl gv71 rfl) rfl ?_
    refine W.skip (gk rfl rfl gv71 rfl) rfl ?_
    refine W.skip (gk rfl rfl gv71 rfl) rfl ?_
    refine W.skip (gk rfl rfl gv71 rfl) rfl ?_
    refine W.skip (gk rfl rfl gv71 rfl) rfl ?_
    refine W.skip (gk rfl rfl gv71 rfl) rfl ?_
    refine W.skipU rfl rfl rfl rfl ?_
    refine W.skipU rfl rfl rfl rfl ?_
    refine W.skipU rfl rfl rfl rfl ?_
    refine W.skipU rfl rfl rfl rfl ?_
    refine W.skipU rfl rfl rfl rfl ?_
    refine W.skip (gk rfl rfl gv71 rfl) rfl ?_
    refine W.pure (v := (.bool false)) rfl rfl (v_pickF (oo rfl gv71) (oo rfl rfl)) ?_
    refine .nil ?_
    obtain rfl := Option.some.inj h105
    exact ⟨false, _, rfl, O60, (GM.le.refl _), rfl⟩
  ·rintro σ107 H108 fr109 ⟨x106, G110, rfl, O111, s112, t114⟩
   have h115 := tu1_inv h69
   obtain ⟨q116, h117, h118⟩ := bd_inv h115
   refine AW.midT (fun σ' H' => ∃ (y1 : Int) (G' : GM), y1 = q116 ∧ Ow G' H' (eSl w48 9 rS x40.1 :: eSl w32 9 rS x24.1 :: eVar b2 48 T_Network p0 :: L) ∧ GM.le G110 G' ∧ σ' 11 = .int .i64 y1) ?_ ?_
   ·refine .cond (b := x106) rfl t114 (fun g119 => ?_) (fun g119 => ?_)
    ·have h120 := pos_inv g119 h117
     refine .region ?_
     refine W.pure (v := (.int .i64 6)) rfl rfl (v_assign (oo rfl rfl)) ?_
     refine .nil ?_
     obtain rfl := Option.some.inj h120
     exact ⟨6, _, rfl, O111, (GM.le.refl _), rfl⟩
    ·have h121 := neg_b g119 h117
     refine .skip ?_
     obtain rfl := Option.some.inj h121
     exact ⟨x56, _, rfl, O111, (GM.le.refl _), ((fr109 11 rfl).trans rfl)⟩
   ·rintro σ123 H124 fr125 ⟨x122, G126, rfl, O127, s128, t130⟩
    have h131 := tu1_inv h118
    refine .seq ?_
    refine .seq ?_
    refine .region ?_
    refine W.pure (v := (.int .i64 x122)) rfl rfl (v_move (oo rfl t130)) ?_
    refine W.pure (v := (.bool (x122 != 0))) rfl rfl (v_int (oo rfl rfl) (oo rfl rfl) rfl) ?_
    refine .nil ?_
    refine .cond (b := (x122 != 0)) rfl rfl (fun g132 => ?_) (fun g132 => ?_)
    ·have h133 := pos_inv g132 h131
     refine .seq ?_
     obtain ⟨q134, h135, h136⟩ := bd_inv h133
     refine AW.midT (fun σ' H' => ∃ (y1 : Bool) (G' : GM), y1 = q134 ∧ Ow G' H' (eSl w48 9 rS x40.1 :: eSl w32 9 rS x24.1 :: eVar b2 48 T_Network p0 :: L) ∧ GM.le G126 G' ∧ σ' 6 = .bool y1) ?_ ?_
     ·refine .region ?_
      refine W.pure (v := (.int .i64 x24.2)) rfl rfl (v_move (oo rfl ((fr125 8 rfl).trans ((fr109 8 rfl).trans rfl)))) ?_
      refine W.pure (v := (.int .i64 x122)) rfl rfl (v_move (oo rfl t130)) ?_
      refine W.pure (v := (.bool (x24.2 == x122))) rfl rfl (v_int (oo rfl rfl) (oo rfl rfl) rfl) ?_
      refine W.pure (v := (.bool (x24.2 == x122))) rfl rfl (v_move (oo rfl rfl)) ?_
      refine W.splitAt (t := 59) (b := (x24.2 == x122)) rfl (fun g137 gv138 => ?_) (fun g137 gv138 => ?_)
      ·have h139 := pos_inv g137 h135
       refine W.pure (v := (.int .i64 x40.2)) (gk rfl rfl gv138 rfl) rfl (v_move (oo rfl ((fr125 10 rfl).trans ((fr109 10 rfl).trans rfl)))) ?_
       refine W.pure (v := (.int .i64 x122)) (gk rfl rfl gv138 rfl) rfl (v_move (oo rfl t130)) ?_
       refine W.pure (v := (.bool (x40.2 == x122))) (gk rfl rfl gv138 rfl) rfl (v_int (oo rfl rfl) (oo rfl rfl) rfl) ?_
       refine W.pure (v := (.bool (x40.2 == x122))) rfl rfl (v_pickT (oo rfl gv138) (oo rfl rfl)) ?_
       refine W.pure (v := (.bool (x40.2 == x122))) rfl rfl (v_move (oo rfl rfl)) ?_
       refine W.splitAt (t := 64) (b := (x40.2 == x122)) rfl (fun g140 gv141 => ?_) (fun g140 gv141 => ?_)
       ·have h142 := pos_inv g140 h139
        refine W.pure (v := w32) (gk rfl rfl gv141 rfl) rfl (v_move (oo rfl ((fr125 7 rfl).trans ((fr109 7 rfl).trans rfl)))) ?_
        refine W.pure (v := (.int .i64 (List.length x24.1 : Int))) (gk rfl rfl gv141 rfl) rfl (len_sl (oo rfl rfl) (O127.slLen (j := 1) rfl) (elemT_inv el41)) ?_
        refine W.pure (v := w48) (gk rfl rfl gv141 rfl) rfl (v_move (oo rfl ((fr125 9 rfl).trans ((fr109 9 rfl).trans rfl)))) ?_
        refine W.pure (v := (.int .i64 (List.length x40.1 : Int))) (gk rfl rfl gv141 rfl) rfl (len_sl (oo rfl rfl) (O127.slLen (j := 0) rfl) (elemT_inv el41)) ?_
        refine W.pure (v := (.int .i64 (kwrap .i64 ((List.length x24.1 : Int) + (List.length x40.1 : Int))))) (gk rfl rfl gv141 rfl) rfl (v_int (oo rfl rfl) (oo rfl rfl) rfl) ?_
        obtain ⟨x143, e144, h145⟩ := lt_inv h142
        refine W.pure (v := (.bool (x143 == 0))) (gk rfl rfl gv141 rfl) rfl (v_int (oo rfl (congrArg (Value.int .i64) e144)) (oo rfl rfl) rfl) ?_
        refine W.pure (v := (.bool (x143 == 0))) rfl rfl (v_pickT (oo rfl gv141) (oo rfl rfl)) ?_
        refine W.pure (v := (.bool (x143 == 0))) rfl rfl (v_assign (oo rfl rfl)) ?_
        refine .nil ?_
        obtain rfl := Option.some.inj h145
        exact ⟨(x143 == 0), _, rfl, O127, (GM.le.refl _), rfl⟩
       ·have h146 := neg_b g140 h139
        refine W.skip (gk rfl rfl gv141 rfl) rfl ?_
        refine W.skip (gk rfl rfl gv141 rfl) rfl ?_
        refine W.skip (gk rfl rfl gv141 rfl) rfl ?_
        refine W.skip (gk rfl rfl gv141 rfl) rfl ?_
        refine W.skip (gk rfl rfl gv141 rfl) rfl ?_
        refine W.skip (gk rfl rfl gv141 rfl) rfl ?_
        refine W.pure (v := (.bool false)) rfl rfl (v_pickF (oo rfl gv141) (oo rfl rfl)) ?_
        refine W.pure (v := (.bool false)) rfl rfl (v_assign (oo rfl rfl)) ?_
        refine .nil ?_
        obtain rfl := Option.some.inj h146
        exact ⟨false, _, rfl, O127, (GM.le.refl _), rfl⟩
      ·have h147 := neg_b g137 h135
       refine W.skip (gk rfl rfl gv138 rfl) rfl ?_
       refine W.skip (gk rfl rfl gv138 rfl) rfl ?_
       refine W.skip (gk rfl rfl gv138 rfl) rfl ?_
       refine W.pure (v := (.bool false)) rfl rfl (v_pickF (oo rfl gv138) (oo rfl rfl)) ?_
       refine W.pure (v := (.bool false)) rfl rfl (v_move (oo rfl rfl)) ?_
       refine W.skip (gk rfl rfl rfl rfl) rfl ?_
       refine W.skip (gk rfl rfl rfl rfl) rfl ?_
       refine W.skip (gk rfl rfl rfl rfl) rfl ?_
       refine W.skip (gk rfl rfl rfl rfl) rfl ?_
       refine W.skip (gk rfl rfl rfl rfl) rfl ?_
       refine W.skip (gk rfl rfl rfl rfl) rfl ?_
       refine W.pure (v := (.bool false)) rfl rfl (v_pickF (oo rfl rfl) (oo rfl rfl)) ?_
       refine W.pure (v := (.bool false)) rfl rfl (v_assign (oo rfl rfl)) ?_
       refine .nil ?_
       obtain rfl := Option.some.inj h147
       exact ⟨false, _, rfl, O127, (GM.le.refl _), rfl⟩
     ·rintro σ149 H150 fr151 ⟨x148, G152, rfl, O153, s154, t156⟩
      have h157 := tu1_inv h136
      refine .ret ?_
      have O158 : Ow G152 H150 (eSl w32 9 rS x24.1 :: eVar b2 48 T_Network p0 :: L) := O153.drop 0
      have O159 : Ow G152 H150 (eVar b2 48 T_Network p0 :: L) := O158.drop 0
      have O160 : Ow G152 H150 (L) := O159.drop 0
      obtain rfl := Option.some.inj h157
      refine ret1R (P := Try.prog) (fn := Try.f8) (n := 185) (R := fun v H' => ∃ G', Ow G' H' (L) ∧ G.le G' ∧ v = .bool x148) (v1 := (.bool x148)) (by rfl) (rr_tmp (by rfl) (by exact t156)) ?_
      exact ⟨_, O160, (GM.le.trans s11 (GM.le.trans s29 (GM.le.trans s45 (GM.le.trans s61 (GM.le.trans s112 (GM.le.trans s128 s154)))))), rfl⟩
    ·have h161 := neg_b g132 h131
     refine .skip ?_
     refine .seq ?_
     refine .seq ?_
     obtain ⟨q162, h163, h164⟩ := bd_inv h161
     refine AW.midT (fun σ' H' => ∃ (y1 : Bool) (G' : GM), y1 = q162 ∧ Ow G' H' (eSl w48 9 rS x40.1 :: eSl w32 9 rS x24.1 :: eVar b2 48 T_Network p0 :: L) ∧ GM.le G126 G' ∧ σ' 79 = .bool y1) ?_ ?_
     ·refine .region ?_
      obtain ⟨c165, p166, f167⟩ := (O127.atVar (j := 2) rfl)
      refine W.loadA (cs := c165) rfl rfl ag48 sz48 (pt_px ((fr125 3 rfl).trans ((fr109 3 rfl).trans rfl)) p166) (RT.len _ f167) ?_
      obtain ⟨x168, i169, h170⟩ := bd_inv h163
      refine W.lo rfl rfl (Lo.callP (ps := []) (ps' := []) rfl (fn := Try.f45) (by kernel_rfl) rfl (mc rfl mn) O127 (fun L' O' => g_law_wide_ok K c165 p0 f167 O' _ i169)) ?_
      rintro v177 H178 ⟨G171, O172, s173, sm176, rfl⟩
      replace O172 : Ow G171 H178 (eSl w48 9 rS x40.1 :: eSl w32 9 rS x24.1 :: eVar b2 48 T_Network p0 :: L) := O172
      refine W.pure (v := (.bool x168)) rfl rfl (v_move (oo rfl rfl)) ?_
      refine W.splitAt (t := 74) (b := x168) rfl (fun g179 gv180 => ?_) (fun g179 gv180 => ?_)
      ·have h181 := pos_inv g179 h170
       refine W.skip (gk rfl rfl gv180 rfl) rfl ?_
       refine W.skip (gk rfl rfl gv180 rfl) rfl ?_
       refine W.skip (gk rfl rfl gv180 rfl) rfl ?_
       refine W.skip (gk rfl rfl gv180 rfl) rfl ?_
       refine W.pure (v := (.bool true)) rfl rfl (v_pickT (oo rfl gv180) (oo rfl rfl)) ?_
       refine .nil ?_
       obtain rfl := Option.some.inj h181
       exact ⟨true, _, rfl, O172, s173, rfl⟩
      ·have h182 := neg_b g179 h170
       refine W.pure (v := (padd (.pointer (some ⟨b2, 0, none⟩)) 1)) (gk rfl rfl gv180 rfl) rfl (v_fldA fl48_1 (oo rfl ((fr125 3 rfl).trans ((fr109 3 rfl).trans rfl))) (O172.atVar (j := 2) rfl)) ?_
       obtain ⟨w183, p184, f185⟩ := At.sl (At.proj (O172.atVar (j := 2) rfl) p_Network_Switches)
       refine W.load1 (v := w183) (r := []) (gk rfl rfl gv180 rfl) rfl ag42 (pt_px rfl p184) ?_
       refine W.pure (v := (.int .i64 (List.length p0.Switches : Int))) (gk rfl rfl gv180 rfl) rfl (len_sl (oo rfl rfl) (sl_len f185) (elemT_inv el42)) ?_
       refine W.pure (v := (.bool (decide ((List.length p0.Switches : Int) > 8)))) (gk rfl rfl gv180 rfl) rfl (v_int (oo rfl rfl) (oo rfl rfl) rfl) ?_
       refine W.pure (v := (.bool (decide ((List.length p0.Switches : Int) > 8)))) rfl rfl (v_pickF (oo rfl gv180) (oo rfl rfl)) ?_
       refine .nil ?_
       obtain rfl := Option.some.inj h182
       exact ⟨decide ((List.length p0.Switches : Int) > 8), _, rfl, O172, s173, rfl⟩
     ·rintro σ187 H188 fr189 ⟨x186, G190, rfl, O191, s192, t194⟩
      have h195 := tu1_inv h164
      refine .cond (b := x186) rfl t194 (fun g196 => ?_) (fun g196 => ?_)
      ·have h197 := pos_inv g196 h195
       refine .seq ?_
       refine .region ?_
       refine W.pure (v := (.bool true)) rfl rfl (v_assign (oo rfl rfl)) ?_
       refine .nil ?_
       refine .ret ?_
       have O198 : Ow G190 H188 (eSl w32 9 rS x24.1 :: eVar b2 48 T_Network p0 :: L) := O191.drop 0
       have O199 : Ow G190 H188 (eVar b2 48 T_Network p0 :: L) := O198.drop 0
       have O200 : Ow G190 H188 (L) := O199.drop 0
       obtain rfl := Option.some.inj h197
       refine ret1R (P := Try.prog) (fn := Try.f8) (n := 185) (R := fun v H' => ∃ G', Ow G' H' (L) ∧ G.le G' ∧ v = .bool true) (v1 := (.bool true)) (by rfl) (rr_tmp (by rfl) (by exact rfl)) ?_
       exact ⟨_, O200, (GM.le.trans s11 (GM.le.trans s29 (GM.le.trans s45 (GM.le.trans s61 (GM.le.trans s112 (GM.le.trans s128 s192)))))), rfl⟩
      ·have h201 := neg_b g196 h195
       refine .skip ?_
       refine .seq ?_
       refine .draw2 (M := [0, 1, 0, 7, 0, 16, 0, 127, 255, 511]) mixed (by kernel_rfl) (by kernel_rfl) fun H202 N206 x203 F205 => ?_
       have O204 := O191.ext x203
       refine D2.pure (v := (padd (.pointer (some ⟨b2, 0, none⟩)) 0)) rfl rfl (v_fldA fl48_0 (oo rfl ((fr189 3 rfl).trans ((fr125 3 rfl).trans ((fr109 3 rfl).trans rfl)))) (O204.atVar (j := 2) rfl)) ?_
       obtain ⟨w207, p208, f209⟩ := At.sl (At.proj (O204.atVar (j := 2) rfl) p_Network_Nodes)
       refine D2.load1' (v := w207) (r := []) rfl rfl ag41 (pt_px rfl p208) fa_nil ?_
       refine D2.pure (v := (.string p1)) rfl rfl (v_move (oo rfl ((fr189 1 rfl).trans ((fr125 1 rfl).trans ((fr109 1 rfl).trans rfl))))) ?_
       obtain ⟨x210, i211, h212⟩ := bd_inv h201
       refine D2.lo rfl rfl (Lo.callP (ps := []) (ps' := []) rfl (fn := Try.f46) (by kernel_rfl) rfl (mc rfl (mc rfl mn)) O204 (fun L' O' => g_R_Place_ok K w207 p0.Nodes f209 p1 O' _ i211)) ?_ fa_nil ?_ ?_
       ·rintro v219 H220 ⟨G213, O214, s215, sm218, rfl⟩; exact (faR1 (.inl (by decide)) fa_nil)
       ·rintro v219 H220 ⟨G213, O214, s215, sm218, rfl⟩; exact fa_nil
       rintro v219 H220 ⟨G213, O214, s215, sm218, rfl⟩
       replace O214 : Ow G213 H220 (eSl w48 9 rS x40.1 :: eSl w32 9 rS x24.1 :: eVar b2 48 T_Network p0 :: L) := O214
       refine D2.pure (v := (padd (.pointer (some ⟨b2, 0, none⟩)) 0)) rfl rfl (v_fldA fl48_0 (oo rfl ((fr189 3 rfl).trans ((fr125 3 rfl).trans ((fr109 3 rfl).trans rfl)))) (O214.atVar (j := 2) rfl)) ?_
       obtain ⟨w221, p222, f223⟩ := At.sl (At.proj (O214.atVar (j := 2) rfl) p_Network_Nodes)
       refine D2.load1' (v := w221) (r := []) rfl rfl ag41 (pt_px rfl p222) (faQ_eq (sm218 _ (Or.inr ⟨2, _, rfl, List.mem_singleton.2 rfl⟩)) fa_nil) ?_
       refine D2.pure (v := (.string p2)) rfl rfl (v_move (oo rfl ((fr189 2 rfl).trans ((fr125 2 rfl).trans ((fr109 2 rfl).trans rfl))))) ?_
       obtain ⟨x224, i225, h226⟩ := bd_inv h212
       refine D2.lo rfl rfl (Lo.callP (ps := []) (ps' := []) rfl (fn := Try.f46) (by kernel_rfl) rfl (mc rfl (mc rfl mn)) O214 (fun L' O' => g_R_Place_ok K w221 p0.Nodes f223 p2 O' _ i225)) ?_ (faL_bit (by decide) fa_nil) ?_ ?_
       ·rintro v233 H234 ⟨G227, O228, s229, sm232, rfl⟩; exact (faR1 (.inl (by decide)) (faR1 (.inl (by decide)) fa_nil))
       ·rintro v233 H234 ⟨G227, O228, s229, sm232, rfl⟩; exact fa_nil
       rintro v233 H234 ⟨G227, O228, s229, sm232, rfl⟩
       replace O228 : Ow G227 H234 (eSl w48 9 rS x40.1 :: eSl w32 9 rS x24.1 :: eVar b2 48 T_Network p0 :: L) := O228
       refine D2.pure (v := (.int .i64 x210)) rfl rfl (v_assign (oo rfl rfl)) ?_
       refine D2.pure (v := (.int .i64 x224)) rfl rfl (v_assign (oo rfl rfl)) ?_
       refine .nil ?_
       refine .seq ?_
       refine .draw2 (M := [0, 1, 3, 0, 8, 0, 0, 0, 152, 511, 1023, 2047, 2047, 4095, 16383]) mixed (by kernel_rfl) (by kernel_rfl) fun H235 N239 x236 F238 => ?_
       have O237 := O228.ext x236
       refine D2.pure (v := (padd (.pointer (some ⟨b2, 0, none⟩)) 0)) rfl rfl (v_fldA fl48_0 (oo rfl ((fr189 3 rfl).trans ((fr125 3 rfl).trans ((fr109 3 rfl).trans rfl)))) (O237.atVar (j := 2) rfl)) ?_
       obtain ⟨w240, p241, f242⟩ := At.sl (At.proj (O237.atVar (j := 2) rfl) p_Network_Nodes)
       refine D2.load1' (v := w240) (r := []) rfl rfl ag41 (pt_px rfl p241) fa_nil ?_
       refine D2.pure (v := (.int .i64 (List.length p0.Nodes : Int))) rfl rfl (len_sl (oo rfl rfl) (sl_len f242) (elemT_inv el41)) ?_
       obtain ⟨c243, p244, f245⟩ := (O237.atVar (j := 2) rfl)
       refine D2.loadA' (cs := c243) rfl rfl ag48 sz48 (pt_px ((fr189 3 rfl).trans ((fr125 3 rfl).trans ((fr109 3 rfl).trans rfl))) p244) (RT.len _ f245) fa_nil ?_
       obtain ⟨x246, i247, h248⟩ := bd_inv h226
       refine D2.lo rfl rfl (Lo.callPF (ps := []) (pw := fun w => [eSl w 29 (rArr 2 (rI .i64)) x246]) rfl (fn := Try.f47) (by kernel_rfl) rfl (mc rfl mn) O237 (fun L' O' => g_R_Switching_ok K c243 p0 f245 O' _ i247)) ?_ fa_nil ?_ ?_
       ·rintro v257 H258 ⟨w254, G249, O250, s251, sm256, rfl⟩; exact (faR1 (.inl (by decide)) (faR1 (.inr (sm256 _ (Or.inr ⟨2, _, rfl, List.mem_singleton.2 rfl⟩))) fa_nil))
       ·rintro v257 H258 ⟨w254, G249, O250, s251, sm256, rfl⟩; exact fa_nil
       rintro v257 H258 ⟨w254, G249, O250, s251, sm256, rfl⟩
       replace O250 : Ow G249 H258 (eSl w254 29 (rArr 2 (rI .i64)) x246 :: eSl w48 9 rS x40.1 :: eSl w32 9 rS x24.1 :: eVar b2 48 T_Network p0 :: L) := O250
       refine D2.pure (v := (.int .i64 x210)) rfl rfl (v_move (oo rfl rfl)) ?_
       refine D2.pure (v := (.int .i64 x224)) rfl rfl (v_move (oo rfl rfl)) ?_
       obtain ⟨c259, p260, f261⟩ := (O250.atVar (j := 3) rfl)
       refine D2.loadA' (cs := c259) rfl rfl ag48 sz48 (pt_px ((fr189 3 rfl).trans ((fr125 3 rfl).trans ((fr109 3 rfl).trans rfl))) p260) (RT.len _ f261) (faQ_eq (fa_px ((fr189 3 rfl).trans ((fr125 3 rfl).trans ((fr109 3 rfl).trans rfl))) (sm256 _ (Or.inr ⟨2, _, rfl, List.mem_singleton.2 rfl⟩))) fa_nil) ?_
       obtain ⟨x262, i263, h264⟩ := bd_inv h248
       refine D2.lo rfl rfl (Lo.callP (ps := []) (ps' := []) rfl (fn := Try.f48) (by kernel_rfl) rfl (mc rfl mn) O250 (fun L' O' => g_R_Closed_ok K c259 p0 f261 O' _ i263)) ?_ (faL_bit (by decide) fa_nil) ?_ ?_
       ·rintro v273 H274 ⟨G265, O266, s267, sm272, ⟨w269, rfl, f270⟩⟩; exact (faR1 (.inl (by decide)) (faR1 (.inl (by decide)) (faR1 (.inr (sm272 _ (Or.inr ⟨3, _, rfl, List.mem_singleton.2 rfl⟩))) fa_nil)))
       ·rintro v273 H274 ⟨G265, O266, s267, sm272, ⟨w269, rfl, f270⟩⟩; exact fa_nil
       rintro v273 H274 ⟨G265, O266, s267, sm272, ⟨w269, rfl, f270⟩⟩
       replace O266 : Ow G265 H274 (eSl w254 29 (rArr 2 (rI .i64)) x246 :: eSl w48 9 rS x40.1 :: eSl w32 9 rS x24.1 :: eVar b2 48 T_Network p0 :: L) := O266
       obtain ⟨G275, O276, s277, f278⟩ := O266.frzSl (j := 0) rfl
       replace O276 : Ow G275 H274 (eSl w48 9 rS x40.1 :: eSl w32 9 rS x24.1 :: eVar b2 48 T_Network p0 :: L) := O276
       obtain ⟨x279, i280, h281⟩ := bd_inv h264
       refine D2.lo rfl rfl (Lo.callP (ps := []) (ps' := []) rfl (fn := Try.f20) (by kernel_rfl) rfl (mc rfl (mc rfl (mc rfl (mc rfl (mc rfl mn))))) O276 (fun L' O' => g_R_Shortest_ok K (List.length p0.Nodes : Int) w254 x246 f278 x210 x224 w269 x262 (FnOk.le f270 s277) O' _ i280)) ?_ (faL_bit (by decide) (faL_bit (by decide) fa_nil)) ?_ ?_
       ·rintro v290 H291 ⟨G282, O283, s284, sm289, ⟨w286, rfl, f287⟩⟩; exact (faR1 (.inl (by decide)) (faR1 (.inl (by decide)) (faR1 (.inl (by decide)) fa_nil)))
       ·rintro v290 H291 ⟨G282, O283, s284, sm289, ⟨w286, rfl, f287⟩⟩; exact fa_nil
       rintro v290 H291 ⟨G282, O283, s284, sm289, ⟨w286, rfl, f287⟩⟩
       replace O283 : Ow G282 H291 (eSl w48 9 rS x40.1 :: eSl w32 9 rS x24.1 :: eVar b2 48 T_Network p0 :: L) := O283
       refine D2.pure (v := (.tuple #[w286, (.bool x279.2)])) rfl rfl (v_move (oo rfl rfl)) ?_
       refine D2.pure (v := w286) rfl rfl (v_extract (oo rfl rfl) rfl) ?_
       refine D2.pure (v := (.bool x279.2)) rfl rfl (v_extract (oo rfl rfl) rfl) ?_
       refine D2.pure (v := w286) rfl rfl (v_assign (oo rfl rfl)) ?_
       refine D2.pure (v := (.bool x279.2)) rfl rfl (v_assign (oo rfl rfl)) ?_
       refine .nil ?_
       refine .seq ?_
       refine .seq ?_
       obtain ⟨q292, h293, h294⟩ := bd_inv h281
       refine AW.midT (fun σ' H' => ∃ (y1 : Bool) (G' : GM), y1 = q292 ∧ Ow G' H' (eSl w48 9 rS x40.1 :: eVar b2 48 T_Network p0 :: L) ∧ GM.le G282 G' ∧ σ' 126 = .bool y1) ?_ ?_
       ·refine .region ?_
        refine W.pure (v := (.bool x279.2)) rfl rfl (v_move (oo rfl rfl)) ?_
        refine W.pure (v := (.bool x279.2)) rfl rfl (v_move (oo rfl rfl)) ?_
        refine W.splitAt (t := 102) (b := x279.2) rfl (fun g295 gv296 => ?_) (fun g295 gv296 => ?_)
        ·have h297 := pos_inv g295 h293
         refine W.pure (v := (.int .i64 x24.2)) (gk rfl rfl gv296 rfl) rfl (v_move (oo rfl ((fr189 8 rfl).trans ((fr125 8 rfl).trans ((fr109 8 rfl).trans rfl))))) ?_
         refine W.pure (v := (.bool (x24.2 != 0))) (gk rfl rfl gv296 rfl) rfl (v_int (oo rfl rfl) (oo rfl rfl) rfl) ?_
         refine W.pure (v := (.bool (x24.2 != 0))) (gk rfl rfl gv296 rfl) rfl (v_move (oo rfl rfl)) ?_
         refine W.splitAt (t := 105) (b := (x24.2 != 0)) rfl (fun g298 gv299 => ?_) (fun g298 gv299 => ?_)
         ·have h300 := pos_inv g298 h297
          refine W.skip (gk rfl rfl gv299 rfl) rfl ?_
          refine W.skip (gk rfl rfl gv299 rfl) rfl ?_
          refine W.skip (gk rfl rfl gv299 rfl) rfl ?_
          refine W.skip (gk rfl rfl gv299 rfl) rfl ?_
          refine W.skip (gk rfl rfl gv299 rfl) rfl ?_
          refine W.skip (gk rfl rfl gv299 rfl) rfl ?_
          refine W.pure (v := (.bool true)) (gk rfl rfl gv296 rfl) rfl (v_pickT (oo rfl gv299) (oo rfl rfl)) ?_
          refine W.pure (v := (.bool true)) rfl rfl (v_pickT (oo rfl gv296) (oo rfl rfl)) ?_
          refine W.pure (v := (.bool true)) rfl rfl (v_move (oo rfl rfl)) ?_
          refine W.skip (gk rfl rfl rfl rfl) rfl ?_
          refine W.skip (gk rfl rfl rfl rfl) rfl ?_
          refine W.skip (gk rfl rfl rfl rfl) rfl ?_
          refine W.skipU rfl rfl rfl rfl ?_
          refine W.skipU rfl rfl rfl rfl ?_
          refine W.skipU rfl rfl rfl rfl ?_
          refine W.skipU rfl rfl rfl rfl ?_
          refine W.skipU rfl rfl rfl rfl ?_
          refine W.skipU rfl rfl rfl rfl ?_
          refine W.skipU rfl rfl rfl rfl ?_
          refine W.skip (gk rfl rfl rfl rfl) rfl ?_
          refine W.pure (v := (.bool true)) rfl rfl (v_pickT (oo rfl rfl) (oo rfl rfl)) ?_
          refine .nil ?_
          obtain ⟨G301, O302, s303, f304⟩ := O283.frzSl (j := 1) rfl
          replace O302 : Ow G301 H291 (eSl w48 9 rS x40.1 :: eVar b2 48 T_Network p0 :: L) := O302
          obtain rfl := Option.some.inj h300
          exact ⟨true, _, rfl, O302, s303, rfl⟩
         ·have h305 := neg_b g298 h297
          refine W.pure (v := w32) (gk rfl rfl gv299 rfl) rfl (v_move (oo rfl ((fr189 7 rfl).trans ((fr125 7 rfl).trans ((fr109 7 rfl).trans rfl))))) ?_
          obtain ⟨c306, p307, f308⟩ := (O283.atVar (j := 2) rfl)
          refine W.loadA (cs := c306) (gk rfl rfl gv299 rfl) rfl ag48 sz48 (pt_px ((fr189 3 rfl).trans ((fr125 3 rfl).trans ((fr109 3 rfl).trans rfl))) p307) (RT.len _ f308) ?_
          refine W.pure (v := w286) (gk rfl rfl gv299 rfl) rfl (v_move (oo rfl rfl)) ?_
          obtain ⟨x309, i310, h311⟩ := bd_inv h305
          refine W.lo (gk rfl rfl gv299 rfl) rfl (Lo.callPF (ps := []) (pw := fun w => [eSl w 9 rS x309]) rfl (fn := Try.f49) (by kernel_rfl) rfl (mc rfl (mc rfl mn)) O283 (fun L' O' => g_law_named_ok K c306 p0 f308 w286 x279.1 f287 O' _ i310)) ?_
          rintro v320 H321 ⟨w317, G312, O313, s314, sm319, rfl⟩
          replace O313 : Ow G312 H321 (eSl w317 9 rS x309 :: eSl w48 9 rS x40.1 :: eSl w32 9 rS x24.1 :: eVar b2 48 T_Network p0 :: L) := O313
          obtain ⟨G322, O323, s324, f325⟩ := O313.frzSl (j := 2) rfl
          replace O323 : Ow G322 H321 (eSl w317 9 rS x309 :: eSl w48 9 rS x40.1 :: eVar b2 48 T_Network p0 :: L) := O323
          obtain ⟨G326, O327, s328, f329⟩ := O323.frzSl (j := 0) rfl
          replace O327 : Ow G326 H321 (eSl w48 9 rS x40.1 :: eVar b2 48 T_Network p0 :: L) := O327
          obtain ⟨x330, i331, h332⟩ := bd_inv h311
          refine W.lo (gk rfl rfl gv299 rfl) rfl (Lo.callP (ps := []) (ps' := []) rfl (fn := Try.f41) (by kernel_rfl) rfl (mc rfl (mc rfl mn)) O327 (fun L' O' => g_slices_Equal_string_string_ok K w32 x24.1 (RT.mono _ s328 f325) w317 x309 f329 O' _ i331)) ?_
          rintro v339 H340 ⟨G333, O334, s335, sm338, rfl⟩
          replace O334 : Ow G333 H340 (eSl w48 9 rS x40.1 :: eVar b2 48 T_Network p0 :: L) := O334
          refine W.pure (v := (.bool (!x330))) (gk rfl rfl gv299 rfl) rfl (bool_not (a := x330) (oo rfl rfl)) ?_
          refine W.pure (v := (.bool (!x330))) (gk rfl rfl gv296 rfl) rfl (v_pickF (oo rfl gv299) (oo rfl rfl)) ?_
          refine W.pure (v := (.bool (!x330))) rfl rfl (v_pickT (oo rfl gv296) (oo rfl rfl)) ?_
          refine W.pure (v := (.bool (!x330))) rfl rfl (v_move (oo rfl rfl)) ?_
          refine W.splitAt (t := 114) (b := (!x330)) rfl (fun g341 gv342 => ?_) (fun g341 gv342 => ?_)
          ·have h343 := pos_inv g341 h332
           refine W.skip (gk rfl rfl gv342 rfl) rfl ?_
           refine W.skip (gk rfl rfl gv342 rfl) rfl ?_
           refine W.skip (gk rfl rfl gv342 rfl) rfl ?_
           refine W.skipU rfl rfl rfl rfl ?_
           refine W.skipU rfl rfl rfl rfl ?_
           refine W.skipU rfl rfl rfl rfl ?_
           refine W.skipU rfl rfl rfl rfl ?_
           refine W.skipU rfl rfl rfl rfl ?_
           refine W.skipU rfl rfl rfl rfl ?_
           refine W.skipU rfl rfl rfl rfl ?_
           refine W.skip (gk rfl rfl gv342 rfl) rfl ?_
           refine W.pure (v := (.bool true)) rfl rfl (v_pickT (oo rfl gv342) (oo rfl rfl)) ?_
           refine .nil ?_
           obtain rfl := Option.some.inj h343
           exact ⟨true, _, rfl, O334, (GM.le.trans s314 (GM.le.trans s324 (GM.le.trans s328 s335))), rfl⟩
          ·have h344 := neg_b g341 h332
           refine W.pure (v := (.bool true)) (gk rfl rfl gv342 rfl) rfl (v_move (oo rfl (((rfl : _ = Value.bool x279.2)).trans (congrArg Value.bool g295)))) ?_
           refine W.pure (v := (.bool false)) (gk rfl rfl gv342 rfl) rfl (bool_not (a := true) (oo rfl rfl)) ?_
           refine W.pure (v := (.bool false)) (gk rfl rfl gv342 rfl) rfl (v_move (oo rfl rfl)) ?_
           refine W.skip (gk rfl rfl rfl rfl) rfl ?_
           refine W.skip (gk rfl rfl rfl rfl) rfl ?_
           refine W.skip (gk rfl rfl rfl rfl) rfl ?_
           refine W.skipU rfl rfl rfl rfl ?_
           refine W.skipU rfl rfl rfl rfl ?_
           refine W.skipU rfl rfl rfl rfl ?_
           refine W.skip (gk rfl rfl rfl rfl) rfl ?_
           refine W.pure (v := (.bool false)) (gk rfl rfl gv342 rfl) rfl (v_pickF (oo rfl rfl) (oo rfl rfl)) ?_
           refine W.pure (v := (.bool false)) rfl rfl (v_pickF (oo rfl gv342) (oo rfl rfl)) ?_
           refine .nil ?_
           obtain rfl := Option.some.inj h344
           exact ⟨false, _, rfl, O334, (GM.le.trans s314 (GM.le.trans s324 (GM.le.trans s328 s335))), rfl⟩
        ·have h345 := neg_b g295 h293
         refine W.skip (gk rfl rfl gv296 rfl) rfl ?_
         refine W.skip (gk rfl rfl gv296 rfl) rfl ?_
         refine W.skip (gk rfl rfl gv296 rfl) rfl ?_
         refine W.skipU rfl rfl rfl rfl ?_
         refine W.skipU rfl rfl rfl rfl ?_
         refine W.skipU rfl rfl rfl rfl ?_
         refine W.skipU rfl rfl rfl rfl ?_
         refine W.skipU rfl rfl rfl rfl ?_
         refine W.skipU rfl rfl rfl rfl ?_
         refine W.skip (gk rfl rfl gv296 rfl) rfl ?_
         refine W.pure (v := (.bool false)) rfl rfl (v_pickF (oo rfl gv296) (oo rfl rfl)) ?_
         refine W.pure (v := (.bool false)) rfl rfl (v_move (oo rfl rfl)) ?_
         refine W.pure (v := (.bool false)) (gk rfl rfl rfl rfl) rfl (v_move (oo rfl (((rfl : _ = Value.bool x279.2)).trans (congrArg Value.bool g295)))) ?_
         refine W.pure (v := (.bool true)) (gk rfl rfl rfl rfl) rfl (bool_not (a := false) (oo rfl rfl)) ?_
         refine W.pure (v := (.bool true)) (gk rfl rfl rfl rfl) rfl (v_move (oo rfl rfl)) ?_
         refine W.pure (v := (.int .i64 x24.2)) (gk rfl rfl rfl rfl) rfl (v_move (oo rfl ((fr189 8 rfl).trans ((fr125 8 rfl).trans ((fr109 8 rfl).trans rfl))))) ?_
         refine W.pure (v := (.bool (x24.2 != 8))) (gk rfl rfl rfl rfl) rfl (v_int (oo rfl rfl) (oo rfl rfl) rfl) ?_
         refine W.pure (v := (.bool (x24.2 != 8))) (gk rfl rfl rfl rfl) rfl (v_move (oo rfl rfl)) ?_
         refine W.splitAt (t := 120) (b := (x24.2 != 8)) rfl (fun g346 gv347 => ?_) (fun g346 gv347 => ?_)
         ·have h348 := pos_inv g346 h345
          refine W.skip (gk rfl rfl gv347 rfl) rfl ?_
          refine W.skip (gk rfl rfl gv347 rfl) rfl ?_
          refine W.skip (gk rfl rfl gv347 rfl) rfl ?_
          refine W.pure (v := (.bool true)) (gk rfl rfl rfl rfl) rfl (v_pickT (oo rfl gv347) (oo rfl rfl)) ?_
          refine W.pure (v := (.bool true)) (gk rfl rfl rfl rfl) rfl (v_pickT (oo rfl rfl) (oo rfl rfl)) ?_
          refine W.pure (v := (.bool true)) rfl rfl (v_pickF (oo rfl rfl) (oo rfl rfl)) ?_
          refine .nil ?_
          obtain ⟨G349, O350, s351, f352⟩ := O283.frzSl (j := 1) rfl
          replace O350 : Ow G349 H291 (eSl w48 9 rS x40.1 :: eVar b2 48 T_Network p0 :: L) := O350
          obtain rfl := Option.some.inj h348
          exact ⟨true, _, rfl, O350, s351, rfl⟩
         ·have h353 := neg_b g346 h345
          refine W.pure (v := w32) (gk rfl rfl gv347 rfl) rfl (v_move (oo rfl ((fr189 7 rfl).trans ((fr125 7 rfl).trans ((fr109 7 rfl).trans rfl))))) ?_
          refine W.pure (v := (.int .i64 (List.length x24.1 : Int))) (gk rfl rfl gv347 rfl) rfl (len_sl (oo rfl rfl) (O283.slLen (j := 1) rfl) (elemT_inv el41)) ?_
          refine W.pure (v := (.bool (decide ((List.length x24.1 : Int) > 0)))) (gk rfl rfl gv347 rfl) rfl (v_int (oo rfl rfl) (oo rfl rfl) rfl) ?_
          refine W.pure (v := (.bool (decide ((List.length x24.1 : Int) > 0)))) (gk rfl rfl rfl rfl) rfl (v_pickF (oo rfl gv347) (oo rfl rfl)) ?_
          refine W.pure (v := (.bool (decide ((List.length x24.1 : Int) > 0)))) (gk rfl rfl rfl rfl) rfl (v_pickT (oo rfl rfl) (oo rfl rfl)) ?_
          refine W.pure (v := (.bool (decide ((List.length x24.1 : Int) > 0)))) rfl rfl (v_pickF (oo rfl rfl) (oo rfl rfl)) ?_
          refine .nil ?_
          obtain ⟨G354, O355, s356, f357⟩ := O283.frzSl (j := 1) rfl
          replace O355 : Ow G354 H291 (eSl w48 9 rS x40.1 :: eVar b2 48 T_Network p0 :: L) := O355
          obtain rfl := Option.some.inj h353
          exact ⟨decide ((List.length x24.1 : Int) > 0), _, rfl, O355, s356, rfl⟩
       ·rintro σ359 H360 fr361 ⟨x358, G362, rfl, O363, s364, t366⟩
        have h367 := tu1_inv h294
        refine .cond (b := x358) rfl t366 (fun g368 => ?_) (fun g368 => ?_)
        ·have h369 := pos_inv g368 h367
         refine .seq ?_
         refine .region ?_
         refine W.pure (v := (.bool false)) rfl rfl (v_assign (oo rfl rfl)) ?_
         refine .nil ?_
         refine .ret ?_
         have O370 : Ow G362 H360 (eVar b2 48 T_Network p0 :: L) := O363.drop 0
         have O371 : Ow G362 H360 (L) := O370.drop 0
         obtain rfl := Option.some.inj h369
         refine ret1R (P := Try.prog) (fn := Try.f8) (n := 185) (R := fun v H' => ∃ G', Ow G' H' (L) ∧ G.le G' ∧ v = .bool false) (v1 := (.bool false)) (by rfl) (rr_tmp (by rfl) (by exact rfl)) ?_
         exact ⟨_, O371, (GM.le.trans s11 (GM.le.trans s29 (GM.le.trans s45 (GM.le.trans s61 (GM.le.trans s112 (GM.le.trans s128 (GM.le.trans s192 (GM.le.trans s215 (GM.le.trans s229 (GM.le.trans s251 (GM.le.trans s267 (GM.le.trans s277 (GM.le.trans s284 s364))))))))))))), rfl⟩
        ·have h372 := neg_b g368 h367
         refine .skip ?_
         refine .seq ?_
         refine .region ?_
         obtain ⟨c373, p374, f375⟩ := (O363.atVar (j := 1) rfl)
         refine W.loadA (cs := c373) rfl rfl ag48 sz48 (pt_px ((fr361 3 rfl).trans ((fr189 3 rfl).trans ((fr125 3 rfl).trans ((fr109 3 rfl).trans rfl)))) p374) (RT.len _ f375) ?_
         obtain ⟨x376, i377, h378⟩ := bd_inv h372
         refine W.lo rfl rfl (Lo.callPF (ps := []) (pw := fun w => [eSl w 3 (rI .i64) x376]) rfl (fn := Try.f40) (by kernel_rfl) rfl (mc rfl mn) O363 (fun L' O' => g_R_Buses_ok K c373 p0 f375 O' _ i377)) ?_
         rintro v387 H388 ⟨w384, G379, O380, s381, sm386, rfl⟩
         replace O380 : Ow G379 H388 (eSl w384 3 (rI .i64) x376 :: eSl w48 9 rS x40.1 :: eVar b2 48 T_Network p0 :: L) := O380
         refine W.pure (v := w384) rfl rfl (v_assign (oo rfl rfl)) ?_
         refine .nil ?_
         refine .seq ?_
         refine .region ?_
         refine W.pure (v := (.slice none 0 0)) rfl rfl (v_assign (oo rfl rfl)) ?_
         refine .nil ?_
         refine .seq ?_
         refine .seq ?_
         refine .region ?_
         obtain ⟨c389, p390, f391⟩ := (O380.atVar (j := 2) rfl)
         refine W.loadA (cs := c389) rfl rfl ag48 sz48 (pt_px ((fr361 3 rfl).trans ((fr189 3 rfl).trans ((fr125 3 rfl).trans ((fr109 3 rfl).trans rfl)))) p390) (RT.len _ f391) ?_
         obtain ⟨x392, i393, h394⟩ := bd_inv h378
         refine W.lo rfl rfl (Lo.callPF (ps := []) (pw := fun w => [eSl w 29 (rArr 2 (rI .i64)) x392]) rfl (fn := Try.f47) (by kernel_rfl) rfl (mc rfl mn) O380 (fun L' O' => g_R_Switching_ok K c389 p0 f391 O' _ i393)) ?_
         rintro v403 H404 ⟨w400, G395, O396, s397, sm402, rfl⟩
         replace O396 : Ow G395 H404 (eSl w400 29 (rArr 2 (rI .i64)) x392 :: eSl w384 3 (rI .i64) x376 :: eSl w48 9 rS x40.1 :: eVar b2 48 T_Network p0 :: L) := O396
         refine W.pure (v := (.int .i64 (List.length x392 : Int))) rfl rfl (len_sl (oo rfl rfl) (O396.slLen (j := 0) rfl) (elemT_inv el22)) ?_
         refine W.pure (v := (.int .i64 0)) rfl rfl (v_move (oo rfl rfl)) ?_
         refine .nil ?_
         obtain ⟨q405, h406, h407⟩ := bd_inv h394
         refine AW.midT (fun σ' H' => ∃ (y1 : List (List Int)) (G' : GM), y1 = q405 ∧ Ow G' H' (eSl w400 29 (rArr 2 (rI .i64)) x392 :: eSl w384 3 (rI .i64) x376 :: eSl w48 9 rS x40.1 :: eVar b2 48 T_Network p0 :: eSl (σ' 17) 29 (rArr 2 (rI .i64)) y1 :: L) ∧ GM.le G395 G') ?_ ?_
         ·refine .block ?_
          have O408 := O396.nilSl 29 (rArr 2 (rI .i64))
          refine AW.loop (α := Nat) (fun k' σ' H' => ∃ (y1 : List (List Int)) (y2 : Int) (G' : GM), g_law_StationPaths_l0 K x376 x392 k' y1 y2 = some q405 ∧ Ow G' H' (eSl (σ' 17) 29 (rArr 2 (rI .i64)) y1 :: eSl w400 29 (rArr 2 (rI .i64)) x392 :: eSl w384 3 (rI .i64) x376 :: eSl w48 9 rS x40.1 :: eVar b2 48 T_Network p0 :: L) ∧ GM.le G395 G' ∧ σ' 132 = .int .i64 y2) (fun k' => k') K ⟨[], 0, _, h406, O408, (GM.le.refl _), rfl⟩ ?_
          rintro k409
          rintro σ412 H413 fr414 ⟨x410, x411, G415, h418, O416, s417, t419⟩
          rcases k409 with _ | k409
          ·exact none_absurd h418
          rw [g_law_StationPaths_l0] at h418
          refine .seq ?_
          refine .region ?_
          refine W.pure (v := (.bool (decide (x411 < (List.length x392 : Int))))) rfl rfl (v_int (oo rfl t419) (oo rfl ((fr414 131 rfl).trans rfl)) rfl) ?_
          refine .nil ?_
          refine .seq ?_
          refine .cond (b := decide (x411 < (List.length x392 : Int))) rfl rfl (fun g420 => ?_) (fun g420 => ?_)
          ·have h421 := pos_inv g420 h418
           refine .skip ?_
           refine .seq ?_
           refine .block ?_
           refine .seq ?_
           refine .region ?_
           obtain ⟨x422, i423, h424⟩ := bd_inv h421
           have j425 := idx_inv i423
           refine W.pure (v := (selem w400 (Int.toNat x411 * 2))) rfl rfl (v_idx el22 sz29 (oo rfl ((fr414 130 rfl).trans rfl)) (oo rfl t419) (O416.slLen (j := 1) rfl) j425.1 j425.2.1) ?_
           obtain ⟨c426, p427, f428⟩ := (O416.atSl (j := 1) rfl j425.2.2)
           refine W.loadA (cs := c426) rfl rfl ag29 sz29 (pt_px rfl p427) (RT.len _ f428) ?_
           refine W.lo rfl rfl (Lo.alloc (r := (rArr 2 (rI .i64))) (x0 := (List.replicate 2 0)) ze29 (by kernel_rfl) (fun G => ⟨by simp, List.replicate 2 [.int .i64 0], rfl, All2.replicate ((zI .i64) G) 2⟩) O416) ?_
           rintro v432 H433 ⟨b430, rfl, O429, sm431⟩
           refine W.lo rfl rfl (Lo.storeVar (j := 0) (s := (rArr 2 (rI .i64))) (y0 := x422) (v := (.agg (List.toArray c426))) (o := 0) rfl ((Put.at (Put.self _) _ _)) rfl sz29 rfl (by omega) rfl f428 O429) ?_
           rintro v436 H437 ⟨O434, sm435⟩
           replace O434 : Ow G415 H437 (eVar b430 29 (rArr 2 (rI .i64)) x422 :: eSl (σ412 17) 29 (rArr 2 (rI .i64)) x410 :: eSl w400 29 (rArr 2 (rI .i64)) x392 :: eSl w384 3 (rI .i64) x376 :: eSl w48 9 rS x40.1 :: eVar b2 48 T_Network p0 :: L) := O434
           refine .nil ?_
           refine .draw2 (M := [0, 0, 0, 4, 14, 30, 0, 0, 128, 448, 960, 2046, 4094, 8191, 16383]) mixed (by kernel_rfl) (by kernel_rfl) fun H438 N442 x439 F441 => ?_
           have O440 := O434.ext x439
           refine D2.pure (v := (σ412 17)) rfl rfl (v_move (oo rfl rfl)) ?_
           refine D2.pure (v := w384) rfl rfl (v_move (oo rfl ((fr414 16 rfl).trans rfl))) ?_
           obtain ⟨x443, i444, h445⟩ := bd_inv h424
           have j446 := idx_inv i444
           refine D2.pure (v := (padd (.pointer (some ⟨b430, 0, none⟩)) (Int.toNat 0 * 1))) rfl rfl (v_idxAA ar29 sz3 (oo rfl rfl) (oo rfl rfl) (O440.atVar (j := 0) rfl) j446.1 j446.2.1) ?_
           refine D2.load1' (v := (.int .i64 x443)) (r := []) rfl rfl ag3 (pt_px rfl (At.int (At.aidx (O440.atVar (j := 0) rfl) j446.2.2))) fa_nil ?_
           obtain ⟨x447, i448, h449⟩ := bd_inv h445
           have j450 := idx_inv i448
           refine D2.pure (v := (selem w384 (Int.toNat x443 * 1))) rfl rfl (v_idx el24 sz3 (oo rfl rfl) (oo rfl rfl) (O440.slLen (j := 3) rfl) j450.1 j450.2.1) ?_
           refine D2.load1' (v := (.int .i64 x447)) (r := []) rfl rfl ag3 (pt_px rfl (At.int (O440.atSl (j := 3) rfl j450.2.2))) fa_nil ?_
           refine D2.pure (v := w384) rfl rfl (v_move (oo rfl ((fr414 16 rfl).trans rfl))) ?_
           obtain ⟨x451, i452, h453⟩ := bd_inv h449
           have j454 := idx_inv i452
           refine D2.pure (v := (padd (.pointer (some ⟨b430, 0, none⟩)) (Int.toNat 1 * 1))) rfl rfl (v_idxAA ar29 sz3 (oo rfl rfl) (oo rfl rfl) (O440.atVar (j := 0) rfl) j454.1 j454.2.1) ?_
           refine D2.load1' (v := (.int .i64 x451)) (r := []) rfl rfl ag3 (pt_px rfl (At.int (At.aidx (O440.atVar (j := 0) rfl) j454.2.2))) fa_nil ?_
           obtain ⟨x455, i456, h457⟩ := bd_inv h453
           have j458 := idx_inv i456
           refine D2.pure (v := (selem w384 (Int.toNat x451 * 1))) rfl rfl (v_idx el24 sz3 (oo rfl rfl) (oo rfl rfl) (O440.slLen (j := 3) rfl) j458.1 j458.2.1) ?_
           refine D2.load1' (v := (.int .i64 x455)) (r := []) rfl rfl ag3 (pt_px rfl (At.int (O440.atSl (j := 3) rfl j458.2.2))) fa_nil ?_
           obtain ⟨c459, e461, f460⟩ := v_buildAA (P := Try.prog) (r := (rI .i64)) (vs := [(.int .i64 x447), (.int .i64 x455)]) (xs := [x447, x455]) ar29 sz3 ze29 zo29 rfl (by kernel_rfl) (.cons rfl (.cons rfl .nil))
           refine D2.pure (v := .agg (List.toArray c459)) rfl rfl (e461 (opndP_oo rfl (qc rfl (qc rfl qn)))) ?_
           refine D2.alloc (m := 15) rfl rfl (Al.buildSlice (r := (rArr 2 (rI .i64))) (vs := [(.agg (List.toArray c459))]) (xs := [[x447, x455]]) el22 ze29 sz29 (by kernel_rfl) rfl (qc rfl qn) rfl (.cons f460 .nil)) (Free.up (by decide) F441) (by decide) O440 ?_
           rintro b463 H464 ⟨O465, sm466, F467⟩
           obtain ⟨es469, e470, e471⟩ := src_own (j := 0) rfl O465
           obtain ⟨g472, h473⟩ := gd_inv h457
           refine D2.lo rfl rfl (Lo.append (j := 2) (v := (σ412 17)) rfl rfl el22 ni22 ze29 sz29 by29 (by decide) (by decide) rfl e470 e471 g472 O465) ?_ fa_nil ?_ ?_
           ·rintro v475 H476 ⟨O468, sm474⟩; exact (faR1 (.inl (by decide)) (faR1 (.inl (by decide)) (faR1 (.inl (by decide)) (faR1 (.inl (by decide)) fa_nil))))
           ·rintro v475 H476 ⟨O468, sm474⟩; exact (faR1 (.inl (by decide)) fa_nil)
           rintro v475 H476 ⟨O468, sm474⟩
           replace O468 : Ow G415 H476 (eSl (.slice (some ⟨b463, 0, some 0⟩) 1 1) 29 (rArr 2 (rI .i64)) [[x447, x455]] :: eVar b430 29 (rArr 2 (rI .i64)) x422 :: eSl v475 29 (rArr 2 (rI .i64)) (x410 ++ [[x447, x455]]) :: eSl w400 29 (rArr 2 (rI .i64)) x392 :: eSl w384 3 (rI .i64) x376 :: eSl w48 9 rS x40.1 :: eVar b2 48 T_Network p0 :: L) := O468
           refine D2.pure (v := v475) rfl rfl (v_assign (oo rfl rfl)) ?_
           refine .nil ?_
           refine .region ?_
           refine W.pure (v := (.int .i64 (kwrap .i64 (x411 + 1)))) rfl rfl (v_int (oo rfl t419) (oo rfl rfl) rfl) ?_
           refine W.pure (v := (.int .i64 (kwrap .i64 (x411 + 1)))) rfl rfl (v_move (oo rfl rfl)) ?_
           refine .nil ?_
           have O477 : Ow G415 H476 (eVar b430 29 (rArr 2 (rI .i64)) x422 :: eSl v475 29 (rArr 2 (rI .i64)) (x410 ++ [[x447, x455]]) :: eSl w400 29 (rArr 2 (rI .i64)) x392 :: eSl w384 3 (rI .i64) x376 :: eSl w48 9 rS x40.1 :: eVar b2 48 T_Network p0 :: L) := O468.drop 0
           have O478 : Ow G415 H476 (eSl v475 29 (rArr 2 (rI .i64)) (x410 ++ [[x447, x455]]) :: eSl w400 29 (rArr 2 (rI .i64)) x392 :: eSl w384 3 (rI .i64) x376 :: eSl w48 9 rS x40.1 :: eVar b2 48 T_Network p0 :: L) := O477.drop 0
           exact ⟨k409, Nat.lt_succ_self _, ⟨(x410 ++ [[x447, x455]]), kwrap .i64 (x411 + 1), _, h473, O478, s417, rfl⟩⟩
          ·have h479 := neg_b g420 h418
           refine .exit ?_
           have O480 : Ow G415 H413 (eSl (σ412 17) 29 (rArr 2 (rI .i64)) x410 :: eSl w400 29 (rArr 2 (rI .i64)) x392 :: eSl w384 3 (rI .i64) x376 :: eSl w48 9 rS x40.1 :: eVar b2 48 T_Network p0 :: L) := O416.front (j := 0) rfl
           have O481 : Ow G415 H413 (eVar b2 48 T_Network p0 :: eSl (σ412 17) 29 (rArr 2 (rI .i64)) x410 :: eSl w400 29 (rArr 2 (rI .i64)) x392 :: eSl w384 3 (rI .i64) x376 :: eSl w48 9 rS x40.1 :: L) := O480.front (j := 4) rfl
           have O482 : Ow G415 H413 (eSl w48 9 rS x40.1 :: eVar b2 48 T_Network p0 :: eSl (σ412 17) 29 (rArr 2 (rI .i64)) x410 :: eSl w400 29 (rArr 2 (rI .i64)) x392 :: eSl w384 3 (rI .i64) x376 :: L) := O481.front (j := 4) rfl
           have O483 : Ow G415 H413 (eSl w384 3 (rI .i64) x376 :: eSl w48 9 rS x40.1 :: eVar b2 48 T_Network p0 :: eSl (σ412 17) 29 (rArr 2 (rI .i64)) x410 :: eSl w400 29 (rArr 2 (rI .i64)) x392 :: L) := O482.front (j := 4) rfl
           have O484 : Ow G415 H413 (eSl w400 29 (rArr 2 (rI .i64)) x392 :: eSl w384 3 (rI .i64) x376 :: eSl w48 9 rS x40.1 :: eVar b2 48 T_Network p0 :: eSl (σ412 17) 29 (rArr 2 (rI .i64)) x410 :: L) := O483.front (j := 4) rfl
           obtain rfl := Option.some.inj h479
           exact ⟨x410, _, rfl, O484, s417⟩
         ·rintro σ486 H487 fr488 ⟨x485, G489, rfl, O490, s491⟩
          have h493 := tu1_inv h407
          refine .seq ?_
          refine .draw2 (M := [0, 1, 0, 0, 0, 24, 56, 0, 0, 384, 896, 0, 4095, 8191, 16383, 16383, 32767, 131071]) mixed (by kernel_rfl) (by kernel_rfl) fun H494 N498 x495 F497 => ?_
          have O496 := O490.ext x495
          refine D2.pure (v := w384) rfl rfl (v_move (oo rfl ((fr488 16 rfl).trans rfl))) ?_
          obtain ⟨x499, i500, h501⟩ := bd_inv h493
          refine D2.lo rfl rfl (Lo.callB (j := 1) rfl rfl (fn := Try.f32) (by kernel_rfl) rfl (mc rfl mn) O496 (fun G' L' hG O' hB => g_R_Most_ok K w384 x376 hB O' _ i500)) ?_ fa_nil ?_ ?_
          ·rintro v508 H509 ⟨G502, O503, s504, sm507, rfl⟩; exact fa_nil
          ·rintro v508 H509 ⟨G502, O503, s504, sm507, rfl⟩; exact fa_nil
          rintro v508 H509 ⟨G502, O503, s504, sm507, rfl⟩
          replace O503 : Ow G502 H509 (eSl w400 29 (rArr 2 (rI .i64)) x392 :: eSl w384 3 (rI .i64) x376 :: eSl w48 9 rS x40.1 :: eVar b2 48 T_Network p0 :: eSl (σ486 17) 29 (rArr 2 (rI .i64)) x485 :: L) := O503
          refine D2.pure (v := (σ486 17)) rfl rfl (v_move (oo rfl rfl)) ?_
          refine D2.pure (v := w384) rfl rfl (v_move (oo rfl ((fr488 16 rfl).trans rfl))) ?_
          refine D2.pure (v := (.int .i64 x210)) rfl rfl (v_move (oo rfl ((fr488 12 rfl).trans ((fr361 12 rfl).trans rfl)))) ?_
          obtain ⟨x510, i511, h512⟩ := bd_inv h501
          have j513 := idx_inv i511
          refine D2.pure (v := (selem w384 (Int.toNat x210 * 1))) rfl rfl (v_idx el24 sz3 (oo rfl rfl) (oo rfl rfl) (O503.slLen (j := 1) rfl) j513.1 j513.2.1) ?_
          refine D2.load1' (v := (.int .i64 x510)) (r := []) rfl rfl ag3 (pt_px rfl (At.int (O503.atSl (j := 1) rfl j513.2.2))) (faQ_eq (sm507 _ (Or.inr ⟨1, _, rfl, (O496.footSl (j := 1) rfl j513.2.2)⟩)) fa_nil) ?_
          refine D2.pure (v := w384) rfl rfl (v_move (oo rfl ((fr488 16 rfl).trans rfl))) ?_
          refine D2.pure (v := (.int .i64 x224)) rfl rfl (v_move (oo rfl ((fr488 13 rfl).trans ((fr361 13 rfl).trans rfl)))) ?_
          obtain ⟨x514, i515, h516⟩ := bd_inv h512
          have j517 := idx_inv i515
          refine D2.pure (v := (selem w384 (Int.toNat x224 * 1))) rfl rfl (v_idx el24 sz3 (oo rfl rfl) (oo rfl rfl) (O503.slLen (j := 1) rfl) j517.1 j517.2.1) ?_
          refine D2.load1' (v := (.int .i64 x514)) (r := []) rfl rfl ag3 (pt_px rfl (At.int (O503.atSl (j := 1) rfl j517.2.2))) (faQ_eq (sm507 _ (Or.inr ⟨1, _, rfl, (O496.footSl (j := 1) rfl j517.2.2)⟩)) fa_nil) ?_
          refine D2.pure (v := (.func (.func 50) #[] #[(.pointer (some ⟨b2, 0, none⟩))])) rfl rfl (v_makeFunc (opndL_ooL rfl mn) (opndL_ooL rfl (mc ((fr488 3 rfl).trans ((fr361 3 rfl).trans ((fr189 3 rfl).trans ((fr125 3 rfl).trans ((fr109 3 rfl).trans rfl))))) mn))) ?_
          obtain ⟨G518, O519, s520, f521⟩ := O503.frzSl (j := 4) rfl
          replace O519 : Ow G518 H509 (eSl w400 29 (rArr 2 (rI .i64)) x392 :: eSl w384 3 (rI .i64) x376 :: eSl w48 9 rS x40.1 :: eVar b2 48 T_Network p0 :: L) := O519
          obtain ⟨G522, O523, s524, f525⟩ := O519.frzVar (j := 3) rfl
          replace O523 : Ow G522 H509 (eSl w400 29 (rArr 2 (rI .i64)) x392 :: eSl w384 3 (rI .i64) x376 :: eSl w48 9 rS x40.1 :: L) := O523
          obtain ⟨x526, i527, h528⟩ := bd_inv h516
          refine D2.lo rfl rfl (Lo.callP (ps := []) (ps' := []) rfl (fn := Try.f20) (by kernel_rfl) rfl (mc rfl (mc rfl (mc rfl (mc rfl (mc rfl mn))))) O523 (fun L' O' => g_R_Shortest_ok K x499 (σ486 17) x485 (RT.mono _ s524 f521) x510 x514 (.func (.func 50) #[] #[(.pointer (some ⟨b2, 0, none⟩))]) (fun x => g_law_StationPaths_1 K x p0) ⟨50, _, _, Try.f50, rfl, by kernel_rfl, rfl, fun G1 H L vs x r hG O hA hF => by obtain rfl := hA; exact g_law_StationPaths_1_ok K x (.pointer (some ⟨b2, 0, none⟩)) p0 (At.le f525 hG hG) O _ hF⟩ O' _ i527)) ?_ (faL_bit (by decide) fa_nil) ?_ ?_
          ·rintro v537 H538 ⟨G529, O530, s531, sm536, ⟨w533, rfl, f534⟩⟩; exact (faR1 (.inl (by decide)) (faR1 (.inl (by decide)) fa_nil))
          ·rintro v537 H538 ⟨G529, O530, s531, sm536, ⟨w533, rfl, f534⟩⟩; exact fa_nil
          rintro v537 H538 ⟨G529, O530, s531, sm536, ⟨w533, rfl, f534⟩⟩
          replace O530 : Ow G529 H538 (eSl w400 29 (rArr 2 (rI .i64)) x392 :: eSl w384 3 (rI .i64) x376 :: eSl w48 9 rS x40.1 :: L) := O530
          refine D2.pure (v := (.tuple #[w533, (.bool x526.2)])) rfl rfl (v_move (oo rfl rfl)) ?_
          refine D2.pure (v := w533) rfl rfl (v_extract (oo rfl rfl) rfl) ?_
          refine D2.pure (v := (.bool x526.2)) rfl rfl (v_extract (oo rfl rfl) rfl) ?_
          refine D2.pure (v := w533) rfl rfl (v_assign (oo rfl rfl)) ?_
          refine D2.pure (v := (.bool x526.2)) rfl rfl (v_assign (oo rfl rfl)) ?_
          refine .nil ?_
          refine .seq ?_
          refine .seq ?_
          refine .region ?_
          refine W.pure (v := (.bool x526.2)) rfl rfl (v_move (oo rfl rfl)) ?_
          refine W.pure (v := (.bool (!x526.2))) rfl rfl (bool_not (a := x526.2) (oo rfl rfl)) ?_
          refine .nil ?_
          refine .cond (b := (!x526.2)) rfl rfl (fun g539 => ?_) (fun g539 => ?_)
          ·have h540 := pos_inv g539 h528
           refine .seq ?_
           obtain ⟨q541, h542, h543⟩ := bd_inv h540
           refine AW.midT (fun σ' H' => ∃ (y1 : Bool) (G' : GM), y1 = q541 ∧ Ow G' H' (eSl w400 29 (rArr 2 (rI .i64)) x392 :: eSl w384 3 (rI .i64) x376 :: eSl w48 9 rS x40.1 :: L) ∧ GM.le G529 G' ∧ σ' 6 = .bool y1) ?_ ?_
           ·refine .region ?_
            refine W.pure (v := (.int .i64 x40.2)) rfl rfl (v_move (oo rfl ((fr488 10 rfl).trans ((fr361 10 rfl).trans ((fr189 10 rfl).trans ((fr125 10 rfl).trans ((fr109 10 rfl).trans rfl))))))) ?_
            refine W.pure (v := (.bool (x40.2 == 8))) rfl rfl (v_int (oo rfl rfl) (oo rfl rfl) rfl) ?_
            refine W.pure (v := (.bool (x40.2 == 8))) rfl rfl (v_move (oo rfl rfl)) ?_
            refine W.splitAt (t := 171) (b := (x40.2 == 8)) rfl (fun g544 gv545 => ?_) (fun g544 gv545 => ?_)
            ·have h546 := pos_inv g544 h542
             refine W.pure (v := w48) (gk rfl rfl gv545 rfl) rfl (v_move (oo rfl ((fr488 9 rfl).trans ((fr361 9 rfl).trans ((fr189 9 rfl).trans ((fr125 9 rfl).trans ((fr109 9 rfl).trans rfl))))))) ?_
             refine W.pure (v := (.int .i64 (List.length x40.1 : Int))) (gk rfl rfl gv545 rfl) rfl (len_sl (oo rfl rfl) (O530.slLen (j := 2) rfl) (elemT_inv el41)) ?_
             refine W.pure (v := (.bool ((List.length x40.1 : Int) == 0))) (gk rfl rfl gv545 rfl) rfl (v_int (oo rfl rfl) (oo rfl rfl) rfl) ?_
             refine W.pure (v := (.bool ((List.length x40.1 : Int) == 0))) rfl rfl (v_pickT (oo rfl gv545) (oo rfl rfl)) ?_
             refine W.pure (v := (.bool ((List.length x40.1 : Int) == 0))) rfl rfl (v_assign (oo rfl rfl)) ?_
             refine .nil ?_
             obtain rfl := Option.some.inj h546
             exact ⟨((List.length x40.1 : Int) == 0), _, rfl, O530, (GM.le.refl _), rfl⟩
            ·have h547 := neg_b g544 h542
             refine W.skip (gk rfl rfl gv545 rfl) rfl ?_
             refine W.skip (gk rfl rfl gv545 rfl) rfl ?_
             refine W.skip (gk rfl rfl gv545 rfl) rfl ?_
             refine W.pure (v := (.bool false)) rfl rfl (v_pickF (oo rfl gv545) (oo rfl rfl)) ?_
             refine W.pure (v := (.bool false)) rfl rfl (v_assign (oo rfl rfl)) ?_
             refine .nil ?_
             obtain rfl := Option.some.inj h547
             exact ⟨false, _, rfl, O530, (GM.le.refl _), rfl⟩
           ·rintro σ549 H550 fr551 ⟨x548, G552, rfl, O553, s554, t556⟩
            have h557 := tu1_inv h543
            refine .ret ?_
            have O558 : Ow G552 H550 (eSl w384 3 (rI .i64) x376 :: eSl w48 9 rS x40.1 :: L) := O553.drop 0
            have O559 : Ow G552 H550 (eSl w48 9 rS x40.1 :: L) := O558.drop 0
            have O560 : Ow G552 H550 (L) := O559.drop 0
            obtain rfl := Option.some.inj h557
            refine ret1R (P := Try.prog) (fn := Try.f8) (n := 185) (R := fun v H' => ∃ G', Ow G' H' (L) ∧ G.le G' ∧ v = .bool x548) (v1 := (.bool x548)) (by rfl) (rr_tmp (by rfl) (by exact t556)) ?_
            exact ⟨_, O560, (GM.le.trans s11 (GM.le.trans s29 (GM.le.trans s45 (GM.le.trans s61 (GM.le.trans s112 (GM.le.trans s128 (GM.le.trans s192 (GM.le.trans s215 (GM.le.trans s229 (GM.le.trans s251 (GM.le.trans s267 (GM.le.trans s277 (GM.le.trans s284 (GM.le.trans s364 (GM.le.trans s381 (GM.le.trans s397 (GM.le.trans s491 (GM.le.trans s504 (GM.le.trans s520 (GM.le.trans s524 (GM.le.trans s531 s554))))))))))))))))))))), rfl⟩
          ·have h561 := neg_b g539 h528
           refine .skip ?_
           refine .seq ?_
           obtain ⟨q562, h563, h564⟩ := bd_inv h561
           refine AW.midT (fun σ' H' => ∃ (y1 : Bool) (G' : GM), y1 = q562 ∧ Ow G' H' (eSl w400 29 (rArr 2 (rI .i64)) x392 :: eSl w384 3 (rI .i64) x376 :: L) ∧ GM.le G529 G' ∧ σ' 6 = .bool y1) ?_ ?_
           ·refine .region ?_
            refine W.pure (v := (.int .i64 x40.2)) rfl rfl (v_move (oo rfl ((fr488 10 rfl).trans ((fr361 10 rfl).trans ((fr189 10 rfl).trans ((fr125 10 rfl).trans ((fr109 10 rfl).trans rfl))))))) ?_
            refine W.pure (v := (.bool (x40.2 == 0))) rfl rfl (v_int (oo rfl rfl) (oo rfl rfl) rfl) ?_
            refine W.pure (v := (.bool (x40.2 == 0))) rfl rfl (v_move (oo rfl rfl)) ?_
            refine W.splitAt (t := 178) (b := (x40.2 == 0)) rfl (fun g565 gv566 => ?_) (fun g565 gv566 => ?_)
            ·have h567 := pos_inv g565 h563
             refine W.pure (v := w48) (gk rfl rfl gv566 rfl) rfl (v_move (oo rfl ((fr488 9 rfl).trans ((fr361 9 rfl).trans ((fr189 9 rfl).trans ((fr125 9 rfl).trans ((fr109 9 rfl).trans rfl))))))) ?_
             obtain ⟨c568, p569, f570⟩ := (At.le (At.le f525 s531 s531) (GM.le.refl _) O530.fro)
             refine W.loadA (cs := c568) (gk rfl rfl gv566 rfl) rfl ag48 sz48 (pt_px ((fr488 3 rfl).trans ((fr361 3 rfl).trans ((fr189 3 rfl).trans ((fr125 3 rfl).trans ((fr109 3 rfl).trans rfl))))) p569) (RT.len _ f570) ?_
             refine W.pure (v := w533) (gk rfl rfl gv566 rfl) rfl (v_move (oo rfl rfl)) ?_
             obtain ⟨x571, i572, h573⟩ := bd_inv h567
             refine W.lo (gk rfl rfl gv566 rfl) rfl (Lo.callPF (ps := []) (pw := fun w => [eSl w 9 rS x571]) rfl (fn := Try.f49) (by kernel_rfl) rfl (mc rfl (mc rfl mn)) O530 (fun L' O' => g_law_named_ok K c568 p0 f570 w533 x526.1 f534 O' _ i572)) ?_
             rintro v582 H583 ⟨w579, G574, O575, s576, sm581, rfl⟩
             replace O575 : Ow G574 H583 (eSl w579 9 rS x571 :: eSl w400 29 (rArr 2 (rI .i64)) x392 :: eSl w384 3 (rI .i64) x376 :: eSl w48 9 rS x40.1 :: L) := O575
             obtain ⟨G584, O585, s586, f587⟩ := O575.frzSl (j := 3) rfl
             replace O585 : Ow G584 H583 (eSl w579 9 rS x571 :: eSl w400 29 (rArr 2 (rI .i64)) x392 :: eSl w384 3 (rI .i64) x376 :: L) := O585
             obtain ⟨G588, O589, s590, f591⟩ := O585.frzSl (j := 0) rfl
             replace O589 : Ow G588 H583 (eSl w400 29 (rArr 2 (rI .i64)) x392 :: eSl w384 3 (rI .i64) x376 :: L) := O589
             obtain ⟨x592, i593, h594⟩ := bd_inv h573
             refine W.lo (gk rfl rfl gv566 rfl) rfl (Lo.callP (ps := []) (ps' := []) rfl (fn := Try.f41) (by kernel_rfl) rfl (mc rfl (mc rfl mn)) O589 (fun L' O' => g_slices_Equal_string_string_ok K w48 x40.1 (RT.mono _ s590 f587) w579 x571 f591 O' _ i593)) ?_
             rintro v601 H602 ⟨G595, O596, s597, sm600, rfl⟩
             replace O596 : Ow G595 H602 (eSl w400 29 (rArr 2 (rI .i64)) x392 :: eSl w384 3 (rI .i64) x376 :: L) := O596
             refine W.pure (v := (.bool x592)) rfl rfl (v_pickT (oo rfl gv566) (oo rfl rfl)) ?_
             refine W.pure (v := (.bool x592)) rfl rfl (v_assign (oo rfl rfl)) ?_
             refine .nil ?_
             obtain rfl := Option.some.inj h594
             exact ⟨x592, _, rfl, O596, (GM.le.trans s576 (GM.le.trans s586 (GM.le.trans s590 s597))), rfl⟩
            ·have h603 := neg_b g565 h563
             refine W.skip (gk rfl rfl gv566 rfl) rfl ?_
             refine W.skip (gk rfl rfl gv566 rfl) rfl ?_
             refine W.skip (gk rfl rfl gv566 rfl) rfl ?_
             refine W.skip (gk rfl rfl gv566 rfl) rfl ?_
             refine W.skip (gk rfl rfl gv566 rfl) rfl ?_
             refine W.pure (v := (.bool false)) rfl rfl (v_pickF (oo rfl gv566) (oo rfl rfl)) ?_
             refine W.pure (v := (.bool false)) rfl rfl (v_assign (oo rfl rfl)) ?_
             refine .nil ?_
             obtain ⟨G604, O605, s606, f607⟩ := O530.frzSl (j := 2) rfl
             replace O605 : Ow G604 H538 (eSl w400 29 (rArr 2 (rI .i64)) x392 :: eSl w384 3 (rI .i64) x376 :: L) := O605
             obtain rfl := Option.some.inj h603
             exact ⟨false, _, rfl, O605, s606, rfl⟩
           ·rintro σ609 H610 fr611 ⟨x608, G612, rfl, O613, s614, t616⟩
            have h617 := tu1_inv h564
            refine .ret ?_
            have O618 : Ow G612 H610 (eSl w384 3 (rI .i64) x376 :: L) := O613.drop 0
            have O619 : Ow G612 H610 (L) := O618.drop 0
            obtain rfl := Option.some.inj h617
            refine ret1R (P := Try.prog) (fn := Try.f8) (n := 185) (R := fun v H' => ∃ G', Ow G' H' (L) ∧ G.le G' ∧ v = .bool x608) (v1 := (.bool x608)) (by rfl) (rr_tmp (by rfl) (by exact t616)) ?_
            exact ⟨_, O619, (GM.le.trans s11 (GM.le.trans s29 (GM.le.trans s45 (GM.le.trans s61 (GM.le.trans s112 (GM.le.trans s128 (GM.le.trans s192 (GM.le.trans s215 (GM.le.trans s229 (GM.le.trans s251 (GM.le.trans s267 (GM.le.trans s277 (GM.le.trans s284 (GM.le.trans s364 (GM.le.trans s381 (GM.le.trans s397 (GM.le.trans s491 (GM.le.trans s504 (GM.le.trans s520 (GM.le.trans s524 (GM.le.trans s531 s614))))))))))))))))))))), rfl⟩
end Go.Am.Try
