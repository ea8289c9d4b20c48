/- Typed functions with the same answers as the program's, and the walks that show it. -/
import Derived.Test.YtlcdhgcfamjioaaP5x1
namespace Go.Am.Try
open Go Go.Am Go.Proofs
set_option linter.unusedVariables false
set_option linter.unusedSimpArgs false
set_option maxRecDepth 10000

def g_R_Joined_l0 (K : Nat) (p0 : Int) : Nat → List (List Bool) → Int → Option (List (List Bool))
  | 0, _, _ => none
  | k + 1, x12, x13 => (lt (decide (x13 < (List.length (List.replicate (Int.toNat p0) ([] : List Bool)) : Int))) fun x23 => (if x23 = true then (if 0 ≤ p0 ∧ p0 ≤ p0 ∧ p0 ≤ 16777216 then ((idx x12 x13).bind fun x34 => ((idx (List.set x12 (Int.toNat x13) (List.replicate (Int.toNat p0) false)) x13).bind fun x50 => ((idx x50 x13).bind fun x59 => g_R_Joined_l0 K p0 k (List.set (List.set x12 (Int.toNat x13) (List.replicate (Int.toNat p0) false)) (Int.toNat x13) (List.set x50 (Int.toNat x13) true)) (kwrap .i64 (x13 + 1))))) else none) else some x12))
def g_R_Joined_l2 (K : Nat) (p1 : List (List Int)) (p2 : Int → Option Bool) : Nat → List (List Bool) → Int → Option (List (List Bool))
  | 0, _, _ => none
  | k + 1, x83, x84 => (if (decide (x84 < (List.length p1 : Int))) = true then (Option.bind (((idx p1 x84).bind fun x98 => ((p2 x84).bind fun x114 => (if x114 = true then ((idx x98 0).bind fun x130 => ((idx x83 x130).bind fun x134 => ((idx x98 1).bind fun x142 => ((idx x98 1).bind fun x146 => ((idx x83 x146).bind fun x150 => ((idx x98 0).bind fun x158 => ((idx x134 x142).bind fun x163 => ((idx (List.set x83 (Int.toNat x130) (List.set x134 (Int.toNat x142) true)) x146).bind fun x172 => ((idx x172 x158).bind fun x177 => some (List.set (List.set x83 (Int.toNat x130) (List.set x134 (Int.toNat x142) true)) (Int.toNat x146) (List.set x172 (Int.toNat x158) true))))))))))) else some x83)))) (tu1 fun x189 => g_R_Joined_l2 K p1 p2 k x189 (kwrap .i64 (x84 + 1)))) else some x83)
def g_R_Joined_l8 (K : Nat) (p0 : Int) (x213 : Int) (x229 : Int) : Nat → List (List Bool) → Int → Option (List (List Bool))
  | 0, _, _ => none
  | k + 1, x244, x245 => (if (decide (x245 < p0)) = true then (Option.bind (((idx x244 x229).bind fun x264 => ((idx x244 x229).bind fun x272 => ((idx x272 x245).bind fun x281 => (if x281 = true then ((idx x264 x245).bind fun x290 => some (List.set x244 (Int.toNat x229) (List.set x264 (Int.toNat x245) true))) else ((idx x244 x229).bind fun x301 => ((idx x301 x213).bind fun x310 => (if x310 = true then ((idx x244 x213).bind fun x318 => ((idx x318 x245).bind fun x327 => ((idx x264 x245).bind fun x333 => some (List.set x244 (Int.toNat x229) (List.set x264 (Int.toNat x245) x327))))) else ((idx x264 x245).bind fun x345 => some (List.set x244 (Int.toNat x229) (List.set x264 (Int.toNat x245) false))))))))))) (tu1 fun x354 => g_R_Joined_l8 K p0 x213 x229 k x354 (kwrap .i64 (x245 + 1)))) else some x244)
def g_R_Joined_l6 (K : Nat) (p0 : Int) (x213 : Int) : Nat → List (List Bool) → Int → Option (List (List Bool))
  | 0, _, _ => none
  | k + 1, x228, x229 => (if (decide (x229 < p0)) = true then (Option.bind (g_R_Joined_l8 K p0 x213 x229 K x228 0) (tu1 fun x364 => g_R_Joined_l6 K p0 x213 k x364 (kwrap .i64 (x229 + 1)))) else some x228)
def g_R_Joined_l4 (K : Nat) (p0 : Int) : Nat → List (List Bool) → Int → Option (List (List Bool))
  | 0, _, _ => none
  | k + 1, x212, x213 => (if (decide (x213 < p0)) = true then (Option.bind (g_R_Joined_l6 K p0 x213 K x212 0) (tu1 fun x374 => g_R_Joined_l4 K p0 k x374 (kwrap .i64 (x213 + 1)))) else some x212)
def g_R_Joined (K : Nat) (p0 : Int) (p1 : List (List Int)) (p2 : Int → Option Bool) : Option (List (List Bool)) := (if 0 ≤ p0 ∧ p0 ≤ p0 ∧ p0 ≤ 16777216 then (Option.bind (g_R_Joined_l0 K p0 K (List.replicate (Int.toNat p0) ([] : List Bool)) 0) (tu1 fun x69 => (Option.bind (g_R_Joined_l2 K p1 p2 K x69 0) (tu1 fun x199 => (Option.bind (g_R_Joined_l4 K p0 K x199 0) (tu1 fun x384 => some x384)))))) else none)
set_option maxHeartbeats 4000000 in
theorem g_R_Joined_ok (K : Nat) {G : GM} {H : AH} {L : List Pc} (p0 : Int) (v1 : Value) (p1 : List (List Int)) (hp1 : (rSl (rArr 2 (rI .i64))).rep G [v1] p1) (v2 : Value) (p2 : Int → Option Bool) (hp2 : FnOk Try.prog G v2 (fun _ vs (x : (Int)) => vs = [.int .i64 x]) (fun _ v (rr : (Bool)) => v = .bool rr) p2) (O : Ow G H (L)) (r : List (List Bool)) (h : g_R_Joined K p0 p1 p2 = some r) :
    CR Try.prog 14 [(.int .i64 p0), v1, v2] G H (L) (fun v G' _ => ∃ (w0 : Value), w0 = v ∧ (rSl (rSl rB)).rep G' [w0] r) := by
  unfold g_R_Joined at h
  refine CR.of (calls_of_AW (n := 107) (fn := Try.f14) (R := fun v H' => ∃ G', Ow G' H' (L) ∧ G.le G' ∧ ∃ (w0 : Value), w0 = v ∧ (rSl (rSl rB)).rep G' [w0] r) (by kernel_rfl) rfl rfl ?_)
  refine .seq ?_
  refine .region ?_
  refine W.pure (v := (.slice none 0 0)) rfl rfl (v_assign (oo rfl rfl)) ?_
  refine .nil ?_
  refine .seq ?_
  refine .region ?_
  refine W.pure (v := (.int .i64 p0)) rfl rfl (v_move (oo rfl rfl)) ?_
  obtain ⟨g2, h3⟩ := gd_inv h
  refine W.lo rfl rfl (Lo.makeRows (a := p0) (c := p0) rB 4 rfl el31 ze30 sz30 by30 (by decide) rfl rfl g2 O) ?_
  rintro v6 H7 ⟨ws4, O1, sm5⟩
  refine W.pure (v := v6) rfl rfl (v_assign (oo rfl rfl)) ?_
  refine .nil ?_
  refine .seq ?_
  refine .seq ?_
  refine .region ?_
  refine W.pure (v := v6) rfl rfl (v_move (oo rfl rfl)) ?_
  refine W.pure (v := (.int .i64 (List.length (List.replicate (Int.toNat p0) ([] : List Bool)) : Int))) rfl rfl (len_sl (oo rfl rfl) (O1.rowsLen (j := 0) rfl) (elemT_inv el31)) ?_
  refine W.pure (v := (.int .i64 0)) rfl rfl (v_move (oo rfl rfl)) ?_
  refine .nil ?_
  obtain ⟨q8, h9, h10⟩ := bd_inv h3
  refine AW.midT (fun σ' H' => ∃ (y1 : List (List Bool)) (ws_p15 : List Value) (G' : GM), y1 = q8 ∧ Ow G' H' (eRows v6 30 ws_p15 [] 4 rB y1 :: L) ∧ GM.le G G') ?_ ?_
  · refine .block ?_
    refine AW.loop (α := Nat) (fun k' σ' H' => ∃ (y1 : List (List Bool)) (y2 : Int) (ws_p15 : List Value) (G' : GM), g_R_Joined_l0 K p0 k' y1 y2 = some q8 ∧ Ow G' H' (eRows v6 30 ws_p15 [] 4 rB y1 :: L) ∧ GM.le G G' ∧ σ' 18 = .int .i64 y2) (fun k' => k') K ⟨(List.replicate (Int.toNat p0) ([] : List Bool)), 0, ws4, _, h9, O1, (GM.le.refl _), rfl⟩ ?_
    rintro k11
    rintro σ14 H15 fr16 ⟨x12, x13, ws21, G17, h20, O18, s19, t22⟩
    rcases k11 with _ | k11
    · exact none_absurd h20
    rw [g_R_Joined_l0] at h20
    refine .seq ?_
    refine .region ?_
    refine W.pure (v := (.bool (decide (x13 < (List.length (List.replicate (Int.toNat p0) ([] : List Bool)) : Int))))) rfl rfl (v_int (oo rfl t22) (oo rfl ((fr16 17 rfl).trans rfl)) rfl) ?_
    obtain ⟨x23, e24, h25⟩ := lt_inv h20
    refine .nil ?_
    refine .seq ?_
    refine .cond (b := x23) rfl (congrArg (Value.bool) e24) (fun g26 => ?_) (fun g26 => ?_)
    · have h27 := pos_inv g26 h25
      refine .skip ?_
      refine .seq ?_
      refine .block ?_
      refine .seq ?_
      refine .region ?_
      refine W.pure (v := (.int .i64 x13)) rfl rfl (v_move (oo rfl t22)) ?_
      refine W.pure (v := (.int .i64 x13)) rfl rfl (v_assign (oo rfl rfl)) ?_
      refine .nil ?_
      refine .seq ?_
      refine .region ?_
      refine W.pure (v := v6) rfl rfl (v_move (oo rfl ((fr16 7 rfl).trans rfl))) ?_
      refine W.pure (v := (.int .i64 x13)) rfl rfl (v_move (oo rfl rfl)) ?_
      refine W.pure (v := (.int .i64 p0)) rfl rfl (v_move (oo rfl ((fr16 0 rfl).trans rfl))) ?_
      obtain ⟨g29, h30⟩ := gd_inv h27
      refine W.lo rfl rfl (Lo.makeSlice (r := rB) (x0 := false) (a := p0) (c := p0) rfl el30 ze4 sz4 (by kernel_rfl) rfl by4 (by decide) rfl rfl g29 zB O18) ?_
      rintro v32 H33 ⟨O28, sm31⟩
      obtain ⟨x34, i35, h36⟩ := bd_inv h30
      have j37 := idx_inv i35
      refine W.pure (v := (selem v6 (Int.toNat x13 * 1))) rfl rfl (v_idx el31 sz30 (oo rfl rfl) (oo rfl rfl) (O28.rowsLen (j := 1) rfl) j37.1 j37.2.1) ?_
      obtain ⟨w38, e39, p40, k41⟩ := O28.rowVal (j := 1) rfl j37.2.2
      have O42 := O28.takeRow (j := 1) rfl e39 j37.2.2 List.not_mem_nil
      replace O42 : Ow G17 H33 (eSl w38 4 rB x34 :: eSl v32 4 rB (List.replicate (Int.toNat p0) false) :: eRows v6 30 ws21 [Int.toNat x13] 4 rB x12 :: L) := O42
      have O43 : Ow G17 H33 (eSl v32 4 rB (List.replicate (Int.toNat p0) false) :: eRows v6 30 ws21 [Int.toNat x13] 4 rB x12 :: L) := O42.drop 0
      have e45 := O43.cellsSl (j := 0) rfl
      refine W.lo rfl rfl (Lo.storeRow (j := 1) (i := Int.toNat x13) rfl (List.getElem?_eq_some_iff.1 j37.2.2).1 rfl sz30 rfl rfl e45.1 e45.2 O43) ?_
      rintro v47 H48 ⟨O44, sm46⟩
      replace O44 : Ow G17 H48 (eSl v32 4 rB (List.replicate (Int.toNat p0) false) :: eRows v6 30 (List.set ws21 (Int.toNat x13) v32) [Int.toNat x13] 4 rB x12 :: L) := O44
      refine .nil ?_
      refine .region ?_
      refine W.pure (v := v6) rfl rfl (v_move (oo rfl ((fr16 7 rfl).trans rfl))) ?_
      refine W.pure (v := (.int .i64 x13)) rfl rfl (v_move (oo rfl rfl)) ?_
      have O49 := O44.putRow (j := 0) rfl (set_at e39)
      replace O49 : Ow G17 H48 (eRows v6 30 (List.set ws21 (Int.toNat x13) v32) [] 4 rB (List.set x12 (Int.toNat x13) (List.replicate (Int.toNat p0) false)) :: L) := O49
      obtain ⟨x50, i51, h52⟩ := bd_inv h36
      have j53 := idx_inv i51
      refine W.pure (v := (selem v6 (Int.toNat x13 * 1))) rfl rfl (v_idx el31 sz30 (oo rfl rfl) (oo rfl rfl) (O49.rowsLen (j := 0) rfl) j53.1 j53.2.1) ?_
      obtain ⟨w54, e55, p56, k57⟩ := O49.rowVal (j := 0) rfl j53.2.2
      refine W.load1 (v := w54) (r := []) rfl rfl ag30 (pt_px rfl p56) ?_
      refine W.pure (v := (.int .i64 x13)) rfl rfl (v_move (oo rfl rfl)) ?_
      have O58 := O49.takeRow (j := 0) rfl e55 j53.2.2 List.not_mem_nil
      replace O58 : Ow G17 H48 (eSl w54 4 rB x50 :: eRows v6 30 (List.set ws21 (Int.toNat x13) v32) [Int.toNat x13] 4 rB (List.set x12 (Int.toNat x13) (List.replicate (Int.toNat p0) false)) :: L) := O58
      obtain ⟨x59, i60, h61⟩ := bd_inv h52
      have j62 := idx_inv i60
      refine W.pure (v := (selem w54 (Int.toNat x13 * 1))) rfl rfl (v_idx el30 sz4 (oo rfl rfl) (oo rfl rfl) (O58.slLen (j := 0) rfl) j62.1 j62.2.1) ?_
      refine W.lo rfl rfl (Lo.storeSl0 (j := 0) (y0 := true) (v := (.bool true)) rfl j62.2.2  rfl sz4 rfl rfl rfl O58) ?_
      rintro v65 H66 ⟨O63, sm64⟩
      replace O63 : Ow G17 H66 (eSl w54 4 rB (List.set x50 (Int.toNat x13) true) :: eRows v6 30 (List.set ws21 (Int.toNat x13) v32) [Int.toNat x13] 4 rB (List.set x12 (Int.toNat x13) (List.replicate (Int.toNat p0) false)) :: L) := O63
      refine .nil ?_
      refine .region ?_
      refine W.pure (v := (.int .i64 (kwrap .i64 (x13 + 1)))) rfl rfl (v_int (oo rfl t22) (oo rfl rfl) rfl) ?_
      refine W.pure (v := (.int .i64 (kwrap .i64 (x13 + 1)))) rfl rfl (v_move (oo rfl rfl)) ?_
      refine .nil ?_
      have O67 := O63.putRow (j := 0) rfl e55
      replace O67 : Ow G17 H66 (eRows v6 30 (List.set ws21 (Int.toNat x13) v32) [] 4 rB (List.set (List.set x12 (Int.toNat x13) (List.replicate (Int.toNat p0) false)) (Int.toNat x13) (List.set x50 (Int.toNat x13) true)) :: L) := O67
      exact ⟨k11, Nat.lt_succ_self _, ⟨(List.set (List.set x12 (Int.toNat x13) (List.replicate (Int.toNat p0) false)) (Int.toNat x13) (List.set x50 (Int.toNat x13) true)), kwrap .i64 (x13 + 1), (List.set ws21 (Int.toNat x13) v32), _, h61, O67, s19, rfl⟩⟩
    · have h68 := neg_b g26 h25
      refine .exit ?_
      obtain rfl := Option.some.inj h68
      exact ⟨x12, ws21, _, rfl, O18, s19⟩
  · rintro σ70 H71 fr72 ⟨x69, ws77, G73, rfl, O74, s75⟩
    have h78 := tu1_inv h10
    refine .seq ?_
    refine .seq ?_
    refine .region ?_
    refine W.pure (v := v1) rfl rfl (v_move (oo rfl ((fr72 1 rfl).trans rfl))) ?_
    refine W.pure (v := (.int .i64 (List.length p1 : Int))) rfl rfl (len_sl (oo rfl rfl) (sl_len (RT.mono _ s75 hp1)) (elemT_inv el22)) ?_
    refine W.pure (v := (.int .i64 0)) rfl rfl (v_move (oo rfl rfl)) ?_
    refine .nil ?_
    obtain ⟨q79, h80, h81⟩ := bd_inv h78
    refine AW.midT (fun σ' H' => ∃ (y1 : List (List Bool)) (G' : GM), y1 = q79 ∧ Ow G' H' (eRows v6 30 ws77 [] 4 rB y1 :: L) ∧ GM.le G73 G') ?_ ?_
    · refine .block ?_
      refine AW.loop (α := Nat) (fun k' σ' H' => ∃ (y1 : List (List Bool)) (y2 : Int) (G' : GM), g_R_Joined_l2 K p1 p2 k' y1 y2 = some q79 ∧ Ow G' H' (eRows v6 30 ws77 [] 4 rB y1 :: L) ∧ GM.le G73 G' ∧ σ' 35 = .int .i64 y2) (fun k' => k') K ⟨x69, 0, _, h80, O74, (GM.le.refl _), rfl⟩ ?_
      rintro k82
      rintro σ85 H86 fr87 ⟨x83, x84, G88, h91, O89, s90, t92⟩
      rcases k82 with _ | k82
      · exact none_absurd h91
      rw [g_R_Joined_l2] at h91
      refine .seq ?_
      refine .region ?_
      refine W.pure (v := (.bool (decide (x84 < (List.length p1 : Int))))) rfl rfl (v_int (oo rfl t92) (oo rfl ((fr87 34 rfl).trans rfl)) rfl) ?_
      refine .nil ?_
      refine .seq ?_
      refine .cond (b := decide (x84 < (List.length p1 : Int))) rfl rfl (fun g93 => ?_) (fun g93 => ?_)
      · have h94 := pos_inv g93 h91
        refine .skip ?_
        refine .seq ?_
        obtain ⟨q95, h96, h97⟩ := bd_inv h94
        refine AW.midT (fun σ' H' => ∃ (y1 : List (List Bool)) (G' : GM), y1 = q95 ∧ Ow G' H' (eRows v6 30 ws77 [] 4 rB y1 :: L) ∧ GM.le G88 G') ?_ ?_
        · refine .block ?_
          refine .seq ?_
          refine .region ?_
          refine W.pure (v := (.int .i64 x84)) rfl rfl (v_move (oo rfl t92)) ?_
          obtain ⟨x98, i99, h100⟩ := bd_inv h96
          have j101 := idx_inv i99
          refine W.pure (v := (selem v1 (Int.toNat x84 * 2))) rfl rfl (v_idx el22 sz29 (oo rfl ((fr87 33 rfl).trans rfl)) (oo rfl t92) (sl_len (RT.mono _ (GM.le.trans s75 s90) hp1)) j101.1 j101.2.1) ?_
          obtain ⟨c102, p103, f104⟩ := (At.le (At.le (sl_idx hp1 j101.2.2) (GM.le.trans s75 s90) (GM.le.trans s75 s90)) (GM.le.refl _) O89.fro)
          refine W.loadA (cs := c102) rfl rfl ag29 sz29 (pt_px rfl p103) (RT.len _ f104) ?_
          refine W.lo rfl rfl (Lo.alloc (r := (rArr 2 (rI .i64))) (x0 := (List.replicate 2 0)) ze29 (by kernel_rfl) (fun G => ⟨by simp, List.replicate 2 [.int .i64 0], rfl, All2.replicate ((zI .i64) G) 2⟩) O89) ?_
          rintro v108 H109 ⟨b106, rfl, O105, sm107⟩
          refine W.pure (v := (.int .i64 x84)) rfl rfl (v_assign (oo rfl rfl)) ?_
          refine W.lo rfl rfl (Lo.storeVar (j := 0) (s := (rArr 2 (rI .i64))) (y0 := x98) (v := (.agg (List.toArray c102))) (o := 0) rfl ((Put.at (Put.self _) _ _)) rfl sz29 rfl (by omega) rfl f104 O105) ?_
          rintro v112 H113 ⟨O110, sm111⟩
          replace O110 : Ow G88 H113 (eVar b106 29 (rArr 2 (rI .i64)) x98 :: eRows v6 30 ws77 [] 4 rB x83 :: L) := O110
          refine .nil ?_
          refine .seq ?_
          refine .region ?_
          refine W.pure (v := v2) rfl rfl (v_move (oo rfl ((fr87 2 rfl).trans ((fr72 2 rfl).trans rfl)))) ?_
          refine W.pure (v := (.int .i64 x84)) rfl rfl (v_move (oo rfl rfl)) ?_
          obtain ⟨x114, i115, h116⟩ := bd_inv h100
          refine W.lo rfl rfl (Lo.callF (x0 := x84) rfl rfl (FnOk.le hp2 (GM.le.trans s75 s90)) (mc rfl mn) rfl i115 O110) ?_
          rintro v121 H122 ⟨G117, O118, s119, sm120, rfl⟩
          refine .nil ?_
          refine .cond (b := x114) rfl rfl (fun g123 => ?_) (fun g123 => ?_)
          · have h124 := pos_inv g123 h116
            refine .draw2 (M := [0, 0, 2, 7, 15, 0, 32, 0, 0, 256, 896, 1920, 0, 4096, 4095, 20479, 65535, 131071]) mixed (by kernel_rfl) (by kernel_rfl) fun H125 N129 x126 F128 => ?_
            have O127 := O118.ext x126
            refine D2.pure (v := v6) rfl rfl (v_move (oo rfl ((fr87 7 rfl).trans ((fr72 7 rfl).trans rfl)))) ?_
            obtain ⟨x130, i131, h132⟩ := bd_inv h124
            have j133 := idx_inv i131
            refine D2.pure (v := (padd (.pointer (some ⟨b106, 0, none⟩)) (Int.toNat 0 * 1))) rfl rfl (v_idxAA ar29 sz3 (oo rfl rfl) (oo rfl rfl) (O127.atVar (j := 0) rfl) j133.1 j133.2.1) ?_
            refine D2.load1' (v := (.int .i64 x130)) (r := []) rfl rfl ag3 (pt_px rfl (At.int (At.aidx (O127.atVar (j := 0) rfl) j133.2.2))) fa_nil ?_
            obtain ⟨x134, i135, h136⟩ := bd_inv h132
            have j137 := idx_inv i135
            refine D2.pure (v := (selem v6 (Int.toNat x130 * 1))) rfl rfl (v_idx el31 sz30 (oo rfl rfl) (oo rfl rfl) (O127.rowsLen (j := 1) rfl) j137.1 j137.2.1) ?_
            obtain ⟨w138, e139, p140, k141⟩ := O127.rowVal (j := 1) rfl j137.2.2
            refine D2.load1' (v := w138) (r := []) rfl rfl ag30 (pt_px rfl p140) fa_nil ?_
            obtain ⟨x142, i143, h144⟩ := bd_inv h136
            have j145 := idx_inv i143
            refine D2.pure (v := (padd (.pointer (some ⟨b106, 0, none⟩)) (Int.toNat 1 * 1))) rfl rfl (v_idxAA ar29 sz3 (oo rfl rfl) (oo rfl rfl) (O127.atVar (j := 0) rfl) j145.1 j145.2.1) ?_
            refine D2.load1' (v := (.int .i64 x142)) (r := []) rfl rfl ag3 (pt_px rfl (At.int (At.aidx (O127.atVar (j := 0) rfl) j145.2.2))) fa_nil ?_
            refine D2.pure (v := v6) rfl rfl (v_move (oo rfl ((fr87 7 rfl).trans ((fr72 7 rfl).trans rfl)))) ?_
            obtain ⟨x146, i147, h148⟩ := bd_inv h144
            have j149 := idx_inv i147
            refine D2.pure (v := (padd (.pointer (some ⟨b106, 0, none⟩)) (Int.toNat 1 * 1))) rfl rfl (v_idxAA ar29 sz3 (oo rfl rfl) (oo rfl rfl) (O127.atVar (j := 0) rfl) j149.1 j149.2.1) ?_
            refine D2.load1' (v := (.int .i64 x146)) (r := []) rfl rfl ag3 (pt_px rfl (At.int (At.aidx (O127.atVar (j := 0) rfl) j149.2.2))) fa_nil ?_
            obtain ⟨x150, i151, h152⟩ := bd_inv h148
            have j153 := idx_inv i151
            refine D2.pure (v := (selem v6 (Int.toNat x146 * 1))) rfl rfl (v_idx el31 sz30 (oo rfl rfl) (oo rfl rfl) (O127.rowsLen (j := 1) rfl) j153.1 j153.2.1) ?_
            obtain ⟨w154, e155, p156, k157⟩ := O127.rowVal (j := 1) rfl j153.2.2
            refine D2.load1' (v := w154) (r := []) rfl rfl ag30 (pt_px rfl p156) fa_nil ?_
            obtain ⟨x158, i159, h160⟩ := bd_inv h152
            have j161 := idx_inv i159
            refine D2.pure (v := (padd (.pointer (some ⟨b106, 0, none⟩)) (Int.toNat 0 * 1))) rfl rfl (v_idxAA ar29 sz3 (oo rfl rfl) (oo rfl rfl) (O127.atVar (j := 0) rfl) j161.1 j161.2.1) ?_
            refine D2.load1' (v := (.int .i64 x158)) (r := []) rfl rfl ag3 (pt_px rfl (At.int (At.aidx (O127.atVar (j := 0) rfl) j161.2.2))) fa_nil ?_
            have O162 := O127.takeRow (j := 1) rfl e139 j137.2.2 List.not_mem_nil
            replace O162 : Ow G117 H125 (eSl w138 4 rB x134 :: eVar b106 29 (rArr 2 (rI .i64)) x98 :: eRows v6 30 ws77 [Int.toNat x130] 4 rB x83 :: L) := O162
            obtain ⟨x163, i164, h165⟩ := bd_inv h160
            have j166 := idx_inv i164
            refine D2.pure (v := (selem w138 (Int.toNat x142 * 1))) rfl rfl (v_idx el30 sz4 (oo rfl rfl) (oo rfl rfl) (O162.slLen (j := 0) rfl) j166.1 j166.2.1) ?_
            refine D2.lo rfl rfl (Lo.storeSl0 (j := 0) (y0 := true) (v := (.bool true)) rfl j166.2.2  rfl sz4 rfl rfl rfl O162) ?_ fa_nil ?_ ?_
            · rintro v169 H170 ⟨O167, sm168⟩; exact (faR1 (.inr (sm168 _ (O162.neP (i := 1) (j := 0) (by decide) rfl rfl (List.mem_singleton.2 rfl) (O162.footSl' (j := 0) rfl j166.2.2)))) (faR1 (.inl (by decide)) (faR1 (.inl (by decide)) (faR1 (.inl (by decide)) (faR1 (.inl (by decide)) (faR1 (.inl (by decide)) fa_nil))))))
            · rintro v169 H170 ⟨O167, sm168⟩; exact fa_nil
            rintro v169 H170 ⟨O167, sm168⟩
            replace O167 : Ow G117 H170 (eSl w138 4 rB (List.set x134 (Int.toNat x142) true) :: eVar b106 29 (rArr 2 (rI .i64)) x98 :: eRows v6 30 ws77 [Int.toNat x130] 4 rB x83 :: L) := O167
            have O171 := O167.putRow (j := 1) rfl e139
            replace O171 : Ow G117 H170 (eVar b106 29 (rArr 2 (rI .i64)) x98 :: eRows v6 30 ws77 [] 4 rB (List.set x83 (Int.toNat x130) (List.set x134 (Int.toNat x142) true)) :: L) := O171
            obtain ⟨x172, i173, h174⟩ := bd_inv h165
            have j175 := idx_inv i173
            have O176 := O171.takeRow (j := 1) rfl e155 j175.2.2 List.not_mem_nil
            replace O176 : Ow G117 H170 (eSl w154 4 rB x172 :: eVar b106 29 (rArr 2 (rI .i64)) x98 :: eRows v6 30 ws77 [Int.toNat x146] 4 rB (List.set x83 (Int.toNat x130) (List.set x134 (Int.toNat x142) true)) :: L) := O176
            obtain ⟨x177, i178, h179⟩ := bd_inv h174
            have j180 := idx_inv i178
            refine D2.pure (v := (selem w154 (Int.toNat x158 * 1))) rfl rfl (v_idx el30 sz4 (oo rfl rfl) (oo rfl rfl) (O176.slLen (j := 0) rfl) j180.1 j180.2.1) ?_
            refine D2.lo rfl rfl (Lo.storeSl0 (j := 0) (y0 := true) (v := (.bool true)) rfl j180.2.2  rfl sz4 rfl rfl rfl O176) ?_ (faL_bit (by decide) fa_nil) ?_ ?_
            · rintro v183 H184 ⟨O181, sm182⟩; exact (faR1 (.inl (by decide)) (faR1 (.inl (by decide)) (faR1 (.inl (by decide)) (faR1 (.inl (by decide)) (faR1 (.inl (by decide)) (faR1 (.inl (by decide)) fa_nil))))))
            · rintro v183 H184 ⟨O181, sm182⟩; exact fa_nil
            rintro v183 H184 ⟨O181, sm182⟩
            replace O181 : Ow G117 H184 (eSl w154 4 rB (List.set x172 (Int.toNat x158) true) :: eVar b106 29 (rArr 2 (rI .i64)) x98 :: eRows v6 30 ws77 [Int.toNat x146] 4 rB (List.set x83 (Int.toNat x130) (List.set x134 (Int.toNat x142) true)) :: L) := O181
            refine .nil ?_
            have O185 := O181.putRow (j := 1) rfl e155
            replace O185 : Ow G117 H184 (eVar b106 29 (rArr 2 (rI .i64)) x98 :: eRows v6 30 ws77 [] 4 rB (List.set (List.set x83 (Int.toNat x130) (List.set x134 (Int.toNat x142) true)) (Int.toNat x146) (List.set x172 (Int.toNat x158) true)) :: L) := O185
            have O186 : Ow G117 H184 (eRows v6 30 ws77 [] 4 rB (List.set (List.set x83 (Int.toNat x130) (List.set x134 (Int.toNat x142) true)) (Int.toNat x146) (List.set x172 (Int.toNat x158) true)) :: L) := O185.drop 0
            obtain rfl := Option.some.inj h179
            exact ⟨(List.set (List.set x83 (Int.toNat x130) (List.set x134 (Int.toNat x142) true)) (Int.toNat x146) (List.set x172 (Int.toNat x158) true)), _, rfl, O186, s119⟩
          · have h187 := neg_b g123 h116
            refine .skip ?_
            have O188 : Ow G117 H122 (eRows v6 30 ws77 [] 4 rB x83 :: L) := O118.drop 0
            obtain rfl := Option.some.inj h187
            exact ⟨x83, _, rfl, O188, s119⟩
        · rintro σ190 H191 fr192 ⟨x189, G193, rfl, O194, s195⟩
          have h197 := tu1_inv h97
          refine .region ?_
          refine W.pure (v := (.int .i64 (kwrap .i64 (x84 + 1)))) rfl rfl (v_int (oo rfl ((fr192 35 rfl).trans t92)) (oo rfl rfl) rfl) ?_
          refine W.pure (v := (.int .i64 (kwrap .i64 (x84 + 1)))) rfl rfl (v_move (oo rfl rfl)) ?_
          refine .nil ?_
          exact ⟨k82, Nat.lt_succ_self _, ⟨x189, kwrap .i64 (x84 + 1), _, h197, O194, (GM.le.trans s90 s195), rfl⟩⟩
      · have h198 := neg_b g93 h91
        refine .exit ?_
        obtain rfl := Option.some.inj h198
        exact ⟨x83, _, rfl, O89, s90⟩
    · rintro σ200 H201 fr202 ⟨x199, G203, rfl, O204, s205⟩
      have h207 := tu1_inv h81
      refine .seq ?_
      refine .seq ?_
      refine .region ?_
      refine W.pure (v := (.int .i64 p0)) rfl rfl (v_move (oo rfl ((fr202 0 rfl).trans ((fr72 0 rfl).trans rfl)))) ?_
      refine W.pure (v := (.int .i64 0)) rfl rfl (v_move (oo rfl rfl)) ?_
      refine .nil ?_
      obtain ⟨q208, h209, h210⟩ := bd_inv h207
      refine AW.midT (fun σ' H' => ∃ (y1 : List (List Bool)) (G' : GM), y1 = q208 ∧ Ow G' H' (eRows v6 30 ws77 [] 4 rB y1 :: L) ∧ GM.le G203 G') ?_ ?_
      · refine .block ?_
        refine AW.loop (α := Nat) (fun k' σ' H' => ∃ (y1 : List (List Bool)) (y2 : Int) (G' : GM), g_R_Joined_l4 K p0 k' y1 y2 = some q208 ∧ Ow G' H' (eRows v6 30 ws77 [] 4 rB y1 :: L) ∧ GM.le G203 G' ∧ σ' 61 = .int .i64 y2) (fun k' => k') K ⟨x199, 0, _, h209, O204, (GM.le.refl _), rfl⟩ ?_
        rintro k211
        rintro σ214 H215 fr216 ⟨x212, x213, G217, h220, O218, s219, t221⟩
        rcases k211 with _ | k211
        · exact none_absurd h220
        rw [g_R_Joined_l4] at h220
        refine .seq ?_
        refine .region ?_
        refine W.pure (v := (.bool (decide (x213 < p0)))) rfl rfl (v_int (oo rfl t221) (oo rfl ((fr216 60 rfl).trans rfl)) rfl) ?_
        refine .nil ?_
        refine .seq ?_
        refine .cond (b := decide (x213 < p0)) rfl rfl (fun g222 => ?_) (fun g222 => ?_)
        · have h223 := pos_inv g222 h220
          refine .skip ?_
          refine .seq ?_
          refine .block ?_
          refine .seq ?_
          refine .region ?_
          refine W.pure (v := (.int .i64 x213)) rfl rfl (v_move (oo rfl t221)) ?_
          refine W.pure (v := (.int .i64 x213)) rfl rfl (v_assign (oo rfl rfl)) ?_
          refine .nil ?_
          refine .seq ?_
          refine .region ?_
          refine W.pure (v := (.int .i64 p0)) rfl rfl (v_move (oo rfl ((fr216 0 rfl).trans ((fr202 0 rfl).trans ((fr72 0 rfl).trans rfl))))) ?_
          refine W.pure (v := (.int .i64 0)) rfl rfl (v_move (oo rfl rfl)) ?_
          refine .nil ?_
          obtain ⟨q224, h225, h226⟩ := bd_inv h223
          refine AW.midT (fun σ' H' => ∃ (y1 : List (List Bool)) (G' : GM), y1 = q224 ∧ Ow G' H' (eRows v6 30 ws77 [] 4 rB y1 :: L) ∧ GM.le G217 G') ?_ ?_
          · refine .block ?_
            refine AW.loop (α := Nat) (fun k' σ' H' => ∃ (y1 : List (List Bool)) (y2 : Int) (G' : GM), g_R_Joined_l6 K p0 x213 k' y1 y2 = some q224 ∧ Ow G' H' (eRows v6 30 ws77 [] 4 rB y1 :: L) ∧ GM.le G217 G' ∧ σ' 65 = .int .i64 y2) (fun k' => k') K ⟨x212, 0, _, h225, O218, (GM.le.refl _), rfl⟩ ?_
            rintro k227
            rintro σ230 H231 fr232 ⟨x228, x229, G233, h236, O234, s235, t237⟩
            rcases k227 with _ | k227
            · exact none_absurd h236
            rw [g_R_Joined_l6] at h236
            refine .seq ?_
            refine .region ?_
            refine W.pure (v := (.bool (decide (x229 < p0)))) rfl rfl (v_int (oo rfl t237) (oo rfl ((fr232 64 rfl).trans rfl)) rfl) ?_
            refine .nil ?_
            refine .seq ?_
            refine .cond (b := decide (x229 < p0)) rfl rfl (fun g238 => ?_) (fun g238 => ?_)
            · have h239 := pos_inv g238 h236
              refine .skip ?_
              refine .seq ?_
              refine .block ?_
              refine .seq ?_
              refine .region ?_
              refine W.pure (v := (.int .i64 x229)) rfl rfl (v_move (oo rfl t237)) ?_
              refine W.pure (v := (.int .i64 x229)) rfl rfl (v_assign (oo rfl rfl)) ?_
              refine .nil ?_
              refine .seq ?_
              refine .region ?_
              refine W.pure (v := (.int .i64 p0)) rfl rfl (v_move (oo rfl ((fr232 0 rfl).trans ((fr216 0 rfl).trans ((fr202 0 rfl).trans ((fr72 0 rfl).trans rfl)))))) ?_
              refine W.pure (v := (.int .i64 0)) rfl rfl (v_move (oo rfl rfl)) ?_
              refine .nil ?_
              obtain ⟨q240, h241, h242⟩ := bd_inv h239
              refine AW.midT (fun σ' H' => ∃ (y1 : List (List Bool)) (G' : GM), y1 = q240 ∧ Ow G' H' (eRows v6 30 ws77 [] 4 rB y1 :: L) ∧ GM.le G233 G') ?_ ?_
              · refine .block ?_
                refine AW.loop (α := Nat) (fun k' σ' H' => ∃ (y1 : List (List Bool)) (y2 : Int) (G' : GM), g_R_Joined_l8 K p0 x213 x229 k' y1 y2 = some q240 ∧ Ow G' H' (eRows v6 30 ws77 [] 4 rB y1 :: L) ∧ GM.le G233 G' ∧ σ' 69 = .int .i64 y2) (fun k' => k') K ⟨x228, 0, _, h241, O234, (GM.le.refl _), rfl⟩ ?_
                rintro k243
                rintro σ246 H247 fr248 ⟨x244, x245, G249, h252, O250, s251, t253⟩
                rcases k243 with _ | k243
                · exact none_absurd h252
                rw [g_R_Joined_l8] at h252
                refine .seq ?_
                refine .region ?_
                refine W.pure (v := (.bool (decide (x245 < p0)))) rfl rfl (v_int (oo rfl t253) (oo rfl ((fr248 68 rfl).trans rfl)) rfl) ?_
                refine .nil ?_
                refine .seq ?_
                refine .cond (b := decide (x245 < p0)) rfl rfl (fun g254 => ?_) (fun g254 => ?_)
                · have h255 := pos_inv g254 h252
                  refine .skip ?_
                  refine .seq ?_
                  obtain ⟨q256, h257, h258⟩ := bd_inv h255
                  refine AW.midT (fun σ' H' => ∃ (y1 : List (List Bool)) (G' : GM), y1 = q256 ∧ Ow G' H' (eRows v6 30 ws77 [] 4 rB y1 :: L) ∧ GM.le G249 G') ?_ ?_
                  · refine .block ?_
                    refine .seq ?_
                    refine .region ?_
                    refine W.pure (v := (.int .i64 x245)) rfl rfl (v_move (oo rfl t253)) ?_
                    refine W.pure (v := (.int .i64 x245)) rfl rfl (v_assign (oo rfl rfl)) ?_
                    refine .nil ?_
                    refine .draw2 (M := [0, 0, 3, 7, 0, 0, 0, 96, 224, 0, 992, 2016, 4064, 8160, 8160, 32736, 65504, 8160, 262112, 524256, 1048544, 2097120, 2097120, 8388576, 16777184, 2097120, 67108832, 134217696, 268435424, 536870880, 1073741823, 2147483647]) mixed (by kernel_rfl) (by kernel_rfl) fun H259 N263 x260 F262 => ?_
                    have O261 := O250.ext x260
                    refine D2.pure (v := v6) rfl rfl (v_move (oo rfl ((fr248 7 rfl).trans ((fr232 7 rfl).trans ((fr216 7 rfl).trans ((fr202 7 rfl).trans ((fr72 7 rfl).trans rfl))))))) ?_
                    refine D2.pure (v := (.int .i64 x229)) rfl rfl (v_move (oo rfl ((fr248 12 rfl).trans rfl))) ?_
                    obtain ⟨x264, i265, h266⟩ := bd_inv h257
                    have j267 := idx_inv i265
                    refine D2.pure (v := (selem v6 (Int.toNat x229 * 1))) rfl rfl (v_idx el31 sz30 (oo rfl rfl) (oo rfl rfl) (O261.rowsLen (j := 0) rfl) j267.1 j267.2.1) ?_
                    obtain ⟨w268, e269, p270, k271⟩ := O261.rowVal (j := 0) rfl j267.2.2
                    refine D2.load1' (v := w268) (r := []) rfl rfl ag30 (pt_px rfl p270) fa_nil ?_
                    refine D2.pure (v := (.int .i64 x245)) rfl rfl (v_move (oo rfl rfl)) ?_
                    refine D2.pure (v := v6) rfl rfl (v_move (oo rfl ((fr248 7 rfl).trans ((fr232 7 rfl).trans ((fr216 7 rfl).trans ((fr202 7 rfl).trans ((fr72 7 rfl).trans rfl))))))) ?_
                    refine D2.pure (v := (.int .i64 x229)) rfl rfl (v_move (oo rfl ((fr248 12 rfl).trans rfl))) ?_
                    obtain ⟨x272, i273, h274⟩ := bd_inv h266
                    have j275 := idx_inv i273
                    refine D2.pure (v := (selem v6 (Int.toNat x229 * 1))) rfl rfl (v_idx el31 sz30 (oo rfl rfl) (oo rfl rfl) (O261.rowsLen (j := 0) rfl) j275.1 j275.2.1) ?_
                    obtain ⟨w276, e277, p278, k279⟩ := O261.rowVal (j := 0) rfl j275.2.2
                    refine D2.load1' (v := w276) (r := []) rfl rfl ag30 (pt_px rfl p278) fa_nil ?_
                    refine D2.pure (v := (.int .i64 x245)) rfl rfl (v_move (oo rfl rfl)) ?_
                    have O280 := O261.takeRow (j := 0) rfl e277 j275.2.2 List.not_mem_nil
                    replace O280 : Ow G249 H259 (eSl w276 4 rB x272 :: eRows v6 30 ws77 [Int.toNat x229] 4 rB x244 :: L) := O280
                    obtain ⟨x281, i282, h283⟩ := bd_inv h274
                    have j284 := idx_inv i282
                    refine D2.pure (v := (selem w276 (Int.toNat x245 * 1))) rfl rfl (v_idx el30 sz4 (oo rfl rfl) (oo rfl rfl) (O280.slLen (j := 0) rfl) j284.1 j284.2.1) ?_
                    refine D2.load1' (v := (.bool x281)) (r := []) rfl rfl ag4 (pt_px rfl (At.bool (O280.atSl (j := 0) rfl j284.2.2))) fa_nil ?_
                    refine D2.pure (v := (.bool x281)) rfl rfl (v_move (oo rfl rfl)) ?_
                    refine D2.splitAt (t := 84) (b := x281) rfl (fun g285 gv286 => ?_) (fun g285 gv286 => ?_)
                    · have h287 := pos_inv g285 h283
                      refine D2.skip (gk rfl rfl gv286 rfl) rfl ?_
                      refine D2.skip (gk rfl rfl gv286 rfl) rfl ?_
                      refine D2.skip (gk rfl rfl gv286 rfl) rfl ?_
                      refine D2.skip (gk rfl rfl gv286 rfl) rfl ?_
                      refine D2.skip (gk rfl rfl gv286 rfl) rfl ?_
                      refine D2.skip (gk rfl rfl gv286 rfl) rfl ?_
                      refine D2.skip (gk rfl rfl gv286 rfl) rfl ?_
                      refine D2.skip (gk rfl rfl gv286 rfl) rfl ?_
                      refine D2.skipU rfl rfl rfl rfl ?_
                      refine D2.skipU rfl rfl rfl rfl ?_
                      refine D2.skipU rfl rfl rfl rfl ?_
                      refine D2.skipU rfl rfl rfl rfl ?_
                      refine D2.skipU rfl rfl rfl rfl ?_
                      refine D2.skipU rfl rfl rfl rfl ?_
                      refine D2.skipU rfl rfl rfl rfl ?_
                      refine D2.skip (gk rfl rfl gv286 rfl) rfl ?_
                      refine D2.pure (v := (.bool true)) rfl rfl (v_pickT (oo rfl gv286) (oo rfl rfl)) ?_
                      have O288 := O280.putRow0 (j := 0) rfl e277 j275.2.2
                      replace O288 : Ow G249 H259 (eRows v6 30 ws77 [] 4 rB x244 :: L) := O288
                      have O289 := O288.takeRow (j := 0) rfl e269 j267.2.2 List.not_mem_nil
                      replace O289 : Ow G249 H259 (eSl w268 4 rB x264 :: eRows v6 30 ws77 [Int.toNat x229] 4 rB x244 :: L) := O289
                      obtain ⟨x290, i291, h292⟩ := bd_inv h287
                      have j293 := idx_inv i291
                      refine D2.pure (v := (selem w268 (Int.toNat x245 * 1))) rfl rfl (v_idx el30 sz4 (oo rfl rfl) (oo rfl rfl) (O289.slLen (j := 0) rfl) j293.1 j293.2.1) ?_
                      refine D2.lo rfl rfl (Lo.storeSl0 (j := 0) (y0 := true) (v := (.bool true)) rfl j293.2.2  rfl sz4 rfl rfl rfl O289) ?_ fa_nil ?_ ?_
                      · rintro v296 H297 ⟨O294, sm295⟩; exact (faR1 (.inl (by decide)) (faR1 (.inl (by decide)) (faR1 (.inl (by decide)) fa_nil)))
                      · rintro v296 H297 ⟨O294, sm295⟩; exact fa_nil
                      rintro v296 H297 ⟨O294, sm295⟩
                      replace O294 : Ow G249 H297 (eSl w268 4 rB (List.set x264 (Int.toNat x245) true) :: eRows v6 30 ws77 [Int.toNat x229] 4 rB x244 :: L) := O294
                      refine .nil ?_
                      have O298 := O294.putRow (j := 0) rfl e269
                      replace O298 : Ow G249 H297 (eRows v6 30 ws77 [] 4 rB (List.set x244 (Int.toNat x229) (List.set x264 (Int.toNat x245) true)) :: L) := O298
                      obtain rfl := Option.some.inj h292
                      exact ⟨(List.set x244 (Int.toNat x229) (List.set x264 (Int.toNat x245) true)), _, rfl, O298, (GM.le.refl _)⟩
                    · have h299 := neg_b g285 h283
                      refine D2.pure (v := v6) (gk rfl rfl gv286 rfl) rfl (v_move (oo rfl ((fr248 7 rfl).trans ((fr232 7 rfl).trans ((fr216 7 rfl).trans ((fr202 7 rfl).trans ((fr72 7 rfl).trans rfl))))))) ?_
                      refine D2.pure (v := (.int .i64 x229)) (gk rfl rfl gv286 rfl) rfl (v_move (oo rfl ((fr248 12 rfl).trans rfl))) ?_
                      have O300 := O280.putRow0 (j := 0) rfl e277 j275.2.2
                      replace O300 : Ow G249 H259 (eRows v6 30 ws77 [] 4 rB x244 :: L) := O300
                      obtain ⟨x301, i302, h303⟩ := bd_inv h299
                      have j304 := idx_inv i302
                      refine D2.pure (v := (selem v6 (Int.toNat x229 * 1))) (gk rfl rfl gv286 rfl) rfl (v_idx el31 sz30 (oo rfl rfl) (oo rfl rfl) (O300.rowsLen (j := 0) rfl) j304.1 j304.2.1) ?_
                      obtain ⟨w305, e306, p307, k308⟩ := O300.rowVal (j := 0) rfl j304.2.2
                      refine D2.load1' (v := w305) (r := []) (gk rfl rfl gv286 rfl) rfl ag30 (pt_px rfl p307) fa_nil ?_
                      refine D2.pure (v := (.int .i64 x213)) (gk rfl rfl gv286 rfl) rfl (v_move (oo rfl ((fr248 11 rfl).trans ((fr232 11 rfl).trans rfl)))) ?_
                      have O309 := O300.takeRow (j := 0) rfl e306 j304.2.2 List.not_mem_nil
                      replace O309 : Ow G249 H259 (eSl w305 4 rB x301 :: eRows v6 30 ws77 [Int.toNat x229] 4 rB x244 :: L) := O309
                      obtain ⟨x310, i311, h312⟩ := bd_inv h303
                      have j313 := idx_inv i311
                      refine D2.pure (v := (selem w305 (Int.toNat x213 * 1))) (gk rfl rfl gv286 rfl) rfl (v_idx el30 sz4 (oo rfl rfl) (oo rfl rfl) (O309.slLen (j := 0) rfl) j313.1 j313.2.1) ?_
                      refine D2.load1' (v := (.bool x310)) (r := []) (gk rfl rfl gv286 rfl) rfl ag4 (pt_px rfl (At.bool (O309.atSl (j := 0) rfl j313.2.2))) fa_nil ?_
                      refine D2.pure (v := (.bool x310)) (gk rfl rfl gv286 rfl) rfl (v_move (oo rfl rfl)) ?_
                      refine D2.splitAt (t := 92) (b := x310) rfl (fun g314 gv315 => ?_) (fun g314 gv315 => ?_)
                      · have h316 := pos_inv g314 h312
                        refine D2.pure (v := v6) (gk rfl rfl gv315 rfl) rfl (v_move (oo rfl ((fr248 7 rfl).trans ((fr232 7 rfl).trans ((fr216 7 rfl).trans ((fr202 7 rfl).trans ((fr72 7 rfl).trans rfl))))))) ?_
                        refine D2.pure (v := (.int .i64 x213)) (gk rfl rfl gv315 rfl) rfl (v_move (oo rfl ((fr248 11 rfl).trans ((fr232 11 rfl).trans rfl)))) ?_
                        have O317 := O309.putRow0 (j := 0) rfl e306 j304.2.2
                        replace O317 : Ow G249 H259 (eRows v6 30 ws77 [] 4 rB x244 :: L) := O317
                        obtain ⟨x318, i319, h320⟩ := bd_inv h316
                        have j321 := idx_inv i319
                        refine D2.pure (v := (selem v6 (Int.toNat x213 * 1))) (gk rfl rfl gv315 rfl) rfl (v_idx el31 sz30 (oo rfl rfl) (oo rfl rfl) (O317.rowsLen (j := 0) rfl) j321.1 j321.2.1) ?_
                        obtain ⟨w322, e323, p324, k325⟩ := O317.rowVal (j := 0) rfl j321.2.2
                        refine D2.load1' (v := w322) (r := []) (gk rfl rfl gv315 rfl) rfl ag30 (pt_px rfl p324) fa_nil ?_
                        refine D2.pure (v := (.int .i64 x245)) (gk rfl rfl gv315 rfl) rfl (v_move (oo rfl rfl)) ?_
                        have O326 := O317.takeRow (j := 0) rfl e323 j321.2.2 List.not_mem_nil
                        replace O326 : Ow G249 H259 (eSl w322 4 rB x318 :: eRows v6 30 ws77 [Int.toNat x213] 4 rB x244 :: L) := O326
                        obtain ⟨x327, i328, h329⟩ := bd_inv h320
                        have j330 := idx_inv i328
                        refine D2.pure (v := (selem w322 (Int.toNat x245 * 1))) (gk rfl rfl gv315 rfl) rfl (v_idx el30 sz4 (oo rfl rfl) (oo rfl rfl) (O326.slLen (j := 0) rfl) j330.1 j330.2.1) ?_
                        refine D2.load1' (v := (.bool x327)) (r := []) (gk rfl rfl gv315 rfl) rfl ag4 (pt_px rfl (At.bool (O326.atSl (j := 0) rfl j330.2.2))) fa_nil ?_
                        refine D2.pure (v := (.bool x327)) (gk rfl rfl gv286 rfl) rfl (v_pickT (oo rfl gv315) (oo rfl rfl)) ?_
                        refine D2.pure (v := (.bool x327)) rfl rfl (v_pickF (oo rfl gv286) (oo rfl rfl)) ?_
                        have O331 := O326.putRow0 (j := 0) rfl e323 j321.2.2
                        replace O331 : Ow G249 H259 (eRows v6 30 ws77 [] 4 rB x244 :: L) := O331
                        have O332 := O331.takeRow (j := 0) rfl e269 j267.2.2 List.not_mem_nil
                        replace O332 : Ow G249 H259 (eSl w268 4 rB x264 :: eRows v6 30 ws77 [Int.toNat x229] 4 rB x244 :: L) := O332
                        obtain ⟨x333, i334, h335⟩ := bd_inv h329
                        have j336 := idx_inv i334
                        refine D2.pure (v := (selem w268 (Int.toNat x245 * 1))) rfl rfl (v_idx el30 sz4 (oo rfl rfl) (oo rfl rfl) (O332.slLen (j := 0) rfl) j336.1 j336.2.1) ?_
                        refine D2.lo rfl rfl (Lo.storeSl0 (j := 0) (y0 := x327) (v := (.bool x327)) rfl j336.2.2  rfl sz4 rfl rfl rfl O332) ?_ fa_nil ?_ ?_
                        · rintro v339 H340 ⟨O337, sm338⟩; exact (faR1 (.inl (by decide)) (faR1 (.inl (by decide)) (faR1 (.inl (by decide)) (faR1 (.inl (by decide)) (faR1 (.inl (by decide)) (faR1 (.inl (by decide)) (faR1 (.inl (by decide)) fa_nil)))))))
                        · rintro v339 H340 ⟨O337, sm338⟩; exact fa_nil
                        rintro v339 H340 ⟨O337, sm338⟩
                        replace O337 : Ow G249 H340 (eSl w268 4 rB (List.set x264 (Int.toNat x245) x327) :: eRows v6 30 ws77 [Int.toNat x229] 4 rB x244 :: L) := O337
                        refine .nil ?_
                        have O341 := O337.putRow (j := 0) rfl e269
                        replace O341 : Ow G249 H340 (eRows v6 30 ws77 [] 4 rB (List.set x244 (Int.toNat x229) (List.set x264 (Int.toNat x245) x327)) :: L) := O341
                        obtain rfl := Option.some.inj h335
                        exact ⟨(List.set x244 (Int.toNat x229) (List.set x264 (Int.toNat x245) x327)), _, rfl, O341, (GM.le.refl _)⟩
                      · have h342 := neg_b g314 h312
                        refine D2.skip (gk rfl rfl gv315 rfl) rfl ?_
                        refine D2.skip (gk rfl rfl gv315 rfl) rfl ?_
                        refine D2.skip (gk rfl rfl gv315 rfl) rfl ?_
                        refine D2.skip (gk rfl rfl gv315 rfl) rfl ?_
                        refine D2.skip (gk rfl rfl gv315 rfl) rfl ?_
                        refine D2.skip (gk rfl rfl gv315 rfl) rfl ?_
                        refine D2.skip (gk rfl rfl gv315 rfl) rfl ?_
                        refine D2.pure (v := (.bool false)) (gk rfl rfl gv286 rfl) rfl (v_pickF (oo rfl gv315) (oo rfl rfl)) ?_
                        refine D2.pure (v := (.bool false)) rfl rfl (v_pickF (oo rfl gv286) (oo rfl rfl)) ?_
                        have O343 := O309.putRow0 (j := 0) rfl e306 j304.2.2
                        replace O343 : Ow G249 H259 (eRows v6 30 ws77 [] 4 rB x244 :: L) := O343
                        have O344 := O343.takeRow (j := 0) rfl e269 j267.2.2 List.not_mem_nil
                        replace O344 : Ow G249 H259 (eSl w268 4 rB x264 :: eRows v6 30 ws77 [Int.toNat x229] 4 rB x244 :: L) := O344
                        obtain ⟨x345, i346, h347⟩ := bd_inv h342
                        have j348 := idx_inv i346
                        refine D2.pure (v := (selem w268 (Int.toNat x245 * 1))) rfl rfl (v_idx el30 sz4 (oo rfl rfl) (oo rfl rfl) (O344.slLen (j := 0) rfl) j348.1 j348.2.1) ?_
                        refine D2.lo rfl rfl (Lo.storeSl0 (j := 0) (y0 := false) (v := (.bool false)) rfl j348.2.2  rfl sz4 rfl rfl rfl O344) ?_ fa_nil ?_ ?_
                        · rintro v351 H352 ⟨O349, sm350⟩; exact (faR1 (.inl (by decide)) (faR1 (.inl (by decide)) (faR1 (.inl (by decide)) (faR1 (.inl (by decide)) (faR1 (.inl (by decide)) fa_nil)))))
                        · rintro v351 H352 ⟨O349, sm350⟩; exact fa_nil
                        rintro v351 H352 ⟨O349, sm350⟩
                        replace O349 : Ow G249 H352 (eSl w268 4 rB (List.set x264 (Int.toNat x245) false) :: eRows v6 30 ws77 [Int.toNat x229] 4 rB x244 :: L) := O349
                        refine .nil ?_
                        have O353 := O349.putRow (j := 0) rfl e269
                        replace O353 : Ow G249 H352 (eRows v6 30 ws77 [] 4 rB (List.set x244 (Int.toNat x229) (List.set x264 (Int.toNat x245) false)) :: L) := O353
                        obtain rfl := Option.some.inj h347
                        exact ⟨(List.set x244 (Int.toNat x229) (List.set x264 (Int.toNat x245) false)), _, rfl, O353, (GM.le.refl _)⟩
                  · rintro σ355 H356 fr357 ⟨x354, G358, rfl, O359, s360⟩
                    have h362 := tu1_inv h258
                    refine .region ?_
                    refine W.pure (v := (.int .i64 (kwrap .i64 (x245 + 1)))) rfl rfl (v_int (oo rfl ((fr357 69 rfl).trans t253)) (oo rfl rfl) rfl) ?_
                    refine W.pure (v := (.int .i64 (kwrap .i64 (x245 + 1)))) rfl rfl (v_move (oo rfl rfl)) ?_
                    refine .nil ?_
                    exact ⟨k243, Nat.lt_succ_self _, ⟨x354, kwrap .i64 (x245 + 1), _, h362, O359, (GM.le.trans s251 s360), rfl⟩⟩
                · have h363 := neg_b g254 h252
                  refine .exit ?_
                  obtain rfl := Option.some.inj h363
                  exact ⟨x244, _, rfl, O250, s251⟩
              · rintro σ365 H366 fr367 ⟨x364, G368, rfl, O369, s370⟩
                have h372 := tu1_inv h242
                refine .region ?_
                refine W.pure (v := (.int .i64 (kwrap .i64 (x229 + 1)))) rfl rfl (v_int (oo rfl ((fr367 65 rfl).trans t237)) (oo rfl rfl) rfl) ?_
                refine W.pure (v := (.int .i64 (kwrap .i64 (x229 + 1)))) rfl rfl (v_move (oo rfl rfl)) ?_
                refine .nil ?_
                exact ⟨k227, Nat.lt_succ_self _, ⟨x364, kwrap .i64 (x229 + 1), _, h372, O369, (GM.le.trans s235 s370), rfl⟩⟩
            · have h373 := neg_b g238 h236
              refine .exit ?_
              obtain rfl := Option.some.inj h373
              exact ⟨x228, _, rfl, O234, s235⟩
          · rintro σ375 H376 fr377 ⟨x374, G378, rfl, O379, s380⟩
            have h382 := tu1_inv h226
            refine .region ?_
            refine W.pure (v := (.int .i64 (kwrap .i64 (x213 + 1)))) rfl rfl (v_int (oo rfl ((fr377 61 rfl).trans t221)) (oo rfl rfl) rfl) ?_
            refine W.pure (v := (.int .i64 (kwrap .i64 (x213 + 1)))) rfl rfl (v_move (oo rfl rfl)) ?_
            refine .nil ?_
            exact ⟨k211, Nat.lt_succ_self _, ⟨x374, kwrap .i64 (x213 + 1), _, h382, O379, (GM.le.trans s219 s380), rfl⟩⟩
        · have h383 := neg_b g222 h220
          refine .exit ?_
          obtain rfl := Option.some.inj h383
          exact ⟨x212, _, rfl, O218, s219⟩
      · rintro σ385 H386 fr387 ⟨x384, G388, rfl, O389, s390⟩
        have h392 := tu1_inv h210
        refine .seq ?_
        refine .region ?_
        refine W.pure (v := v6) rfl rfl (v_move (oo rfl ((fr387 7 rfl).trans ((fr202 7 rfl).trans ((fr72 7 rfl).trans rfl))))) ?_
        refine W.pure (v := v6) rfl rfl (v_assign (oo rfl rfl)) ?_
        refine .nil ?_
        refine .ret ?_
        obtain ⟨G393, O394, s395, f396⟩ := O389.frzRows (j := 0) rfl
        replace O394 : Ow G393 H386 (L) := O394
        obtain rfl := Option.some.inj h392
        refine ret1R (P := Try.prog) (fn := Try.f14) (n := 107) (R := fun v H' => ∃ G', Ow G' H' (L) ∧ G.le G' ∧ ∃ (w0 : Value), w0 = v ∧ (rSl (rSl rB)).rep G' [w0] x384) (v1 := v6) (by rfl) (rr_tmp (by rfl) (by exact rfl)) ?_
        exact ⟨_, O394, (GM.le.trans s75 (GM.le.trans s205 (GM.le.trans s390 s395))), v6, rfl, f396⟩
def g_R_Numbers_l2 (K : Nat) (p0 : List (List Bool)) (x6 : List Int) (x8 : Int) : Nat → Int → Int → Option (Int)
  | 0, _, _ => none
  | k + 1, x24, x25 => (if (decide (x25 < x8)) = true then (Option.bind ((Option.bind (((idx p0 x8).bind fun x43 => ((idx x43 x25).bind fun x50 => (if x50 = true then some (decide (x24 < 0)) else some false)))) (tu1 fun x58 => (if x58 = true then ((idx x6 x25).bind fun x70 => some x70) else some x24)))) (tu1 fun x75 => g_R_Numbers_l2 K p0 x6 x8 k x75 (kwrap .i64 (x25 + 1)))) else some x24)
def g_R_Numbers_l0 (K : Nat) (p0 : List (List Bool)) : Nat → List Int → Int → Int → Option (List Int)
  | 0, _, _, _ => none
  | k + 1, x6, x7, x8 => (if (decide (x8 < (List.length p0 : Int))) = true then (Option.bind (g_R_Numbers_l2 K p0 x6 x8 K (-1) 0) (tu1 fun x86 => (Option.bind ((if (decide (x86 < 0)) = true then some (kwrap .i64 (x7 + 1), x7) else some (x7, x86))) (tu2 fun x102 x103 => (if List.length x6 + List.length [x103] ≤ 16777216 then g_R_Numbers_l0 K p0 k (x6 ++ [x103]) x102 (kwrap .i64 (x8 + 1)) else none))))) else some x6)
def g_R_Numbers (K : Nat) (p0 : List (List Bool)) : Option (List Int) := (Option.bind (g_R_Numbers_l0 K p0 K [] 0 0) (tu1 fun x129 => some x129))
set_option maxHeartbeats 4000000 in
theorem g_R_Numbers_ok (K : Nat) {G : GM} {H : AH} {L : List Pc} (v0 : Value) (p0 : List (List Bool)) (hp0 : (rSl (rSl rB)).rep G [v0] p0) (O : Ow G H (L)) (r : List Int) (h : g_R_Numbers K p0 = some r) :
    CRF Try.prog 17 [v0] G H (fun w0 => (eSl w0 3 (rI .i64) r :: L)) (fun w0 v G' => w0 = v) := by
  unfold g_R_Numbers at h
  refine CRF.of (calls_of_AW (n := 44) (fn := Try.f17) (R := fun v H' => ∃ w0 G', Ow G' H' (eSl w0 3 (rI .i64) r :: L) ∧ G.le G' ∧ w0 = v) (by kernel_rfl) rfl rfl ?_)
  refine .seq ?_
  refine .region ?_
  refine W.pure (v := (.slice none 0 0)) rfl rfl (v_assign (oo rfl rfl)) ?_
  refine .nil ?_
  refine .seq ?_
  refine .region ?_
  refine W.pure (v := (.slice none 0 0)) rfl rfl (v_assign (oo rfl rfl)) ?_
  refine .nil ?_
  refine .seq ?_
  refine .region ?_
  refine W.pure (v := (.int .i64 0)) rfl rfl (v_assign (oo rfl rfl)) ?_
  refine .nil ?_
  refine .seq ?_
  refine .seq ?_
  refine .region ?_
  refine W.pure (v := v0) rfl rfl (v_move (oo rfl rfl)) ?_
  refine W.pure (v := (.int .i64 (List.length p0 : Int))) rfl rfl (len_sl (oo rfl rfl) (sl_len hp0) (elemT_inv el31)) ?_
  refine W.pure (v := (.int .i64 0)) rfl rfl (v_move (oo rfl rfl)) ?_
  refine .nil ?_
  obtain ⟨q1, h2, h3⟩ := bd_inv h
  refine AW.midT (fun σ' H' => ∃ (y1 : List Int) (G' : GM), y1 = q1 ∧ Ow G' H' (eSl (σ' 3) 3 (rI .i64) y1 :: L) ∧ GM.le G G') ?_ ?_
  · refine .block ?_
    have O4 := O.nilSl 3 (rI .i64)
    refine AW.loop (α := Nat) (fun k' σ' H' => ∃ (y1 : List Int) (y2 : Int) (y3 : Int) (G' : GM), g_R_Numbers_l0 K p0 k' y1 y2 y3 = some q1 ∧ Ow G' H' (eSl (σ' 3) 3 (rI .i64) y1 :: L) ∧ GM.le G G' ∧ σ' 4 = .int .i64 y2 ∧ σ' 10 = .int .i64 y3) (fun k' => k') K ⟨[], 0, 0, _, h2, O4, (GM.le.refl _), rfl, rfl⟩ ?_
    rintro k5
    rintro σ9 H10 fr11 ⟨x6, x7, x8, G12, h15, O13, s14, t16, t17⟩
    rcases k5 with _ | k5
    · exact none_absurd h15
    rw [g_R_Numbers_l0] at h15
    refine .seq ?_
    refine .region ?_
    refine W.pure (v := (.bool (decide (x8 < (List.length p0 : Int))))) rfl rfl (v_int (oo rfl t17) (oo rfl ((fr11 9 rfl).trans rfl)) rfl) ?_
    refine .nil ?_
    refine .seq ?_
    refine .cond (b := decide (x8 < (List.length p0 : Int))) rfl rfl (fun g18 => ?_) (fun g18 => ?_)
    · have h19 := pos_inv g18 h15
      refine .skip ?_
      refine .seq ?_
      refine .block ?_
      refine .seq ?_
      refine .region ?_
      refine W.pure (v := (.int .i64 x8)) rfl rfl (v_move (oo rfl t17)) ?_
      refine W.pure (v := (.int .i64 x8)) rfl rfl (v_assign (oo rfl rfl)) ?_
      refine .nil ?_
      refine .seq ?_
      refine .region ?_
      refine W.pure (v := (.int .i64 (-1))) rfl rfl (v_assign (oo rfl rfl)) ?_
      refine .nil ?_
      refine .seq ?_
      refine .seq ?_
      refine .region ?_
      refine W.pure (v := (.int .i64 x8)) rfl rfl (v_move (oo rfl rfl)) ?_
      refine W.pure (v := (.int .i64 0)) rfl rfl (v_move (oo rfl rfl)) ?_
      refine .nil ?_
      obtain ⟨q20, h21, h22⟩ := bd_inv h19
      refine AW.midT (fun σ' H' => ∃ (y1 : Int) (G' : GM), y1 = q20 ∧ Ow G' H' (eSl (σ9 3) 3 (rI .i64) x6 :: L) ∧ GM.le G12 G' ∧ σ' 6 = .int .i64 y1) ?_ ?_
      · refine .block ?_
        refine AW.loop (α := Nat) (fun k' σ' H' => ∃ (y1 : Int) (y2 : Int) (G' : GM), g_R_Numbers_l2 K p0 x6 x8 k' y1 y2 = some q20 ∧ Ow G' H' (eSl (σ9 3) 3 (rI .i64) x6 :: L) ∧ GM.le G12 G' ∧ σ' 6 = .int .i64 y1 ∧ σ' 14 = .int .i64 y2) (fun k' => k') K ⟨(-1), 0, _, h21, O13, (GM.le.refl _), rfl, rfl⟩ ?_
        rintro k23
        rintro σ26 H27 fr28 ⟨x24, x25, G29, h32, O30, s31, t33, t34⟩
        rcases k23 with _ | k23
        · exact none_absurd h32
        rw [g_R_Numbers_l2] at h32
        refine .seq ?_
        refine .region ?_
        refine W.pure (v := (.bool (decide (x25 < x8)))) rfl rfl (v_int (oo rfl t34) (oo rfl ((fr28 13 rfl).trans rfl)) rfl) ?_
        refine .nil ?_
        refine .seq ?_
        refine .cond (b := decide (x25 < x8)) rfl rfl (fun g35 => ?_) (fun g35 => ?_)
        · have h36 := pos_inv g35 h32
          refine .skip ?_
          refine .seq ?_
          obtain ⟨q37, h38, h39⟩ := bd_inv h36
          refine AW.midT (fun σ' H' => ∃ (y1 : Int) (G' : GM), y1 = q37 ∧ Ow G' H' (eSl (σ9 3) 3 (rI .i64) x6 :: L) ∧ GM.le G29 G' ∧ σ' 6 = .int .i64 y1) ?_ ?_
          · refine .block ?_
            refine .seq ?_
            refine .region ?_
            refine W.pure (v := (.int .i64 x25)) rfl rfl (v_move (oo rfl t34)) ?_
            refine W.pure (v := (.int .i64 x25)) rfl rfl (v_assign (oo rfl rfl)) ?_
            refine .nil ?_
            refine .seq ?_
            obtain ⟨q40, h41, h42⟩ := bd_inv h38
            refine AW.midT (fun σ' H' => ∃ (y1 : Bool) (G' : GM), y1 = q40 ∧ Ow G' H' (eSl (σ9 3) 3 (rI .i64) x6 :: L) ∧ GM.le G29 G' ∧ σ' 27 = .bool y1) ?_ ?_
            · refine .region ?_
              refine W.pure (v := v0) rfl rfl (v_move (oo rfl ((fr28 0 rfl).trans ((fr11 0 rfl).trans rfl)))) ?_
              refine W.pure (v := (.int .i64 x8)) rfl rfl (v_move (oo rfl ((fr28 5 rfl).trans rfl))) ?_
              obtain ⟨x43, i44, h45⟩ := bd_inv h41
              have j46 := idx_inv i44
              refine W.pure (v := (selem v0 (Int.toNat x8 * 1))) rfl rfl (v_idx el31 sz30 (oo rfl rfl) (oo rfl rfl) (sl_len (RT.mono _ (GM.le.trans s14 s31) hp0)) j46.1 j46.2.1) ?_
              obtain ⟨w47, p48, f49⟩ := At.sl (At.le (sl_idx hp0 j46.2.2) (GM.le.trans s14 s31) (GM.le.trans s14 s31))
              replace p48 := PtG.le p48 O30.fro
              refine W.load1 (v := w47) (r := []) rfl rfl ag30 (pt_px rfl p48) ?_
              refine W.pure (v := (.int .i64 x25)) rfl rfl (v_move (oo rfl rfl)) ?_
              obtain ⟨x50, i51, h52⟩ := bd_inv h45
              have j53 := idx_inv i51
              refine W.pure (v := (selem w47 (Int.toNat x25 * 1))) rfl rfl (v_idx el30 sz4 (oo rfl rfl) (oo rfl rfl) (sl_len f49) j53.1 j53.2.1) ?_
              refine W.load1 (v := (.bool x50)) (r := []) rfl rfl ag4 (pt_px rfl (At.bool (At.le (sl_idx f49 j53.2.2) (GM.le.refl _) O30.fro))) ?_
              refine W.pure (v := (.bool x50)) rfl rfl (v_move (oo rfl rfl)) ?_
              refine W.splitAt (t := 24) (b := x50) rfl (fun g54 gv55 => ?_) (fun g54 gv55 => ?_)
              · have h56 := pos_inv g54 h52
                refine W.pure (v := (.int .i64 x24)) (gk rfl rfl gv55 rfl) rfl (v_move (oo rfl t33)) ?_
                refine W.pure (v := (.bool (decide (x24 < 0)))) (gk rfl rfl gv55 rfl) rfl (v_int (oo rfl rfl) (oo rfl rfl) rfl) ?_
                refine W.pure (v := (.bool (decide (x24 < 0)))) rfl rfl (v_pickT (oo rfl gv55) (oo rfl rfl)) ?_
                refine .nil ?_
                obtain rfl := Option.some.inj h56
                exact ⟨decide (x24 < 0), _, rfl, O30, (GM.le.refl _), rfl⟩
              · have h57 := neg_b g54 h52
                refine W.skip (gk rfl rfl gv55 rfl) rfl ?_
                refine W.skip (gk rfl rfl gv55 rfl) rfl ?_
                refine W.pure (v := (.bool false)) rfl rfl (v_pickF (oo rfl gv55) (oo rfl rfl)) ?_
                refine .nil ?_
                obtain rfl := Option.some.inj h57
                exact ⟨false, _, rfl, O30, (GM.le.refl _), rfl⟩
            · rintro σ59 H60 fr61 ⟨x58, G62, rfl, O63, s64, t66⟩
              have h67 := tu1_inv h42
              refine .cond (b := x58) rfl t66 (fun g68 => ?_) (fun g68 => ?_)
              · have h69 := pos_inv g68 h67
                refine .region ?_
                refine W.pure (v := (σ9 3)) rfl rfl (v_move (oo rfl ((fr61 3 rfl).trans ((fr28 3 rfl).trans rfl)))) ?_
                refine W.pure (v := (.int .i64 x25)) rfl rfl (v_move (oo rfl ((fr61 7 rfl).trans rfl))) ?_
                obtain ⟨x70, i71, h72⟩ := bd_inv h69
                have j73 := idx_inv i71
                refine W.pure (v := (selem (σ9 3) (Int.toNat x25 * 1))) rfl rfl (v_idx el24 sz3 (oo rfl rfl) (oo rfl rfl) (O63.slLen (j := 0) rfl) j73.1 j73.2.1) ?_
                refine W.load1 (v := (.int .i64 x70)) (r := []) rfl rfl ag3 (pt_px rfl (At.int (O63.atSl (j := 0) rfl j73.2.2))) ?_
                refine W.pure (v := (.int .i64 x70)) rfl rfl (v_assign (oo rfl rfl)) ?_
                refine .nil ?_
                obtain rfl := Option.some.inj h72
                exact ⟨x70, _, rfl, O63, s64, rfl⟩
              · have h74 := neg_b g68 h67
                refine .skip ?_
                obtain rfl := Option.some.inj h74
                exact ⟨x24, _, rfl, O63, s64, ((fr61 6 rfl).trans t33)⟩
          · rintro σ76 H77 fr78 ⟨x75, G79, rfl, O80, s81, t83⟩
            have h84 := tu1_inv h39
            refine .region ?_
            refine W.pure (v := (.int .i64 (kwrap .i64 (x25 + 1)))) rfl rfl (v_int (oo rfl ((fr78 14 rfl).trans t34)) (oo rfl rfl) rfl) ?_
            refine W.pure (v := (.int .i64 (kwrap .i64 (x25 + 1)))) rfl rfl (v_move (oo rfl rfl)) ?_
            refine .nil ?_
            exact ⟨k23, Nat.lt_succ_self _, ⟨x75, kwrap .i64 (x25 + 1), _, h84, O80, (GM.le.trans s31 s81), t83, rfl⟩⟩
        · have h85 := neg_b g35 h32
          refine .exit ?_
          obtain rfl := Option.some.inj h85
          exact ⟨x24, _, rfl, O30, s31, t33⟩
      · rintro σ87 H88 fr89 ⟨x86, G90, rfl, O91, s92, t94⟩
        have h95 := tu1_inv h22
        refine .seq ?_
        refine .seq ?_
        refine .region ?_
        refine W.pure (v := (.int .i64 x86)) rfl rfl (v_move (oo rfl t94)) ?_
        refine W.pure (v := (.bool (decide (x86 < 0)))) rfl rfl (v_int (oo rfl rfl) (oo rfl rfl) rfl) ?_
        refine .nil ?_
        obtain ⟨q96, h97, h98⟩ := bd_inv h95
        refine AW.midT (fun σ' H' => ∃ (y1 : Int) (y2 : Int) (G' : GM), (y1, y2) = q96 ∧ Ow G' H' (eSl (σ9 3) 3 (rI .i64) x6 :: L) ∧ GM.le G90 G' ∧ σ' 4 = .int .i64 y1 ∧ σ' 6 = .int .i64 y2) ?_ ?_
        · refine .cond (b := decide (x86 < 0)) rfl rfl (fun g99 => ?_) (fun g99 => ?_)
          · have h100 := pos_inv g99 h97
            refine .seq ?_
            refine .region ?_
            refine W.pure (v := (.int .i64 x7)) rfl rfl (v_move (oo rfl ((fr89 4 rfl).trans t16))) ?_
            refine W.pure (v := (.int .i64 x7)) rfl rfl (v_assign (oo rfl rfl)) ?_
            refine .nil ?_
            refine .region ?_
            refine W.pure (v := (.int .i64 x7)) rfl rfl (v_move (oo rfl ((fr89 4 rfl).trans t16))) ?_
            refine W.pure (v := (.int .i64 (kwrap .i64 (x7 + 1)))) rfl rfl (v_int (oo rfl rfl) (oo rfl rfl) rfl) ?_
            refine W.pure (v := (.int .i64 (kwrap .i64 (x7 + 1)))) rfl rfl (v_assign (oo rfl rfl)) ?_
            refine .nil ?_
            obtain rfl := Option.some.inj h100
            exact ⟨kwrap .i64 (x7 + 1), x7, _, rfl, O91, (GM.le.refl _), rfl, rfl⟩
          · have h101 := neg_b g99 h97
            refine .skip ?_
            obtain rfl := Option.some.inj h101
            exact ⟨x7, x86, _, rfl, O91, (GM.le.refl _), ((fr89 4 rfl).trans t16), t94⟩
        · rintro σ104 H105 fr106 ⟨x102, x103, G107, rfl, O108, s109, t111, t112⟩
          have h113 := tu2_inv h98
          refine .region ?_
          refine W.pure (v := (σ9 3)) rfl rfl (v_move (oo rfl ((fr106 3 rfl).trans ((fr89 3 rfl).trans rfl)))) ?_
          refine W.pure (v := (.int .i64 x103)) rfl rfl (v_move (oo rfl t112)) ?_
          refine W.lo rfl rfl (Lo.buildSlice (r := (rI .i64)) (vs := [(.int .i64 x103)]) (xs := [x103]) el24 ze3 sz3 (by kernel_rfl) rfl (qc rfl qn) rfl (.cons rfl .nil) O108) ?_
          rintro v116 H117 ⟨O114, sm115⟩
          obtain ⟨es119, e120, e121⟩ := src_own (j := 0) rfl O114
          obtain ⟨g122, h123⟩ := gd_inv h113
          refine W.lo rfl rfl (Lo.append (j := 1) (v := (σ9 3)) rfl rfl el24 ni24 ze3 sz3 by3 (by decide) (by decide) rfl e120 e121 g122 O114) ?_
          rintro v125 H126 ⟨O118, sm124⟩
          replace O118 : Ow G107 H126 (eSl v116 3 (rI .i64) [x103] :: eSl v125 3 (rI .i64) (x6 ++ [x103]) :: L) := O118
          refine W.pure (v := v125) rfl rfl (v_assign (oo rfl rfl)) ?_
          refine .nil ?_
          refine .region ?_
          refine W.pure (v := (.int .i64 (kwrap .i64 (x8 + 1)))) rfl rfl (v_int (oo rfl ((fr106 10 rfl).trans ((fr89 10 rfl).trans t17))) (oo rfl rfl) rfl) ?_
          refine W.pure (v := (.int .i64 (kwrap .i64 (x8 + 1)))) rfl rfl (v_move (oo rfl rfl)) ?_
          refine .nil ?_
          have O127 : Ow G107 H126 (eSl v125 3 (rI .i64) (x6 ++ [x103]) :: L) := O118.drop 0
          exact ⟨k5, Nat.lt_succ_self _, ⟨(x6 ++ [x103]), x102, kwrap .i64 (x8 + 1), _, h123, O127, (GM.le.trans s14 (GM.le.trans s92 s109)), t111, rfl⟩⟩
    · have h128 := neg_b g18 h15
      refine .exit ?_
      obtain rfl := Option.some.inj h128
      exact ⟨x6, _, rfl, O13, s14⟩
  · rintro σ130 H131 fr132 ⟨x129, G133, rfl, O134, s135⟩
    have h137 := tu1_inv h3
    refine .seq ?_
    refine .region ?_
    refine W.pure (v := (σ130 3)) rfl rfl (v_move (oo rfl rfl)) ?_
    refine W.pure (v := (σ130 3)) rfl rfl (v_assign (oo rfl rfl)) ?_
    refine .nil ?_
    refine .ret ?_
    obtain rfl := Option.some.inj h137
    refine ret1R (P := Try.prog) (fn := Try.f17) (n := 44) (R := fun v H' => ∃ w0 G', Ow G' H' (eSl w0 3 (rI .i64) x129 :: L) ∧ G.le G' ∧ w0 = v) (v1 := (σ130 3)) (by rfl) (rr_tmp (by rfl) (by exact rfl)) ?_
    exact ⟨(σ130 3), _, O134, s135, rfl⟩
def g_R_Buses (K : Nat) (p0 : Network) : Option (List Int) := ((g_R_Switching K p0).bind fun x17 => ((g_R_Closed K p0).bind fun x33 => ((g_R_Joined K (List.length p0.Nodes : Int) x17 x33).bind fun x50 => ((g_R_Numbers K x50).bind fun x63 => some x63))))
set_option maxHeartbeats 4000000 in
theorem g_R_Buses_ok (K : Nat) {G : GM} {H : AH} {L : List Pc} (v0 : List Value) (p0 : Network) (hp0 : T_Network.rep G v0 p0) (O : Ow G H (L)) (r : List Int) (h : g_R_Buses K p0 = some r) :
    CRF Try.prog 40 [.agg (List.toArray v0)] G H (fun w0 => (eSl w0 3 (rI .i64) r :: L)) (fun w0 v G' => w0 = v) := by
  unfold g_R_Buses at h
  refine CRF.of (calls_of_AW (n := 12) (fn := Try.f40) (R := fun v H' => ∃ w0 G', Ow G' H' (eSl w0 3 (rI .i64) r :: L) ∧ G.le G' ∧ w0 = v) (by kernel_rfl) rfl rfl ?_)
  refine .seq ?_
  refine .region ?_
  refine W.lo rfl rfl (Lo.box (r := T_Network) (x0 := p0) (v := (.agg (List.toArray v0))) rfl rfl hp0 O) ?_
  rintro v4 H5 ⟨b2, rfl, O1, sm3⟩
  refine W.pure (v := (.slice none 0 0)) rfl rfl (v_assign (oo rfl rfl)) ?_
  refine .nil ?_
  refine .seq ?_
  refine .draw2 (M := [0, 1, 3, 0, 8, 0, 56, 127, 255, 511]) mixed (by kernel_rfl) (by kernel_rfl) fun H6 N10 x7 F9 => ?_
  have O8 := O1.ext x7
  refine D2.pure (v := (padd (.pointer (some ⟨b2, 0, none⟩)) 0)) rfl rfl (v_fldA fl48_0 (oo rfl rfl) (O8.atVar (j := 0) rfl)) ?_
  obtain ⟨w11, p12, f13⟩ := At.sl (At.proj (O8.atVar (j := 0) rfl) p_Network_Nodes)
  refine D2.load1' (v := w11) (r := []) rfl rfl ag41 (pt_px rfl p12) fa_nil ?_
  refine D2.pure (v := (.int .i64 (List.length p0.Nodes : Int))) rfl rfl (len_sl (oo rfl rfl) (sl_len f13) (elemT_inv el41)) ?_
  obtain ⟨c14, p15, f16⟩ := (O8.atVar (j := 0) rfl)
  refine D2.loadA' (cs := c14) rfl rfl ag48 sz48 (pt_px rfl p15) (RT.len _ f16) fa_nil ?_
  obtain ⟨x17, i18, h19⟩ := bd_inv h
  refine D2.lo rfl rfl (Lo.callPF (ps := []) (pw := fun w => [eSl w 29 (rArr 2 (rI .i64)) x17]) rfl (fn := Try.f47) (by kernel_rfl) rfl (mc rfl mn) O8 (fun L' O' => g_R_Switching_ok K c14 p0 f16 O' _ i18)) ?_ fa_nil ?_ ?_
  · rintro v28 H29 ⟨w25, G20, O21, s22, sm27, rfl⟩; exact (faR1 (.inl (by decide)) (faR1 (.inr (sm27 _ (Or.inr ⟨0, _, rfl, List.mem_singleton.2 rfl⟩))) fa_nil))
  · rintro v28 H29 ⟨w25, G20, O21, s22, sm27, rfl⟩; exact fa_nil
  rintro v28 H29 ⟨w25, G20, O21, s22, sm27, rfl⟩
  replace O21 : Ow G20 H29 (eSl w25 29 (rArr 2 (rI .i64)) x17 :: eVar b2 48 T_Network p0 :: L) := O21
  obtain ⟨c30, p31, f32⟩ := (O21.atVar (j := 1) rfl)
  refine D2.loadA' (cs := c30) rfl rfl ag48 sz48 (pt_px rfl p31) (RT.len _ f32) (faQ_eq (sm27 _ (Or.inr ⟨0, _, rfl, List.mem_singleton.2 rfl⟩)) fa_nil) ?_
  obtain ⟨x33, i34, h35⟩ := bd_inv h19
  refine D2.lo rfl rfl (Lo.callP (ps := []) (ps' := []) rfl (fn := Try.f48) (by kernel_rfl) rfl (mc rfl mn) O21 (fun L' O' => g_R_Closed_ok K c30 p0 f32 O' _ i34)) ?_ (faL_bit (by decide) fa_nil) ?_ ?_
  · rintro v44 H45 ⟨G36, O37, s38, sm43, ⟨w40, rfl, f41⟩⟩; exact (faR1 (.inl (by decide)) (faR1 (.inl (by decide)) (faR1 (.inr (sm43 _ (Or.inr ⟨1, _, rfl, List.mem_singleton.2 rfl⟩))) fa_nil)))
  · rintro v44 H45 ⟨G36, O37, s38, sm43, ⟨w40, rfl, f41⟩⟩; exact fa_nil
  rintro v44 H45 ⟨G36, O37, s38, sm43, ⟨w40, rfl, f41⟩⟩
  replace O37 : Ow G36 H45 (eSl w25 29 (rArr 2 (rI .i64)) x17 :: eVar b2 48 T_Network p0 :: L) := O37
  obtain ⟨G46, O47, s48, f49⟩ := O37.frzSl (j := 0) rfl
  replace O47 : Ow G46 H45 (eVar b2 48 T_Network p0 :: L) := O47
  obtain ⟨x50, i51, h52⟩ := bd_inv h35
  refine D2.lo rfl rfl (Lo.callP (ps := []) (ps' := []) rfl (fn := Try.f14) (by kernel_rfl) rfl (mc rfl (mc rfl (mc rfl mn))) O47 (fun L' O' => g_R_Joined_ok K (List.length p0.Nodes : Int) w25 x17 f49 w40 x33 (FnOk.le f41 s48) O' _ i51)) ?_ (faL_bit (by decide) (faL_bit (by decide) fa_nil)) ?_ ?_
  · rintro v61 H62 ⟨G53, O54, s55, sm60, ⟨w57, rfl, f58⟩⟩; exact (faR1 (.inl (by decide)) (faR1 (.inl (by decide)) (faR1 (.inl (by decide)) fa_nil)))
  · rintro v61 H62 ⟨G53, O54, s55, sm60, ⟨w57, rfl, f58⟩⟩; exact fa_nil
  rintro v61 H62 ⟨G53, O54, s55, sm60, ⟨w57, rfl, f58⟩⟩
  replace O54 : Ow G53 H62 (eVar b2 48 T_Network p0 :: L) := O54
  obtain ⟨x63, i64, h65⟩ := bd_inv h52
  refine D2.lo rfl rfl (Lo.callPF (ps := []) (pw := fun w => [eSl w 3 (rI .i64) x63]) rfl (fn := Try.f17) (by kernel_rfl) rfl (mc rfl mn) O54 (fun L' O' => g_R_Numbers_ok K w57 x50 f58 O' _ i64)) ?_ (faL_bit (by decide) (faL_bit (by decide) (faL_bit (by decide) fa_nil))) ?_ ?_
  · rintro v74 H75 ⟨w71, G66, O67, s68, sm73, rfl⟩; exact (faR1 (.inl (by decide)) (faR1 (.inl (by decide)) (faR1 (.inl (by decide)) fa_nil)))
  · rintro v74 H75 ⟨w71, G66, O67, s68, sm73, rfl⟩; exact fa_nil
  rintro v74 H75 ⟨w71, G66, O67, s68, sm73, rfl⟩
  replace O67 : Ow G66 H75 (eSl w71 3 (rI .i64) x63 :: eVar b2 48 T_Network p0 :: L) := O67
  refine D2.pure (v := w71) rfl rfl (v_assign (oo rfl rfl)) ?_
  refine .nil ?_
  refine .ret ?_
  have O76 : Ow G66 H75 (eSl w71 3 (rI .i64) x63 :: L) := O67.drop 1
  obtain rfl := Option.some.inj h65
  refine ret1R (P := Try.prog) (fn := Try.f40) (n := 12) (R := fun v H' => ∃ w0 G', Ow G' H' (eSl w0 3 (rI .i64) x63 :: L) ∧ G.le G' ∧ w0 = v) (v1 := w71) (by rfl) (rr_tmp (by rfl) (by exact rfl)) ?_
  exact ⟨w71, _, O76, (GM.le.trans s22 (GM.le.trans s38 (GM.le.trans s48 (GM.le.trans s55 s68)))), rfl⟩
def g_R_Most_l0 (K : Nat) (p0 : List Int) : Nat → Int → Int → Option (Int)
  | 0, _, _ => none
  | k + 1, x5, x6 => (if (decide (x6 < (List.length p0 : Int))) = true then (Option.bind (((idx p0 x6).bind fun x21 => (if (decide (x21 ≥ x5)) = true then some (kwrap .i64 (x21 + 1)) else some x5))) (tu1 fun x28 => g_R_Most_l0 K p0 k x28 (kwrap .i64 (x6 + 1)))) else some x5)
def g_R_Most (K : Nat) (p0 : List Int) : Option Int := (Option.bind (g_R_Most_l0 K p0 K 0 0) (tu1 fun x39 => some x39))
set_option maxHeartbeats 4000000 in
theorem g_R_Most_ok (K : Nat) {G : GM} {H : AH} {L : List Pc} (v0 : Value) (p0 : List Int) (hp0 : (rSl (rI .i64)).rep G [v0] p0) (O : Ow G H (L)) (r : Int) (h : g_R_Most K p0 = some r) :
    CR Try.prog 32 [v0] G H (L) (fun v G' _ => v = .int .i64 r) := by
  unfold g_R_Most at h
  refine CR.of (calls_of_AW (n := 19) (fn := Try.f32) (R := fun v H' => ∃ G', Ow G' H' (L) ∧ G.le G' ∧ v = .int .i64 r) (by kernel_rfl) rfl rfl ?_)
  refine .seq ?_
  refine .region ?_
  refine W.pure (v := (.int .i64 0)) rfl rfl (v_assign (oo rfl rfl)) ?_
  refine .nil ?_
  refine .seq ?_
  refine .region ?_
  refine W.pure (v := (.int .i64 0)) rfl rfl (v_assign (oo rfl rfl)) ?_
  refine .nil ?_
  refine .seq ?_
  refine .seq ?_
  refine .region ?_
  refine W.pure (v := v0) rfl rfl (v_move (oo rfl rfl)) ?_
  refine W.pure (v := (.int .i64 (List.length p0 : Int))) rfl rfl (len_sl (oo rfl rfl) (sl_len hp0) (elemT_inv el24)) ?_
  refine W.pure (v := (.int .i64 0)) rfl rfl (v_move (oo rfl rfl)) ?_
  refine .nil ?_
  obtain ⟨q1, h2, h3⟩ := bd_inv h
  refine AW.midT (fun σ' H' => ∃ (y1 : Int) (G' : GM), y1 = q1 ∧ Ow G' H' (L) ∧ GM.le G G' ∧ σ' 3 = .int .i64 y1) ?_ ?_
  · refine .block ?_
    refine AW.loop (α := Nat) (fun k' σ' H' => ∃ (y1 : Int) (y2 : Int) (G' : GM), g_R_Most_l0 K p0 k' y1 y2 = some q1 ∧ Ow G' H' (L) ∧ GM.le G G' ∧ σ' 3 = .int .i64 y1 ∧ σ' 8 = .int .i64 y2) (fun k' => k') K ⟨0, 0, _, h2, O, (GM.le.refl _), rfl, rfl⟩ ?_
    rintro k4
    rintro σ7 H8 fr9 ⟨x5, x6, G10, h13, O11, s12, t14, t15⟩
    rcases k4 with _ | k4
    · exact none_absurd h13
    rw [g_R_Most_l0] at h13
    refine .seq ?_
    refine .region ?_
    refine W.pure (v := (.bool (decide (x6 < (List.length p0 : Int))))) rfl rfl (v_int (oo rfl t15) (oo rfl ((fr9 7 rfl).trans rfl)) rfl) ?_
    refine .nil ?_
    refine .seq ?_
    refine .cond (b := decide (x6 < (List.length p0 : Int))) rfl rfl (fun g16 => ?_) (fun g16 => ?_)
    · have h17 := pos_inv g16 h13
      refine .skip ?_
      refine .seq ?_
      obtain ⟨q18, h19, h20⟩ := bd_inv h17
      refine AW.midT (fun σ' H' => ∃ (y1 : Int) (G' : GM), y1 = q18 ∧ Ow G' H' (L) ∧ GM.le G10 G' ∧ σ' 3 = .int .i64 y1) ?_ ?_
      · refine .block ?_
        refine .seq ?_
        refine .region ?_
        obtain ⟨x21, i22, h23⟩ := bd_inv h19
        have j24 := idx_inv i22
        refine W.pure (v := (selem v0 (Int.toNat x6 * 1))) rfl rfl (v_idx el24 sz3 (oo rfl ((fr9 6 rfl).trans rfl)) (oo rfl t15) (sl_len (RT.mono _ s12 hp0)) j24.1 j24.2.1) ?_
        refine W.load1 (v := (.int .i64 x21)) (r := []) rfl rfl ag3 (pt_px rfl (At.int (At.le (At.le (sl_idx hp0 j24.2.2) s12 s12) (GM.le.refl _) O11.fro))) ?_
        refine W.pure (v := (.int .i64 x21)) rfl rfl (v_assign (oo rfl rfl)) ?_
        refine .nil ?_
        refine .seq ?_
        refine .region ?_
        refine W.pure (v := (.int .i64 x21)) rfl rfl (v_move (oo rfl rfl)) ?_
        refine W.pure (v := (.int .i64 x5)) rfl rfl (v_move (oo rfl t14)) ?_
        refine W.pure (v := (.bool (decide (x21 ≥ x5)))) rfl rfl (v_int (oo rfl rfl) (oo rfl rfl) rfl) ?_
        refine .nil ?_
        refine .cond (b := decide (x21 ≥ x5)) rfl rfl (fun g25 => ?_) (fun g25 => ?_)
        · have h26 := pos_inv g25 h23
          refine .region ?_
          refine W.pure (v := (.int .i64 x21)) rfl rfl (v_move (oo rfl rfl)) ?_
          refine W.pure (v := (.int .i64 (kwrap .i64 (x21 + 1)))) rfl rfl (v_int (oo rfl rfl) (oo rfl rfl) rfl) ?_
          refine W.pure (v := (.int .i64 (kwrap .i64 (x21 + 1)))) rfl rfl (v_assign (oo rfl rfl)) ?_
          refine .nil ?_
          obtain rfl := Option.some.inj h26
          exact ⟨kwrap .i64 (x21 + 1), _, rfl, O11, (GM.le.refl _), rfl⟩
        · have h27 := neg_b g25 h23
          refine .skip ?_
          obtain rfl := Option.some.inj h27
          exact ⟨x5, _, rfl, O11, (GM.le.refl _), t14⟩
      · rintro σ29 H30 fr31 ⟨x28, G32, rfl, O33, s34, t36⟩
        have h37 := tu1_inv h20
        refine .region ?_
        refine W.pure (v := (.int .i64 (kwrap .i64 (x6 + 1)))) rfl rfl (v_int (oo rfl ((fr31 8 rfl).trans t15)) (oo rfl rfl) rfl) ?_
        refine W.pure (v := (.int .i64 (kwrap .i64 (x6 + 1)))) rfl rfl (v_move (oo rfl rfl)) ?_
        refine .nil ?_
        exact ⟨k4, Nat.lt_succ_self _, ⟨x28, kwrap .i64 (x6 + 1), _, h37, O33, (GM.le.trans s12 s34), t36, rfl⟩⟩
    · have h38 := neg_b g16 h13
      refine .exit ?_
      obtain rfl := Option.some.inj h38
      exact ⟨x5, _, rfl, O11, s12, t14⟩
  · rintro σ40 H41 fr42 ⟨x39, G43, rfl, O44, s45, t47⟩
    have h48 := tu1_inv h3
    refine .seq ?_
    refine .region ?_
    refine W.pure (v := (.int .i64 x39)) rfl rfl (v_move (oo rfl t47)) ?_
    refine W.pure (v := (.int .i64 x39)) rfl rfl (v_assign (oo rfl rfl)) ?_
    refine .nil ?_
    refine .ret ?_
    obtain rfl := Option.some.inj h48
    refine ret1R (P := Try.prog) (fn := Try.f32) (n := 19) (R := fun v H' => ∃ G', Ow G' H' (L) ∧ G.le G' ∧ v = .int .i64 x39) (v1 := (.int .i64 x39)) (by rfl) (rr_tmp (by rfl) (by exact rfl)) ?_
    exact ⟨_, O44, s45, rfl⟩
def g_slices_Equal_string_string_l0 (K : Nat) (p0 : List ByteArray) (p1 : List ByteArray) : Nat → Int → Option (Bool ⊕ Unit)
  | 0, _ => none
  | k + 1, x8 => (if (decide (x8 < (List.length p0 : Int))) = true then ((idx p0 x8).bind fun x24 => ((idx p1 x8).bind fun x28 => (if (!(sEq x24 x28)) = true then some (.inl false) else g_slices_Equal_string_string_l0 K p0 p1 k (kwrap .i64 (x8 + 1))))) else some (.inr ()))
def g_slices_Equal_string_string (K : Nat) (p0 : List ByteArray) (p1 : List ByteArray) : Option Bool := (if ((List.length p0 : Int) != (List.length p1 : Int)) = true then some false else (bindS (g_slices_Equal_string_string_l0 K p0 p1 K 0) (tu1 fun a45 => some a45) (tu0 (some true))))
set_option maxHeartbeats 4000000 in
theorem g_slices_Equal_string_string_ok (K : Nat) {G : GM} {H : AH} {L : List Pc} (v0 : Value) (p0 : List ByteArray) (hp0 : (rSl rS).rep G [v0] p0) (v1 : Value) (p1 : List ByteArray) (hp1 : (rSl rS).rep G [v1] p1) (O : Ow G H (L)) (r : Bool) (h : g_slices_Equal_string_string K p0 p1 = some r) :
    CR Try.prog 41 [v0, v1] G H (L) (fun v G' _ => v = .bool r) := by
  unfold g_slices_Equal_string_string at h
  refine CR.of (calls_of_AW (n := 26) (fn := Try.f41) (R := fun v H' => ∃ G', Ow G' H' (L) ∧ G.le G' ∧ v = .bool r) (by kernel_rfl) rfl rfl ?_)
  refine .seq ?_
  refine .region ?_
  refine W.pure (v := (.bool false)) rfl rfl (v_assign (oo rfl rfl)) ?_
  refine .nil ?_
  refine .seq ?_
  refine .seq ?_
  refine .region ?_
  refine W.pure (v := v0) rfl rfl (v_move (oo rfl rfl)) ?_
  refine W.pure (v := (.int .i64 (List.length p0 : Int))) rfl rfl (len_sl (oo rfl rfl) (sl_len hp0) (elemT_inv el41)) ?_
  refine W.pure (v := v1) rfl rfl (v_move (oo rfl rfl)) ?_
  refine W.pure (v := (.int .i64 (List.length p1 : Int))) rfl rfl (len_sl (oo rfl rfl) (sl_len hp1) (elemT_inv el41)) ?_
  refine W.pure (v := (.bool ((List.length p0 : Int) != (List.length p1 : Int)))) rfl rfl (v_int (oo rfl rfl) (oo rfl rfl) rfl) ?_
  refine .nil ?_
  refine .cond (b := ((List.length p0 : Int) != (List.length p1 : Int))) rfl rfl (fun g1 => ?_) (fun g1 => ?_)
  · have h2 := pos_inv g1 h
    refine .seq ?_
    refine .region ?_
    refine W.pure (v := (.bool false)) rfl rfl (v_assign (oo rfl rfl)) ?_
    refine .nil ?_
    refine .ret ?_
    obtain rfl := Option.some.inj h2
    refine ret1R (P := Try.prog) (fn := Try.f41) (n := 26) (R := fun v H' => ∃ G', Ow G' H' (L) ∧ G.le G' ∧ v = .bool false) (v1 := (.bool false)) (by rfl) (rr_tmp (by rfl) (by exact rfl)) ?_
    exact ⟨_, O, (GM.le.refl _), rfl⟩
  · have h3 := neg_b g1 h
    refine .skip ?_
    refine .seq ?_
    refine .seq ?_
    refine .region ?_
    refine W.pure (v := v0) rfl rfl (v_move (oo rfl rfl)) ?_
    refine W.pure (v := (.int .i64 (List.length p0 : Int))) rfl rfl (len_sl (oo rfl rfl) (sl_len hp0) (elemT_inv el41)) ?_
    refine W.pure (v := (.int .i64 0)) rfl rfl (v_move (oo rfl rfl)) ?_
    refine .nil ?_
    obtain ⟨q4, h5, h6⟩ := bindS_inv h3
    refine AW.midT (fun σ' H' => ∃  (G' : GM), (.inr ()) = q4 ∧ Ow G' H' (L) ∧ GM.le G G') ?_ ?_
    · refine .block ?_
      refine AW.loop (α := Nat) (fun k' σ' H' => ∃ (y1 : Int) (G' : GM), g_slices_Equal_string_string_l0 K p0 p1 k' y1 = some q4 ∧ Ow G' H' (L) ∧ GM.le G G' ∧ σ' 13 = .int .i64 y1) (fun k' => k') K ⟨0, _, h5, O, (GM.le.refl _), rfl⟩ ?_
      rintro k7
      rintro σ9 H10 fr11 ⟨x8, G12, h15, O13, s14, t16⟩
      rcases k7 with _ | k7
      · exact none_absurd h15
      rw [g_slices_Equal_string_string_l0] at h15
      refine .seq ?_
      refine .region ?_
      refine W.pure (v := (.bool (decide (x8 < (List.length p0 : Int))))) rfl rfl (v_int (oo rfl t16) (oo rfl ((fr11 12 rfl).trans rfl)) rfl) ?_
      refine .nil ?_
      refine .seq ?_
      refine .cond (b := decide (x8 < (List.length p0 : Int))) rfl rfl (fun g17 => ?_) (fun g17 => ?_)
      · have h18 := pos_inv g17 h15
        refine .skip ?_
        refine .seq ?_
        refine .block ?_
        refine .seq ?_
        refine .region ?_
        refine W.pure (v := (.int .i64 x8)) rfl rfl (v_move (oo rfl t16)) ?_
        refine W.pure (v := (.int .i64 x8)) rfl rfl (v_assign (oo rfl rfl)) ?_
        refine .nil ?_
        refine .seq ?_
        refine .draw2 (M := [0, 0, 3, 7, 0, 0, 48, 112, 255]) mixed (by kernel_rfl) (by kernel_rfl) fun H19 N23 x20 F22 => ?_
        have O21 := O13.ext x20
        refine D2.pure (v := v0) rfl rfl (v_move (oo rfl ((fr11 0 rfl).trans rfl))) ?_
        refine D2.pure (v := (.int .i64 x8)) rfl rfl (v_move (oo rfl rfl)) ?_
        obtain ⟨x24, i25, h26⟩ := bd_inv h18
        have j27 := idx_inv i25
        refine D2.pure (v := (selem v0 (Int.toNat x8 * 1))) rfl rfl (v_idx el41 sz9 (oo rfl rfl) (oo rfl rfl) (sl_len (RT.mono _ s14 hp0)) j27.1 j27.2.1) ?_
        refine D2.load1' (v := (.string x24)) (r := []) rfl rfl ag9 (pt_px rfl (At.str (At.le (At.le (sl_idx hp0 j27.2.2) s14 s14) (GM.le.refl _) O21.fro))) fa_nil ?_
        refine D2.pure (v := v1) rfl rfl (v_move (oo rfl ((fr11 1 rfl).trans rfl))) ?_
        refine D2.pure (v := (.int .i64 x8)) rfl rfl (v_move (oo rfl rfl)) ?_
        obtain ⟨x28, i29, h30⟩ := bd_inv h26
        have j31 := idx_inv i29
        refine D2.pure (v := (selem v1 (Int.toNat x8 * 1))) rfl rfl (v_idx el41 sz9 (oo rfl rfl) (oo rfl rfl) (sl_len (RT.mono _ s14 hp1)) j31.1 j31.2.1) ?_
        refine D2.load1' (v := (.string x28)) (r := []) rfl rfl ag9 (pt_px rfl (At.str (At.le (At.le (sl_idx hp1 j31.2.2) s14 s14) (GM.le.refl _) O21.fro))) fa_nil ?_
        refine D2.pure (v := (.bool (!(sEq x24 x28)))) rfl rfl (vs_neq (oo rfl rfl) (oo rfl rfl)) ?_
        refine .nil ?_
        refine .cond (b := (!(sEq x24 x28))) rfl rfl (fun g32 => ?_) (fun g32 => ?_)
        · have h33 := pos_inv g32 h30
          refine .seq ?_
          refine .region ?_
          refine W.pure (v := (.bool false)) rfl rfl (v_assign (oo rfl rfl)) ?_
          refine .nil ?_
          refine .ret ?_
          obtain rfl := Option.some.inj h33
          have h34 := tu1_inv (outS_l h6)
          obtain rfl := Option.some.inj h34
          refine ret1R (P := Try.prog) (fn := Try.f41) (n := 26) (R := fun v H' => ∃ G', Ow G' H' (L) ∧ G.le G' ∧ v = .bool false) (v1 := (.bool false)) (by rfl) (rr_tmp (by rfl) (by exact rfl)) ?_
          exact ⟨_, O21, s14, rfl⟩
        · have h35 := neg_b g32 h30
          refine .skip ?_
          refine .region ?_
          refine W.pure (v := (.int .i64 (kwrap .i64 (x8 + 1)))) rfl rfl (v_int (oo rfl t16) (oo rfl rfl) rfl) ?_
          refine W.pure (v := (.int .i64 (kwrap .i64 (x8 + 1)))) rfl rfl (v_move (oo rfl rfl)) ?_
          refine .nil ?_
          exact ⟨k7, Nat.lt_succ_self _, ⟨kwrap .i64 (x8 + 1), _, h35, O21, s14, rfl⟩⟩
      · have h36 := neg_b g17 h15
        refine .exit ?_
        obtain rfl := Option.some.inj h36
        exact ⟨_, rfl, O13, s14⟩
    · rintro σ37 H38 fr39 ⟨G40, rfl, O41, s42⟩
      have h44 := tu0_inv (outS_r h6)
      refine .seq ?_
      refine .region ?_
      refine W.pure (v := (.bool true)) rfl rfl (v_assign (oo rfl rfl)) ?_
      refine .nil ?_
      refine .ret ?_
      obtain rfl := Option.some.inj h44
      refine ret1R (P := Try.prog) (fn := Try.f41) (n := 26) (R := fun v H' => ∃ G', Ow G' H' (L) ∧ G.le G' ∧ v = .bool true) (v1 := (.bool true)) (by rfl) (rr_tmp (by rfl) (by exact rfl)) ?_
      exact ⟨_, O41, s42, rfl⟩
def g_law_StationBuses_l2 (K : Nat) (p0 : Network) (x99 : List Int) (x150 : Int) : Nat → List ByteArray → Int → Option (List ByteArray)
  | 0, _, _ => none
  | k + 1, x176, x177 => (if (decide (x177 < (List.length p0.Nodes : Int))) = true then (Option.bind (((idx p0.Nodes x177).bind fun x191 => ((idx x99 x177).bind fun x195 => (if (x195 == x150) = true then (if List.length x176 + List.length [x191] ≤ 16777216 then some (x176 ++ [x191]) else none) else some x176)))) (tu1 fun x216 => g_law_StationBuses_l2 K p0 x99 x150 k x216 (kwrap .i64 (x177 + 1)))) else some x176)
def g_law_StationBuses_l0 (K : Nat) (x24 : List (List ByteArray) × Int) (p0 : Network) (x99 : List Int) : Nat → Int → Option (Bool ⊕ Unit)
  | 0, _ => none
  | k + 1, x150 => (if (decide (x150 < (List.length x24.1 : Int))) = true then ((idx x24.1 x150).bind fun x161 => (Option.bind (g_law_StationBuses_l2 K p0 x99 x150 K [] 0) (tu1 fun x230 => ((g_slices_Equal_string_string K x161 x230).bind fun x239 => (if (!x239) = true then some (.inl false) else g_law_StationBuses_l0 K x24 p0 x99 k (kwrap .i64 (x150 + 1))))))) else some (.inr ()))
def g_law_StationBuses_l4 (K : Nat) (p0 : Network) (p1 : ByteArray) : Nat → List ByteArray → Int → Option (List ByteArray)
  | 0, _, _ => none
  | k + 1, x313, x314 => (if (decide (x314 < (List.length p0.Switches : Int))) = true then (Option.bind (((idx p0.Switches x314).bind fun x328 => (Option.bind ((if (sEq x328.A p1) = true then some (!x328.Open) else (if (sEq x328.B p1) = true then some (!x328.Open) else some false))) (tu1 fun x355 => (if x355 = true then (if List.length x313 + List.length [x328.Name] ≤ 16777216 then some (x313 ++ [x328.Name]) else none) else some x313))))) (tu1 fun x384 => g_law_StationBuses_l4 K p0 p1 k x384 (kwrap .i64 (x314 + 1)))) else some x313)
def g_law_StationBuses (K : Nat) (p0 : Network) (p1 : ByteArray) : Option Bool := ((g_law_stationFact K ).bind fun x6 => (if (!x6) = true then some false else ((g_station_Busbars K p0).bind fun x24 => ((g_station_Isolate K p0 p1).bind fun x40 => ((g_R_NetError K p0).bind fun x56 => (if (x56 != 0) = true then (Option.bind ((if (x24.2 == x56) = true then (if (x40.2 == x56) = true then (lt (kwrap .i64 ((List.length x24.1 : Int) + (List.length x40.1 : Int))) fun x78 => some (x78 == 0)) else some false) else some false)) (tu1 fun x83 => some x83)) else ((g_R_Buses K p0).bind fun x99 => (Option.bind ((if (x24.2 != 0) = true then some true else ((g_R_Most K x99).bind fun x119 => some ((List.length x24.1 : Int) != x119)))) (tu1 fun x130 => (if x130 = true then some false else (bindS (g_law_StationBuses_l0 K x24 p0 x99 K 0) (tu1 fun a453 => some a453) (tu0 ((g_R_Has K p0.Nodes p1).bind fun x271 => (if (!x271) = true then (Option.bind ((if (x40.2 == 6) = true then some ((List.length x40.1 : Int) == 0) else some false)) (tu1 fun x291 => some x291)) else (Option.bind (g_law_StationBuses_l4 K p0 p1 K [] 0) (tu1 fun x398 => (Option.bind ((if (x40.2 == 0) = true then ((g_slices_Equal_string_string K x40.1 x398).bind fun x421 => some x421) else some false)) (tu1 fun x441 => some x441))))))))))))))))))
set_option maxHeartbeats 4000000 in
theorem g_law_StationBuses_ok (K : Nat) {G : GM} {H : AH} {L : List Pc} (v0 : List Value) (p0 : Network) (hp0 : T_Network.rep G v0 p0) (p1 : ByteArray) (O : Ow G H (L)) (r : Bool) (h : g_law_StationBuses K p0 p1 = some r) :
    CR Try.prog 7 [.agg (List.toArray v0), (.string p1)] G H (L) (fun v G' _ => v = .bool r) := by
  unfold g_law_StationBuses at h
  refine CR.of (calls_of_AW (n := 141) (fn := Try.f7) (R := fun v H' => ∃ G', Ow G' H' (L) ∧ G.le G' ∧ v = .bool r) (by kernel_rfl) rfl rfl ?_)
  refine .seq ?_
  refine .region ?_
  refine W.lo rfl rfl (Lo.box (r := T_Network) (x0 := p0) (v := (.agg (List.toArray v0))) rfl rfl hp0 O) ?_
  rintro v4 H5 ⟨b2, rfl, O1, sm3⟩
  refine W.pure (v := (.bool false)) rfl rfl (v_assign (oo rfl rfl)) ?_
  refine .nil ?_
  refine .seq ?_
  refine .seq ?_
  refine .region ?_
  obtain ⟨x6, i7, h8⟩ := bd_inv h
  refine W.lo rfl rfl (Lo.callP (ps := []) (ps' := []) rfl (fn := Try.f37) (by kernel_rfl) rfl mn O1 (fun L' O' => g_law_stationFact_ok K  O' _ i7)) ?_
  rintro v15 H16 ⟨G9, O10, s11, sm14, rfl⟩
  replace O10 : Ow G9 H16 (eVar b2 48 T_Network p0 :: L) := O10
  refine W.pure (v := (.bool (!x6))) rfl rfl (bool_not (a := x6) (oo rfl rfl)) ?_
  refine .nil ?_
  refine .cond (b := (!x6)) rfl rfl (fun g17 => ?_) (fun g17 => ?_)
  · have h18 := pos_inv g17 h8
    refine .seq ?_
    refine .region ?_
    refine W.pure (v := (.bool false)) rfl rfl (v_assign (oo rfl rfl)) ?_
    refine .nil ?_
    refine .ret ?_
    have O19 : Ow G9 H16 (L) := O10.drop 0
    obtain rfl := Option.some.inj h18
    refine ret1R (P := Try.prog) (fn := Try.f7) (n := 141) (R := fun v H' => ∃ G', Ow G' H' (L) ∧ G.le G' ∧ v = .bool false) (v1 := (.bool false)) (by rfl) (rr_tmp (by rfl) (by exact rfl)) ?_
    exact ⟨_, O19, s11, rfl⟩
  · have h20 := neg_b g17 h8
    refine .skip ?_
    refine .seq ?_
    refine .region ?_
    obtain ⟨c21, p22, f23⟩ := (O10.atVar (j := 0) rfl)
    refine W.loadA (cs := c21) rfl rfl ag48 sz48 (pt_px rfl p22) (RT.len _ f23) ?_
    obtain ⟨x24, i25, h26⟩ := bd_inv h20
    refine W.lo rfl rfl (Lo.callP (ps := []) (ps' := []) rfl (fn := Try.f38) (by kernel_rfl) rfl (mc rfl mn) O10 (fun L' O' => g_station_Busbars_ok K c21 p0 f23 O' _ i25)) ?_
    rintro v35 H36 ⟨G27, O28, s29, sm34, ⟨w31, rfl, f32⟩⟩
    replace O28 : Ow G27 H36 (eVar b2 48 T_Network p0 :: L) := O28
    refine W.pure (v := (.tuple #[w31, (.int .i64 x24.2)])) rfl rfl (v_move (oo rfl rfl)) ?_
    refine W.pure (v := w31) rfl rfl (v_extract (oo rfl rfl) rfl) ?_
    refine W.pure (v := (.int .i64 x24.2)) rfl rfl (v_extract (oo rfl rfl) rfl) ?_
    refine W.pure (v := w31) rfl rfl (v_assign (oo rfl rfl)) ?_
    refine W.pure (v := (.int .i64 x24.2)) rfl rfl (v_assign (oo rfl rfl)) ?_
    refine .nil ?_
    refine .seq ?_
    refine .region ?_
    obtain ⟨c37, p38, f39⟩ := (O28.atVar (j := 0) rfl)
    refine W.loadA (cs := c37) rfl rfl ag48 sz48 (pt_px rfl p38) (RT.len _ f39) ?_
    refine W.pure (v := (.string p1)) rfl rfl (v_move (oo rfl rfl)) ?_
    obtain ⟨x40, i41, h42⟩ := bd_inv h26
    refine W.lo rfl rfl (Lo.callPF (ps := []) (pw := fun w => [eSl w 9 rS x40.1]) rfl (fn := Try.f39) (by kernel_rfl) rfl (mc rfl (mc rfl mn)) O28 (fun L' O' => g_station_Isolate_ok K c37 p0 f39 p1 O' _ i41)) ?_
    rintro v51 H52 ⟨w48, G43, O44, s45, sm50, rfl⟩
    replace O44 : Ow G43 H52 (eSl w48 9 rS x40.1 :: eVar b2 48 T_Network p0 :: L) := O44
    refine W.pure (v := (.tuple #[w48, (.int .i64 x40.2)])) rfl rfl (v_move (oo rfl rfl)) ?_
    refine W.pure (v := w48) rfl rfl (v_extract (oo rfl rfl) rfl) ?_
    refine W.pure (v := (.int .i64 x40.2)) rfl rfl (v_extract (oo rfl rfl) rfl) ?_
    refine W.pure (v := w48) rfl rfl (v_assign (oo rfl rfl)) ?_
    refine W.pure (v := (.int .i64 x40.2)) rfl rfl (v_assign (oo rfl rfl)) ?_
    refine .nil ?_
    refine .seq ?_
    refine .seq ?_
    refine .region ?_
    obtain ⟨c53, p54, f55⟩ := (O44.atVar (j := 1) rfl)
    refine W.loadA (cs := c53) rfl rfl ag48 sz48 (pt_px rfl p54) (RT.len _ f55) ?_
    obtain ⟨x56, i57, h58⟩ := bd_inv h42
    refine W.lo rfl rfl (Lo.callP (ps := []) (ps' := []) rfl (fn := Try.f23) (by kernel_rfl) rfl (mc rfl mn) O44 (fun L' O' => g_R_NetError_ok K c53 p0 f55 O' _ i57)) ?_
    rintro v65 H66 ⟨G59, O60, s61, sm64, rfl⟩
    replace O60 : Ow G59 H66 (eSl w48 9 rS x40.1 :: eVar b2 48 T_Network p0 :: L) := O60
    refine W.pure (v := (.int .i64 x56)) rfl rfl (v_assign (oo rfl rfl)) ?_
    refine .nil ?_
    refine .seq ?_
    refine .region ?_
    refine W.pure (v := (.int .i64 x56)) rfl rfl (v_move (oo rfl rfl)) ?_
    refine W.pure (v := (.bool (x56 != 0))) rfl rfl (v_int (oo rfl rfl) (oo rfl rfl) rfl) ?_
    refine .nil ?_
    refine .cond (b := (x56 != 0)) rfl rfl (fun g67 => ?_) (fun g67 => ?_)
    · have h68 := pos_inv g67 h58
      refine .seq ?_
      obtain ⟨q69, h70, h71⟩ := bd_inv h68
      refine AW.midT (fun σ' H' => ∃ (y1 : Bool) (G' : GM), y1 = q69 ∧ Ow G' H' (eSl w48 9 rS x40.1 :: eVar b2 48 T_Network p0 :: L) ∧ GM.le G59 G' ∧ σ' 4 = .bool y1) ?_ ?_
      · refine .region ?_
        refine W.pure (v := (.int .i64 x24.2)) rfl rfl (v_move (oo rfl rfl)) ?_
        refine W.pure (v := (.int .i64 x56)) rfl rfl (v_move (oo rfl rfl)) ?_
        refine W.pure (v := (.bool (x24.2 == x56))) rfl rfl (v_int (oo rfl rfl) (oo rfl rfl) rfl) ?_
        refine W.pure (v := (.bool (x24.2 == x56))) rfl rfl (v_move (oo rfl rfl)) ?_
        refine W.splitAt (t := 39) (b := (x24.2 == x56)) rfl (fun g72 gv73 => ?_) (fun g72 gv73 => ?_)
        · have h74 := pos_inv g72 h70
          refine W.pure (v := (.int .i64 x40.2)) (gk rfl rfl gv73 rfl) rfl (v_move (oo rfl rfl)) ?_
          refine W.pure (v := (.int .i64 x56)) (gk rfl rfl gv73 rfl) rfl (v_move (oo rfl rfl)) ?_
          refine W.pure (v := (.bool (x40.2 == x56))) (gk rfl rfl gv73 rfl) rfl (v_int (oo rfl rfl) (oo rfl rfl) rfl) ?_
          refine W.pure (v := (.bool (x40.2 == x56))) rfl rfl (v_pickT (oo rfl gv73) (oo rfl rfl)) ?_
          refine W.pure (v := (.bool (x40.2 == x56))) rfl rfl (v_move (oo rfl rfl)) ?_
          refine W.splitAt (t := 44) (b := (x40.2 == x56)) rfl (fun g75 gv76 => ?_) (fun g75 gv76 => ?_)
          · have h77 := pos_inv g75 h74
            refine W.pure (v := w31) (gk rfl rfl gv76 rfl) rfl (v_move (oo rfl rfl)) ?_
            refine W.pure (v := (.int .i64 (List.length x24.1 : Int))) (gk rfl rfl gv76 rfl) rfl (len_sl (oo rfl rfl) (sl_len (RT.mono _ (GM.le.trans s45 s61) f32)) (elemT_inv el72)) ?_
            refine W.pure (v := w48) (gk rfl rfl gv76 rfl) rfl (v_move (oo rfl rfl)) ?_
            refine W.pure (v := (.int .i64 (List.length x40.1 : Int))) (gk rfl rfl gv76 rfl) rfl (len_sl (oo rfl rfl) (O60.slLen (j := 0) rfl) (elemT_inv el41)) ?_
            refine W.pure (v := (.int .i64 (kwrap .i64 ((List.length x24.1 : Int) + (List.length x40.1 : Int))))) (gk rfl rfl gv76 rfl) rfl (v_int (oo rfl rfl) (oo rfl rfl) rfl) ?_
            obtain ⟨x78, e79, h80⟩ := lt_inv h77
            refine W.pure (v := (.bool (x78 == 0))) (gk rfl rfl gv76 rfl) rfl (v_int (oo rfl (congrArg (Value.int .i64) e79)) (oo rfl rfl) rfl) ?_
            refine W.pure (v := (.bool (x78 == 0))) rfl rfl (v_pickT (oo rfl gv76) (oo rfl rfl)) ?_
            refine W.pure (v := (.bool (x78 == 0))) rfl rfl (v_assign (oo rfl rfl)) ?_
            refine .nil ?_
            obtain rfl := Option.some.inj h80
            exact ⟨(x78 == 0), _, rfl, O60, (GM.le.refl _), rfl⟩
          · have h81 := neg_b g75 h74
            refine W.skip (gk rfl rfl gv76 rfl) rfl ?_
            refine W.skip (gk rfl rfl gv76 rfl) rfl ?_
            refine W.skip (gk rfl rfl gv76 rfl) rfl ?_
            refine W.skip (gk rfl rfl gv76 rfl) rfl ?_
            refine W.skip (gk rfl rfl gv76 rfl) rfl ?_
            refine W.skip (gk rfl rfl gv76 rfl) rfl ?_
            refine W.pure (v := (.bool false)) rfl rfl (v_pickF (oo rfl gv76) (oo rfl rfl)) ?_
            refine W.pure (v := (.bool false)) rfl rfl (v_assign (oo rfl rfl)) ?_
            refine .nil ?_
            obtain rfl := Option.some.inj h81
            exact ⟨false, _, rfl, O60, (GM.le.refl _), rfl⟩
        · have h82 := neg_b g72 h70
          refine W.skip (gk rfl rfl gv73 rfl) rfl ?_
          refine W.skip (gk rfl rfl gv73 rfl) rfl ?_
          refine W.skip (gk rfl rfl gv73 rfl) rfl ?_
          refine W.pure (v := (.bool false)) rfl rfl (v_pickF (oo rfl gv73) (oo rfl rfl)) ?_
          refine W.pure (v := (.bool false)) rfl rfl (v_move (oo rfl rfl)) ?_
          refine W.skip (gk rfl rfl rfl rfl) rfl ?_
          refine W.skip (gk rfl rfl rfl rfl) rfl ?_
          refine W.skip (gk rfl rfl rfl rfl) rfl ?_
          refine W.skip (gk rfl rfl rfl rfl) rfl ?_
          refine W.skip (gk rfl rfl rfl rfl) rfl ?_
          refine W.skip (gk rfl rfl rfl rfl) rfl ?_
          refine W.pure (v := (.bool false)) rfl rfl (v_pickF (oo rfl rfl) (oo rfl rfl)) ?_
          refine W.pure (v := (.bool false)) rfl rfl (v_assign (oo rfl rfl)) ?_
          refine .nil ?_
          obtain rfl := Option.some.inj h82
          exact ⟨false, _, rfl, O60, (GM.le.refl _), rfl⟩
      · rintro σ84 H85 fr86 ⟨x83, G87, rfl, O88, s89, t91⟩
        have h92 := tu1_inv h71
        refine .ret ?_
        have O93 : Ow G87 H85 (eVar b2 48 T_Network p0 :: L) := O88.drop 0
        have O94 : Ow G87 H85 (L) := O93.drop 0
        obtain rfl := Option.some.inj h92
        refine ret1R (P := Try.prog) (fn := Try.f7) (n := 141) (R := fun v H' => ∃ G', Ow G' H' (L) ∧ G.le G' ∧ v = .bool x83) (v1 := (.bool x83)) (by rfl) (rr_tmp (by rfl) (by exact t91)) ?_
        exact ⟨_, O94, (GM.le.trans s11 (GM.le.trans s29 (GM.le.trans s45 (GM.le.trans s61 s89)))), rfl⟩
    · have h95 := neg_b g67 h58
      refine .skip ?_
      refine .seq ?_
      refine .region ?_
      obtain ⟨c96, p97, f98⟩ := (O60.atVar (j := 1) rfl)
      refine W.loadA (cs := c96) rfl rfl ag48 sz48 (pt_px rfl p97) (RT.len _ f98) ?_
      obtain ⟨x99, i100, h101⟩ := bd_inv h95
      refine W.lo rfl rfl (Lo.callPF (ps := []) (pw := fun w => [eSl w 3 (rI .i64) x99]) rfl (fn := Try.f40) (by kernel_rfl) rfl (mc rfl mn) O60 (fun L' O' => g_R_Buses_ok K c96 p0 f98 O' _ i100)) ?_
      rintro v110 H111 ⟨w107, G102, O103, s104, sm109, rfl⟩
      replace O103 : Ow G102 H111 (eSl w107 3 (rI .i64) x99 :: eSl w48 9 rS x40.1 :: eVar b2 48 T_Network p0 :: L) := O103
      refine W.pure (v := w107) rfl rfl (v_assign (oo rfl rfl)) ?_
      refine .nil ?_
      refine .seq ?_
      refine .seq ?_
      obtain ⟨q112, h113, h114⟩ := bd_inv h101
      refine AW.midT (fun σ' H' => ∃ (y1 : Bool) (G' : GM), y1 = q112 ∧ Ow G' H' (eSl w107 3 (rI .i64) x99 :: eSl w48 9 rS x40.1 :: eVar b2 48 T_Network p0 :: L) ∧ GM.le G102 G' ∧ σ' 62 = .bool y1) ?_ ?_
      · refine .region ?_
        refine W.pure (v := (.int .i64 x24.2)) rfl rfl (v_move (oo rfl rfl)) ?_
        refine W.pure (v := (.bool (x24.2 != 0))) rfl rfl (v_int (oo rfl rfl) (oo rfl rfl) rfl) ?_
        refine W.pure (v := (.bool (x24.2 != 0))) rfl rfl (v_move (oo rfl rfl)) ?_
        refine W.splitAt (t := 56) (b := (x24.2 != 0)) rfl (fun g115 gv116 => ?_) (fun g115 gv116 => ?_)
        · have h117 := pos_inv g115 h113
          refine W.skip (gk rfl rfl gv116 rfl) rfl ?_
          refine W.skip (gk rfl rfl gv116 rfl) rfl ?_
          refine W.skip (gk rfl rfl gv116 rfl) rfl ?_
          refine W.skip (gk rfl rfl gv116 rfl) rfl ?_
          refine W.skip (gk rfl rfl gv116 rfl) rfl ?_
          refine W.pure (v := (.bool true)) rfl rfl (v_pickT (oo rfl gv116) (oo rfl rfl)) ?_
          refine .nil ?_
          obtain rfl := Option.some.inj h117
          exact ⟨true, _, rfl, O103, (GM.le.refl _), rfl⟩
        · have h118 := neg_b g115 h113
          refine W.pure (v := w31) (gk rfl rfl gv116 rfl) rfl (v_move (oo rfl rfl)) ?_
          refine W.pure (v := (.int .i64 (List.length x24.1 : Int))) (gk rfl rfl gv116 rfl) rfl (len_sl (oo rfl rfl) (sl_len (RT.mono _ (GM.le.trans s45 (GM.le.trans s61 s104)) f32)) (elemT_inv el72)) ?_
          refine W.pure (v := w107) (gk rfl rfl gv116 rfl) rfl (v_move (oo rfl rfl)) ?_
          obtain ⟨x119, i120, h121⟩ := bd_inv h118
          refine W.lo (gk rfl rfl gv116 rfl) rfl (Lo.callB (j := 0) rfl rfl (fn := Try.f32) (by kernel_rfl) rfl (mc rfl mn) O103 (fun G' L' hG O' hB => g_R_Most_ok K w107 x99 hB O' _ i120)) ?_
          rintro v128 H129 ⟨G122, O123, s124, sm127, rfl⟩
          replace O123 : Ow G122 H129 (eSl w107 3 (rI .i64) x99 :: eSl w48 9 rS x40.1 :: eVar b2 48 T_Network p0 :: L) := O123
          refine W.pure (v := (.bool ((List.length x24.1 : Int) != x119))) (gk rfl rfl gv116 rfl) rfl (v_int (oo rfl rfl) (oo rfl rfl) rfl) ?_
          refine W.pure (v := (.bool ((List.length x24.1 : Int) != x119))) rfl rfl (v_pickF (oo rfl gv116) (oo rfl rfl)) ?_
          refine .nil ?_
          obtain rfl := Option.some.inj h121
          exact ⟨((List.length x24.1 : Int) != x119), _, rfl, O123, s124, rfl⟩
      · rintro σ131 H132 fr133 ⟨x130, G134, rfl, O135, s136, t138⟩
        have h139 := tu1_inv h114
        refine .cond (b := x130) rfl t138 (fun g140 => ?_) (fun g140 => ?_)
        · have h141 := pos_inv g140 h139
          refine .seq ?_
          refine .region ?_
          refine W.pure (v := (.bool false)) rfl rfl (v_assign (oo rfl rfl)) ?_
          refine .nil ?_
          refine .ret ?_
          have O142 : Ow G134 H132 (eSl w48 9 rS x40.1 :: eVar b2 48 T_Network p0 :: L) := O135.drop 0
          have O143 : Ow G134 H132 (eVar b2 48 T_Network p0 :: L) := O142.drop 0
          have O144 : Ow G134 H132 (L) := O143.drop 0
          obtain rfl := Option.some.inj h141
          refine ret1R (P := Try.prog) (fn := Try.f7) (n := 141) (R := fun v H' => ∃ G', Ow G' H' (L) ∧ G.le G' ∧ v = .bool false) (v1 := (.bool false)) (by rfl) (rr_tmp (by rfl) (by exact rfl)) ?_
          exact ⟨_, O144, (GM.le.trans s11 (GM.le.trans s29 (GM.le.trans s45 (GM.le.trans s61 (GM.le.trans s104 s136))))), rfl⟩
        · have h145 := neg_b g140 h139
          refine .skip ?_
          refine .seq ?_
          refine .seq ?_
          refine .region ?_
          refine W.pure (v := w31) rfl rfl (v_move (oo rfl ((fr133 5 rfl).trans rfl))) ?_
          refine W.pure (v := (.int .i64 (List.length x24.1 : Int))) rfl rfl (len_sl (oo rfl rfl) (sl_len (RT.mono _ (GM.le.trans s45 (GM.le.trans s61 (GM.le.trans s104 s136))) f32)) (elemT_inv el72)) ?_
          refine W.pure (v := (.int .i64 0)) rfl rfl (v_move (oo rfl rfl)) ?_
          refine .nil ?_
          obtain ⟨q146, h147, h148⟩ := bindS_inv h145
          refine AW.midT (fun σ' H' => ∃  (G' : GM), (.inr ()) = q146 ∧ Ow G' H' (eSl w107 3 (rI .i64) x99 :: eSl w48 9 rS x40.1 :: eVar b2 48 T_Network p0 :: L) ∧ GM.le G134 G') ?_ ?_
          · refine .block ?_
            refine AW.loop (α := Nat) (fun k' σ' H' => ∃ (y1 : Int) (G' : GM), g_law_StationBuses_l0 K x24 p0 x99 k' y1 = some q146 ∧ Ow G' H' (eSl w107 3 (rI .i64) x99 :: eSl w48 9 rS x40.1 :: eVar b2 48 T_Network p0 :: L) ∧ GM.le G134 G' ∧ σ' 65 = .int .i64 y1) (fun k' => k') K ⟨0, _, h147, O135, (GM.le.refl _), rfl⟩ ?_
            rintro k149
            rintro σ151 H152 fr153 ⟨x150, G154, h157, O155, s156, t158⟩
            rcases k149 with _ | k149
            · exact none_absurd h157
            rw [g_law_StationBuses_l0] at h157
            refine .seq ?_
            refine .region ?_
            refine W.pure (v := (.bool (decide (x150 < (List.length x24.1 : Int))))) rfl rfl (v_int (oo rfl t158) (oo rfl ((fr153 64 rfl).trans rfl)) rfl) ?_
            refine .nil ?_
            refine .seq ?_
            refine .cond (b := decide (x150 < (List.length x24.1 : Int))) rfl rfl (fun g159 => ?_) (fun g159 => ?_)
            · have h160 := pos_inv g159 h157
              refine .skip ?_
              refine .seq ?_
              refine .block ?_
              refine .seq ?_
              refine .region ?_
              refine W.pure (v := (.int .i64 x150)) rfl rfl (v_move (oo rfl t158)) ?_
              obtain ⟨x161, i162, h163⟩ := bd_inv h160
              have j164 := idx_inv i162
              refine W.pure (v := (selem w31 (Int.toNat x150 * 1))) rfl rfl (v_idx el72 sz41 (oo rfl ((fr153 63 rfl).trans rfl)) (oo rfl t158) (sl_len (RT.mono _ (GM.le.trans s45 (GM.le.trans s61 (GM.le.trans s104 (GM.le.trans s136 s156)))) f32)) j164.1 j164.2.1) ?_
              obtain ⟨w165, p166, f167⟩ := At.sl (At.le (sl_idx f32 j164.2.2) (GM.le.trans s45 (GM.le.trans s61 (GM.le.trans s104 (GM.le.trans s136 s156)))) (GM.le.trans s45 (GM.le.trans s61 (GM.le.trans s104 (GM.le.trans s136 s156)))))
              replace p166 := PtG.le p166 O155.fro
              refine W.load1 (v := w165) (r := []) rfl rfl ag41 (pt_px rfl p166) ?_
              refine W.pure (v := (.int .i64 x150)) rfl rfl (v_assign (oo rfl rfl)) ?_
              refine W.pure (v := w165) rfl rfl (v_assign (oo rfl rfl)) ?_
              refine .nil ?_
              refine .seq ?_
              refine .region ?_
              refine W.pure (v := (.slice none 0 0)) rfl rfl (v_assign (oo rfl rfl)) ?_
              refine .nil ?_
              refine .seq ?_
              refine .seq ?_
              refine .region ?_
              refine W.pure (v := (padd (.pointer (some ⟨b2, 0, none⟩)) 0)) rfl rfl (v_fldA fl48_0 (oo rfl ((fr153 2 rfl).trans ((fr133 2 rfl).trans rfl))) (O155.atVar (j := 2) rfl)) ?_
              obtain ⟨w168, p169, f170⟩ := At.sl (At.proj (O155.atVar (j := 2) rfl) p_Network_Nodes)
              refine W.load1 (v := w168) (r := []) rfl rfl ag41 (pt_px rfl p169) ?_
              refine W.pure (v := (.int .i64 (List.length p0.Nodes : Int))) rfl rfl (len_sl (oo rfl rfl) (sl_len f170) (elemT_inv el41)) ?_
              refine W.pure (v := (.int .i64 0)) rfl rfl (v_move (oo rfl rfl)) ?_
              refine .nil ?_
              obtain ⟨q171, h172, h173⟩ := bd_inv h163
              refine AW.midT (fun σ' H' => ∃ (y1 : List ByteArray) (G' : GM), y1 = q171 ∧ Ow G' H' (eSl w107 3 (rI .i64) x99 :: eSl w48 9 rS x40.1 :: eVar b2 48 T_Network p0 :: eSl (σ' 13) 9 rS y1 :: L) ∧ GM.le G154 G') ?_ ?_
              · refine .block ?_
                have O174 := O155.nilSl 9 rS
                refine AW.loop (α := Nat) (fun k' σ' H' => ∃ (y1 : List ByteArray) (y2 : Int) (G' : GM), g_law_StationBuses_l2 K p0 x99 x150 k' y1 y2 = some q171 ∧ Ow G' H' (eSl (σ' 13) 9 rS y1 :: eSl w107 3 (rI .i64) x99 :: eSl w48 9 rS x40.1 :: eVar b2 48 T_Network p0 :: L) ∧ GM.le G154 G' ∧ σ' 73 = .int .i64 y2) (fun k' => k') K ⟨[], 0, _, h172, O174, (GM.le.refl _), rfl⟩ ?_
                rintro k175
                rintro σ178 H179 fr180 ⟨x176, x177, G181, h184, O182, s183, t185⟩
                rcases k175 with _ | k175
                · exact none_absurd h184
                rw [g_law_StationBuses_l2] at h184
                refine .seq ?_
                refine .region ?_
                refine W.pure (v := (.bool (decide (x177 < (List.length p0.Nodes : Int))))) rfl rfl (v_int (oo rfl t185) (oo rfl ((fr180 72 rfl).trans rfl)) rfl) ?_
                refine .nil ?_
                refine .seq ?_
                refine .cond (b := decide (x177 < (List.length p0.Nodes : Int))) rfl rfl (fun g186 => ?_) (fun g186 => ?_)
                · have h187 := pos_inv g186 h184
                  refine .skip ?_
                  refine .seq ?_
                  obtain ⟨q188, h189, h190⟩ := bd_inv h187
                  refine AW.midT (fun σ' H' => ∃ (y1 : List ByteArray) (G' : GM), y1 = q188 ∧ Ow G' H' (eSl (σ' 13) 9 rS y1 :: eSl w107 3 (rI .i64) x99 :: eSl w48 9 rS x40.1 :: eVar b2 48 T_Network p0 :: L) ∧ GM.le G181 G') ?_ ?_
                  · refine .block ?_
                    refine .seq ?_
                    refine .region ?_
                    refine W.pure (v := (.int .i64 x177)) rfl rfl (v_move (oo rfl t185)) ?_
                    obtain ⟨x191, i192, h193⟩ := bd_inv h189
                    have j194 := idx_inv i192
                    refine W.pure (v := (selem w168 (Int.toNat x177 * 1))) rfl rfl (v_idx el41 sz9 (oo rfl ((fr180 71 rfl).trans rfl)) (oo rfl t185) (sl_len (RT.mono _ s183 f170)) j194.1 j194.2.1) ?_
                    refine W.load1 (v := (.string x191)) (r := []) rfl rfl ag9 (pt_px rfl (At.str (At.le (At.le (sl_idx f170 j194.2.2) s183 s183) (GM.le.refl _) O182.fro))) ?_
                    refine W.pure (v := (.int .i64 x177)) rfl rfl (v_assign (oo rfl rfl)) ?_
                    refine W.pure (v := (.string x191)) rfl rfl (v_assign (oo rfl rfl)) ?_
                    refine .nil ?_
                    refine .seq ?_
                    refine .region ?_
                    refine W.pure (v := w107) rfl rfl (v_move (oo rfl ((fr180 10 rfl).trans ((fr153 10 rfl).trans ((fr133 10 rfl).trans rfl))))) ?_
                    refine W.pure (v := (.int .i64 x177)) rfl rfl (v_move (oo rfl rfl)) ?_
                    obtain ⟨x195, i196, h197⟩ := bd_inv h193
                    have j198 := idx_inv i196
                    refine W.pure (v := (selem w107 (Int.toNat x177 * 1))) rfl rfl (v_idx el24 sz3 (oo rfl rfl) (oo rfl rfl) (O182.slLen (j := 1) rfl) j198.1 j198.2.1) ?_
                    refine W.load1 (v := (.int .i64 x195)) (r := []) rfl rfl ag3 (pt_px rfl (At.int (O182.atSl (j := 1) rfl j198.2.2))) ?_
                    refine W.pure (v := (.int .i64 x150)) rfl rfl (v_move (oo rfl ((fr180 11 rfl).trans rfl))) ?_
                    refine W.pure (v := (.bool (x195 == x150))) rfl rfl (v_int (oo rfl rfl) (oo rfl rfl) rfl) ?_
                    refine .nil ?_
                    refine .cond (b := (x195 == x150)) rfl rfl (fun g199 => ?_) (fun g199 => ?_)
                    · have h200 := pos_inv g199 h197
                      refine .region ?_
                      refine W.pure (v := (σ178 13)) rfl rfl (v_move (oo rfl rfl)) ?_
                      refine W.pure (v := (.string x191)) rfl rfl (v_move (oo rfl rfl)) ?_
                      refine W.lo rfl rfl (Lo.buildSlice (r := rS) (vs := [(.string x191)]) (xs := [x191]) el41 ze9 sz9 (by kernel_rfl) rfl (qc rfl qn) rfl (.cons rfl .nil) O182) ?_
                      rintro v203 H204 ⟨O201, sm202⟩
                      obtain ⟨es206, e207, e208⟩ := src_own (j := 0) rfl O201
                      obtain ⟨g209, h210⟩ := gd_inv h200
                      refine W.lo rfl rfl (Lo.append (j := 1) (v := (σ178 13)) rfl rfl el41 ni41 ze9 sz9 by9 (by decide) (by decide) rfl e207 e208 g209 O201) ?_
                      rintro v212 H213 ⟨O205, sm211⟩
                      replace O205 : Ow G181 H213 (eSl v203 9 rS [x191] :: eSl v212 9 rS (x176 ++ [x191]) :: eSl w107 3 (rI .i64) x99 :: eSl w48 9 rS x40.1 :: eVar b2 48 T_Network p0 :: L) := O205
                      refine W.pure (v := v212) rfl rfl (v_assign (oo rfl rfl)) ?_
                      refine .nil ?_
                      have O214 : Ow G181 H213 (eSl v212 9 rS (x176 ++ [x191]) :: eSl w107 3 (rI .i64) x99 :: eSl w48 9 rS x40.1 :: eVar b2 48 T_Network p0 :: L) := O205.drop 0
                      obtain rfl := Option.some.inj h210
                      exact ⟨(x176 ++ [x191]), _, rfl, O214, (GM.le.refl _)⟩
                    · have h215 := neg_b g199 h197
                      refine .skip ?_
                      obtain rfl := Option.some.inj h215
                      exact ⟨x176, _, rfl, O182, (GM.le.refl _)⟩
                  · rintro σ217 H218 fr219 ⟨x216, G220, rfl, O221, s222⟩
                    have h224 := tu1_inv h190
                    refine .region ?_
                    refine W.pure (v := (.int .i64 (kwrap .i64 (x177 + 1)))) rfl rfl (v_int (oo rfl ((fr219 73 rfl).trans t185)) (oo rfl rfl) rfl) ?_
                    refine W.pure (v := (.int .i64 (kwrap .i64 (x177 + 1)))) rfl rfl (v_move (oo rfl rfl)) ?_
                    refine .nil ?_
                    exact ⟨k175, Nat.lt_succ_self _, ⟨x216, kwrap .i64 (x177 + 1), _, h224, O221, (GM.le.trans s183 s222), rfl⟩⟩
                · have h225 := neg_b g186 h184
                  refine .exit ?_
                  have O226 : Ow G181 H179 (eSl (σ178 13) 9 rS x176 :: eSl w107 3 (rI .i64) x99 :: eSl w48 9 rS x40.1 :: eVar b2 48 T_Network p0 :: L) := O182.front (j := 0) rfl
                  have O227 : Ow G181 H179 (eVar b2 48 T_Network p0 :: eSl (σ178 13) 9 rS x176 :: eSl w107 3 (rI .i64) x99 :: eSl w48 9 rS x40.1 :: L) := O226.front (j := 3) rfl
                  have O228 : Ow G181 H179 (eSl w48 9 rS x40.1 :: eVar b2 48 T_Network p0 :: eSl (σ178 13) 9 rS x176 :: eSl w107 3 (rI .i64) x99 :: L) := O227.front (j := 3) rfl
                  have O229 : Ow G181 H179 (eSl w107 3 (rI .i64) x99 :: eSl w48 9 rS x40.1 :: eVar b2 48 T_Network p0 :: eSl (σ178 13) 9 rS x176 :: L) := O228.front (j := 3) rfl
                  obtain rfl := Option.some.inj h225
                  exact ⟨x176, _, rfl, O229, s183⟩
              · rintro σ231 H232 fr233 ⟨x230, G234, rfl, O235, s236⟩
                have h238 := tu1_inv h173
                refine .seq ?_
                refine .region ?_
                refine W.pure (v := w165) rfl rfl (v_move (oo rfl ((fr233 12 rfl).trans rfl))) ?_
                refine W.pure (v := (σ231 13)) rfl rfl (v_move (oo rfl rfl)) ?_
                obtain ⟨x239, i240, h241⟩ := bd_inv h238
                refine W.lo rfl rfl (Lo.callB (j := 3) rfl rfl (fn := Try.f41) (by kernel_rfl) rfl (mc rfl (mc rfl mn)) O235 (fun G' L' hG O' hB => g_slices_Equal_string_string_ok K w165 x161 (RT.mono _ hG (RT.mono _ s236 f167)) (σ231 13) x230 hB O' _ i240)) ?_
                rintro v248 H249 ⟨G242, O243, s244, sm247, rfl⟩
                replace O243 : Ow G242 H249 (eSl w107 3 (rI .i64) x99 :: eSl w48 9 rS x40.1 :: eVar b2 48 T_Network p0 :: eSl (σ231 13) 9 rS x230 :: L) := O243
                refine W.pure (v := (.bool (!x239))) rfl rfl (bool_not (a := x239) (oo rfl rfl)) ?_
                refine .nil ?_
                refine .cond (b := (!x239)) rfl rfl (fun g250 => ?_) (fun g250 => ?_)
                · have h251 := pos_inv g250 h241
                  refine .seq ?_
                  refine .region ?_
                  refine W.pure (v := (.bool false)) rfl rfl (v_assign (oo rfl rfl)) ?_
                  refine .nil ?_
                  refine .ret ?_
                  have O252 : Ow G242 H249 (eSl w48 9 rS x40.1 :: eVar b2 48 T_Network p0 :: eSl (σ231 13) 9 rS x230 :: L) := O243.drop 0
                  have O253 : Ow G242 H249 (eVar b2 48 T_Network p0 :: eSl (σ231 13) 9 rS x230 :: L) := O252.drop 0
                  have O254 : Ow G242 H249 (eSl (σ231 13) 9 rS x230 :: L) := O253.drop 0
                  have O255 : Ow G242 H249 (L) := O254.drop 0
                  obtain rfl := Option.some.inj h251
                  have h256 := tu1_inv (outS_l h148)
                  obtain rfl := Option.some.inj h256
                  refine ret1R (P := Try.prog) (fn := Try.f7) (n := 141) (R := fun v H' => ∃ G', Ow G' H' (L) ∧ G.le G' ∧ v = .bool false) (v1 := (.bool false)) (by rfl) (rr_tmp (by rfl) (by exact rfl)) ?_
                  exact ⟨_, O255, (GM.le.trans s11 (GM.le.trans s29 (GM.le.trans s45 (GM.le.trans s61 (GM.le.trans s104 (GM.le.trans s136 (GM.le.trans s156 (GM.le.trans s236 s244)))))))), rfl⟩
                · have h257 := neg_b g250 h241
                  refine .skip ?_
                  refine .region ?_
                  refine W.pure (v := (.int .i64 (kwrap .i64 (x150 + 1)))) rfl rfl (v_int (oo rfl ((fr233 65 rfl).trans t158)) (oo rfl rfl) rfl) ?_
                  refine W.pure (v := (.int .i64 (kwrap .i64 (x150 + 1)))) rfl rfl (v_move (oo rfl rfl)) ?_
                  refine .nil ?_
                  have O258 : Ow G242 H249 (eSl w107 3 (rI .i64) x99 :: eSl w48 9 rS x40.1 :: eVar b2 48 T_Network p0 :: L) := O243.drop 3
                  exact ⟨k149, Nat.lt_succ_self _, ⟨kwrap .i64 (x150 + 1), _, h257, O258, (GM.le.trans s156 (GM.le.trans s236 s244)), rfl⟩⟩
            · have h259 := neg_b g159 h157
              refine .exit ?_
              obtain rfl := Option.some.inj h259
              exact ⟨_, rfl, O155, s156⟩
          · rintro σ260 H261 fr262 ⟨G263, rfl, O264, s265⟩
            have h267 := tu0_inv (outS_r h148)
            refine .seq ?_
            refine .seq ?_
            refine .region ?_
            refine W.pure (v := (padd (.pointer (some ⟨b2, 0, none⟩)) 0)) rfl rfl (v_fldA fl48_0 (oo rfl ((fr262 2 rfl).trans ((fr133 2 rfl).trans rfl))) (O264.atVar (j := 2) rfl)) ?_
            obtain ⟨w268, p269, f270⟩ := At.sl (At.proj (O264.atVar (j := 2) rfl) p_Network_Nodes)
            refine W.load1 (v := w268) (r := []) rfl rfl ag41 (pt_px rfl p269) ?_
            refine W.pure (v := (.string p1)) rfl rfl (v_move (oo rfl ((fr262 1 rfl).trans ((fr133 1 rfl).trans rfl)))) ?_
            obtain ⟨x271, i272, h273⟩ := bd_inv h267
            refine W.lo rfl rfl (Lo.callP (ps := []) (ps' := []) rfl (fn := Try.f42) (by kernel_rfl) rfl (mc rfl (mc rfl mn)) O264 (fun L' O' => g_R_Has_ok K w268 p0.Nodes f270 p1 O' _ i272)) ?_
            rintro v280 H281 ⟨G274, O275, s276, sm279, rfl⟩
            replace O275 : Ow G274 H281 (eSl w107 3 (rI .i64) x99 :: eSl w48 9 rS x40.1 :: eVar b2 48 T_Network p0 :: L) := O275
            refine W.pure (v := (.bool (!x271))) rfl rfl (bool_not (a := x271) (oo rfl rfl)) ?_
            refine .nil ?_
            refine .cond (b := (!x271)) rfl rfl (fun g282 => ?_) (fun g282 => ?_)
            · have h283 := pos_inv g282 h273
              refine .seq ?_
              obtain ⟨q284, h285, h286⟩ := bd_inv h283
              refine AW.midT (fun σ' H' => ∃ (y1 : Bool) (G' : GM), y1 = q284 ∧ Ow G' H' (eSl w107 3 (rI .i64) x99 :: eSl w48 9 rS x40.1 :: eVar b2 48 T_Network p0 :: L) ∧ GM.le G274 G' ∧ σ' 4 = .bool y1) ?_ ?_
              · refine .region ?_
                refine W.pure (v := (.int .i64 x40.2)) rfl rfl (v_move (oo rfl ((fr262 8 rfl).trans ((fr133 8 rfl).trans rfl)))) ?_
                refine W.pure (v := (.bool (x40.2 == 6))) rfl rfl (v_int (oo rfl rfl) (oo rfl rfl) rfl) ?_
                refine W.pure (v := (.bool (x40.2 == 6))) rfl rfl (v_move (oo rfl rfl)) ?_
                refine W.splitAt (t := 101) (b := (x40.2 == 6)) rfl (fun g287 gv288 => ?_) (fun g287 gv288 => ?_)
                · have h289 := pos_inv g287 h285
                  refine W.pure (v := w48) (gk rfl rfl gv288 rfl) rfl (v_move (oo rfl ((fr262 7 rfl).trans ((fr133 7 rfl).trans rfl)))) ?_
                  refine W.pure (v := (.int .i64 (List.length x40.1 : Int))) (gk rfl rfl gv288 rfl) rfl (len_sl (oo rfl rfl) (O275.slLen (j := 1) rfl) (elemT_inv el41)) ?_
                  refine W.pure (v := (.bool ((List.length x40.1 : Int) == 0))) (gk rfl rfl gv288 rfl) rfl (v_int (oo rfl rfl) (oo rfl rfl) rfl) ?_
                  refine W.pure (v := (.bool ((List.length x40.1 : Int) == 0))) rfl rfl (v_pickT (oo rfl gv288) (oo rfl rfl)) ?_
                  refine W.pure (v := (.bool ((List.length x40.1 : Int) == 0))) rfl rfl (v_assign (oo rfl rfl)) ?_
                  refine .nil ?_
                  obtain rfl := Option.some.inj h289
                  exact ⟨((List.length x40.1 : Int) == 0), _, rfl, O275, (GM.le.refl _), rfl⟩
                · have h290 := neg_b g287 h285
                  refine W.skip (gk rfl rfl gv288 rfl) rfl ?_
                  refine W.skip (gk rfl rfl gv288 rfl) rfl ?_
                  refine W.skip (gk rfl rfl gv288 rfl) rfl ?_
                  refine W.pure (v := (.bool false)) rfl rfl (v_pickF (oo rfl gv288) (oo rfl rfl)) ?_
                  refine W.pure (v := (.bool false)) rfl rfl (v_assign (oo rfl rfl)) ?_
                  refine .nil ?_
                  obtain rfl := Option.some.inj h290
                  exact ⟨false, _, rfl, O275, (GM.le.refl _), rfl⟩
              · rintro σ292 H293 fr294 ⟨x291, G295, rfl, O296, s297, t299⟩
                have h300 := tu1_inv h286
                refine .ret ?_
                have O301 : Ow G295 H293 (eSl w48 9 rS x40.1 :: eVar b2 48 T_Network p0 :: L) := O296.drop 0
                have O302 : Ow G295 H293 (eVar b2 48 T_Network p0 :: L) := O301.drop 0
                have O303 : Ow G295 H293 (L) := O302.drop 0
                obtain rfl := Option.some.inj h300
                refine ret1R (P := Try.prog) (fn := Try.f7) (n := 141) (R := fun v H' => ∃ G', Ow G' H' (L) ∧ G.le G' ∧ v = .bool x291) (v1 := (.bool x291)) (by rfl) (rr_tmp (by rfl) (by exact t299)) ?_
                exact ⟨_, O303, (GM.le.trans s11 (GM.le.trans s29 (GM.le.trans s45 (GM.le.trans s61 (GM.le.trans s104 (GM.le.trans s136 (GM.le.trans s265 (GM.le.trans s276 s297)))))))), rfl⟩
            · have h304 := neg_b g282 h273
              refine .skip ?_
              refine .seq ?_
              refine .region ?_
              refine W.pure (v := (.slice none 0 0)) rfl rfl (v_assign (oo rfl rfl)) ?_
              refine .nil ?_
              refine .seq ?_
              refine .seq ?_
              refine .region ?_
              refine W.pure (v := (padd (.pointer (some ⟨b2, 0, none⟩)) 1)) rfl rfl (v_fldA fl48_1 (oo rfl ((fr262 2 rfl).trans ((fr133 2 rfl).trans rfl))) (O275.atVar (j := 2) rfl)) ?_
              obtain ⟨w305, p306, f307⟩ := At.sl (At.proj (O275.atVar (j := 2) rfl) p_Network_Switches)
              refine W.load1 (v := w305) (r := []) rfl rfl ag42 (pt_px rfl p306) ?_
              refine W.pure (v := (.int .i64 (List.length p0.Switches : Int))) rfl rfl (len_sl (oo rfl rfl) (sl_len f307) (elemT_inv el42)) ?_
              refine W.pure (v := (.int .i64 0)) rfl rfl (v_move (oo rfl rfl)) ?_
              refine .nil ?_
              obtain ⟨q308, h309, h310⟩ := bd_inv h304
              refine AW.midT (fun σ' H' => ∃ (y1 : List ByteArray) (G' : GM), y1 = q308 ∧ Ow G' H' (eSl w107 3 (rI .i64) x99 :: eSl w48 9 rS x40.1 :: eVar b2 48 T_Network p0 :: eSl (σ' 16) 9 rS y1 :: L) ∧ GM.le G274 G') ?_ ?_
              · refine .block ?_
                have O311 := O275.nilSl 9 rS
                refine AW.loop (α := Nat) (fun k' σ' H' => ∃ (y1 : List ByteArray) (y2 : Int) (G' : GM), g_law_StationBuses_l4 K p0 p1 k' y1 y2 = some q308 ∧ Ow G' H' (eSl (σ' 16) 9 rS y1 :: eSl w107 3 (rI .i64) x99 :: eSl w48 9 rS x40.1 :: eVar b2 48 T_Network p0 :: L) ∧ GM.le G274 G' ∧ σ' 109 = .int .i64 y2) (fun k' => k') K ⟨[], 0, _, h309, O311, (GM.le.refl _), rfl⟩ ?_
                rintro k312
                rintro σ315 H316 fr317 ⟨x313, x314, G318, h321, O319, s320, t322⟩
                rcases k312 with _ | k312
                · exact none_absurd h321
                rw [g_law_StationBuses_l4] at h321
                refine .seq ?_
                refine .region ?_
                refine W.pure (v := (.bool (decide (x314 < (List.length p0.Switches : Int))))) rfl rfl (v_int (oo rfl t322) (oo rfl ((fr317 108 rfl).trans rfl)) rfl) ?_
                refine .nil ?_
                refine .seq ?_
                refine .cond (b := decide (x314 < (List.length p0.Switches : Int))) rfl rfl (fun g323 => ?_) (fun g323 => ?_)
                · have h324 := pos_inv g323 h321
                  refine .skip ?_
                  refine .seq ?_
                  obtain ⟨q325, h326, h327⟩ := bd_inv h324
                  refine AW.midT (fun σ' H' => ∃ (y1 : List ByteArray) (G' : GM), y1 = q325 ∧ Ow G' H' (eSl (σ' 16) 9 rS y1 :: eSl w107 3 (rI .i64) x99 :: eSl w48 9 rS x40.1 :: eVar b2 48 T_Network p0 :: L) ∧ GM.le G318 G') ?_ ?_
                  · refine .block ?_
                    refine .seq ?_
                    refine .region ?_
                    obtain ⟨x328, i329, h330⟩ := bd_inv h326
                    have j331 := idx_inv i329
                    refine W.pure (v := (selem w305 (Int.toNat x314 * 5))) rfl rfl (v_idx el42 sz81 (oo rfl ((fr317 107 rfl).trans rfl)) (oo rfl t322) (sl_len (RT.mono _ s320 f307)) j331.1 j331.2.1) ?_
                    obtain ⟨c332, p333, f334⟩ := (At.le (At.le (sl_idx f307 j331.2.2) s320 s320) (GM.le.refl _) O319.fro)
                    refine W.loadA (cs := c332) rfl rfl ag81 sz81 (pt_px rfl p333) (RT.len _ f334) ?_
                    refine W.lo rfl rfl (Lo.alloc (r := T_Switch) (x0 := (Switch.mk ByteArray.empty ByteArray.empty ByteArray.empty false false)) ze81 (by kernel_rfl) z_Switch O319) ?_
                    rintro v338 H339 ⟨b336, rfl, O335, sm337⟩
                    refine W.lo rfl rfl (Lo.storeVar (j := 0) (s := T_Switch) (y0 := x328) (v := (.agg (List.toArray c332))) (o := 0) rfl ((Put.at (Put.self _) _ _)) rfl sz81 rfl (by omega) rfl f334 O335) ?_
                    rintro v342 H343 ⟨O340, sm341⟩
                    replace O340 : Ow G318 H343 (eVar b336 81 T_Switch x328 :: eSl (σ315 16) 9 rS x313 :: eSl w107 3 (rI .i64) x99 :: eSl w48 9 rS x40.1 :: eVar b2 48 T_Network p0 :: L) := O340
                    refine .nil ?_
                    refine .seq ?_
                    obtain ⟨q344, h345, h346⟩ := bd_inv h330
                    refine AW.midT (fun σ' H' => ∃ (y1 : Bool) (G' : GM), y1 = q344 ∧ Ow G' H' (eVar b336 81 T_Switch x328 :: eSl (σ315 16) 9 rS x313 :: eSl w107 3 (rI .i64) x99 :: eSl w48 9 rS x40.1 :: eVar b2 48 T_Network p0 :: L) ∧ GM.le G318 G' ∧ σ' 127 = .bool y1) ?_ ?_
                    · refine .region ?_
                      refine W.pure (v := (padd (.pointer (some ⟨b336, 0, none⟩)) 1)) rfl rfl (v_fldA fl81_1 (oo rfl rfl) (O340.atVar (j := 0) rfl)) ?_
                      refine W.load1 (v := (.string x328.A)) (r := []) rfl rfl ag9 (pt_px rfl (At.str (At.proj (O340.atVar (j := 0) rfl) p_Switch_A))) ?_
                      refine W.pure (v := (.string p1)) rfl rfl (v_move (oo rfl ((fr317 1 rfl).trans ((fr262 1 rfl).trans ((fr133 1 rfl).trans rfl))))) ?_
                      refine W.pure (v := (.bool (sEq x328.A p1))) rfl rfl (vs_eql (oo rfl rfl) (oo rfl rfl)) ?_
                      refine W.pure (v := (.bool (sEq x328.A p1))) rfl rfl (v_move (oo rfl rfl)) ?_
                      refine W.splitAt (t := 117) (b := sEq x328.A p1) rfl (fun g347 gv348 => ?_) (fun g347 gv348 => ?_)
                      · have h349 := pos_inv g347 h345
                        refine W.skip (gk rfl rfl gv348 rfl) rfl ?_
                        refine W.skip (gk rfl rfl gv348 rfl) rfl ?_
                        refine W.skip (gk rfl rfl gv348 rfl) rfl ?_
                        refine W.skip (gk rfl rfl gv348 rfl) rfl ?_
                        refine W.pure (v := (.bool true)) rfl rfl (v_pickT (oo rfl gv348) (oo rfl rfl)) ?_
                        refine W.pure (v := (.bool true)) rfl rfl (v_move (oo rfl rfl)) ?_
                        refine W.pure (v := (padd (.pointer (some ⟨b336, 0, none⟩)) 4)) (gk rfl rfl rfl rfl) rfl (v_fldA fl81_4 (oo rfl rfl) (O340.atVar (j := 0) rfl)) ?_
                        refine W.load1 (v := (.bool x328.Open)) (r := []) (gk rfl rfl rfl rfl) rfl ag4 (pt_px rfl (At.bool (At.proj (O340.atVar (j := 0) rfl) p_Switch_Open))) ?_
                        refine W.pure (v := (.bool (!x328.Open))) (gk rfl rfl rfl rfl) rfl (bool_not (a := x328.Open) (oo rfl rfl)) ?_
                        refine W.pure (v := (.bool (!x328.Open))) rfl rfl (v_pickT (oo rfl rfl) (oo rfl rfl)) ?_
                        refine .nil ?_
                        obtain rfl := Option.some.inj h349
                        exact ⟨(!x328.Open), _, rfl, O340, (GM.le.refl _), rfl⟩
                      · have h350 := neg_b g347 h345
                        refine W.pure (v := (padd (.pointer (some ⟨b336, 0, none⟩)) 2)) (gk rfl rfl gv348 rfl) rfl (v_fldA fl81_2 (oo rfl rfl) (O340.atVar (j := 0) rfl)) ?_
                        refine W.load1 (v := (.string x328.B)) (r := []) (gk rfl rfl gv348 rfl) rfl ag9 (pt_px rfl (At.str (At.proj (O340.atVar (j := 0) rfl) p_Switch_B))) ?_
                        refine W.pure (v := (.string p1)) (gk rfl rfl gv348 rfl) rfl (v_move (oo rfl ((fr317 1 rfl).trans ((fr262 1 rfl).trans ((fr133 1 rfl).trans rfl))))) ?_
                        refine W.pure (v := (.bool (sEq x328.B p1))) (gk rfl rfl gv348 rfl) rfl (vs_eql (oo rfl rfl) (oo rfl rfl)) ?_
                        refine W.pure (v := (.bool (sEq x328.B p1))) rfl rfl (v_pickF (oo rfl gv348) (oo rfl rfl)) ?_
                        refine W.pure (v := (.bool (sEq x328.B p1))) rfl rfl (v_move (oo rfl rfl)) ?_
                        refine W.splitAt (t := 123) (b := sEq x328.B p1) rfl (fun g351 gv352 => ?_) (fun g351 gv352 => ?_)
                        · have h353 := pos_inv g351 h350
                          refine W.pure (v := (padd (.pointer (some ⟨b336, 0, none⟩)) 4)) (gk rfl rfl gv352 rfl) rfl (v_fldA fl81_4 (oo rfl rfl) (O340.atVar (j := 0) rfl)) ?_
                          refine W.load1 (v := (.bool x328.Open)) (r := []) (gk rfl rfl gv352 rfl) rfl ag4 (pt_px rfl (At.bool (At.proj (O340.atVar (j := 0) rfl) p_Switch_Open))) ?_
                          refine W.pure (v := (.bool (!x328.Open))) (gk rfl rfl gv352 rfl) rfl (bool_not (a := x328.Open) (oo rfl rfl)) ?_
                          refine W.pure (v := (.bool (!x328.Open))) rfl rfl (v_pickT (oo rfl gv352) (oo rfl rfl)) ?_
                          refine .nil ?_
                          obtain rfl := Option.some.inj h353
                          exact ⟨(!x328.Open), _, rfl, O340, (GM.le.refl _), rfl⟩
                        · have h354 := neg_b g351 h350
                          refine W.skip (gk rfl rfl gv352 rfl) rfl ?_
                          refine W.skip (gk rfl rfl gv352 rfl) rfl ?_
                          refine W.skip (gk rfl rfl gv352 rfl) rfl ?_
                          refine W.pure (v := (.bool false)) rfl rfl (v_pickF (oo rfl gv352) (oo rfl rfl)) ?_
                          refine .nil ?_
                          obtain rfl := Option.some.inj h354
                          exact ⟨false, _, rfl, O340, (GM.le.refl _), rfl⟩
                    · rintro σ356 H357 fr358 ⟨x355, G359, rfl, O360, s361, t363⟩
                      have h364 := tu1_inv h346
                      refine .cond (b := x355) rfl t363 (fun g365 => ?_) (fun g365 => ?_)
                      · have h366 := pos_inv g365 h364
                        refine .region ?_
                        refine W.pure (v := (σ315 16)) rfl rfl (v_move (oo rfl ((fr358 16 rfl).trans rfl))) ?_
                        refine W.pure (v := (padd (.pointer (some ⟨b336, 0, none⟩)) 0)) rfl rfl (v_fldA fl81_0 (oo rfl ((fr358 18 rfl).trans rfl)) (O360.atVar (j := 0) rfl)) ?_
                        refine W.load1 (v := (.string x328.Name)) (r := []) rfl rfl ag9 (pt_px rfl (At.str (At.proj (O360.atVar (j := 0) rfl) p_Switch_Name))) ?_
                        refine W.lo rfl rfl (Lo.buildSlice (r := rS) (vs := [(.string x328.Name)]) (xs := [x328.Name]) el41 ze9 sz9 (by kernel_rfl) rfl (qc rfl qn) rfl (.cons rfl .nil) O360) ?_
                        rintro v369 H370 ⟨O367, sm368⟩
                        obtain ⟨es372, e373, e374⟩ := src_own (j := 0) rfl O367
                        obtain ⟨g375, h376⟩ := gd_inv h366
                        refine W.lo rfl rfl (Lo.append (j := 2) (v := (σ315 16)) rfl rfl el41 ni41 ze9 sz9 by9 (by decide) (by decide) rfl e373 e374 g375 O367) ?_
                        rintro v378 H379 ⟨O371, sm377⟩
                        replace O371 : Ow G359 H379 (eSl v369 9 rS [x328.Name] :: eVar b336 81 T_Switch x328 :: eSl v378 9 rS (x313 ++ [x328.Name]) :: eSl w107 3 (rI .i64) x99 :: eSl w48 9 rS x40.1 :: eVar b2 48 T_Network p0 :: L) := O371
                        refine W.pure (v := v378) rfl rfl (v_assign (oo rfl rfl)) ?_
                        refine .nil ?_
                        have O380 : Ow G359 H379 (eVar b336 81 T_Switch x328 :: eSl v378 9 rS (x313 ++ [x328.Name]) :: eSl w107 3 (rI .i64) x99 :: eSl w48 9 rS x40.1 :: eVar b2 48 T_Network p0 :: L) := O371.drop 0
                        have O381 : Ow G359 H379 (eSl v378 9 rS (x313 ++ [x328.Name]) :: eSl w107 3 (rI .i64) x99 :: eSl w48 9 rS x40.1 :: eVar b2 48 T_Network p0 :: L) := O380.drop 0
                        obtain rfl := Option.some.inj h376
                        exact ⟨(x313 ++ [x328.Name]), _, rfl, O381, s361⟩
                      · have h382 := neg_b g365 h364
                        refine .skip ?_
                        have O383 : Ow G359 H357 (eSl (σ315 16) 9 rS x313 :: eSl w107 3 (rI .i64) x99 :: eSl w48 9 rS x40.1 :: eVar b2 48 T_Network p0 :: L) := O360.drop 0
                        obtain rfl := Option.some.inj h382
                        exact ⟨x313, _, rfl, (Ow.reval (j := 0) O383 rfl ((fr358 16 rfl).trans rfl)), s361⟩
                  · rintro σ385 H386 fr387 ⟨x384, G388, rfl, O389, s390⟩
                    have h392 := tu1_inv h327
                    refine .region ?_
                    refine W.pure (v := (.int .i64 (kwrap .i64 (x314 + 1)))) rfl rfl (v_int (oo rfl ((fr387 109 rfl).trans t322)) (oo rfl rfl) rfl) ?_
                    refine W.pure (v := (.int .i64 (kwrap .i64 (x314 + 1)))) rfl rfl (v_move (oo rfl rfl)) ?_
                    refine .nil ?_
                    exact ⟨k312, Nat.lt_succ_self _, ⟨x384, kwrap .i64 (x314 + 1), _, h392, O389, (GM.le.trans s320 s390), rfl⟩⟩
                · have h393 := neg_b g323 h321
                  refine .exit ?_
                  have O394 : Ow G318 H316 (eSl (σ315 16) 9 rS x313 :: eSl w107 3 (rI .i64) x99 :: eSl w48 9 rS x40.1 :: eVar b2 48 T_Network p0 :: L) := O319.front (j := 0) rfl
                  have O395 : Ow G318 H316 (eVar b2 48 T_Network p0 :: eSl (σ315 16) 9 rS x313 :: eSl w107 3 (rI .i64) x99 :: eSl w48 9 rS x40.1 :: L) := O394.front (j := 3) rfl
                  have O396 : Ow G318 H316 (eSl w48 9 rS x40.1 :: eVar b2 48 T_Network p0 :: eSl (σ315 16) 9 rS x313 :: eSl w107 3 (rI .i64) x99 :: L) := O395.front (j := 3) rfl
                  have O397 : Ow G318 H316 (eSl w107 3 (rI .i64) x99 :: eSl w48 9 rS x40.1 :: eVar b2 48 T_Network p0 :: eSl (σ315 16) 9 rS x313 :: L) := O396.front (j := 3) rfl
                  obtain rfl := Option.some.inj h393
                  exact ⟨x313, _, rfl, O397, s320⟩
              · rintro σ399 H400 fr401 ⟨x398, G402, rfl, O403, s404⟩
                have h406 := tu1_inv h310
                refine .seq ?_
                obtain ⟨q407, h408, h409⟩ := bd_inv h406
                refine AW.midT (fun σ' H' => ∃ (y1 : Bool) (G' : GM), y1 = q407 ∧ Ow G' H' (eSl w107 3 (rI .i64) x99 :: eVar b2 48 T_Network p0 :: L) ∧ GM.le G402 G' ∧ σ' 4 = .bool y1) ?_ ?_
                · refine .region ?_
                  refine W.pure (v := (.int .i64 x40.2)) rfl rfl (v_move (oo rfl ((fr401 8 rfl).trans ((fr262 8 rfl).trans ((fr133 8 rfl).trans rfl))))) ?_
                  refine W.pure (v := (.bool (x40.2 == 0))) rfl rfl (v_int (oo rfl rfl) (oo rfl rfl) rfl) ?_
                  refine W.pure (v := (.bool (x40.2 == 0))) rfl rfl (v_move (oo rfl rfl)) ?_
                  refine W.splitAt (t := 136) (b := (x40.2 == 0)) rfl (fun g410 gv411 => ?_) (fun g410 gv411 => ?_)
                  · have h412 := pos_inv g410 h408
                    refine W.pure (v := w48) (gk rfl rfl gv411 rfl) rfl (v_move (oo rfl ((fr401 7 rfl).trans ((fr262 7 rfl).trans ((fr133 7 rfl).trans rfl))))) ?_
                    refine W.pure (v := (σ399 16)) (gk rfl rfl gv411 rfl) rfl (v_move (oo rfl rfl)) ?_
                    obtain ⟨G413, O414, s415, f416⟩ := O403.frzSl (j := 1) rfl
                    replace O414 : Ow G413 H400 (eSl w107 3 (rI .i64) x99 :: eVar b2 48 T_Network p0 :: eSl (σ399 16) 9 rS x398 :: L) := O414
                    obtain ⟨G417, O418, s419, f420⟩ := O414.frzSl (j := 2) rfl
                    replace O418 : Ow G417 H400 (eSl w107 3 (rI .i64) x99 :: eVar b2 48 T_Network p0 :: L) := O418
                    obtain ⟨x421, i422, h423⟩ := bd_inv h412
                    refine W.lo (gk rfl rfl gv411 rfl) rfl (Lo.callP (ps := []) (ps' := []) rfl (fn := Try.f41) (by kernel_rfl) rfl (mc rfl (mc rfl mn)) O418 (fun L' O' => g_slices_Equal_string_string_ok K w48 x40.1 (RT.mono _ s419 f416) (σ399 16) x398 f420 O' _ i422)) ?_
                    rintro v430 H431 ⟨G424, O425, s426, sm429, rfl⟩
                    replace O425 : Ow G424 H431 (eSl w107 3 (rI .i64) x99 :: eVar b2 48 T_Network p0 :: L) := O425
                    refine W.pure (v := (.bool x421)) rfl rfl (v_pickT (oo rfl gv411) (oo rfl rfl)) ?_
                    refine W.pure (v := (.bool x421)) rfl rfl (v_assign (oo rfl rfl)) ?_
                    refine .nil ?_
                    obtain rfl := Option.some.inj h423
                    exact ⟨x421, _, rfl, O425, (GM.le.trans s415 (GM.le.trans s419 s426)), rfl⟩
                  · have h432 := neg_b g410 h408
                    refine W.skip (gk rfl rfl gv411 rfl) rfl ?_
                    refine W.skip (gk rfl rfl gv411 rfl) rfl ?_
                    refine W.skip (gk rfl rfl gv411 rfl) rfl ?_
                    refine W.pure (v := (.bool false)) rfl rfl (v_pickF (oo rfl gv411) (oo rfl rfl)) ?_
                    refine W.pure (v := (.bool false)) rfl rfl (v_assign (oo rfl rfl)) ?_
                    refine .nil ?_
                    obtain ⟨G433, O434, s435, f436⟩ := O403.frzSl (j := 1) rfl
                    replace O434 : Ow G433 H400 (eSl w107 3 (rI .i64) x99 :: eVar b2 48 T_Network p0 :: eSl (σ399 16) 9 rS x398 :: L) := O434
                    obtain ⟨G437, O438, s439, f440⟩ := O434.frzSl (j := 2) rfl
                    replace O438 : Ow G437 H400 (eSl w107 3 (rI .i64) x99 :: eVar b2 48 T_Network p0 :: L) := O438
                    obtain rfl := Option.some.inj h432
                    exact ⟨false, _, rfl, O438, (GM.le.trans s435 s439), rfl⟩
                · rintro σ442 H443 fr444 ⟨x441, G445, rfl, O446, s447, t449⟩
                  have h450 := tu1_inv h409
                  refine .ret ?_
                  have O451 : Ow G445 H443 (eVar b2 48 T_Network p0 :: L) := O446.drop 0
                  have O452 : Ow G445 H443 (L) := O451.drop 0
                  obtain rfl := Option.some.inj h450
                  refine ret1R (P := Try.prog) (fn := Try.f7) (n := 141) (R := fun v H' => ∃ G', Ow G' H' (L) ∧ G.le G' ∧ v = .bool x441) (v1 := (.bool x441)) (by rfl) (rr_tmp (by rfl) (by exact t449)) ?_
                  exact ⟨_, O452, (GM.le.trans s11 (GM.le.trans s29 (GM.le.trans s45 (GM.le.trans s61 (GM.le.trans s104 (GM.le.trans s136 (GM.le.trans s265 (GM.le.trans s276 (GM.le.trans s404 s447))))))))), rfl⟩
end Go.Am.Try
