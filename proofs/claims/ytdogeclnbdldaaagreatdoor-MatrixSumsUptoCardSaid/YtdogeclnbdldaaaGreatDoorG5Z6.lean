/- Typed functions with the same answers as the program's, and the walks that show it. -/
import Derived.Test.YtdogeclnbdldaaaGreatDoorG2Z6
import Derived.Test.YtdogeclnbdldaaaGreatDoorG4Z6
set_option maxRecDepth 100000
set_option maxHeartbeats 8000000
set_option linter.unusedVariables false
set_option linter.unusedSimpArgs false
namespace Go.Am.Tryz
open Go Go.Am Go.Proofs
variable (K : Nat) {G : GM} {H : AH} {L : List Pc}
def z33 (K : Nat) (x87 : List (List Q)) (x105 : Int) (x116 : List Q) : Nat -> List (List Q) -> Int -> Option (List (List Q))
  | 0, _, _ => none
  | k + 1, x130, x131 => (if (decide (x131 < (List.length x116 : Int))) = true then ((idx x130 x105).bind fun x147 => ((idx x130 x105).bind fun x155 => ((idx x155 x131).bind fun x164 => ((idx x87 x105).bind fun x171 => ((idx x171 x131).bind fun x180 => ((z6n K x164 x180).bind fun x187 => ((idx x147 x131).bind fun x206 => z33 K x87 x105 x116 k (List.set x130 (Int.toNat x105) (List.set x147 (Int.toNat x131) x187)) (z04 .i64 (x131 + 1))))))))) else some x130)
def z34 (K : Nat) (x74 : List (List Q)) (x87 : List (List Q)) : Nat -> List (List Q) -> Int -> Option (List (List Q))
  | 0, _, _ => none
  | k + 1, x104, x105 => (if (decide (x105 < (List.length x74 : Int))) = true then ((idx x104 x105).bind fun x116 => (Option.bind (z33 K x87 x105 x116 K x104 0) (tu1 fun x221 => z34 K x74 x87 k x221 (z04 .i64 (x105 + 1))))) else some x104)
def z35 (K : Nat) (p0 : List (List zAd)) (p1 : List (List zAd)) : Option (List (List zAd) × Int) := ((z1b K p0).bind fun x1 => (if (x1 != 0) = true then some ([], x1) else ((z1b K p1).bind fun x16 => (if (x16 != 0) = true then some ([], x16) else (Option.bind ((if ((List.length p0 : Int) != (List.length p1 : Int)) = true then some true else ((z2g K p0).bind fun x38 => ((z2g K p1).bind fun x49 => some (x38 != x49))))) (tu1 fun x60 => (if x60 = true then some ([], 3) else ((z3w K p0).bind fun x74 => ((z3w K p1).bind fun x87 => (Option.bind (z34 K x74 x87 K x74 0) (tu1 fun x231 => ((z32 K x231).bind fun x244 => some (x244.1, x244.2)))))))))))))
theorem z96 (v0 : Value) (p0 : List (List zAd)) (hp0 : (rSl (rSl rS)).rep G [v0] p0) (v1 : Value) (p1 : List (List zAd)) (hp1 : (rSl (rSl rS)).rep G [v1] p1) (O : Ow G H (L)) (r : List (List zAd) × Int) (h : z35 K p0 p1 = some r) :
    CRF Tryz.prog 38 [v0, v1] G H (fun w0 => (eSl w0 45 (rSl rS) r.1 :: L)) (fun w0 v G' => v = .tuple #[w0, .int .i64 r.2]) := by
 unfold z35 at h
 refine CRF.og (n := 78) (fn := Tryz.f38) (by kernel_rfl) rfl rfl fun R kr => (.seq (.region (W.q1 (.slice none 0 0) rfl (W.q1 (.int .i64 0) rfl (.nil (.seq ?_))))))
 refine .seq (.region (W.q2 v0 rfl ?_))
 obtain ⟨x1, i2, h3⟩ := z00 h
 refine W.lo rfl rfl (Lo.cP rfl (fn := Tryz.f78) (by kernel_rfl) rfl (mc rfl mn) O (fun L' O' => z1q K v0 p0 hp0 O' _ i2)) ?_
 rintro v10 H11 ⟨G4, O5, s6, sm9, rfl⟩
 refine W.q1 (.int .i64 x1) rfl (.nil (.seq (.region (W.q2 (.int .i64 x1) rfl (W.q3 (.bool (x1 != 0)) rfl rfl (.nil ?_))))))
 refine .cond (b := (x1 != 0)) rfl rfl (fun g12 => ?_) (fun g12 => ?_)
 .have h13 := z03 g12 h3
  refine .seq (.region (W.q2 (.int .i64 x1) rfl (W.q1 (.slice none 0 0) rfl (W.q1 (.int .i64 x1) rfl (.nil (.ret ?_))))))
  have O14 := O5.nilSl 45 (rSl rS)
  obtain rfl := zAa h13
  exact z6u kr (.slice none 0 0) (v1 := (.slice none 0 0)) (v2 := (.int .i64 x1)) (by rfl) (z07 (by rfl) (by exact rfl)) (z07 (by rfl) (by exact rfl)) O14 s6 rfl
 have h15 := z0g g12 h3
 refine .skip (.seq (.seq (.region (W.q2 v1 rfl ?_))))
 obtain ⟨x16, i17, h18⟩ := z00 h15
 refine W.lo rfl rfl (Lo.cP rfl (fn := Tryz.f78) (by kernel_rfl) rfl (mc rfl mn) O5 (fun L' O' => z1q K v1 p1 (RT.mono _ s6 hp1) O' _ i17)) ?_
 rintro v25 H26 ⟨G19, O20, s21, sm24, rfl⟩
 refine W.q1 (.int .i64 x16) rfl (.nil (.seq (.region (W.q2 (.int .i64 x16) rfl (W.q3 (.bool (x16 != 0)) rfl rfl (.nil ?_))))))
 refine .cond (b := (x16 != 0)) rfl rfl (fun g27 => ?_) (fun g27 => ?_)
 .have h28 := z03 g27 h18
  refine .seq (.region (W.q2 (.int .i64 x16) rfl (W.q1 (.slice none 0 0) rfl (W.q1 (.int .i64 x16) rfl (.nil (.ret ?_))))))
  have O29 := O20.nilSl 45 (rSl rS)
  obtain rfl := zAa h28
  exact z6u kr (.slice none 0 0) (v1 := (.slice none 0 0)) (v2 := (.int .i64 x16)) (by rfl) (z07 (by rfl) (by exact rfl)) (z07 (by rfl) (by exact rfl)) O29 (zAe s6 s21) rfl
 have h30 := z0g g27 h18
 refine .skip (.seq (.seq ?_))
 obtain ⟨q31, h32, h33⟩ := z00 h30
 refine AW.midT (fun σ' H' => ∃ (y1 : Bool) (G' : GM), y1 = q31 /\ Ow G' H' (L) /\ GM.le G19 G' /\ σ' 33 = .bool y1) ?_ ?_
 .refine .region (W.q2 v0 rfl (W.pure (v := (.int .i64 (List.length p0 : Int))) rfl rfl (z0f (oo rfl rfl) (z0a (RT.mono _ (zAe s6 s21) hp0)) (z02 el44)) (W.q2 v1 rfl (W.pure (v := (.int .i64 (List.length p1 : Int))) rfl rfl (z0f (oo rfl rfl) (z0a (RT.mono _ (zAe s6 s21) hp1)) (z02 el44)) (W.q3 (.bool ((List.length p0 : Int) != (List.length p1 : Int))) rfl rfl (W.q2 (.bool ((List.length p0 : Int) != (List.length p1 : Int))) rfl ?_))))))
  refine W.splitAt (t := 27) (b := ((List.length p0 : Int) != (List.length p1 : Int))) rfl (fun g34 gv35 => ?_) (fun g34 gv35 => ?_)
  .have h36 := z03 g34 h32
   refine W.q6 rfl gv35 (W.q6 rfl gv35 (W.q6 rfl gv35 (W.q6 rfl gv35 (W.q6 rfl gv35 (W.q4 (.bool true) gv35 rfl (.nil ?_))))))
   obtain rfl := zAa h36
   exact ⟨true, _, rfl, O20, (zAf _), rfl⟩
  have h37 := z0g g34 h32
  refine W.q2 (hg := gk rfl rfl gv35 rfl) v0 rfl ?_
  obtain ⟨x38, i39, h40⟩ := z00 h37
  refine W.lo (gk rfl rfl gv35 rfl) rfl (Lo.cP rfl (fn := Tryz.f80) (by kernel_rfl) rfl (mc rfl mn) O20 (fun L' O' => z3v K v0 p0 (RT.mono _ (zAe s6 s21) hp0) O' _ i39)) ?_
  rintro v47 H48 ⟨G41, O42, s43, sm46, rfl⟩
  refine W.q2 (hg := gk rfl rfl gv35 rfl) v1 rfl ?_
  obtain ⟨x49, i50, h51⟩ := z00 h40
  refine W.lo (gk rfl rfl gv35 rfl) rfl (Lo.cP rfl (fn := Tryz.f80) (by kernel_rfl) rfl (mc rfl mn) O42 (fun L' O' => z3v K v1 p1 (RT.mono _ (zAe s6 (zAe s21 s43)) hp1) O' _ i50)) ?_
  rintro v58 H59 ⟨G52, O53, s54, sm57, rfl⟩
  refine W.q3 (hg := gk rfl rfl gv35 rfl) (.bool (x38 != x49)) rfl rfl (W.q5 (.bool (x38 != x49)) gv35 rfl (.nil ?_))
  obtain rfl := zAa h51
  exact ⟨(x38 != x49), _, rfl, O53, (zAe s43 s54), rfl⟩
 rintro σ61 H62 fr63 ⟨x60, G64, rfl, O65, s66, t68⟩
 have h69 := z09 h33
 refine .cond (b := x60) rfl t68 (fun g70 => ?_) (fun g70 => ?_)
 .have h71 := z03 g70 h69
  refine .seq (.region (W.q1 (.slice none 0 0) rfl (W.q1 (.int .i64 3) rfl (.nil (.ret ?_)))))
  have O72 := O65.nilSl 45 (rSl rS)
  obtain rfl := zAa h71
  exact z6u kr (.slice none 0 0) (v1 := (.slice none 0 0)) (v2 := (.int .i64 3)) (by rfl) (z07 (by rfl) (by exact rfl)) (z07 (by rfl) (by exact rfl)) O72 (zAe s6 (zAe s21 s66)) rfl
 have h73 := z0g g70 h69
 refine .skip (.seq (.region (W.q2 v0 ((fr63 0 rfl).trans rfl) ?_)))
 obtain ⟨x74, i75, h76⟩ := z00 h73
 refine W.lo rfl rfl (Lo.callPF (ps := []) (pw := fun w => [z3u (hdT w) 111 (tlT w) [] 96 T_Q x74]) rfl (fn := Tryz.f82) (by kernel_rfl) rfl (mc rfl mn) O65 (fun L' O' => z4d K v0 p0 (RT.mono _ (zAe s6 (zAe s21 s66)) hp0) O' _ i75)) ?_
 rintro v85 H86 ⟨w82, G77, O78, s79, sm84, rfl⟩
 refine W.q2 v1 ((fr63 1 rfl).trans rfl) ?_
 obtain ⟨x87, i88, h89⟩ := z00 h76
 refine W.lo rfl rfl (Lo.callPF (ps := []) (pw := fun w => [z3u (hdT w) 111 (tlT w) [] 96 T_Q x87]) rfl (fn := Tryz.f82) (by kernel_rfl) rfl (mc rfl mn) O78 (fun L' O' => z4d K v1 p1 (RT.mono _ (zAe s6 (zAe s21 (zAe s66 s79))) hp1) O' _ i88)) ?_
 rintro v98 H99 ⟨w95, G90, O91, s92, sm97, rfl⟩
 refine W.q1 (hdT w82) rfl (W.q1 (hdT w95) rfl (.nil (.seq (.seq (.region (W.q2 (hdT w82) rfl ?_))))))
 refine W.pure (v := (.int .i64 (List.length x74 : Int))) rfl rfl (z0f (oo rfl rfl) (O91.rowsLen (j := 1) rfl) (z02 za9)) (W.q2 (.int .i64 0) rfl (.nil ?_))
 obtain ⟨q100, h101, h102⟩ := z00 h89
 refine AW.midT (fun σ' H' => ∃ (y1 : List (List Q)) (G' : GM), y1 = q100 /\ Ow G' H' (z3u (hdT w95) 111 (tlT w95) [] 96 T_Q x87 :: z3u (hdT w82) 111 (tlT w82) [] 96 T_Q y1 :: L) /\ GM.le G90 G') ?_ ?_
 rotate_left
 .rintro σ232 H233 fr234 ⟨x231, G235, rfl, O236, s237⟩
  have h239 := z09 h102
  refine .seq (.region (W.q2 (hdT w82) ((fr234 8 rfl).trans rfl) ?_))
  obtain ⟨G240, O241, s242, f243⟩ := O236.frzRows (j := 1) rfl
  obtain ⟨x244, i245, h246⟩ := z00 h239
  refine W.lo rfl rfl (Lo.callPF (ps := []) (pw := fun w => [eSl w 45 (rSl rS) x244.1]) rfl (fn := Tryz.f84) (by kernel_rfl) rfl (mc rfl mn) O241 (fun L' O' => z5n K (hdT w82) x231 f243 O' _ i245)) ?_
  rintro v255 H256 ⟨w252, G247, O248, s249, sm254, rfl⟩
  refine W.pure (v := w252) rfl rfl (z08 (oo rfl rfl) rfl) (W.pure (v := (.int .i64 x244.2)) rfl rfl (z08 (oo rfl rfl) rfl) (W.q1 w252 rfl (W.q1 (.int .i64 x244.2) rfl (.nil (.ret ?_)))))
  have O257 : Ow G247 H256 (eSl w252 45 (rSl rS) x244.1 :: L) := O248.drop 1
  obtain rfl := zAa h246
  exact z6u kr w252 (v1 := w252) (v2 := (.int .i64 x244.2)) (by rfl) (z07 (by rfl) (by exact rfl)) (z07 (by rfl) (by exact rfl)) O257 (zAe s6 (zAe s21 (zAe s66 (zAe s79 (zAe s92 (zAe s237 (zAe s242 s249))))))) rfl
 refine .block (AW.loop (α := Nat) (fun k' σ' H' => ∃ (y1 : List (List Q)) (y2 : Int) (G' : GM), z34 K x74 x87 k' y1 y2 = some q100 /\ Ow G' H' (z3u (hdT w95) 111 (tlT w95) [] 96 T_Q x87 :: z3u (hdT w82) 111 (tlT w82) [] 96 T_Q y1 :: L) /\ GM.le G90 G' /\ σ' 40 = .int .i64 y2) (fun k' => k') K ⟨x74, 0, _, h101, O91, (zAf _), rfl⟩ ?_)
 rintro k103
 rintro σ106 H107 fr108 ⟨x104, x105, G109, h112, O110, s111, t113⟩
 rcases k103 with _ | k103
 .exact z06 h112
 rw [z34] at h112
 refine .seq (.region (W.q3 (.bool (decide (x105 < (List.length x74 : Int)))) t113 ((fr108 39 rfl).trans rfl) (.nil (.seq (.cond (b := decide (x105 < (List.length x74 : Int))) rfl rfl (fun g114 => ?_) (fun g114 => ?_))))))
 rotate_left
 .have h230 := z0g g114 h112
  refine .exit ?_
  obtain rfl := zAa h230
  exact ⟨x104, _, rfl, O110, s111⟩
 have h115 := z03 g114 h112
 refine .skip (.seq (.block (.seq (.region (W.q2 _ t113 (W.q1 (.int .i64 x105) rfl ?_))))))
 refine .nil (.seq (.region (W.q2 (hdT w82) ((fr108 8 rfl).trans rfl) (W.q2 (.int .i64 x105) rfl ?_))))
 obtain ⟨x116, i117, h118⟩ := z00 h115
 have j119 := z0d i117
 refine W.pure (v := (z1k (hdT w82) (Int.toNat x105 * 1))) rfl rfl (z26 za9 zc7 (oo rfl rfl) (oo rfl rfl) (O110.rowsLen (j := 1) rfl) j119.1 j119.2.1) ?_
 obtain ⟨w120, e121, p122, k123⟩ := O110.rowVal (j := 1) rfl j119.2.2
 refine W.load1 (v := w120) (r := []) rfl rfl zfp (z15 rfl p122) ?_
 have O124 := O110.takeRow (j := 1) rfl e121 j119.2.2 List.not_mem_nil
 refine W.pure (v := (.int .i64 (List.length x116 : Int))) rfl rfl (z0f (oo rfl rfl) (O124.slLen (j := 0) rfl) (z02 zbp)) (W.q2 (.int .i64 0) rfl (.nil ?_))
 have O125 := O124.putRow0 (j := 1) rfl e121 j119.2.2
 obtain ⟨q126, h127, h128⟩ := z00 h118
 refine AW.midT (fun σ' H' => ∃ (y1 : List (List Q)) (G' : GM), y1 = q126 /\ Ow G' H' (z3u (hdT w95) 111 (tlT w95) [] 96 T_Q x87 :: z3u (hdT w82) 111 (tlT w82) [] 96 T_Q y1 :: L) /\ GM.le G109 G') ?_ ?_
 rotate_left
 .rintro σ222 H223 fr224 ⟨x221, G225, rfl, O226, s227⟩
  have h229 := z09 h128
  refine .region (W.q3 (.int .i64 (z04 .i64 (x105 + 1))) ((fr224 40 rfl).trans t113) rfl (W.q2 (.int .i64 (z04 .i64 (x105 + 1))) rfl (.nil ?_)))
  exact ⟨k103, zAg _, ⟨x221, z04 .i64 (x105 + 1), _, h229, O226, (zAe s111 s227), rfl⟩⟩
 refine .block (AW.loop (α := Nat) (fun k' σ' H' => ∃ (y1 : List (List Q)) (y2 : Int) (G' : GM), z33 K x87 x105 x116 k' y1 y2 = some q126 /\ Ow G' H' (z3u (hdT w95) 111 (tlT w95) [] 96 T_Q x87 :: z3u (hdT w82) 111 (tlT w82) [] 96 T_Q y1 :: L) /\ GM.le G109 G' /\ σ' 48 = .int .i64 y2) (fun k' => k') K ⟨x104, 0, _, h127, O125, (zAf _), rfl⟩ ?_)
 rintro k129
 rintro σ132 H133 fr134 ⟨x130, x131, G135, h138, O136, s137, t139⟩
 rcases k129 with _ | k129
 .exact z06 h138
 rw [z33] at h138
 refine .seq (.region (W.q3 (.bool (decide (x131 < (List.length x116 : Int)))) t139 ((fr134 47 rfl).trans rfl) (.nil (.seq (.cond (b := decide (x131 < (List.length x116 : Int))) rfl rfl (fun g140 => ?_) (fun g140 => ?_))))))
 rotate_left
 .have h220 := z0g g140 h138
  refine .exit ?_
  obtain rfl := zAa h220
  exact ⟨x130, _, rfl, O136, s137⟩
 have h141 := z03 g140 h138
 refine .skip (.seq (.block (.seq (.region (W.q2 _ t139 (W.q1 (.int .i64 x131) rfl ?_))))))
 refine .nil (.draw2 (M := [0, 0, 3, 7, 0, 0, 0, 96, 224, 0, 992, 2016, 0, 0, 12288, 28672, 0, 126976, 258048, 524256, 1048575, 2097151]) mixed (by kernel_rfl) (by kernel_rfl) fun H142 N146 x143 F145 => ?_)
 have O144 := O136.ext x143
 refine D2.q2 (hdT w82) ((fr134 8 rfl).trans ((fr108 8 rfl).trans rfl)) (D2.q2 (.int .i64 x105) ((fr134 10 rfl).trans rfl) ?_)
 obtain ⟨x147, i148, h149⟩ := z00 h141
 have j150 := z0d i148
 refine D2.pure (v := (z1k (hdT w82) (Int.toNat x105 * 1))) rfl rfl (z26 za9 zc7 (oo rfl rfl) (oo rfl rfl) (O144.rowsLen (j := 1) rfl) j150.1 j150.2.1) ?_
 obtain ⟨w151, e152, p153, k154⟩ := O144.rowVal (j := 1) rfl j150.2.2
 refine D2.load1' (v := w151) (r := []) rfl rfl zfp (z15 rfl p153) z0b (D2.q2 (.int .i64 x131) rfl (D2.q2 (hdT w82) ((fr134 8 rfl).trans ((fr108 8 rfl).trans rfl)) (D2.q2 (.int .i64 x105) ((fr134 10 rfl).trans rfl) ?_)))
 obtain ⟨x155, i156, h157⟩ := z00 h149
 have j158 := z0d i156
 refine D2.pure (v := (z1k (hdT w82) (Int.toNat x105 * 1))) rfl rfl (z26 za9 zc7 (oo rfl rfl) (oo rfl rfl) (O144.rowsLen (j := 1) rfl) j158.1 j158.2.1) ?_
 obtain ⟨w159, e160, p161, k162⟩ := O144.rowVal (j := 1) rfl j158.2.2
 refine D2.load1' (v := w159) (r := []) rfl rfl zfp (z15 rfl p161) z0b (D2.q2 (.int .i64 x131) rfl ?_)
 have O163 := O144.takeRow (j := 1) rfl e160 j158.2.2 List.not_mem_nil
 obtain ⟨x164, i165, h166⟩ := z00 h157
 have j167 := z0d i165
 refine D2.pure (v := (z1k w159 (Int.toNat x131 * 3))) rfl rfl (z26 zbp sz96 (oo rfl rfl) (oo rfl rfl) (O163.slLen (j := 0) rfl) j167.1 j167.2.1) ?_
 obtain ⟨c168, p169, f170⟩ := (O163.atSl (j := 0) rfl j167.2.2)
 refine D2.loadA' (cs := c168) rfl rfl ag96 sz96 (z15 rfl p169) (RT.len _ f170) z0b (D2.q2 (hdT w95) ((fr134 9 rfl).trans ((fr108 9 rfl).trans rfl)) (D2.q2 (.int .i64 x105) ((fr134 10 rfl).trans rfl) ?_))
 obtain ⟨x171, i172, h173⟩ := z00 h166
 have j174 := z0d i172
 refine D2.pure (v := (z1k (hdT w95) (Int.toNat x105 * 1))) rfl rfl (z26 za9 zc7 (oo rfl rfl) (oo rfl rfl) (O163.rowsLen (j := 1) rfl) j174.1 j174.2.1) ?_
 obtain ⟨w175, e176, p177, k178⟩ := O163.rowVal (j := 1) rfl j174.2.2
 refine D2.load1' (v := w175) (r := []) rfl rfl zfp (z15 rfl p177) z0b (D2.q2 (.int .i64 x131) rfl ?_)
 have O179 := O163.takeRow (j := 1) rfl e176 j174.2.2 List.not_mem_nil
 obtain ⟨x180, i181, h182⟩ := z00 h173
 have j183 := z0d i181
 refine D2.pure (v := (z1k w175 (Int.toNat x131 * 3))) rfl rfl (z26 zbp sz96 (oo rfl rfl) (oo rfl rfl) (O179.slLen (j := 0) rfl) j183.1 j183.2.1) ?_
 obtain ⟨c184, p185, f186⟩ := (O179.atSl (j := 0) rfl j183.2.2)
 refine D2.loadA' (cs := c184) rfl rfl ag96 sz96 (z15 rfl p185) (RT.len _ f186) z0b ?_
 obtain ⟨x187, i188, h189⟩ := z00 h182
 refine D2.lo rfl rfl (Lo.cP rfl (fn := Tryz.f91) (by kernel_rfl) rfl (mc rfl (mc rfl mn)) O179 (fun L' O' => z9y K c168 x164 f170 c184 x180 f186 O' _ i188)) ?_ z0b ?_ ?_
 .rintro v198 H199 ⟨G190, O191, s192, sm197, ⟨c194, rfl, f195⟩⟩; exact (faR1 (.inl (by decide)) (faR1 (.inl (by decide)) (faR1 (.inl (by decide)) (faR1 (.inl (by decide)) (faR1 (.inr (sm197 _ (Or.inr ⟨3, _, rfl, (O179.footRows (j := 3) rfl j150.2.2)⟩))) z0b)))))
 .rintro v198 H199 ⟨G190, O191, s192, sm197, ⟨c194, rfl, f195⟩⟩; exact z0b
 rintro v198 H199 ⟨G190, O191, s192, sm197, ⟨c194, rfl, f195⟩⟩
 have O200 : Ow G190 H199 (z3u (hdT w82) 111 (tlT w82) [Int.toNat x105] 96 T_Q x130 :: eSl w175 96 T_Q x171 :: eSl w159 96 T_Q x155 :: z3u (hdT w95) 111 (tlT w95) [Int.toNat x105] 96 T_Q x87 :: L) := O191.front (j := 3) rfl
 have O201 : Ow G190 H199 (z3u (hdT w95) 111 (tlT w95) [Int.toNat x105] 96 T_Q x87 :: z3u (hdT w82) 111 (tlT w82) [Int.toNat x105] 96 T_Q x130 :: eSl w175 96 T_Q x171 :: eSl w159 96 T_Q x155 :: L) := O200.front (j := 3) rfl
 have O202 : Ow G190 H199 (eSl w175 96 T_Q x171 :: z3u (hdT w95) 111 (tlT w95) [Int.toNat x105] 96 T_Q x87 :: z3u (hdT w82) 111 (tlT w82) [Int.toNat x105] 96 T_Q x130 :: eSl w159 96 T_Q x155 :: L) := O201.front (j := 2) rfl
 have O203 : Ow G190 H199 (eSl w159 96 T_Q x155 :: eSl w175 96 T_Q x171 :: z3u (hdT w95) 111 (tlT w95) [Int.toNat x105] 96 T_Q x87 :: z3u (hdT w82) 111 (tlT w82) [Int.toNat x105] 96 T_Q x130 :: L) := O202.front (j := 3) rfl
 have O204 := O203.putRow0 (j := 2) rfl e160 j158.2.2
 have O205 := O204.takeRow (j := 2) rfl e152 j150.2.2 List.not_mem_nil
 obtain ⟨x206, i207, h208⟩ := z00 h189
 have j209 := z0d i207
 refine D2.pure (v := (z1k w151 (Int.toNat x131 * 3))) rfl rfl (z26 zbp sz96 (oo rfl rfl) (oo rfl rfl) (O205.slLen (j := 0) rfl) j209.1 j209.2.1) (D2.lo rfl rfl (Lo.storeSl0 (j := 0) (y0 := x187) (v := (.agg (List.toArray c194))) rfl j209.2.2  rfl sz96 rfl rfl f195 O205) ?_ (z1i (by decide) z0b) ?_ ?_)
 .rintro v212 H213 ⟨O210, sm211⟩; exact (faR1 (.inl (by decide)) (faR1 (.inl (by decide)) (faR1 (.inl (by decide)) (faR1 (.inl (by decide)) (faR1 (.inl (by decide)) z0b)))))
 .rintro v212 H213 ⟨O210, sm211⟩; exact z0b
 rintro v212 H213 ⟨O210, sm211⟩
 refine .nil (.region (W.q3 (.int .i64 (z04 .i64 (x131 + 1))) t139 rfl (W.q2 (.int .i64 (z04 .i64 (x131 + 1))) rfl (.nil ?_))))
 have O214 : Ow G190 H213 (z3u (hdT w82) 111 (tlT w82) [Int.toNat x105] 96 T_Q x130 :: eSl w151 96 T_Q (List.set x147 (Int.toNat x131) x187) :: eSl w175 96 T_Q x171 :: z3u (hdT w95) 111 (tlT w95) [Int.toNat x105] 96 T_Q x87 :: L) := O210.front (j := 3) rfl
 have O215 : Ow G190 H213 (z3u (hdT w95) 111 (tlT w95) [Int.toNat x105] 96 T_Q x87 :: z3u (hdT w82) 111 (tlT w82) [Int.toNat x105] 96 T_Q x130 :: eSl w151 96 T_Q (List.set x147 (Int.toNat x131) x187) :: eSl w175 96 T_Q x171 :: L) := O214.front (j := 3) rfl
 have O216 : Ow G190 H213 (eSl w151 96 T_Q (List.set x147 (Int.toNat x131) x187) :: z3u (hdT w95) 111 (tlT w95) [Int.toNat x105] 96 T_Q x87 :: z3u (hdT w82) 111 (tlT w82) [Int.toNat x105] 96 T_Q x130 :: eSl w175 96 T_Q x171 :: L) := O215.front (j := 2) rfl
 have O217 : Ow G190 H213 (eSl w175 96 T_Q x171 :: eSl w151 96 T_Q (List.set x147 (Int.toNat x131) x187) :: z3u (hdT w95) 111 (tlT w95) [Int.toNat x105] 96 T_Q x87 :: z3u (hdT w82) 111 (tlT w82) [Int.toNat x105] 96 T_Q x130 :: L) := O216.front (j := 3) rfl
 have O218 := O217.putRow0 (j := 1) rfl e176 j174.2.2
 have O219 := O218.putRow (j := 1) rfl e152
 exact ⟨k129, zAg _, ⟨(List.set x130 (Int.toNat x105) (List.set x147 (Int.toNat x131) x187)), z04 .i64 (x131 + 1), _, h208, O219, (zAe s137 s192), rfl⟩⟩
def z29 (K : Nat) (x44 : Q) (x71 : Int) (x82 : List Q) : Nat -> List (List Q) -> Int -> Option (List (List Q))
  | 0, _, _ => none
  | k + 1, x96, x97 => (if (decide (x97 < (List.length x82 : Int))) = true then ((idx x96 x71).bind fun x113 => ((idx x96 x71).bind fun x121 => ((idx x121 x97).bind fun x130 => ((z6l K x130 x44).bind fun x140 => ((idx x113 x97).bind fun x155 => z29 K x44 x71 x82 k (List.set x96 (Int.toNat x71) (List.set x113 (Int.toNat x97) x140)) (z04 .i64 (x97 + 1))))))) else some x96)
def z2a (K : Nat) (x31 : List (List Q)) (x44 : Q) : Nat -> List (List Q) -> Int -> Option (List (List Q))
  | 0, _, _ => none
  | k + 1, x70, x71 => (if (decide (x71 < (List.length x31 : Int))) = true then ((idx x70 x71).bind fun x82 => (Option.bind (z29 K x44 x71 x82 K x70 0) (tu1 fun x165 => z2a K x31 x44 k x165 (z04 .i64 (x71 + 1))))) else some x70)
def z2h (K : Nat) (p0 : List (List zAd)) (p1 : zAd) : Option (List (List zAd) × Int) := ((z1b K p0).bind fun x1 => (if (x1 != 0) = true then some ([], x1) else ((z5l K p1).bind fun x16 => (if (x16 != 0) = true then some ([], x16) else ((z3w K p0).bind fun x31 => ((zag K p1).bind fun x44 => (Option.bind (z2a K x31 x44 K x31 0) (tu1 fun x175 => ((z32 K x175).bind fun x188 => some (x188.1, x188.2))))))))))
theorem z8b (v0 : Value) (p0 : List (List zAd)) (hp0 : (rSl (rSl rS)).rep G [v0] p0) (p1 : zAd) (O : Ow G H (L)) (r : List (List zAd) × Int) (h : z2h K p0 p1 = some r) :
    CRF Tryz.prog 39 [v0, (.string p1)] G H (fun w0 => (eSl w0 45 (rSl rS) r.1 :: L)) (fun w0 v G' => v = .tuple #[w0, .int .i64 r.2]) := by
 unfold z2h at h
 refine CRF.og (n := 60) (fn := Tryz.f39) (by kernel_rfl) rfl rfl fun R kr => (.seq (.region (W.q1 (.slice none 0 0) rfl (W.q1 (.int .i64 0) rfl (.nil (.seq ?_))))))
 refine .seq (.region (W.q2 v0 rfl ?_))
 obtain ⟨x1, i2, h3⟩ := z00 h
 refine W.lo rfl rfl (Lo.cP rfl (fn := Tryz.f78) (by kernel_rfl) rfl (mc rfl mn) O (fun L' O' => z1q K v0 p0 hp0 O' _ i2)) ?_
 rintro v10 H11 ⟨G4, O5, s6, sm9, rfl⟩
 refine W.q1 (.int .i64 x1) rfl (.nil (.seq (.region (W.q2 (.int .i64 x1) rfl (W.q3 (.bool (x1 != 0)) rfl rfl (.nil ?_))))))
 refine .cond (b := (x1 != 0)) rfl rfl (fun g12 => ?_) (fun g12 => ?_)
 .have h13 := z03 g12 h3
  refine .seq (.region (W.q2 (.int .i64 x1) rfl (W.q1 (.slice none 0 0) rfl (W.q1 (.int .i64 x1) rfl (.nil (.ret ?_))))))
  have O14 := O5.nilSl 45 (rSl rS)
  obtain rfl := zAa h13
  exact z6u kr (.slice none 0 0) (v1 := (.slice none 0 0)) (v2 := (.int .i64 x1)) (by rfl) (z07 (by rfl) (by exact rfl)) (z07 (by rfl) (by exact rfl)) O14 s6 rfl
 have h15 := z0g g12 h3
 refine .skip (.seq (.seq (.region (W.q2 (.string p1) rfl ?_))))
 obtain ⟨x16, i17, h18⟩ := z00 h15
 refine W.lo rfl rfl (Lo.cP rfl (fn := Tryz.f63) (by kernel_rfl) rfl (mc rfl mn) O5 (fun L' O' => z9v K p1 O' _ i17)) ?_
 rintro v25 H26 ⟨G19, O20, s21, sm24, rfl⟩
 refine W.q1 (.int .i64 x16) rfl (.nil (.seq (.region (W.q2 (.int .i64 x16) rfl (W.q3 (.bool (x16 != 0)) rfl rfl (.nil ?_))))))
 refine .cond (b := (x16 != 0)) rfl rfl (fun g27 => ?_) (fun g27 => ?_)
 .have h28 := z03 g27 h18
  refine .seq (.region (W.q2 (.int .i64 x16) rfl (W.q1 (.slice none 0 0) rfl (W.q1 (.int .i64 x16) rfl (.nil (.ret ?_))))))
  have O29 := O20.nilSl 45 (rSl rS)
  obtain rfl := zAa h28
  exact z6u kr (.slice none 0 0) (v1 := (.slice none 0 0)) (v2 := (.int .i64 x16)) (by rfl) (z07 (by rfl) (by exact rfl)) (z07 (by rfl) (by exact rfl)) O29 (zAe s6 s21) rfl
 have h30 := z0g g27 h18
 refine .skip (.seq (.region (W.q2 v0 rfl ?_)))
 obtain ⟨x31, i32, h33⟩ := z00 h30
 refine W.lo rfl rfl (Lo.callPF (ps := []) (pw := fun w => [z3u (hdT w) 111 (tlT w) [] 96 T_Q x31]) rfl (fn := Tryz.f82) (by kernel_rfl) rfl (mc rfl mn) O20 (fun L' O' => z4d K v0 p0 (RT.mono _ (zAe s6 s21) hp0) O' _ i32)) ?_
 rintro v42 H43 ⟨w39, G34, O35, s36, sm41, rfl⟩
 refine W.q2 (.string p1) rfl ?_
 obtain ⟨x44, i45, h46⟩ := z00 h33
 refine W.lo rfl rfl (Lo.cP rfl (fn := Tryz.f66) (by kernel_rfl) rfl (mc rfl mn) O35 (fun L' O' => zcp K p1 O' _ i45)) ?_
 rintro v55 H56 ⟨G47, O48, s49, sm54, ⟨c51, rfl, f52⟩⟩
 refine W.lo rfl rfl (Lo.alloc (r := T_Q) (x0 := (Q.mk false ([] : List Int) ([] : List Int))) ze96 (by kernel_rfl) z_Q O48) ?_
 rintro v60 H61 ⟨b58, rfl, O57, sm59⟩
 refine W.q1 (hdT w39) rfl (W.lo rfl rfl (Lo.storeVar (j := 0) (s := T_Q) (y0 := x44) (v := (.agg (List.toArray c51))) (o := 0) rfl ((Put.at (Put.self _) _ _)) rfl sz96 rfl (by omega) rfl f52 O57) ?_)
 rintro v64 H65 ⟨O62, sm63⟩
 refine .nil (.seq (.seq (.region (W.q2 (hdT w39) rfl (W.pure (v := (.int .i64 (List.length x31 : Int))) rfl rfl (z0f (oo rfl rfl) (O62.rowsLen (j := 1) rfl) (z02 za9)) (W.q2 (.int .i64 0) rfl ?_))))))
 refine .nil ?_
 obtain ⟨q66, h67, h68⟩ := z00 h46
 refine AW.midT (fun σ' H' => ∃ (y1 : List (List Q)) (G' : GM), y1 = q66 /\ Ow G' H' (eVar b58 96 T_Q x44 :: z3u (hdT w39) 111 (tlT w39) [] 96 T_Q y1 :: L) /\ GM.le G47 G') ?_ ?_
 rotate_left
 .rintro σ176 H177 fr178 ⟨x175, G179, rfl, O180, s181⟩
  have h183 := z09 h68
  refine .seq (.region (W.q2 (hdT w39) ((fr178 8 rfl).trans rfl) ?_))
  obtain ⟨G184, O185, s186, f187⟩ := O180.frzRows (j := 1) rfl
  obtain ⟨x188, i189, h190⟩ := z00 h183
  refine W.lo rfl rfl (Lo.callPF (ps := []) (pw := fun w => [eSl w 45 (rSl rS) x188.1]) rfl (fn := Tryz.f84) (by kernel_rfl) rfl (mc rfl mn) O185 (fun L' O' => z5n K (hdT w39) x175 f187 O' _ i189)) ?_
  rintro v199 H200 ⟨w196, G191, O192, s193, sm198, rfl⟩
  refine W.pure (v := w196) rfl rfl (z08 (oo rfl rfl) rfl) (W.pure (v := (.int .i64 x188.2)) rfl rfl (z08 (oo rfl rfl) rfl) (W.q1 w196 rfl (W.q1 (.int .i64 x188.2) rfl (.nil (.ret ?_)))))
  have O201 : Ow G191 H200 (eSl w196 45 (rSl rS) x188.1 :: L) := O192.drop 1
  obtain rfl := zAa h190
  exact z6u kr w196 (v1 := w196) (v2 := (.int .i64 x188.2)) (by rfl) (z07 (by rfl) (by exact rfl)) (z07 (by rfl) (by exact rfl)) O201 (zAe s6 (zAe s21 (zAe s36 (zAe s49 (zAe s181 (zAe s186 s193)))))) rfl
 refine .block (AW.loop (α := Nat) (fun k' σ' H' => ∃ (y1 : List (List Q)) (y2 : Int) (G' : GM), z2a K x31 x44 k' y1 y2 = some q66 /\ Ow G' H' (eVar b58 96 T_Q x44 :: z3u (hdT w39) 111 (tlT w39) [] 96 T_Q y1 :: L) /\ GM.le G47 G' /\ σ' 28 = .int .i64 y2) (fun k' => k') K ⟨x31, 0, _, h67, O62, (zAf _), rfl⟩ ?_)
 rintro k69
 rintro σ72 H73 fr74 ⟨x70, x71, G75, h78, O76, s77, t79⟩
 rcases k69 with _ | k69
 .exact z06 h78
 rw [z2a] at h78
 refine .seq (.region (W.q3 (.bool (decide (x71 < (List.length x31 : Int)))) t79 ((fr74 27 rfl).trans rfl) (.nil (.seq (.cond (b := decide (x71 < (List.length x31 : Int))) rfl rfl (fun g80 => ?_) (fun g80 => ?_))))))
 rotate_left
 .have h174 := z0g g80 h78
  refine .exit ?_
  obtain rfl := zAa h174
  exact ⟨x70, _, rfl, O76, s77⟩
 have h81 := z03 g80 h78
 refine .skip (.seq (.block (.seq (.region (W.q2 _ t79 (W.q1 (.int .i64 x71) rfl ?_))))))
 refine .nil (.seq (.region (W.q2 (hdT w39) ((fr74 8 rfl).trans rfl) (W.q2 (.int .i64 x71) rfl ?_))))
 obtain ⟨x82, i83, h84⟩ := z00 h81
 have j85 := z0d i83
 refine W.pure (v := (z1k (hdT w39) (Int.toNat x71 * 1))) rfl rfl (z26 za9 zc7 (oo rfl rfl) (oo rfl rfl) (O76.rowsLen (j := 1) rfl) j85.1 j85.2.1) ?_
 obtain ⟨w86, e87, p88, k89⟩ := O76.rowVal (j := 1) rfl j85.2.2
 refine W.load1 (v := w86) (r := []) rfl rfl zfp (z15 rfl p88) ?_
 have O90 := O76.takeRow (j := 1) rfl e87 j85.2.2 List.not_mem_nil
 refine W.pure (v := (.int .i64 (List.length x82 : Int))) rfl rfl (z0f (oo rfl rfl) (O90.slLen (j := 0) rfl) (z02 zbp)) (W.q2 (.int .i64 0) rfl (.nil ?_))
 have O91 := O90.putRow0 (j := 1) rfl e87 j85.2.2
 obtain ⟨q92, h93, h94⟩ := z00 h84
 refine AW.midT (fun σ' H' => ∃ (y1 : List (List Q)) (G' : GM), y1 = q92 /\ Ow G' H' (eVar b58 96 T_Q x44 :: z3u (hdT w39) 111 (tlT w39) [] 96 T_Q y1 :: L) /\ GM.le G75 G') ?_ ?_
 rotate_left
 .rintro σ166 H167 fr168 ⟨x165, G169, rfl, O170, s171⟩
  have h173 := z09 h94
  refine .region (W.q3 (.int .i64 (z04 .i64 (x71 + 1))) ((fr168 28 rfl).trans t79) rfl (W.q2 (.int .i64 (z04 .i64 (x71 + 1))) rfl (.nil ?_)))
  exact ⟨k69, zAg _, ⟨x165, z04 .i64 (x71 + 1), _, h173, O170, (zAe s77 s171), rfl⟩⟩
 refine .block (AW.loop (α := Nat) (fun k' σ' H' => ∃ (y1 : List (List Q)) (y2 : Int) (G' : GM), z29 K x44 x71 x82 k' y1 y2 = some q92 /\ Ow G' H' (eVar b58 96 T_Q x44 :: z3u (hdT w39) 111 (tlT w39) [] 96 T_Q y1 :: L) /\ GM.le G75 G' /\ σ' 36 = .int .i64 y2) (fun k' => k') K ⟨x70, 0, _, h93, O91, (zAf _), rfl⟩ ?_)
 rintro k95
 rintro σ98 H99 fr100 ⟨x96, x97, G101, h104, O102, s103, t105⟩
 rcases k95 with _ | k95
 .exact z06 h104
 rw [z29] at h104
 refine .seq (.region (W.q3 (.bool (decide (x97 < (List.length x82 : Int)))) t105 ((fr100 35 rfl).trans rfl) (.nil (.seq (.cond (b := decide (x97 < (List.length x82 : Int))) rfl rfl (fun g106 => ?_) (fun g106 => ?_))))))
 rotate_left
 .have h164 := z0g g106 h104
  refine .exit ?_
  obtain rfl := zAa h164
  exact ⟨x96, _, rfl, O102, s103⟩
 have h107 := z03 g106 h104
 refine .skip (.seq (.block (.seq (.region (W.q2 _ t105 (W.q1 (.int .i64 x97) rfl ?_))))))
 refine .nil (.draw2 (M := [0, 0, 3, 7, 0, 0, 0, 96, 224, 0, 992, 2016, 0, 8160, 16383, 32767]) mixed (by kernel_rfl) (by kernel_rfl) fun H108 N112 x109 F111 => ?_)
 have O110 := O102.ext x109
 refine D2.q2 (hdT w39) ((fr100 8 rfl).trans ((fr74 8 rfl).trans rfl)) (D2.q2 (.int .i64 x71) ((fr100 10 rfl).trans rfl) ?_)
 obtain ⟨x113, i114, h115⟩ := z00 h107
 have j116 := z0d i114
 refine D2.pure (v := (z1k (hdT w39) (Int.toNat x71 * 1))) rfl rfl (z26 za9 zc7 (oo rfl rfl) (oo rfl rfl) (O110.rowsLen (j := 1) rfl) j116.1 j116.2.1) ?_
 obtain ⟨w117, e118, p119, k120⟩ := O110.rowVal (j := 1) rfl j116.2.2
 refine D2.load1' (v := w117) (r := []) rfl rfl zfp (z15 rfl p119) z0b (D2.q2 (.int .i64 x97) rfl (D2.q2 (hdT w39) ((fr100 8 rfl).trans ((fr74 8 rfl).trans rfl)) (D2.q2 (.int .i64 x71) ((fr100 10 rfl).trans rfl) ?_)))
 obtain ⟨x121, i122, h123⟩ := z00 h115
 have j124 := z0d i122
 refine D2.pure (v := (z1k (hdT w39) (Int.toNat x71 * 1))) rfl rfl (z26 za9 zc7 (oo rfl rfl) (oo rfl rfl) (O110.rowsLen (j := 1) rfl) j124.1 j124.2.1) ?_
 obtain ⟨w125, e126, p127, k128⟩ := O110.rowVal (j := 1) rfl j124.2.2
 refine D2.load1' (v := w125) (r := []) rfl rfl zfp (z15 rfl p127) z0b (D2.q2 (.int .i64 x97) rfl ?_)
 have O129 := O110.takeRow (j := 1) rfl e126 j124.2.2 List.not_mem_nil
 obtain ⟨x130, i131, h132⟩ := z00 h123
 have j133 := z0d i131
 refine D2.pure (v := (z1k w125 (Int.toNat x97 * 3))) rfl rfl (z26 zbp sz96 (oo rfl rfl) (oo rfl rfl) (O129.slLen (j := 0) rfl) j133.1 j133.2.1) ?_
 obtain ⟨c134, p135, f136⟩ := (O129.atSl (j := 0) rfl j133.2.2)
 refine D2.loadA' (cs := c134) rfl rfl ag96 sz96 (z15 rfl p135) (RT.len _ f136) z0b ?_
 obtain ⟨c137, p138, f139⟩ := (O129.atVar (j := 1) rfl)
 refine D2.loadA' (cs := c137) rfl rfl ag96 sz96 (z15 ((fr100 9 rfl).trans ((fr74 9 rfl).trans rfl)) p138) (RT.len _ f139) z0b ?_
 obtain ⟨x140, i141, h142⟩ := z00 h132
 refine D2.lo rfl rfl (Lo.cP rfl (fn := Tryz.f92) (by kernel_rfl) rfl (mc rfl (mc rfl mn)) O129 (fun L' O' => z9w K c134 x130 f136 c137 x44 f139 O' _ i141)) ?_ z0b ?_ ?_
 .rintro v151 H152 ⟨G143, O144, s145, sm150, ⟨c147, rfl, f148⟩⟩; exact (faR1 (.inl (by decide)) (faR1 (.inl (by decide)) (faR1 (.inl (by decide)) (faR1 (.inr (sm150 _ (Or.inr ⟨2, _, rfl, (O129.footRows (j := 2) rfl j116.2.2)⟩))) z0b))))
 .rintro v151 H152 ⟨G143, O144, s145, sm150, ⟨c147, rfl, f148⟩⟩; exact z0b
 rintro v151 H152 ⟨G143, O144, s145, sm150, ⟨c147, rfl, f148⟩⟩
 have O153 := O144.putRow0 (j := 1) rfl e126 j124.2.2
 have O154 := O153.takeRow (j := 1) rfl e118 j116.2.2 List.not_mem_nil
 obtain ⟨x155, i156, h157⟩ := z00 h142
 have j158 := z0d i156
 refine D2.pure (v := (z1k w117 (Int.toNat x97 * 3))) rfl rfl (z26 zbp sz96 (oo rfl rfl) (oo rfl rfl) (O154.slLen (j := 0) rfl) j158.1 j158.2.1) (D2.lo rfl rfl (Lo.storeSl0 (j := 0) (y0 := x140) (v := (.agg (List.toArray c147))) rfl j158.2.2  rfl sz96 rfl rfl f148 O154) ?_ (z1i (by decide) z0b) ?_ ?_)
 .rintro v161 H162 ⟨O159, sm160⟩; exact (faR1 (.inl (by decide)) (faR1 (.inl (by decide)) (faR1 (.inl (by decide)) (faR1 (.inl (by decide)) z0b))))
 .rintro v161 H162 ⟨O159, sm160⟩; exact z0b
 rintro v161 H162 ⟨O159, sm160⟩
 refine .nil (.region (W.q3 (.int .i64 (z04 .i64 (x97 + 1))) t105 rfl (W.q2 (.int .i64 (z04 .i64 (x97 + 1))) rfl (.nil ?_))))
 have O163 := O159.putRow (j := 1) rfl e118
 exact ⟨k95, zAg _, ⟨(List.set x96 (Int.toNat x71) (List.set x113 (Int.toNat x97) x140)), z04 .i64 (x97 + 1), _, h157, O163, (zAe s103 s145), rfl⟩⟩
def z0o (K : Nat) (p0 : List Int) (p1 : Int -> Option Bool) : Nat -> Int -> Option (Int ⊕ Unit)
  | 0, _ => none
  | k + 1, x5 => (if (decide (x5 < (List.length p0 : Int))) = true then ((idx p0 x5).bind fun x16 => ((p1 x16).bind fun x20 => (if x20 = true then some (.inl x5) else z0o K p0 p1 k (z04 .i64 (x5 + 1))))) else some (.inr ()))
def z11 (K : Nat) (p0 : List Int) (p1 : Int -> Option Bool) : Option Int := (z9q (z0o K p0 p1 K 0) (tu1 fun a42 => some a42) (tu0 (some (-1))))
theorem z42 (v0 : Value) (p0 : List Int) (hp0 : (rSl (rI .i64)).rep G [v0] p0) (v1 : Value) (p1 : Int -> Option Bool) (hp1 : FnOk Tryz.prog G v1 (fun _ vs (x : (Int)) => vs = [.int .i64 x]) (fun _ v (rr : (Bool)) => v = .bool rr) p1) (O : Ow G H (L)) (r : Int) (h : z11 K p0 p1 = some r) :
    CR Tryz.prog 161 [v0, v1] G H (L) (fun v G' _ => v = .int .i64 r) := by
 unfold z11 at h
 refine CR.og (n := 19) (fn := Tryz.f161) (by kernel_rfl) rfl rfl fun R kr => (.seq (.region (W.q1 (.int .i64 0) rfl (.nil (.seq (.seq ?_))))))
 refine .region (W.q2 v0 rfl (W.pure (v := (.int .i64 (List.length p0 : Int))) rfl rfl (z0f (oo rfl rfl) (z0a hp0) (z02 el91)) (W.q2 (.int .i64 0) rfl (.nil ?_))))
 obtain ⟨q1, h2, h3⟩ := z1t h
 refine AW.midT (fun σ' H' => ∃  (G' : GM), (.inr ()) = q1 /\ Ow G' H' (L) /\ GM.le G G') ?_ ?_
 rotate_left
 .rintro σ34 H35 fr36 ⟨G37, rfl, O38, s39⟩
  have h41 := z4z (z70 h3)
  refine .seq (.region (W.q1 (.int .i64 (-1)) rfl (.nil (.ret ?_))))
  obtain rfl := zAa h41
  exact z1h kr (v1 := (.int .i64 (-1))) (by rfl) (z07 (by rfl) (by exact rfl)) O38 s39 rfl
 refine .block (AW.loop (α := Nat) (fun k' σ' H' => ∃ (y1 : Int) (G' : GM), z0o K p0 p1 k' y1 = some q1 /\ Ow G' H' (L) /\ GM.le G G' /\ σ' 8 = .int .i64 y1) (fun k' => k') K ⟨0, _, h2, O, (zAf _), rfl⟩ ?_)
 rintro k4
 rintro σ6 H7 fr8 ⟨x5, G9, h12, O10, s11, t13⟩
 rcases k4 with _ | k4
 .exact z06 h12
 rw [z0o] at h12
 refine .seq (.region (W.q3 (.bool (decide (x5 < (List.length p0 : Int)))) t13 ((fr8 7 rfl).trans rfl) (.nil (.seq (.cond (b := decide (x5 < (List.length p0 : Int))) rfl rfl (fun g14 => ?_) (fun g14 => ?_))))))
 rotate_left
 .have h33 := z0g g14 h12
  refine .exit ?_
  obtain rfl := zAa h33
  exact ⟨_, rfl, O10, s11⟩
 have h15 := z03 g14 h12
 refine .skip (.seq (.block (.seq (.region (W.q2 _ t13 (W.q1 (.int .i64 x5) rfl ?_))))))
 refine .nil (.seq (.region (W.q2 v1 ((fr8 1 rfl).trans rfl) (W.q2 v0 ((fr8 0 rfl).trans rfl) (W.q2 (.int .i64 x5) rfl ?_)))))
 obtain ⟨x16, i17, h18⟩ := z00 h15
 have j19 := z0d i17
 refine W.pure (v := (z1k v0 (Int.toNat x5 * 1))) rfl rfl (z26 el91 sz28 (oo rfl rfl) (oo rfl rfl) (z0a (RT.mono _ s11 hp0)) j19.1 j19.2.1) (W.load1 (v := (.int .i64 x16)) (r := []) rfl rfl ag28 (z15 rfl (At.int (At.le (At.le (z17 hp0 j19.2.2) s11 s11) (zAf _) O10.fro))) ?_)
 obtain ⟨x20, i21, h22⟩ := z00 h18
 refine W.lo rfl rfl (Lo.callF (x0 := x16) rfl rfl (FnOk.le hp1 s11) (mc rfl mn) rfl i21 O10) ?_
 rintro v27 H28 ⟨G23, O24, s25, sm26, rfl⟩
 refine .nil (.cond (b := x20) rfl rfl (fun g29 => ?_) (fun g29 => ?_))
 rotate_left
 .have h32 := z0g g29 h22
  refine .skip (.region (W.q3 (.int .i64 (z04 .i64 (x5 + 1))) t13 rfl (W.q2 (.int .i64 (z04 .i64 (x5 + 1))) rfl (.nil ?_))))
  exact ⟨k4, zAg _, ⟨z04 .i64 (x5 + 1), _, h32, O24, (zAe s11 s25), rfl⟩⟩
 have h30 := z03 g29 h22
 refine .seq (.region (W.q2 (.int .i64 x5) rfl (W.q1 (.int .i64 x5) rfl (.nil (.ret ?_)))))
 obtain rfl := zAa h30
 have h31 := z09 (z59 h3)
 obtain rfl := zAa h31
 exact z1h kr (v1 := (.int .i64 x5)) (by rfl) (z07 (by rfl) (by exact rfl)) O24 (zAe s11 s25) rfl
def z0v (K : Nat) (p0 : List Int) (p1 : Int -> Option Bool) : Option Bool := ((z11 K p0 p1).bind fun x1 => some (decide (x1 >= 0)))
theorem z3q (v0 : Value) (p0 : List Int) (hp0 : (rSl (rI .i64)).rep G [v0] p0) (v1 : Value) (p1 : Int -> Option Bool) (hp1 : FnOk Tryz.prog G v1 (fun _ vs (x : (Int)) => vs = [.int .i64 x]) (fun _ v (rr : (Bool)) => v = .bool rr) p1) (O : Ow G H (L)) (r : Bool) (h : z0v K p0 p1 = some r) :
    CR Tryz.prog 127 [v0, v1] G H (L) (fun v G' _ => v = .bool r) := by
 unfold z0v at h
 refine CR.og (n := 9) (fn := Tryz.f127) (by kernel_rfl) rfl rfl fun R kr => (.seq (.region (W.q1 (.bool false) rfl (.nil (.seq (.region ?_))))))
 refine W.q2 v0 rfl (W.q2 v1 rfl ?_)
 obtain ⟨x1, i2, h3⟩ := z00 h
 refine W.lo rfl rfl (Lo.cP rfl (fn := Tryz.f161) (by kernel_rfl) rfl (mc rfl (mc rfl mn)) O (fun L' O' => z42 K v0 p0 hp0 v1 p1 hp1 O' _ i2)) ?_
 rintro v10 H11 ⟨G4, O5, s6, sm9, rfl⟩
 refine W.q3 (.bool (decide (x1 >= 0))) rfl rfl (W.q1 (.bool (decide (x1 >= 0))) rfl (.nil (.ret ?_)))
 obtain rfl := zAa h3
 exact z1h kr (v1 := (.bool (decide (x1 >= 0)))) (by rfl) (z07 (by rfl) (by exact rfl)) O5 s6 rfl
def z7x (K : Nat) (p0 : Int) : Option Bool := some (p0 != 0)
theorem zcb (p0 : Int) (O : Ow G H (L)) (r : Bool) (h : z7x K p0 = some r) :
    CR Tryz.prog 128 [(.int .i64 p0)] G H (L) (fun v G' _ => v = .bool r) := by
 unfold z7x at h
 refine CR.og (n := 5) (fn := Tryz.f128) (by kernel_rfl) rfl rfl fun R kr => (.seq (.region (W.q1 (.bool false) rfl (.nil (.seq (.region ?_))))))
 refine W.q2 (.int .i64 p0) rfl (W.q3 (.bool (p0 != 0)) rfl rfl (W.q1 (.bool (p0 != 0)) rfl (.nil (.ret ?_))))
 obtain rfl := zAa h
 exact z1h kr (v1 := (.bool (p0 != 0))) (by rfl) (z07 (by rfl) (by exact rfl)) O (zAf _) rfl
def zbr (K : Nat) (p0 : List Int) : Option Bool := ((z0v K p0 (fun x => z7x K x)).bind fun x1 => some (!x1))
theorem zed (v0 : Value) (p0 : List Int) (hp0 : (rSl (rI .i64)).rep G [v0] p0) (O : Ow G H (L)) (r : Bool) (h : zbr K p0 = some r) :
    CR Tryz.prog 55 [v0] G H (L) (fun v G' _ => v = .bool r) := by
 unfold zbr at h
 refine CR.og (n := 6) (fn := Tryz.f55) (by kernel_rfl) rfl rfl fun R kr => (.seq (.region (W.q1 (.bool false) rfl (.nil (.seq (.region ?_))))))
 refine W.q2 v0 rfl ?_
 obtain ⟨x1, i2, h3⟩ := z00 h
 refine W.lo rfl rfl (Lo.cP rfl (fn := Tryz.f127) (by kernel_rfl) rfl (mc rfl (mc rfl mn)) O (fun L' O' => z3q K v0 p0 hp0 (.func (.func 128) #[] #[]) (fun x => z7x K x) ⟨128, _, _, Tryz.f128, rfl, by kernel_rfl, rfl, fun G1 H L vs x r hG O hA hF => by obtain rfl := hA; exact zcb K x O _ hF⟩ O' _ i2)) ?_
 rintro v10 H11 ⟨G4, O5, s6, sm9, rfl⟩
 refine W.pure (v := (.bool (!x1))) rfl rfl (zbl (a := x1) (oo rfl rfl)) (W.q1 (.bool (!x1)) rfl (.nil (.ret ?_)))
 obtain rfl := zAa h3
 exact z1h kr (v1 := (.bool (!x1))) (by rfl) (z07 (by rfl) (by exact rfl)) O5 s6 rfl
def z0w (K : Nat) (p0 : List zAd) (p1 : List zAd) : Nat -> Int -> Option (Bool ⊕ Unit)
  | 0, _ => none
  | k + 1, x8 => (if (decide (x8 < (List.length p0 : Int))) = true then ((idx p0 x8).bind fun x24 => ((idx p1 x8).bind fun x28 => (if (!(sEq x24 x28)) = true then some (.inl false) else z0w K p0 p1 k (z04 .i64 (x8 + 1))))) else some (.inr ()))
def z1d (K : Nat) (p0 : List zAd) (p1 : List zAd) : Option Bool := (if ((List.length p0 : Int) != (List.length p1 : Int)) = true then some false else (z9q (z0w K p0 p1 K 0) (tu1 fun a45 => some a45) (tu0 (some true))))
theorem z38 (v0 : Value) (p0 : List zAd) (hp0 : (rSl rS).rep G [v0] p0) (v1 : Value) (p1 : List zAd) (hp1 : (rSl rS).rep G [v1] p1) (O : Ow G H (L)) (r : Bool) (h : z1d K p0 p1 = some r) :
    CR Tryz.prog 34 [v0, v1] G H (L) (fun v G' _ => v = .bool r) := by
 unfold z1d at h
 refine CR.og (n := 26) (fn := Tryz.f34) (by kernel_rfl) rfl rfl fun R kr => (.seq (.region (W.q1 (.bool false) rfl (.nil (.seq (.seq ?_))))))
 refine .region (W.q2 v0 rfl (W.pure (v := (.int .i64 (List.length p0 : Int))) rfl rfl (z0f (oo rfl rfl) (z0a hp0) (z02 el45)) (W.q2 v1 rfl (W.pure (v := (.int .i64 (List.length p1 : Int))) rfl rfl (z0f (oo rfl rfl) (z0a hp1) (z02 el45)) (W.q3 (.bool ((List.length p0 : Int) != (List.length p1 : Int))) rfl rfl (.nil ?_))))))
 refine .cond (b := ((List.length p0 : Int) != (List.length p1 : Int))) rfl rfl (fun g1 => ?_) (fun g1 => ?_)
 .have h2 := z03 g1 h
  refine .seq (.region (W.q1 (.bool false) rfl (.nil (.ret ?_))))
  obtain rfl := zAa h2
  exact z1h kr (v1 := (.bool false)) (by rfl) (z07 (by rfl) (by exact rfl)) O (zAf _) rfl
 have h3 := z0g g1 h
 refine .skip (.seq (.seq (.region (W.q2 v0 rfl (W.pure (v := (.int .i64 (List.length p0 : Int))) rfl rfl (z0f (oo rfl rfl) (z0a hp0) (z02 el45)) (W.q2 (.int .i64 0) rfl ?_))))))
 refine .nil ?_
 obtain ⟨q4, h5, h6⟩ := z1t h3
 refine AW.midT (fun σ' H' => ∃  (G' : GM), (.inr ()) = q4 /\ Ow G' H' (L) /\ GM.le G G') ?_ ?_
 rotate_left
 .rintro σ37 H38 fr39 ⟨G40, rfl, O41, s42⟩
  have h44 := z4z (z70 h6)
  refine .seq (.region (W.q1 (.bool true) rfl (.nil (.ret ?_))))
  obtain rfl := zAa h44
  exact z1h kr (v1 := (.bool true)) (by rfl) (z07 (by rfl) (by exact rfl)) O41 s42 rfl
 refine .block (AW.loop (α := Nat) (fun k' σ' H' => ∃ (y1 : Int) (G' : GM), z0w K p0 p1 k' y1 = some q4 /\ Ow G' H' (L) /\ GM.le G G' /\ σ' 13 = .int .i64 y1) (fun k' => k') K ⟨0, _, h5, O, (zAf _), rfl⟩ ?_)
 rintro k7
 rintro σ9 H10 fr11 ⟨x8, G12, h15, O13, s14, t16⟩
 rcases k7 with _ | k7
 .exact z06 h15
 rw [z0w] at h15
 refine .seq (.region (W.q3 (.bool (decide (x8 < (List.length p0 : Int)))) t16 ((fr11 12 rfl).trans rfl) (.nil (.seq (.cond (b := decide (x8 < (List.length p0 : Int))) rfl rfl (fun g17 => ?_) (fun g17 => ?_))))))
 rotate_left
 .have h36 := z0g g17 h15
  refine .exit ?_
  obtain rfl := zAa h36
  exact ⟨_, rfl, O13, s14⟩
 have h18 := z03 g17 h15
 refine .skip (.seq (.block (.seq (.region (W.q2 _ t16 (W.q1 (.int .i64 x8) rfl ?_))))))
 refine .nil (.seq (.draw2 (M := [0, 0, 3, 7, 0, 0, 48, 112, 255]) mixed (by kernel_rfl) (by kernel_rfl) fun H19 N23 x20 F22 => ?_))
 have O21 := O13.ext x20
 refine D2.q2 v0 ((fr11 0 rfl).trans rfl) (D2.q2 (.int .i64 x8) rfl ?_)
 obtain ⟨x24, i25, h26⟩ := z00 h18
 have j27 := z0d i25
 refine D2.pure (v := (z1k v0 (Int.toNat x8 * 1))) rfl rfl (z26 el45 sz22 (oo rfl rfl) (oo rfl rfl) (z0a (RT.mono _ s14 hp0)) j27.1 j27.2.1) (D2.load1' (v := (.string x24)) (r := []) rfl rfl ag22 (z15 rfl (At.str (At.le (At.le (z17 hp0 j27.2.2) s14 s14) (zAf _) O21.fro))) z0b (D2.q2 v1 ((fr11 1 rfl).trans rfl) (D2.q2 (.int .i64 x8) rfl ?_)))
 obtain ⟨x28, i29, h30⟩ := z00 h26
 have j31 := z0d i29
 refine D2.pure (v := (z1k v1 (Int.toNat x8 * 1))) rfl rfl (z26 el45 sz22 (oo rfl rfl) (oo rfl rfl) (z0a (RT.mono _ s14 hp1)) j31.1 j31.2.1) (D2.load1' (v := (.string x28)) (r := []) rfl rfl ag22 (z15 rfl (At.str (At.le (At.le (z17 hp1 j31.2.2) s14 s14) (zAf _) O21.fro))) z0b (D2.pure (v := (.bool (!(sEq x24 x28)))) rfl rfl (ze8 (oo rfl rfl) (oo rfl rfl)) (.nil (.cond (b := (!(sEq x24 x28))) rfl rfl (fun g32 => ?_) (fun g32 => ?_)))))
 rotate_left
 .have h35 := z0g g32 h30
  refine .skip (.region (W.q3 (.int .i64 (z04 .i64 (x8 + 1))) t16 rfl (W.q2 (.int .i64 (z04 .i64 (x8 + 1))) rfl (.nil ?_))))
  exact ⟨k7, zAg _, ⟨z04 .i64 (x8 + 1), _, h35, O21, s14, rfl⟩⟩
 have h33 := z03 g32 h30
 refine .seq (.region (W.q1 (.bool false) rfl (.nil (.ret ?_))))
 obtain rfl := zAa h33
 have h34 := z09 (z59 h6)
 obtain rfl := zAa h34
 exact z1h kr (v1 := (.bool false)) (by rfl) (z07 (by rfl) (by exact rfl)) O21 s14 rfl
def z0e (K : Nat) (p0 : List (List zAd)) (p1 : List (List zAd)) (p2 : List zAd × List zAd -> Option Bool) : Nat -> Int -> Option (Bool ⊕ Unit)
  | 0, _ => none
  | k + 1, x8 => (if (decide (x8 < (List.length p0 : Int))) = true then ((idx p0 x8).bind fun x19 => ((idx p1 x8).bind fun x26 => ((p2 (x19, x26)).bind fun x33 => (if (!x33) = true then some (.inl false) else z0e K p0 p1 p2 k (z04 .i64 (x8 + 1)))))) else some (.inr ()))
def z0k (K : Nat) (p0 : List (List zAd)) (p1 : List (List zAd)) (p2 : List zAd × List zAd -> Option Bool) : Option Bool := (if ((List.length p0 : Int) != (List.length p1 : Int)) = true then some false else (z9q (z0e K p0 p1 p2 K 0) (tu1 fun a55 => some a55) (tu0 (some true))))
theorem z21 (v0 : Value) (p0 : List (List zAd)) (hp0 : (rSl (rSl rS)).rep G [v0] p0) (v1 : Value) (p1 : List (List zAd)) (hp1 : (rSl (rSl rS)).rep G [v1] p1) (v2 : Value) (p2 : List zAd × List zAd -> Option Bool) (hp2 : FnOk Tryz.prog G v2 (fun G vs (x : (List zAd × List zAd)) => ∃ (v0 : Value), ∃ (v1 : Value), vs = [v0, v1] /\ (rSl rS).rep G [v0] x.1 /\ (rSl rS).rep G [v1] x.2) (fun _ v (rr : (Bool)) => v = .bool rr) p2) (O : Ow G H (L)) (r : Bool) (h : z0k K p0 p1 p2 = some r) :
    CR Tryz.prog 141 [v0, v1, v2] G H (L) (fun v G' _ => v = .bool r) := by
 unfold z0k at h
 refine CR.og (n := 32) (fn := Tryz.f141) (by kernel_rfl) rfl rfl fun R kr => (.seq (.region (W.q1 (.bool false) rfl (.nil (.seq (.seq ?_))))))
 refine .region (W.q2 v0 rfl (W.pure (v := (.int .i64 (List.length p0 : Int))) rfl rfl (z0f (oo rfl rfl) (z0a hp0) (z02 el44)) (W.q2 v1 rfl (W.pure (v := (.int .i64 (List.length p1 : Int))) rfl rfl (z0f (oo rfl rfl) (z0a hp1) (z02 el44)) (W.q3 (.bool ((List.length p0 : Int) != (List.length p1 : Int))) rfl rfl (.nil ?_))))))
 refine .cond (b := ((List.length p0 : Int) != (List.length p1 : Int))) rfl rfl (fun g1 => ?_) (fun g1 => ?_)
 .have h2 := z03 g1 h
  refine .seq (.region (W.q1 (.bool false) rfl (.nil (.ret ?_))))
  obtain rfl := zAa h2
  exact z1h kr (v1 := (.bool false)) (by rfl) (z07 (by rfl) (by exact rfl)) O (zAf _) rfl
 have h3 := z0g g1 h
 refine .skip (.seq (.seq (.region (W.q2 v0 rfl (W.pure (v := (.int .i64 (List.length p0 : Int))) rfl rfl (z0f (oo rfl rfl) (z0a hp0) (z02 el44)) (W.q2 (.int .i64 0) rfl ?_))))))
 refine .nil ?_
 obtain ⟨q4, h5, h6⟩ := z1t h3
 refine AW.midT (fun σ' H' => ∃  (G' : GM), (.inr ()) = q4 /\ Ow G' H' (L) /\ GM.le G G') ?_ ?_
 rotate_left
 .rintro σ47 H48 fr49 ⟨G50, rfl, O51, s52⟩
  have h54 := z4z (z70 h6)
  refine .seq (.region (W.q1 (.bool true) rfl (.nil (.ret ?_))))
  obtain rfl := zAa h54
  exact z1h kr (v1 := (.bool true)) (by rfl) (z07 (by rfl) (by exact rfl)) O51 s52 rfl
 refine .block (AW.loop (α := Nat) (fun k' σ' H' => ∃ (y1 : Int) (G' : GM), z0e K p0 p1 p2 k' y1 = some q4 /\ Ow G' H' (L) /\ GM.le G G' /\ σ' 17 = .int .i64 y1) (fun k' => k') K ⟨0, _, h5, O, (zAf _), rfl⟩ ?_)
 rintro k7
 rintro σ9 H10 fr11 ⟨x8, G12, h15, O13, s14, t16⟩
 rcases k7 with _ | k7
 .exact z06 h15
 rw [z0e] at h15
 refine .seq (.region (W.q3 (.bool (decide (x8 < (List.length p0 : Int)))) t16 ((fr11 16 rfl).trans rfl) (.nil (.seq (.cond (b := decide (x8 < (List.length p0 : Int))) rfl rfl (fun g17 => ?_) (fun g17 => ?_))))))
 rotate_left
 .have h46 := z0g g17 h15
  refine .exit ?_
  obtain rfl := zAa h46
  exact ⟨_, rfl, O13, s14⟩
 have h18 := z03 g17 h15
 refine .skip (.seq (.block (.seq (.region (W.q2 _ t16 ?_)))))
 obtain ⟨x19, i20, h21⟩ := z00 h18
 have j22 := z0d i20
 refine W.pure (v := (z1k v0 (Int.toNat x8 * 1))) rfl rfl (z26 el44 sz45 (oo rfl ((fr11 15 rfl).trans rfl)) (oo rfl t16) (z0a (RT.mono _ s14 hp0)) j22.1 j22.2.1) ?_
 obtain ⟨w23, p24, f25⟩ := At.sl (At.le (z17 hp0 j22.2.2) s14 s14)
 replace p24 := PtG.le p24 O13.fro
 refine W.load1 (v := w23) (r := []) rfl rfl ag45 (z15 rfl p24) (W.q1 (.int .i64 x8) rfl (W.q1 w23 rfl (.nil (.seq (.region (W.q2 v1 ((fr11 1 rfl).trans rfl) ?_))))))
 refine W.q2 (.int .i64 x8) rfl ?_
 obtain ⟨x26, i27, h28⟩ := z00 h21
 have j29 := z0d i27
 refine W.pure (v := (z1k v1 (Int.toNat x8 * 1))) rfl rfl (z26 el44 sz45 (oo rfl rfl) (oo rfl rfl) (z0a (RT.mono _ s14 hp1)) j29.1 j29.2.1) ?_
 obtain ⟨w30, p31, f32⟩ := At.sl (At.le (z17 hp1 j29.2.2) s14 s14)
 replace p31 := PtG.le p31 O13.fro
 refine W.load1 (v := w30) (r := []) rfl rfl ag45 (z15 rfl p31) (W.q1 w30 rfl (.nil (.seq (.region (W.q2 v2 ((fr11 2 rfl).trans rfl) (W.q2 w23 rfl ?_))))))
 refine W.q2 w30 rfl ?_
 obtain ⟨x33, i34, h35⟩ := z00 h28
 refine W.lo rfl rfl (Lo.callF (x0 := (x19, x26)) rfl rfl (FnOk.le hp2 s14) (mc rfl (mc rfl mn)) ⟨w23, w30, rfl, f25, f32⟩ i34 O13) ?_
 rintro v40 H41 ⟨G36, O37, s38, sm39, rfl⟩
 refine W.pure (v := (.bool (!x33))) rfl rfl (zbl (a := x33) (oo rfl rfl)) (.nil (.cond (b := (!x33)) rfl rfl (fun g42 => ?_) (fun g42 => ?_)))
 rotate_left
 .have h45 := z0g g42 h35
  refine .skip (.region (W.q3 (.int .i64 (z04 .i64 (x8 + 1))) t16 rfl (W.q2 (.int .i64 (z04 .i64 (x8 + 1))) rfl (.nil ?_))))
  exact ⟨k7, zAg _, ⟨z04 .i64 (x8 + 1), _, h45, O37, (zAe s14 s38), rfl⟩⟩
 have h43 := z03 g42 h35
 refine .seq (.region (W.q1 (.bool false) rfl (.nil (.ret ?_))))
 obtain rfl := zAa h43
 have h44 := z09 (z59 h6)
 obtain rfl := zAa h44
 exact z1h kr (v1 := (.bool false)) (by rfl) (z07 (by rfl) (by exact rfl)) O37 (zAe s14 s38) rfl
def z5y (K : Nat) (p0 : List zAd) (p1 : List zAd) : Option Bool := ((z1d K p0 p1).bind fun x1 => some x1)
theorem zai (v0 : Value) (p0 : List zAd) (hp0 : (rSl rS).rep G [v0] p0) (v1 : Value) (p1 : List zAd) (hp1 : (rSl rS).rep G [v1] p1) (O : Ow G H (L)) (r : Bool) (h : z5y K p0 p1 = some r) :
    CR Tryz.prog 142 [v0, v1] G H (L) (fun v G' _ => v = .bool r) := by
 unfold z5y at h
 refine CR.og (n := 8) (fn := Tryz.f142) (by kernel_rfl) rfl rfl fun R kr => (.seq (.region (W.q1 (.bool false) rfl (.nil (.seq (.region ?_))))))
 refine W.q2 v0 rfl (W.q2 v1 rfl ?_)
 obtain ⟨x1, i2, h3⟩ := z00 h
 refine W.lo rfl rfl (Lo.cP rfl (fn := Tryz.f34) (by kernel_rfl) rfl (mc rfl (mc rfl mn)) O (fun L' O' => z38 K v0 p0 hp0 v1 p1 hp1 O' _ i2)) ?_
 rintro v10 H11 ⟨G4, O5, s6, sm9, rfl⟩
 refine W.q1 (.bool x1) rfl (.nil (.ret ?_))
 obtain rfl := zAa h3
 exact z1h kr (v1 := (.bool x1)) (by rfl) (z07 (by rfl) (by exact rfl)) O5 s6 rfl
def z48 (K : Nat) (p0 : List (List zAd)) (p1 : List (List zAd)) : Option Bool := ((z0k K p0 p1 (fun x => z5y K x.1 x.2)).bind fun x5 => some x5)
theorem z49 (v0 : Value) (p0 : List (List zAd)) (hp0 : (rSl (rSl rS)).rep G [v0] p0) (v1 : Value) (p1 : List (List zAd)) (hp1 : (rSl (rSl rS)).rep G [v1] p1) (O : Ow G H (L)) (r : Bool) (h : z48 K p0 p1 = some r) :
    CR Tryz.prog 77 [v0, v1] G H (L) (fun v G' _ => v = .bool r) := by
 unfold z48 at h
 refine CR.og (n := 8) (fn := Tryz.f77) (by kernel_rfl) rfl rfl fun R kr => (.seq (.region (W.q1 (.bool false) rfl (.nil (.seq (.region ?_))))))
 refine W.q2 v0 rfl (W.q2 v1 rfl ?_)
 obtain ⟨x5, i6, h7⟩ := z00 h
 refine W.lo rfl rfl (Lo.cP rfl (fn := Tryz.f141) (by kernel_rfl) rfl (mc rfl (mc rfl (mc rfl mn))) O (fun L' O' => z21 K v0 p0 hp0 v1 p1 hp1 (.func (.func 142) #[] #[]) (fun x => z5y K x.1 x.2) ⟨142, _, _, Tryz.f142, rfl, by kernel_rfl, rfl, fun G1 H L vs x r hG O hA hF => by obtain ⟨w1, w3, rfl, f2, f4⟩ := hA; exact zai K w1 x.1 f2 w3 x.2 f4 O _ hF⟩ O' _ i6)) ?_
 rintro v14 H15 ⟨G8, O9, s10, sm13, rfl⟩
 refine W.q1 (.bool x5) rfl (.nil (.ret ?_))
 obtain rfl := zAa h7
 exact z1h kr (v1 := (.bool x5)) (by rfl) (z07 (by rfl) (by exact rfl)) O9 s10 rfl
def z5d (K : Nat) : Option Bool := ((z9d K [(⟨#[49]⟩ : zAd), (⟨#[50]⟩ : zAd)] [(⟨#[51]⟩ : zAd), (⟨#[52]⟩ : zAd)]).bind fun x17 => ((z4o K ).bind fun x28 => ((z7w K x28 [(⟨#[49]⟩ : zAd), (⟨#[49]⟩ : zAd)]).bind fun x53 => ((z4o K ).bind fun x66 => ((z4o K ).bind fun x79 => ((z9e K x66 x79).bind fun x100 => ((z4o K ).bind fun x113 => ((z5o K x113).bind fun x130 => ((z1c K 2).bind fun x143 => ((z4o K ).bind fun x156 => ((z4o K ).bind fun x169 => ((z35 K x156 x169).bind fun x190 => ((z4o K ).bind fun x203 => ((z2h K x203 (⟨#[50]⟩ : zAd)).bind fun x220 => (Option.bind (((zbr K [x17.2, x53.2, x100.2, x130.2, x143.2, x190.2, x220.2]).bind fun x240 => (if x240 = true then (if (sEq x17.1 (⟨#[49, 49]⟩ : zAd)) = true then ((z1d K x53.1 [(⟨#[51]⟩ : zAd), (⟨#[55]⟩ : zAd)]).bind fun x269 => (if x269 = true then ((z48 K x100.1 [[(⟨#[55]⟩ : zAd), (⟨#[49, 48]⟩ : zAd)], [(⟨#[49, 53]⟩ : zAd), (⟨#[50, 50]⟩ : zAd)]]).bind fun x311 => (if x311 = true then ((z48 K x130.1 [[(⟨#[49]⟩ : zAd), (⟨#[51]⟩ : zAd)], [(⟨#[50]⟩ : zAd), (⟨#[52]⟩ : zAd)]]).bind fun x353 => (if x353 = true then ((z48 K x143.1 [[(⟨#[49]⟩ : zAd), (⟨#[48]⟩ : zAd)], [(⟨#[48]⟩ : zAd), (⟨#[49]⟩ : zAd)]]).bind fun x395 => (if x395 = true then ((z48 K x190.1 x220.1).bind fun x417 => (if x417 = true then (if ((List.length x190.1 : Int) == 2) = true then ((z4o K ).bind fun x434 => ((z48 K x190.1 x434).bind fun x447 => (if (!x447) = true then ((z1b K [[(⟨#[49]⟩ : zAd)], []]).bind fun x481 => (if (x481 == 3) = true then ((z1a K [(⟨#[]⟩ : zAd)]).bind fun x499 => some (x499 == 5)) else some false)) else some false))) else some false) else some false)) else some false)) else some false)) else some false)) else some false)) else some false) else some false))) (tu1 fun x641 => some x641))))))))))))))))
theorem za0  (O : Ow G H (L)) (r : Bool) (h : z5d K = some r) :
    CR Tryz.prog 26 [] G H (L) (fun v G' _ => v = .bool r) := by
 unfold z5d at h
 refine CR.og (n := 120) (fn := Tryz.f26) (by kernel_rfl) rfl rfl fun R kr => (.seq (.region (W.q1 (.bool false) rfl (.nil (.seq (.region ?_))))))
 refine W.lo rfl rfl (Lo.buildSlice (r := rS) (vs := [(.string (⟨#[49]⟩ : zAd)), (.string (⟨#[50]⟩ : zAd))]) (xs := [(⟨#[49]⟩ : zAd), (⟨#[50]⟩ : zAd)]) el45 ze22 sz22 (by kernel_rfl) rfl (qc rfl (qc rfl qn)) rfl (.cons rfl (.cons rfl .nil)) O) ?_
 rintro v3 H4 ⟨O1, sm2⟩
 refine W.lo rfl rfl (Lo.buildSlice (r := rS) (vs := [(.string (⟨#[51]⟩ : zAd)), (.string (⟨#[52]⟩ : zAd))]) (xs := [(⟨#[51]⟩ : zAd), (⟨#[52]⟩ : zAd)]) el45 ze22 sz22 (by kernel_rfl) rfl (qc rfl (qc rfl qn)) rfl (.cons rfl (.cons rfl .nil)) O1) ?_
 rintro v7 H8 ⟨O5, sm6⟩
 obtain ⟨G9, O10, s11, f12⟩ := O5.frzSl (j := 1) rfl
 obtain ⟨G13, O14, s15, f16⟩ := O10.frzSl (j := 0) rfl
 obtain ⟨x17, i18, h19⟩ := z00 h
 refine W.lo rfl rfl (Lo.cP rfl (fn := Tryz.f37) (by kernel_rfl) rfl (mc rfl (mc rfl mn)) O14 (fun L' O' => zc9 K v3 [(⟨#[49]⟩ : zAd), (⟨#[50]⟩ : zAd)] (RT.mono _ s15 f12) v7 [(⟨#[51]⟩ : zAd), (⟨#[52]⟩ : zAd)] f16 O' _ i18)) ?_
 rintro v26 H27 ⟨G20, O21, s22, sm25, rfl⟩
 refine W.q2 (.tuple #[(.string x17.1), (.int .i64 x17.2)]) rfl (W.pure (v := (.string x17.1)) rfl rfl (z08 (oo rfl rfl) rfl) (W.pure (v := (.int .i64 x17.2)) rfl rfl (z08 (oo rfl rfl) rfl) (W.q1 (.string x17.1) rfl (W.q1 (.int .i64 x17.2) rfl (.nil (.seq ?_))))))
 refine .region ?_
 obtain ⟨x28, i29, h30⟩ := z00 h19
 refine W.lo rfl rfl (Lo.callPF (ps := []) (pw := fun w => [eSl w 45 (rSl rS) x28]) rfl (fn := Tryz.f76) (by kernel_rfl) rfl mn O21 (fun L' O' => z3h K  O' _ i29)) ?_
 rintro v39 H40 ⟨w36, G31, O32, s33, sm38, rfl⟩
 refine W.lo rfl rfl (Lo.buildSlice (r := rS) (vs := [(.string (⟨#[49]⟩ : zAd)), (.string (⟨#[49]⟩ : zAd))]) (xs := [(⟨#[49]⟩ : zAd), (⟨#[49]⟩ : zAd)]) el45 ze22 sz22 (by kernel_rfl) rfl (qc rfl (qc rfl qn)) rfl (.cons rfl (.cons rfl .nil)) O32) ?_
 rintro v43 H44 ⟨O41, sm42⟩
 obtain ⟨G45, O46, s47, f48⟩ := O41.frzSl (j := 1) rfl
 obtain ⟨G49, O50, s51, f52⟩ := O46.frzSl (j := 0) rfl
 obtain ⟨x53, i54, h55⟩ := z00 h30
 refine W.lo rfl rfl (Lo.callPF (ps := []) (pw := fun w => [eSl w 22 rS x53.1]) rfl (fn := Tryz.f28) (by kernel_rfl) rfl (mc rfl (mc rfl mn)) O50 (fun L' O' => zb2 K w36 x28 (RT.mono _ s51 f48) v43 [(⟨#[49]⟩ : zAd), (⟨#[49]⟩ : zAd)] f52 O' _ i54)) ?_
 rintro v64 H65 ⟨w61, G56, O57, s58, sm63, rfl⟩
 refine W.q2 (.tuple #[w61, (.int .i64 x53.2)]) rfl (W.pure (v := w61) rfl rfl (z08 (oo rfl rfl) rfl) (W.pure (v := (.int .i64 x53.2)) rfl rfl (z08 (oo rfl rfl) rfl) (W.q1 w61 rfl (W.q1 (.int .i64 x53.2) rfl (.nil (.seq ?_))))))
 refine .region ?_
 obtain ⟨x66, i67, h68⟩ := z00 h55
 refine W.lo rfl rfl (Lo.callPF (ps := []) (pw := fun w => [eSl w 45 (rSl rS) x66]) rfl (fn := Tryz.f76) (by kernel_rfl) rfl mn O57 (fun L' O' => z3h K  O' _ i67)) ?_
 rintro v77 H78 ⟨w74, G69, O70, s71, sm76, rfl⟩
 obtain ⟨x79, i80, h81⟩ := z00 h68
 refine W.lo rfl rfl (Lo.callPF (ps := []) (pw := fun w => [eSl w 45 (rSl rS) x79]) rfl (fn := Tryz.f76) (by kernel_rfl) rfl mn O70 (fun L' O' => z3h K  O' _ i80)) ?_
 rintro v90 H91 ⟨w87, G82, O83, s84, sm89, rfl⟩
 obtain ⟨G92, O93, s94, f95⟩ := O83.frzSl (j := 1) rfl
 obtain ⟨G96, O97, s98, f99⟩ := O93.frzSl (j := 0) rfl
 obtain ⟨x100, i101, h102⟩ := z00 h81
 refine W.lo rfl rfl (Lo.callPF (ps := []) (pw := fun w => [eSl w 45 (rSl rS) x100.1]) rfl (fn := Tryz.f27) (by kernel_rfl) rfl (mc rfl (mc rfl mn)) O97 (fun L' O' => zca K w74 x66 (RT.mono _ s98 f95) w87 x79 f99 O' _ i101)) ?_
 rintro v111 H112 ⟨w108, G103, O104, s105, sm110, rfl⟩
 refine W.q2 (.tuple #[w108, (.int .i64 x100.2)]) rfl (W.pure (v := w108) rfl rfl (z08 (oo rfl rfl) rfl) (W.pure (v := (.int .i64 x100.2)) rfl rfl (z08 (oo rfl rfl) rfl) (W.q1 w108 rfl (W.q1 (.int .i64 x100.2) rfl (.nil (.seq ?_))))))
 refine .region ?_
 obtain ⟨x113, i114, h115⟩ := z00 h102
 refine W.lo rfl rfl (Lo.callPF (ps := []) (pw := fun w => [eSl w 45 (rSl rS) x113]) rfl (fn := Tryz.f76) (by kernel_rfl) rfl mn O104 (fun L' O' => z3h K  O' _ i114)) ?_
 rintro v124 H125 ⟨w121, G116, O117, s118, sm123, rfl⟩
 obtain ⟨G126, O127, s128, f129⟩ := O117.frzSl (j := 0) rfl
 obtain ⟨x130, i131, h132⟩ := z00 h115
 refine W.lo rfl rfl (Lo.callPF (ps := []) (pw := fun w => [eSl w 45 (rSl rS) x130.1]) rfl (fn := Tryz.f29) (by kernel_rfl) rfl (mc rfl mn) O127 (fun L' O' => z92 K w121 x113 f129 O' _ i131)) ?_
 rintro v141 H142 ⟨w138, G133, O134, s135, sm140, rfl⟩
 refine W.q2 (.tuple #[w138, (.int .i64 x130.2)]) rfl (W.pure (v := w138) rfl rfl (z08 (oo rfl rfl) rfl) (W.pure (v := (.int .i64 x130.2)) rfl rfl (z08 (oo rfl rfl) rfl) (W.q1 w138 rfl (W.q1 (.int .i64 x130.2) rfl (.nil (.seq ?_))))))
 refine .region ?_
 obtain ⟨x143, i144, h145⟩ := z00 h132
 refine W.lo rfl rfl (Lo.callPF (ps := []) (pw := fun w => [eSl w 45 (rSl rS) x143.1]) rfl (fn := Tryz.f40) (by kernel_rfl) rfl (mc rfl mn) O134 (fun L' O' => z6w K 2 O' _ i144)) ?_
 rintro v154 H155 ⟨w151, G146, O147, s148, sm153, rfl⟩
 refine W.q2 (.tuple #[w151, (.int .i64 x143.2)]) rfl (W.pure (v := w151) rfl rfl (z08 (oo rfl rfl) rfl) (W.pure (v := (.int .i64 x143.2)) rfl rfl (z08 (oo rfl rfl) rfl) (W.q1 w151 rfl (W.q1 (.int .i64 x143.2) rfl (.nil (.seq ?_))))))
 refine .region ?_
 obtain ⟨x156, i157, h158⟩ := z00 h145
 refine W.lo rfl rfl (Lo.callPF (ps := []) (pw := fun w => [eSl w 45 (rSl rS) x156]) rfl (fn := Tryz.f76) (by kernel_rfl) rfl mn O147 (fun L' O' => z3h K  O' _ i157)) ?_
 rintro v167 H168 ⟨w164, G159, O160, s161, sm166, rfl⟩
 obtain ⟨x169, i170, h171⟩ := z00 h158
 refine W.lo rfl rfl (Lo.callPF (ps := []) (pw := fun w => [eSl w 45 (rSl rS) x169]) rfl (fn := Tryz.f76) (by kernel_rfl) rfl mn O160 (fun L' O' => z3h K  O' _ i170)) ?_
 rintro v180 H181 ⟨w177, G172, O173, s174, sm179, rfl⟩
 obtain ⟨G182, O183, s184, f185⟩ := O173.frzSl (j := 1) rfl
 obtain ⟨G186, O187, s188, f189⟩ := O183.frzSl (j := 0) rfl
 obtain ⟨x190, i191, h192⟩ := z00 h171
 refine W.lo rfl rfl (Lo.callPF (ps := []) (pw := fun w => [eSl w 45 (rSl rS) x190.1]) rfl (fn := Tryz.f38) (by kernel_rfl) rfl (mc rfl (mc rfl mn)) O187 (fun L' O' => z96 K w164 x156 (RT.mono _ s188 f185) w177 x169 f189 O' _ i191)) ?_
 rintro v201 H202 ⟨w198, G193, O194, s195, sm200, rfl⟩
 refine W.q2 (.tuple #[w198, (.int .i64 x190.2)]) rfl (W.pure (v := w198) rfl rfl (z08 (oo rfl rfl) rfl) (W.pure (v := (.int .i64 x190.2)) rfl rfl (z08 (oo rfl rfl) rfl) (W.q1 w198 rfl (W.q1 (.int .i64 x190.2) rfl (.nil (.seq ?_))))))
 refine .region ?_
 obtain ⟨x203, i204, h205⟩ := z00 h192
 refine W.lo rfl rfl (Lo.callPF (ps := []) (pw := fun w => [eSl w 45 (rSl rS) x203]) rfl (fn := Tryz.f76) (by kernel_rfl) rfl mn O194 (fun L' O' => z3h K  O' _ i204)) ?_
 rintro v214 H215 ⟨w211, G206, O207, s208, sm213, rfl⟩
 obtain ⟨G216, O217, s218, f219⟩ := O207.frzSl (j := 0) rfl
 obtain ⟨x220, i221, h222⟩ := z00 h205
 refine W.lo rfl rfl (Lo.callPF (ps := []) (pw := fun w => [eSl w 45 (rSl rS) x220.1]) rfl (fn := Tryz.f39) (by kernel_rfl) rfl (mc rfl (mc rfl mn)) O217 (fun L' O' => z8b K w211 x203 f219 (⟨#[50]⟩ : zAd) O' _ i221)) ?_
 rintro v231 H232 ⟨w228, G223, O224, s225, sm230, rfl⟩
 refine W.q2 (.tuple #[w228, (.int .i64 x220.2)]) rfl (W.pure (v := w228) rfl rfl (z08 (oo rfl rfl) rfl) (W.pure (v := (.int .i64 x220.2)) rfl rfl (z08 (oo rfl rfl) rfl) (W.q1 w228 rfl (W.q1 (.int .i64 x220.2) rfl (.nil (.seq ?_))))))
 obtain ⟨q233, h234, h235⟩ := z00 h222
 refine AW.midT (fun σ' H' => ∃ (y1 : Bool) (G' : GM), y1 = q233 /\ Ow G' H' (L) /\ GM.le G223 G' /\ σ' 0 = .bool y1) ?_ ?_
 rotate_left
 .rintro σ642 H643 fr644 ⟨x641, G645, rfl, O646, s647, t649⟩
  have h650 := z09 h235
  refine .ret ?_
  obtain rfl := zAa h650
  exact z1h kr (v1 := (.bool x641)) (by rfl) (z07 (by rfl) (by exact t649)) O646 (zAe s11 (zAe s15 (zAe s22 (zAe s33 (zAe s47 (zAe s51 (zAe s58 (zAe s71 (zAe s84 (zAe s94 (zAe s98 (zAe s105 (zAe s118 (zAe s128 (zAe s135 (zAe s148 (zAe s161 (zAe s174 (zAe s184 (zAe s188 (zAe s195 (zAe s208 (zAe s218 (zAe s225 s647)))))))))))))))))))))))) rfl
 refine .region (W.q2 (.int .i64 x17.2) rfl (W.q2 (.int .i64 x53.2) rfl (W.q2 (.int .i64 x100.2) rfl (W.q2 (.int .i64 x130.2) rfl (W.q2 (.int .i64 x143.2) rfl (W.q2 (.int .i64 x190.2) rfl ?_))))))
 refine W.q2 (.int .i64 x220.2) rfl (W.lo rfl rfl (Lo.buildSlice (r := (rI .i64)) (vs := [(.int .i64 x17.2), (.int .i64 x53.2), (.int .i64 x100.2), (.int .i64 x130.2), (.int .i64 x143.2), (.int .i64 x190.2), (.int .i64 x220.2)]) (xs := [x17.2, x53.2, x100.2, x130.2, x143.2, x190.2, x220.2]) el91 ze28 sz28 (by kernel_rfl) rfl (qc rfl (qc rfl (qc rfl (qc rfl (qc rfl (qc rfl (qc rfl qn))))))) rfl (.cons rfl (.cons rfl (.cons rfl (.cons rfl (.cons rfl (.cons rfl (.cons rfl .nil))))))) O224) ?_)
 rintro v238 H239 ⟨O236, sm237⟩
 obtain ⟨x240, i241, h242⟩ := z00 h234
 refine W.lo rfl rfl (Lo.callB (j := 0) rfl rfl (fn := Tryz.f55) (by kernel_rfl) rfl (mc rfl mn) O236 (fun G' L' hG O' hB => zed K v238 [x17.2, x53.2, x100.2, x130.2, x143.2, x190.2, x220.2] hB O' _ i241)) ?_
 rintro v249 H250 ⟨G243, O244, s245, sm248, rfl⟩
 refine W.q2 (.bool x240) rfl (W.splitAt (t := 62) (b := x240) rfl (fun g251 gv252 => ?_) (fun g251 gv252 => ?_))
 rotate_left
 .have h615 := z0g g251 h242
  refine W.q6 rfl gv252 (W.q6 rfl gv252 (W.q5 (.bool false) gv252 rfl (W.q2 (.bool false) rfl (W.q6 rfl rfl (W.q6 rfl rfl (W.q6 rfl rfl ?_))))))
  refine W.q5 (.bool false) rfl rfl (W.q2 (.bool false) rfl (W.q6 rfl rfl (W.q6 rfl rfl (W.q6 rfl rfl (W.q6 rfl rfl (W.q6 rfl rfl ?_))))))
  refine W.q5 (.bool false) rfl rfl (W.q2 (.bool false) rfl (W.q6 rfl rfl (W.q6 rfl rfl (W.q6 rfl rfl (W.q6 rfl rfl (W.q6 rfl rfl ?_))))))
  refine W.q5 (.bool false) rfl rfl (W.q2 (.bool false) rfl (W.q6 rfl rfl (W.q6 rfl rfl (W.q6 rfl rfl (W.q6 rfl rfl (W.q6 rfl rfl ?_))))))
  refine W.q5 (.bool false) rfl rfl (W.q2 (.bool false) rfl (W.q6 rfl rfl (W.q6 rfl rfl (W.q6 rfl rfl (W.q5 (.bool false) rfl rfl (W.q2 (.bool false) rfl ?_))))))
  refine W.q6 rfl rfl (W.q6 rfl rfl (W.q6 rfl rfl (W.q5 (.bool false) rfl rfl (W.q2 (.bool false) rfl (W.q6 rfl rfl (W.q6 rfl rfl ?_))))))
  refine W.q6 rfl rfl (W.q6 rfl rfl (W.q5 (.bool false) rfl rfl (W.q2 (.bool false) rfl (W.q6 rfl rfl (W.q6 rfl rfl (W.q6 rfl rfl ?_))))))
  refine W.q6 rfl rfl (W.q6 rfl rfl (W.q5 (.bool false) rfl rfl (W.q2 (.bool false) rfl (W.q6 rfl rfl (W.q6 rfl rfl (W.q6 rfl rfl ?_))))))
  refine W.q5 (.bool false) rfl rfl (W.q1 (.bool false) rfl (.nil ?_))
  obtain ⟨G616, O617, s618, f619⟩ := O244.frzSl (j := 1) rfl
  obtain ⟨G620, O621, s622, f623⟩ := O617.frzSl (j := 1) rfl
  obtain ⟨G624, O625, s626, f627⟩ := O621.frzSl (j := 1) rfl
  obtain ⟨G628, O629, s630, f631⟩ := O625.frzSl (j := 1) rfl
  obtain ⟨G632, O633, s634, f635⟩ := O629.frzSl (j := 1) rfl
  obtain ⟨G636, O637, s638, f639⟩ := O633.frzSl (j := 1) rfl
  have O640 : Ow G636 H250 (L) := O637.drop 0
  obtain rfl := zAa h615
  exact ⟨false, _, rfl, O640, (zAe s245 (zAe s618 (zAe s622 (zAe s626 (zAe s630 (zAe s634 s638)))))), rfl⟩
 have h253 := z03 g251 h242
 refine W.q2 (hg := gk rfl rfl gv252 rfl) (.string x17.1) rfl (W.pure (v := (.bool (sEq x17.1 (⟨#[49, 49]⟩ : zAd)))) (gk rfl rfl gv252 rfl) rfl (z9c (oo rfl rfl) (oo rfl rfl)) (W.q4 (.bool (sEq x17.1 (⟨#[49, 49]⟩ : zAd))) gv252 rfl (W.q2 (.bool (sEq x17.1 (⟨#[49, 49]⟩ : zAd))) rfl (W.splitAt (t := 66) (b := sEq x17.1 (⟨#[49, 49]⟩ : zAd)) rfl (fun g254 gv255 => ?_) (fun g254 gv255 => ?_)))))
 rotate_left
 .have h589 := z0g g254 h253
  refine W.q6 rfl gv255 (W.q6 rfl gv255 (W.q6 rfl gv255 (W.q5 (.bool false) gv255 rfl (W.q2 (.bool false) rfl (W.q6 rfl rfl (W.q6 rfl rfl ?_))))))
  refine W.q6 rfl rfl (W.q6 rfl rfl (W.q6 rfl rfl (W.q5 (.bool false) rfl rfl (W.q2 (.bool false) rfl (W.q6 rfl rfl (W.q6 rfl rfl ?_))))))
  refine W.q6 rfl rfl (W.q6 rfl rfl (W.q6 rfl rfl (W.q5 (.bool false) rfl rfl (W.q2 (.bool false) rfl (W.q6 rfl rfl (W.q6 rfl rfl ?_))))))
  refine W.q6 rfl rfl (W.q6 rfl rfl (W.q6 rfl rfl (W.q5 (.bool false) rfl rfl (W.q2 (.bool false) rfl (W.q6 rfl rfl (W.q6 rfl rfl ?_))))))
  refine W.q6 rfl rfl (W.q5 (.bool false) rfl rfl (W.q2 (.bool false) rfl (W.q6 rfl rfl (W.q6 rfl rfl (W.q6 rfl rfl (W.q5 (.bool false) rfl rfl ?_))))))
  refine W.q2 (.bool false) rfl (W.q6 rfl rfl (W.q6 rfl rfl (W.q6 rfl rfl (W.q6 rfl rfl (W.q5 (.bool false) rfl rfl (W.q2 (.bool false) rfl ?_))))))
  refine W.q6 rfl rfl (W.q6 rfl rfl (W.q6 rfl rfl (W.q6 rfl rfl (W.q6 rfl rfl (W.q5 (.bool false) rfl rfl (W.q2 (.bool false) rfl ?_))))))
  refine W.q6 rfl rfl (W.q6 rfl rfl (W.q6 rfl rfl (W.q5 (.bool false) rfl rfl (W.q1 (.bool false) rfl (.nil ?_)))))
  obtain ⟨G590, O591, s592, f593⟩ := O244.frzSl (j := 1) rfl
  obtain ⟨G594, O595, s596, f597⟩ := O591.frzSl (j := 1) rfl
  obtain ⟨G598, O599, s600, f601⟩ := O595.frzSl (j := 1) rfl
  obtain ⟨G602, O603, s604, f605⟩ := O599.frzSl (j := 1) rfl
  obtain ⟨G606, O607, s608, f609⟩ := O603.frzSl (j := 1) rfl
  obtain ⟨G610, O611, s612, f613⟩ := O607.frzSl (j := 1) rfl
  have O614 : Ow G610 H250 (L) := O611.drop 0
  obtain rfl := zAa h589
  exact ⟨false, _, rfl, O614, (zAe s245 (zAe s592 (zAe s596 (zAe s600 (zAe s604 (zAe s608 s612)))))), rfl⟩
 have h256 := z03 g254 h253
 refine W.q2 (hg := gk rfl rfl gv255 rfl) w61 rfl (W.lo (gk rfl rfl gv255 rfl) rfl (Lo.buildSlice (r := rS) (vs := [(.string (⟨#[51]⟩ : zAd)), (.string (⟨#[55]⟩ : zAd))]) (xs := [(⟨#[51]⟩ : zAd), (⟨#[55]⟩ : zAd)]) el45 ze22 sz22 (by kernel_rfl) rfl (qc rfl (qc rfl qn)) rfl (.cons rfl (.cons rfl .nil)) O244) ?_)
 rintro v259 H260 ⟨O257, sm258⟩
 obtain ⟨G261, O262, s263, f264⟩ := O257.frzSl (j := 7) rfl
 obtain ⟨G265, O266, s267, f268⟩ := O262.frzSl (j := 0) rfl
 obtain ⟨x269, i270, h271⟩ := z00 h256
 refine W.lo (gk rfl rfl gv255 rfl) rfl (Lo.cP rfl (fn := Tryz.f34) (by kernel_rfl) rfl (mc rfl (mc rfl mn)) O266 (fun L' O' => z38 K w61 x53.1 (RT.mono _ s267 f264) v259 [(⟨#[51]⟩ : zAd), (⟨#[55]⟩ : zAd)] f268 O' _ i270)) ?_
 rintro v278 H279 ⟨G272, O273, s274, sm277, rfl⟩
 refine W.q4 (.bool x269) gv255 rfl (W.q2 (.bool x269) rfl (W.splitAt (t := 71) (b := x269) rfl (fun g280 gv281 => ?_) (fun g280 gv281 => ?_)))
 rotate_left
 .have h567 := z0g g280 h271
  refine W.q6 rfl gv281 (W.q6 rfl gv281 (W.q6 rfl gv281 (W.q6 rfl gv281 (W.q6 rfl gv281 (W.q5 (.bool false) gv281 rfl (W.q2 (.bool false) rfl ?_))))))
  refine W.q6 rfl rfl (W.q6 rfl rfl (W.q6 rfl rfl (W.q6 rfl rfl (W.q6 rfl rfl (W.q5 (.bool false) rfl rfl (W.q2 (.bool false) rfl ?_))))))
  refine W.q6 rfl rfl (W.q6 rfl rfl (W.q6 rfl rfl (W.q6 rfl rfl (W.q6 rfl rfl (W.q5 (.bool false) rfl rfl (W.q2 (.bool false) rfl ?_))))))
  refine W.q6 rfl rfl (W.q6 rfl rfl (W.q6 rfl rfl (W.q5 (.bool false) rfl rfl (W.q2 (.bool false) rfl (W.q6 rfl rfl (W.q6 rfl rfl ?_))))))
  refine W.q6 rfl rfl (W.q5 (.bool false) rfl rfl (W.q2 (.bool false) rfl (W.q6 rfl rfl (W.q6 rfl rfl (W.q6 rfl rfl (W.q6 rfl rfl ?_))))))
  refine W.q5 (.bool false) rfl rfl (W.q2 (.bool false) rfl (W.q6 rfl rfl (W.q6 rfl rfl (W.q6 rfl rfl (W.q6 rfl rfl (W.q6 rfl rfl ?_))))))
  refine W.q5 (.bool false) rfl rfl (W.q2 (.bool false) rfl (W.q6 rfl rfl (W.q6 rfl rfl (W.q6 rfl rfl (W.q5 (.bool false) rfl rfl (W.q1 (.bool false) rfl ?_))))))
  refine .nil ?_
  obtain ⟨G568, O569, s570, f571⟩ := O273.frzSl (j := 1) rfl
  obtain ⟨G572, O573, s574, f575⟩ := O569.frzSl (j := 1) rfl
  obtain ⟨G576, O577, s578, f579⟩ := O573.frzSl (j := 1) rfl
  obtain ⟨G580, O581, s582, f583⟩ := O577.frzSl (j := 1) rfl
  obtain ⟨G584, O585, s586, f587⟩ := O581.frzSl (j := 1) rfl
  have O588 : Ow G584 H279 (L) := O585.drop 0
  obtain rfl := zAa h567
  exact ⟨false, _, rfl, O588, (zAe s245 (zAe s263 (zAe s267 (zAe s274 (zAe s570 (zAe s574 (zAe s578 (zAe s582 s586)))))))), rfl⟩
 have h282 := z03 g280 h271
 refine W.q2 (hg := gk rfl rfl gv281 rfl) w108 rfl (W.lo (gk rfl rfl gv281 rfl) rfl (Lo.buildSlice (r := rS) (vs := [(.string (⟨#[55]⟩ : zAd)), (.string (⟨#[49, 48]⟩ : zAd))]) (xs := [(⟨#[55]⟩ : zAd), (⟨#[49, 48]⟩ : zAd)]) el45 ze22 sz22 (by kernel_rfl) rfl (qc rfl (qc rfl qn)) rfl (.cons rfl (.cons rfl .nil)) O273) ?_)
 rintro v285 H286 ⟨O283, sm284⟩
 refine W.lo (gk rfl rfl gv281 rfl) rfl (Lo.buildSlice (r := rS) (vs := [(.string (⟨#[49, 53]⟩ : zAd)), (.string (⟨#[50, 50]⟩ : zAd))]) (xs := [(⟨#[49, 53]⟩ : zAd), (⟨#[50, 50]⟩ : zAd)]) el45 ze22 sz22 (by kernel_rfl) rfl (qc rfl (qc rfl qn)) rfl (.cons rfl (.cons rfl .nil)) O283) ?_
 rintro v289 H290 ⟨O287, sm288⟩
 obtain ⟨G292, O293, s294, f295⟩ := O287.frzSl (j := 1) rfl
 obtain ⟨G296, O297, s298, f299⟩ := O293.frzSl (j := 0) rfl
 refine W.lo (gk rfl rfl gv281 rfl) rfl (Lo.buildSlice (r := (rSl rS)) (vs := [v285, v289]) (xs := [[(⟨#[55]⟩ : zAd), (⟨#[49, 48]⟩ : zAd)], [(⟨#[49, 53]⟩ : zAd), (⟨#[50, 50]⟩ : zAd)]]) el44 ze45 sz45 (by kernel_rfl) rfl (qc rfl (qc rfl qn)) rfl (.cons (z2q (RT.mono _ s298 f295)) (.cons (z2q f299) .nil)) O297) ?_
 rintro v301 H302 ⟨O291, sm300⟩
 obtain ⟨G303, O304, s305, f306⟩ := O291.frzSl (j := 6) rfl
 obtain ⟨G307, O308, s309, f310⟩ := O304.frzSl (j := 0) rfl
 obtain ⟨x311, i312, h313⟩ := z00 h282
 refine W.lo (gk rfl rfl gv281 rfl) rfl (Lo.cP rfl (fn := Tryz.f77) (by kernel_rfl) rfl (mc rfl (mc rfl mn)) O308 (fun L' O' => z49 K w108 x100.1 (RT.mono _ s309 f306) v301 [[(⟨#[55]⟩ : zAd), (⟨#[49, 48]⟩ : zAd)], [(⟨#[49, 53]⟩ : zAd), (⟨#[50, 50]⟩ : zAd)]] f310 O' _ i312)) ?_
 rintro v320 H321 ⟨G314, O315, s316, sm319, rfl⟩
 refine W.q4 (.bool x311) gv281 rfl (W.q2 (.bool x311) rfl (W.splitAt (t := 78) (b := x311) rfl (fun g322 gv323 => ?_) (fun g322 gv323 => ?_)))
 rotate_left
 .have h549 := z0g g322 h313
  refine W.q6 rfl gv323 (W.q6 rfl gv323 (W.q6 rfl gv323 (W.q6 rfl gv323 (W.q6 rfl gv323 (W.q5 (.bool false) gv323 rfl (W.q2 (.bool false) rfl ?_))))))
  refine W.q6 rfl rfl (W.q6 rfl rfl (W.q6 rfl rfl (W.q6 rfl rfl (W.q6 rfl rfl (W.q5 (.bool false) rfl rfl (W.q2 (.bool false) rfl ?_))))))
  refine W.q6 rfl rfl (W.q6 rfl rfl (W.q6 rfl rfl (W.q5 (.bool false) rfl rfl (W.q2 (.bool false) rfl (W.q6 rfl rfl (W.q6 rfl rfl ?_))))))
  refine W.q6 rfl rfl (W.q5 (.bool false) rfl rfl (W.q2 (.bool false) rfl (W.q6 rfl rfl (W.q6 rfl rfl (W.q6 rfl rfl (W.q6 rfl rfl ?_))))))
  refine W.q5 (.bool false) rfl rfl (W.q2 (.bool false) rfl (W.q6 rfl rfl (W.q6 rfl rfl (W.q6 rfl rfl (W.q6 rfl rfl (W.q6 rfl rfl ?_))))))
  refine W.q5 (.bool false) rfl rfl (W.q2 (.bool false) rfl (W.q6 rfl rfl (W.q6 rfl rfl (W.q6 rfl rfl (W.q5 (.bool false) rfl rfl (W.q1 (.bool false) rfl ?_))))))
  refine .nil ?_
  obtain ⟨G550, O551, s552, f553⟩ := O315.frzSl (j := 1) rfl
  obtain ⟨G554, O555, s556, f557⟩ := O551.frzSl (j := 1) rfl
  obtain ⟨G558, O559, s560, f561⟩ := O555.frzSl (j := 1) rfl
  obtain ⟨G562, O563, s564, f565⟩ := O559.frzSl (j := 1) rfl
  have O566 : Ow G562 H321 (L) := O563.drop 0
  obtain rfl := zAa h549
  exact ⟨false, _, rfl, O566, (zAe s245 (zAe s263 (zAe s267 (zAe s274 (zAe s294 (zAe s298 (zAe s305 (zAe s309 (zAe s316 (zAe s552 (zAe s556 (zAe s560 s564)))))))))))), rfl⟩
 have h324 := z03 g322 h313
 refine W.q2 (hg := gk rfl rfl gv323 rfl) w138 rfl (W.lo (gk rfl rfl gv323 rfl) rfl (Lo.buildSlice (r := rS) (vs := [(.string (⟨#[49]⟩ : zAd)), (.string (⟨#[51]⟩ : zAd))]) (xs := [(⟨#[49]⟩ : zAd), (⟨#[51]⟩ : zAd)]) el45 ze22 sz22 (by kernel_rfl) rfl (qc rfl (qc rfl qn)) rfl (.cons rfl (.cons rfl .nil)) O315) ?_)
 rintro v327 H328 ⟨O325, sm326⟩
 refine W.lo (gk rfl rfl gv323 rfl) rfl (Lo.buildSlice (r := rS) (vs := [(.string (⟨#[50]⟩ : zAd)), (.string (⟨#[52]⟩ : zAd))]) (xs := [(⟨#[50]⟩ : zAd), (⟨#[52]⟩ : zAd)]) el45 ze22 sz22 (by kernel_rfl) rfl (qc rfl (qc rfl qn)) rfl (.cons rfl (.cons rfl .nil)) O325) ?_
 rintro v331 H332 ⟨O329, sm330⟩
 obtain ⟨G334, O335, s336, f337⟩ := O329.frzSl (j := 1) rfl
 obtain ⟨G338, O339, s340, f341⟩ := O335.frzSl (j := 0) rfl
 refine W.lo (gk rfl rfl gv323 rfl) rfl (Lo.buildSlice (r := (rSl rS)) (vs := [v327, v331]) (xs := [[(⟨#[49]⟩ : zAd), (⟨#[51]⟩ : zAd)], [(⟨#[50]⟩ : zAd), (⟨#[52]⟩ : zAd)]]) el44 ze45 sz45 (by kernel_rfl) rfl (qc rfl (qc rfl qn)) rfl (.cons (z2q (RT.mono _ s340 f337)) (.cons (z2q f341) .nil)) O339) ?_
 rintro v343 H344 ⟨O333, sm342⟩
 obtain ⟨G345, O346, s347, f348⟩ := O333.frzSl (j := 5) rfl
 obtain ⟨G349, O350, s351, f352⟩ := O346.frzSl (j := 0) rfl
 obtain ⟨x353, i354, h355⟩ := z00 h324
 refine W.lo (gk rfl rfl gv323 rfl) rfl (Lo.cP rfl (fn := Tryz.f77) (by kernel_rfl) rfl (mc rfl (mc rfl mn)) O350 (fun L' O' => z49 K w138 x130.1 (RT.mono _ s351 f348) v343 [[(⟨#[49]⟩ : zAd), (⟨#[51]⟩ : zAd)], [(⟨#[50]⟩ : zAd), (⟨#[52]⟩ : zAd)]] f352 O' _ i354)) ?_
 rintro v362 H363 ⟨G356, O357, s358, sm361, rfl⟩
 refine W.q4 (.bool x353) gv323 rfl (W.q2 (.bool x353) rfl (W.splitAt (t := 85) (b := x353) rfl (fun g364 gv365 => ?_) (fun g364 gv365 => ?_)))
 rotate_left
 .have h535 := z0g g364 h355
  refine W.q6 rfl gv365 (W.q6 rfl gv365 (W.q6 rfl gv365 (W.q6 rfl gv365 (W.q6 rfl gv365 (W.q5 (.bool false) gv365 rfl (W.q2 (.bool false) rfl ?_))))))
  refine W.q6 rfl rfl (W.q6 rfl rfl (W.q6 rfl rfl (W.q5 (.bool false) rfl rfl (W.q2 (.bool false) rfl (W.q6 rfl rfl (W.q6 rfl rfl ?_))))))
  refine W.q6 rfl rfl (W.q5 (.bool false) rfl rfl (W.q2 (.bool false) rfl (W.q6 rfl rfl (W.q6 rfl rfl (W.q6 rfl rfl (W.q6 rfl rfl ?_))))))
  refine W.q5 (.bool false) rfl rfl (W.q2 (.bool false) rfl (W.q6 rfl rfl (W.q6 rfl rfl (W.q6 rfl rfl (W.q6 rfl rfl (W.q6 rfl rfl ?_))))))
  refine W.q5 (.bool false) rfl rfl (W.q2 (.bool false) rfl (W.q6 rfl rfl (W.q6 rfl rfl (W.q6 rfl rfl (W.q5 (.bool false) rfl rfl (W.q1 (.bool false) rfl ?_))))))
  refine .nil ?_
  obtain ⟨G536, O537, s538, f539⟩ := O357.frzSl (j := 1) rfl
  obtain ⟨G540, O541, s542, f543⟩ := O537.frzSl (j := 1) rfl
  obtain ⟨G544, O545, s546, f547⟩ := O541.frzSl (j := 1) rfl
  have O548 : Ow G544 H363 (L) := O545.drop 0
  obtain rfl := zAa h535
  exact ⟨false, _, rfl, O548, (zAe s245 (zAe s263 (zAe s267 (zAe s274 (zAe s294 (zAe s298 (zAe s305 (zAe s309 (zAe s316 (zAe s336 (zAe s340 (zAe s347 (zAe s351 (zAe s358 (zAe s538 (zAe s542 s546)))))))))))))))), rfl⟩
 have h366 := z03 g364 h355
 refine W.q2 (hg := gk rfl rfl gv365 rfl) w151 rfl (W.lo (gk rfl rfl gv365 rfl) rfl (Lo.buildSlice (r := rS) (vs := [(.string (⟨#[49]⟩ : zAd)), (.string (⟨#[48]⟩ : zAd))]) (xs := [(⟨#[49]⟩ : zAd), (⟨#[48]⟩ : zAd)]) el45 ze22 sz22 (by kernel_rfl) rfl (qc rfl (qc rfl qn)) rfl (.cons rfl (.cons rfl .nil)) O357) ?_)
 rintro v369 H370 ⟨O367, sm368⟩
 refine W.lo (gk rfl rfl gv365 rfl) rfl (Lo.buildSlice (r := rS) (vs := [(.string (⟨#[48]⟩ : zAd)), (.string (⟨#[49]⟩ : zAd))]) (xs := [(⟨#[48]⟩ : zAd), (⟨#[49]⟩ : zAd)]) el45 ze22 sz22 (by kernel_rfl) rfl (qc rfl (qc rfl qn)) rfl (.cons rfl (.cons rfl .nil)) O367) ?_
 rintro v373 H374 ⟨O371, sm372⟩
 obtain ⟨G376, O377, s378, f379⟩ := O371.frzSl (j := 1) rfl
 obtain ⟨G380, O381, s382, f383⟩ := O377.frzSl (j := 0) rfl
 refine W.lo (gk rfl rfl gv365 rfl) rfl (Lo.buildSlice (r := (rSl rS)) (vs := [v369, v373]) (xs := [[(⟨#[49]⟩ : zAd), (⟨#[48]⟩ : zAd)], [(⟨#[48]⟩ : zAd), (⟨#[49]⟩ : zAd)]]) el44 ze45 sz45 (by kernel_rfl) rfl (qc rfl (qc rfl qn)) rfl (.cons (z2q (RT.mono _ s382 f379)) (.cons (z2q f383) .nil)) O381) ?_
 rintro v385 H386 ⟨O375, sm384⟩
 obtain ⟨G387, O388, s389, f390⟩ := O375.frzSl (j := 4) rfl
 obtain ⟨G391, O392, s393, f394⟩ := O388.frzSl (j := 0) rfl
 obtain ⟨x395, i396, h397⟩ := z00 h366
 refine W.lo (gk rfl rfl gv365 rfl) rfl (Lo.cP rfl (fn := Tryz.f77) (by kernel_rfl) rfl (mc rfl (mc rfl mn)) O392 (fun L' O' => z49 K w151 x143.1 (RT.mono _ s393 f390) v385 [[(⟨#[49]⟩ : zAd), (⟨#[48]⟩ : zAd)], [(⟨#[48]⟩ : zAd), (⟨#[49]⟩ : zAd)]] f394 O' _ i396)) ?_
 rintro v404 H405 ⟨G398, O399, s400, sm403, rfl⟩
 refine W.q4 (.bool x395) gv365 rfl (W.q2 (.bool x395) rfl (W.splitAt (t := 92) (b := x395) rfl (fun g406 gv407 => ?_) (fun g406 gv407 => ?_)))
 rotate_left
 .have h525 := z0g g406 h397
  refine W.q6 rfl gv407 (W.q6 rfl gv407 (W.q6 rfl gv407 (W.q5 (.bool false) gv407 rfl (W.q2 (.bool false) rfl (W.q6 rfl rfl (W.q6 rfl rfl ?_))))))
  refine W.q6 rfl rfl (W.q5 (.bool false) rfl rfl (W.q2 (.bool false) rfl (W.q6 rfl rfl (W.q6 rfl rfl (W.q6 rfl rfl (W.q6 rfl rfl ?_))))))
  refine W.q5 (.bool false) rfl rfl (W.q2 (.bool false) rfl (W.q6 rfl rfl (W.q6 rfl rfl (W.q6 rfl rfl (W.q6 rfl rfl (W.q6 rfl rfl ?_))))))
  refine W.q5 (.bool false) rfl rfl (W.q2 (.bool false) rfl (W.q6 rfl rfl (W.q6 rfl rfl (W.q6 rfl rfl (W.q5 (.bool false) rfl rfl (W.q1 (.bool false) rfl ?_))))))
  refine .nil ?_
  obtain ⟨G526, O527, s528, f529⟩ := O399.frzSl (j := 1) rfl
  obtain ⟨G530, O531, s532, f533⟩ := O527.frzSl (j := 1) rfl
  have O534 : Ow G530 H405 (L) := O531.drop 0
  obtain rfl := zAa h525
  exact ⟨false, _, rfl, O534, (zAe s245 (zAe s263 (zAe s267 (zAe s274 (zAe s294 (zAe s298 (zAe s305 (zAe s309 (zAe s316 (zAe s336 (zAe s340 (zAe s347 (zAe s351 (zAe s358 (zAe s378 (zAe s382 (zAe s389 (zAe s393 (zAe s400 (zAe s528 s532)))))))))))))))))))), rfl⟩
 have h408 := z03 g406 h397
 refine W.q2 (hg := gk rfl rfl gv407 rfl) w198 rfl (W.q2 (hg := gk rfl rfl gv407 rfl) w228 rfl ?_)
 obtain ⟨G409, O410, s411, f412⟩ := O399.frzSl (j := 2) rfl
 obtain ⟨G413, O414, s415, f416⟩ := O410.frzSl (j := 1) rfl
 obtain ⟨x417, i418, h419⟩ := z00 h408
 refine W.lo (gk rfl rfl gv407 rfl) rfl (Lo.cP rfl (fn := Tryz.f77) (by kernel_rfl) rfl (mc rfl (mc rfl mn)) O414 (fun L' O' => z49 K w198 x190.1 (RT.mono _ s415 f412) w228 x220.1 f416 O' _ i418)) ?_
 rintro v426 H427 ⟨G420, O421, s422, sm425, rfl⟩
 refine W.q4 (.bool x417) gv407 rfl (W.q2 (.bool x417) rfl (W.splitAt (t := 97) (b := x417) rfl (fun g428 gv429 => ?_) (fun g428 gv429 => ?_)))
 rotate_left
 .have h523 := z0g g428 h419
  refine W.q6 rfl gv429 (W.q6 rfl gv429 (W.q6 rfl gv429 (W.q5 (.bool false) gv429 rfl (W.q2 (.bool false) rfl (W.q6 rfl rfl (W.q6 rfl rfl ?_))))))
  refine W.q6 rfl rfl (W.q6 rfl rfl (W.q5 (.bool false) rfl rfl (W.q2 (.bool false) rfl (W.q6 rfl rfl (W.q6 rfl rfl (W.q6 rfl rfl ?_))))))
  refine W.q6 rfl rfl (W.q6 rfl rfl (W.q5 (.bool false) rfl rfl (W.q2 (.bool false) rfl (W.q6 rfl rfl (W.q6 rfl rfl (W.q6 rfl rfl ?_))))))
  refine W.q5 (.bool false) rfl rfl (W.q1 (.bool false) rfl (.nil ?_))
  have O524 : Ow G420 H427 (L) := O421.drop 0
  obtain rfl := zAa h523
  exact ⟨false, _, rfl, O524, (zAe s245 (zAe s263 (zAe s267 (zAe s274 (zAe s294 (zAe s298 (zAe s305 (zAe s309 (zAe s316 (zAe s336 (zAe s340 (zAe s347 (zAe s351 (zAe s358 (zAe s378 (zAe s382 (zAe s389 (zAe s393 (zAe s400 (zAe s411 (zAe s415 s422))))))))))))))))))))), rfl⟩
 have h430 := z03 g428 h419
 refine W.q2 (hg := gk rfl rfl gv429 rfl) w198 rfl (W.pure (v := (.int .i64 (List.length x190.1 : Int))) (gk rfl rfl gv429 rfl) rfl (z0f (oo rfl rfl) (z0a (RT.mono _ (zAe s415 s422) f412)) (z02 el44)) (W.q3 (hg := gk rfl rfl gv429 rfl) (.bool ((List.length x190.1 : Int) == 2)) rfl rfl (W.q4 (.bool ((List.length x190.1 : Int) == 2)) gv429 rfl (W.q2 (.bool ((List.length x190.1 : Int) == 2)) rfl (W.splitAt (t := 102) (b := ((List.length x190.1 : Int) == 2)) rfl (fun g431 gv432 => ?_) (fun g431 gv432 => ?_))))))
 rotate_left
 .have h521 := z0g g431 h430
  refine W.q6 rfl gv432 (W.q6 rfl gv432 (W.q6 rfl gv432 (W.q6 rfl gv432 (W.q5 (.bool false) gv432 rfl (W.q2 (.bool false) rfl (W.q6 rfl rfl ?_))))))
  refine W.q6 rfl rfl (W.q6 rfl rfl (W.q6 rfl rfl (W.q6 rfl rfl (W.q5 (.bool false) rfl rfl (W.q2 (.bool false) rfl (W.q6 rfl rfl ?_))))))
  refine W.q6 rfl rfl (W.q6 rfl rfl (W.q5 (.bool false) rfl rfl (W.q1 (.bool false) rfl (.nil ?_))))
  have O522 : Ow G420 H427 (L) := O421.drop 0
  obtain rfl := zAa h521
  exact ⟨false, _, rfl, O522, (zAe s245 (zAe s263 (zAe s267 (zAe s274 (zAe s294 (zAe s298 (zAe s305 (zAe s309 (zAe s316 (zAe s336 (zAe s340 (zAe s347 (zAe s351 (zAe s358 (zAe s378 (zAe s382 (zAe s389 (zAe s393 (zAe s400 (zAe s411 (zAe s415 s422))))))))))))))))))))), rfl⟩
 have h433 := z03 g431 h430
 refine W.q2 (hg := gk rfl rfl gv432 rfl) w198 rfl ?_
 obtain ⟨x434, i435, h436⟩ := z00 h433
 refine W.lo (gk rfl rfl gv432 rfl) rfl (Lo.callPF (ps := []) (pw := fun w => [eSl w 45 (rSl rS) x434]) rfl (fn := Tryz.f76) (by kernel_rfl) rfl mn O421 (fun L' O' => z3h K  O' _ i435)) ?_
 rintro v445 H446 ⟨w442, G437, O438, s439, sm444, rfl⟩
 obtain ⟨x447, i448, h449⟩ := z00 h436
 refine W.lo (gk rfl rfl gv432 rfl) rfl (Lo.callB (j := 0) rfl rfl (fn := Tryz.f77) (by kernel_rfl) rfl (mc rfl (mc rfl mn)) O438 (fun G' L' hG O' hB => z49 K w198 x190.1 (RT.mono _ hG (RT.mono _ (zAe s415 (zAe s422 s439)) f412)) w442 x434 hB O' _ i448)) ?_
 rintro v456 H457 ⟨G450, O451, s452, sm455, rfl⟩
 refine W.pure (v := (.bool (!x447))) (gk rfl rfl gv432 rfl) rfl (zbl (a := x447) (oo rfl rfl)) (W.q4 (.bool (!x447)) gv432 rfl (W.q2 (.bool (!x447)) rfl (W.splitAt (t := 108) (b := (!x447)) rfl (fun g458 gv459 => ?_) (fun g458 gv459 => ?_))))
 rotate_left
 .have h518 := z0g g458 h449
  refine W.q6 rfl gv459 (W.q6 rfl gv459 (W.q6 rfl gv459 (W.q6 rfl gv459 (W.q6 rfl gv459 (W.q5 (.bool false) gv459 rfl (W.q2 (.bool false) rfl ?_))))))
  refine W.q6 rfl rfl (W.q6 rfl rfl (W.q6 rfl rfl (W.q5 (.bool false) rfl rfl (W.q1 (.bool false) rfl (.nil ?_)))))
  have O519 : Ow G450 H457 (eSl v238 28 (rI .i64) [x17.2, x53.2, x100.2, x130.2, x143.2, x190.2, x220.2] :: L) := O451.drop 0
  have O520 : Ow G450 H457 (L) := O519.drop 0
  obtain rfl := zAa h518
  exact ⟨false, _, rfl, O520, (zAe s245 (zAe s263 (zAe s267 (zAe s274 (zAe s294 (zAe s298 (zAe s305 (zAe s309 (zAe s316 (zAe s336 (zAe s340 (zAe s347 (zAe s351 (zAe s358 (zAe s378 (zAe s382 (zAe s389 (zAe s393 (zAe s400 (zAe s411 (zAe s415 (zAe s422 (zAe s439 s452))))))))))))))))))))))), rfl⟩
 have h460 := z03 g458 h449
 refine W.lo (gk rfl rfl gv459 rfl) rfl (Lo.buildSlice (r := rS) (vs := [(.string (⟨#[49]⟩ : zAd))]) (xs := [(⟨#[49]⟩ : zAd)]) el45 ze22 sz22 (by kernel_rfl) rfl (qc rfl qn) rfl (.cons rfl .nil) O451) ?_
 rintro v463 H464 ⟨O461, sm462⟩
 refine W.lo (gk rfl rfl gv459 rfl) rfl (Lo.buildSlice (r := rS) (vs := []) (xs := []) el45 ze22 sz22 (by kernel_rfl) rfl qn rfl .nil O461) ?_
 rintro v467 H468 ⟨O465, sm466⟩
 obtain ⟨G470, O471, s472, f473⟩ := O465.frzSl (j := 1) rfl
 obtain ⟨G474, O475, s476, f477⟩ := O471.frzSl (j := 0) rfl
 refine W.lo (gk rfl rfl gv459 rfl) rfl (Lo.buildSlice (r := (rSl rS)) (vs := [v463, v467]) (xs := [[(⟨#[49]⟩ : zAd)], []]) el44 ze45 sz45 (by kernel_rfl) rfl (qc rfl (qc rfl qn)) rfl (.cons (z2q (RT.mono _ s476 f473)) (.cons (z2q f477) .nil)) O475) ?_
 rintro v479 H480 ⟨O469, sm478⟩
 obtain ⟨x481, i482, h483⟩ := z00 h460
 refine W.lo (gk rfl rfl gv459 rfl) rfl (Lo.callB (j := 0) rfl rfl (fn := Tryz.f78) (by kernel_rfl) rfl (mc rfl mn) O469 (fun G' L' hG O' hB => z1q K v479 [[(⟨#[49]⟩ : zAd)], []] hB O' _ i482)) ?_
 rintro v490 H491 ⟨G484, O485, s486, sm489, rfl⟩
 refine W.q3 (hg := gk rfl rfl gv459 rfl) (.bool (x481 == 3)) rfl rfl (W.q4 (.bool (x481 == 3)) gv459 rfl (W.q2 (.bool (x481 == 3)) rfl (W.splitAt (t := 115) (b := (x481 == 3)) rfl (fun g492 gv493 => ?_) (fun g492 gv493 => ?_))))
 rotate_left
 .have h514 := z0g g492 h483
  refine W.q6 rfl gv493 (W.q6 rfl gv493 (W.q6 rfl gv493 (W.q5 (.bool false) gv493 rfl (W.q1 (.bool false) rfl (.nil ?_)))))
  have O515 : Ow G484 H491 (eSl w442 45 (rSl rS) x434 :: eSl v238 28 (rI .i64) [x17.2, x53.2, x100.2, x130.2, x143.2, x190.2, x220.2] :: L) := O485.drop 0
  have O516 : Ow G484 H491 (eSl v238 28 (rI .i64) [x17.2, x53.2, x100.2, x130.2, x143.2, x190.2, x220.2] :: L) := O515.drop 0
  have O517 : Ow G484 H491 (L) := O516.drop 0
  obtain rfl := zAa h514
  exact ⟨false, _, rfl, O517, (zAe s245 (zAe s263 (zAe s267 (zAe s274 (zAe s294 (zAe s298 (zAe s305 (zAe s309 (zAe s316 (zAe s336 (zAe s340 (zAe s347 (zAe s351 (zAe s358 (zAe s378 (zAe s382 (zAe s389 (zAe s393 (zAe s400 (zAe s411 (zAe s415 (zAe s422 (zAe s439 (zAe s452 (zAe s472 (zAe s476 s486)))))))))))))))))))))))))), rfl⟩
 have h494 := z03 g492 h483
 refine W.lo (gk rfl rfl gv493 rfl) rfl (Lo.buildSlice (r := rS) (vs := [(.string (⟨#[]⟩ : zAd))]) (xs := [(⟨#[]⟩ : zAd)]) el45 ze22 sz22 (by kernel_rfl) rfl (qc rfl qn) rfl (.cons rfl .nil) O485) ?_
 rintro v497 H498 ⟨O495, sm496⟩
 obtain ⟨x499, i500, h501⟩ := z00 h494
 refine W.lo (gk rfl rfl gv493 rfl) rfl (Lo.callB (j := 0) rfl rfl (fn := Tryz.f79) (by kernel_rfl) rfl (mc rfl mn) O495 (fun G' L' hG O' hB => z2r K v497 [(⟨#[]⟩ : zAd)] hB O' _ i500)) ?_
 rintro v508 H509 ⟨G502, O503, s504, sm507, rfl⟩
 refine W.q3 (hg := gk rfl rfl gv493 rfl) (.bool (x499 == 5)) rfl rfl (W.q4 (.bool (x499 == 5)) gv493 rfl (W.q1 (.bool (x499 == 5)) rfl (.nil ?_)))
 have O510 : Ow G502 H509 (eSl v479 45 (rSl rS) [[(⟨#[49]⟩ : zAd)], []] :: eSl w442 45 (rSl rS) x434 :: eSl v238 28 (rI .i64) [x17.2, x53.2, x100.2, x130.2, x143.2, x190.2, x220.2] :: L) := O503.drop 0
 have O511 : Ow G502 H509 (eSl w442 45 (rSl rS) x434 :: eSl v238 28 (rI .i64) [x17.2, x53.2, x100.2, x130.2, x143.2, x190.2, x220.2] :: L) := O510.drop 0
 have O512 : Ow G502 H509 (eSl v238 28 (rI .i64) [x17.2, x53.2, x100.2, x130.2, x143.2, x190.2, x220.2] :: L) := O511.drop 0
 have O513 : Ow G502 H509 (L) := O512.drop 0
 obtain rfl := zAa h501
 exact ⟨(x499 == 5), _, rfl, O513, (zAe s245 (zAe s263 (zAe s267 (zAe s274 (zAe s294 (zAe s298 (zAe s305 (zAe s309 (zAe s316 (zAe s336 (zAe s340 (zAe s347 (zAe s351 (zAe s358 (zAe s378 (zAe s382 (zAe s389 (zAe s393 (zAe s400 (zAe s411 (zAe s415 (zAe s422 (zAe s439 (zAe s452 (zAe s472 (zAe s476 (zAe s486 s504))))))))))))))))))))))))))), rfl⟩
def z16 (K : Nat) (p0 : zAd) : Nat -> Int -> Option (Int ⊕ Unit)
  | 0, _ => none
  | k + 1, x8 => (if (decide (x8 < (p0.size : Int))) = true then (Option.bind (((bidx p0 x8).bind fun x22 => (if (decide (x22 < 48)) = true then some true else ((bidx p0 x8).bind fun x29 => some (decide (x29 > 57)))))) (tu1 fun x32 => (if x32 = true then some (.inl 5) else z16 K p0 k (z04 .i64 (x8 + 1))))) else some (.inr ()))
def z5p (K : Nat) (p0 : zAd) : Option Int := (if ((p0.size : Int) == 0) = true then some 5 else (z9q (z16 K p0 K 0) (tu1 fun a81 => some a81) (tu0 (Option.bind ((if (decide ((p0.size : Int) > 1)) = true then ((bidx p0 0).bind fun x61 => some (x61 == 48)) else some false)) (tu1 fun x65 => (if x65 = true then some 5 else (if (decide ((p0.size : Int) > 2000)) = true then some 2 else some 0)))))))
theorem z97 (p0 : zAd) (O : Ow G H (L)) (r : Int) (h : z5p K p0 = some r) :
    CR Tryz.prog 59 [(.string p0)] G H (L) (fun v G' _ => v = .int .i64 r) := by
 unfold z5p at h
 refine CR.og (n := 34) (fn := Tryz.f59) (by kernel_rfl) rfl rfl fun R kr => (.seq (.region (W.q1 (.int .i64 0) rfl (.nil (.seq (.seq ?_))))))
 refine .region (W.q2 (.string p0) rfl (W.pure (v := (.int .i64 (p0.size : Int))) rfl rfl (z1p (oo rfl rfl) un9) (W.q3 (.bool ((p0.size : Int) == 0)) rfl rfl (.nil (.cond (b := ((p0.size : Int) == 0)) rfl rfl (fun g1 => ?_) (fun g1 => ?_))))))
 .have h2 := z03 g1 h
  refine .seq (.region (W.q1 (.int .i64 5) rfl (.nil (.ret ?_))))
  obtain rfl := zAa h2
  exact z1h kr (v1 := (.int .i64 5)) (by rfl) (z07 (by rfl) (by exact rfl)) O (zAf _) rfl
 have h3 := z0g g1 h
 refine .skip (.seq (.seq (.region (W.q1 (.int .i64 0) rfl (.nil ?_)))))
 obtain ⟨q4, h5, h6⟩ := z1t h3
 refine AW.midT (fun σ' H' => ∃  (G' : GM), (.inr ()) = q4 /\ Ow G' H' (L) /\ GM.le G G') ?_ ?_
 rotate_left
 .rintro σ47 H48 fr49 ⟨G50, rfl, O51, s52⟩
  have h54 := z4z (z70 h6)
  refine .seq (.seq ?_)
  obtain ⟨q55, h56, h57⟩ := z00 h54
  refine AW.midT (fun σ' H' => ∃ (y1 : Bool) (G' : GM), y1 = q55 /\ Ow G' H' (L) /\ GM.le G50 G' /\ σ' 30 = .bool y1) ?_ ?_
  .refine .region (W.q2 (.string p0) ((fr49 0 rfl).trans rfl) (W.pure (v := (.int .i64 (p0.size : Int))) rfl rfl (z1p (oo rfl rfl) un9) (W.q3 (.bool (decide ((p0.size : Int) > 1))) rfl rfl (W.q2 (.bool (decide ((p0.size : Int) > 1))) rfl (W.splitAt (t := 26) (b := decide ((p0.size : Int) > 1)) rfl (fun g58 gv59 => ?_) (fun g58 gv59 => ?_))))))
   rotate_left
   .have h64 := z0g g58 h56
    refine W.q6 rfl gv59 (W.q6 rfl gv59 (W.q6 rfl gv59 (W.q5 (.bool false) gv59 rfl (.nil ?_))))
    obtain rfl := zAa h64
    exact ⟨false, _, rfl, O51, (zAf _), rfl⟩
   have h60 := z03 g58 h56
   refine W.q2 (hg := gk rfl rfl gv59 rfl) (.string p0) ((fr49 0 rfl).trans rfl) ?_
   obtain ⟨x61, i62, h63⟩ := z00 h60
   refine W.pure (v := (.int .u8 x61)) (gk rfl rfl gv59 rfl) rfl (z9r un9 (oo rfl rfl) (oo rfl rfl) i62) (W.q3 (hg := gk rfl rfl gv59 rfl) (.bool (x61 == 48)) rfl rfl (W.q4 (.bool (x61 == 48)) gv59 rfl (.nil ?_)))
   obtain rfl := zAa h63
   exact ⟨(x61 == 48), _, rfl, O51, (zAf _), rfl⟩
  rintro σ66 H67 fr68 ⟨x65, G69, rfl, O70, s71, t73⟩
  have h74 := z09 h57
  refine .cond (b := x65) rfl t73 (fun g75 => ?_) (fun g75 => ?_)
  .have h76 := z03 g75 h74
   refine .seq (.region (W.q1 (.int .i64 5) rfl (.nil (.ret ?_))))
   obtain rfl := zAa h76
   exact z1h kr (v1 := (.int .i64 5)) (by rfl) (z07 (by rfl) (by exact rfl)) O70 (zAe s52 s71) rfl
  have h77 := z0g g75 h74
  refine .skip (.seq (.seq (.region (W.q2 (.string p0) ((fr68 0 rfl).trans ((fr49 0 rfl).trans rfl)) (W.pure (v := (.int .i64 (p0.size : Int))) rfl rfl (z1p (oo rfl rfl) un9) (W.q3 (.bool (decide ((p0.size : Int) > 2000))) rfl rfl ?_))))))
  refine .nil (.cond (b := decide ((p0.size : Int) > 2000)) rfl rfl (fun g78 => ?_) (fun g78 => ?_))
  .have h79 := z03 g78 h77
   refine .seq (.region (W.q1 (.int .i64 2) rfl (.nil (.ret ?_))))
   obtain rfl := zAa h79
   exact z1h kr (v1 := (.int .i64 2)) (by rfl) (z07 (by rfl) (by exact rfl)) O70 (zAe s52 s71) rfl
  have h80 := z0g g78 h77
  refine .skip (.seq (.region (W.q1 (.int .i64 0) rfl (.nil (.ret ?_)))))
  obtain rfl := zAa h80
  exact z1h kr (v1 := (.int .i64 0)) (by rfl) (z07 (by rfl) (by exact rfl)) O70 (zAe s52 s71) rfl
 refine .block (AW.loop (α := Nat) (fun k' σ' H' => ∃ (y1 : Int) (G' : GM), z16 K p0 k' y1 = some q4 /\ Ow G' H' (L) /\ GM.le G G' /\ σ' 3 = .int .i64 y1) (fun k' => k') K ⟨0, _, h5, O, (zAf _), rfl⟩ ?_)
 rintro k7
 rintro σ9 H10 fr11 ⟨x8, G12, h15, O13, s14, t16⟩
 rcases k7 with _ | k7
 .exact z06 h15
 rw [z16] at h15
 refine .seq (.seq (.region (W.q2 _ t16 (W.q2 (.string p0) ((fr11 0 rfl).trans rfl) (W.pure (v := (.int .i64 (p0.size : Int))) rfl rfl (z1p (oo rfl rfl) un9) (W.q3 (.bool (decide (x8 < (p0.size : Int)))) rfl rfl ?_))))))
 refine .nil (.cond (b := decide (x8 < (p0.size : Int))) rfl rfl (fun g17 => ?_) (fun g17 => ?_))
 rotate_left
 .have h46 := z0g g17 h15
  refine .exit ?_
  obtain rfl := zAa h46
  exact ⟨_, rfl, O13, s14⟩
 have h18 := z03 g17 h15
 refine .skip (.seq (.block (.seq ?_)))
 obtain ⟨q19, h20, h21⟩ := z00 h18
 refine AW.midT (fun σ' H' => ∃ (y1 : Bool) (G' : GM), y1 = q19 /\ Ow G' H' (L) /\ GM.le G12 G' /\ σ' 22 = .bool y1) ?_ ?_
 rotate_left
 .rintro σ33 H34 fr35 ⟨x32, G36, rfl, O37, s38, t40⟩
  have h41 := z09 h21
  refine .cond (b := x32) rfl t40 (fun g42 => ?_) (fun g42 => ?_)
  .have h43 := z03 g42 h41
   refine .seq (.region (W.q1 (.int .i64 5) rfl (.nil (.ret ?_))))
   obtain rfl := zAa h43
   have h44 := z09 (z59 h6)
   obtain rfl := zAa h44
   exact z1h kr (v1 := (.int .i64 5)) (by rfl) (z07 (by rfl) (by exact rfl)) O37 (zAe s14 s38) rfl
  have h45 := z0g g42 h41
  refine .skip (.region (W.q2 _ ((fr35 3 rfl).trans t16) (W.q3 (.int .i64 (z04 .i64 (x8 + 1))) rfl rfl (W.q1 (.int .i64 (z04 .i64 (x8 + 1))) rfl (.nil ?_)))))
  exact ⟨k7, zAg _, ⟨z04 .i64 (x8 + 1), _, h45, O37, (zAe s14 s38), rfl⟩⟩
 refine .region (W.q2 (.string p0) ((fr11 0 rfl).trans rfl) (W.q2 _ t16 ?_))
 obtain ⟨x22, i23, h24⟩ := z00 h20
 refine W.pure (v := (.int .u8 x22)) rfl rfl (z9r un9 (oo rfl rfl) (oo rfl rfl) i23) (W.q3 (.bool (decide (x22 < 48))) rfl rfl (W.q2 (.bool (decide (x22 < 48))) rfl (W.splitAt (t := 17) (b := decide (x22 < 48)) rfl (fun g25 gv26 => ?_) (fun g25 gv26 => ?_))))
 .have h27 := z03 g25 h24
  refine W.q6 rfl gv26 (W.q6 rfl gv26 (W.q6 rfl gv26 (W.q6 rfl gv26 (W.q4 (.bool true) gv26 rfl (.nil ?_)))))
  obtain rfl := zAa h27
  exact ⟨true, _, rfl, O13, (zAf _), rfl⟩
 have h28 := z0g g25 h24
 refine W.q2 (hg := gk rfl rfl gv26 rfl) (.string p0) ((fr11 0 rfl).trans rfl) (W.q2 (hg := gk rfl rfl gv26 rfl) _ t16 ?_)
 obtain ⟨x29, i30, h31⟩ := z00 h28
 refine W.pure (v := (.int .u8 x29)) (gk rfl rfl gv26 rfl) rfl (z9r un9 (oo rfl rfl) (oo rfl rfl) i30) (W.q3 (hg := gk rfl rfl gv26 rfl) (.bool (decide (x29 > 57))) rfl rfl (W.q5 (.bool (decide (x29 > 57))) gv26 rfl (.nil ?_)))
 obtain rfl := zAa h31
 exact ⟨decide (x29 > 57), _, rfl, O13, (zAf _), rfl⟩
def z5q (K : Nat) : Nat -> zAd -> Option (zAd)
  | 0, _ => none
  | k + 1, x5 => (Option.bind ((if (decide ((x5.size : Int) > 1)) = true then ((bidx x5 0).bind fun x20 => some (x20 == 48)) else some false)) (tu1 fun x24 => (if x24 = true then ((ssl x5 1 (x5.size : Int)).bind fun x36 => z5q K k x36) else some x5)))
def z74 (K : Nat) (p0 : zAd) : Option zAd := (Option.bind (z5q K K p0) (tu1 fun x40 => some x40))
theorem z7y (p0 : zAd) (O : Ow G H (L)) (r : zAd) (h : z74 K p0 = some r) :
    CR Tryz.prog 162 [(.string p0)] G H (L) (fun v G' _ => v = .string r) := by
 unfold z74 at h
 refine CR.og (n := 14) (fn := Tryz.f162) (by kernel_rfl) rfl rfl fun R kr => (.seq (.region (W.q1 (.string (⟨#[]⟩ : zAd)) rfl (.nil (.seq ?_)))))
 obtain ⟨q1, h2, h3⟩ := z00 h
 refine AW.midT (fun σ' H' => ∃ (y1 : zAd) (G' : GM), y1 = q1 /\ Ow G' H' (L) /\ GM.le G G' /\ σ' 0 = .string y1) ?_ ?_
 rotate_left
 .rintro σ41 H42 fr43 ⟨x40, G44, rfl, O45, s46, t48⟩
  have h49 := z09 h3
  refine .seq (.region (W.q2 _ t48 (W.q1 (.string x40) rfl (.nil (.ret ?_)))))
  obtain rfl := zAa h49
  exact z1h kr (v1 := (.string x40)) (by rfl) (z07 (by rfl) (by exact rfl)) O45 s46 rfl
 refine .block (AW.loop (α := Nat) (fun k' σ' H' => ∃ (y1 : zAd) (G' : GM), z5q K k' y1 = some q1 /\ Ow G' H' (L) /\ GM.le G G' /\ σ' 0 = .string y1) (fun k' => k') K ⟨p0, _, h2, O, (zAf _), rfl⟩ ?_)
 rintro k4
 rintro σ6 H7 fr8 ⟨x5, G9, h12, O10, s11, t13⟩
 rcases k4 with _ | k4
 .exact z06 h12
 rw [z5q] at h12
 refine .seq (.seq ?_)
 obtain ⟨q14, h15, h16⟩ := z00 h12
 refine AW.midT (fun σ' H' => ∃ (y1 : Bool) (G' : GM), y1 = q14 /\ Ow G' H' (L) /\ GM.le G9 G' /\ σ' 10 = .bool y1) ?_ ?_
 rotate_left
 .rintro σ25 H26 fr27 ⟨x24, G28, rfl, O29, s30, t32⟩
  have h33 := z09 h16
  refine .cond (b := x24) rfl t32 (fun g34 => ?_) (fun g34 => ?_)
  rotate_left
  .have h39 := z0g g34 h33
   refine .exit ?_
   obtain rfl := zAa h39
   exact ⟨x5, _, rfl, O29, (zAe s11 s30), ((fr27 0 rfl).trans t13)⟩
  have h35 := z03 g34 h33
  refine .skip (.block (.region (W.q2 _ ((fr27 0 rfl).trans t13) ?_)))
  obtain ⟨x36, i37, h38⟩ := z00 h35
  refine W.pure (v := (.string x36)) rfl rfl (ze9 un9 (oo rfl rfl) (oo rfl rfl) i37) (W.q1 (.string x36) rfl (.nil ?_))
  exact ⟨k4, zAg _, ⟨x36, _, h38, O29, (zAe s11 s30), rfl⟩⟩
 refine .region (W.q2 _ t13 (W.pure (v := (.int .i64 (x5.size : Int))) rfl rfl (z1p (oo rfl rfl) un9) (W.q3 (.bool (decide ((x5.size : Int) > 1))) rfl rfl (W.q2 (.bool (decide ((x5.size : Int) > 1))) rfl (W.splitAt (t := 6) (b := decide ((x5.size : Int) > 1)) rfl (fun g17 gv18 => ?_) (fun g17 gv18 => ?_))))))
 rotate_left
 .have h23 := z0g g17 h15
  refine W.q6 rfl gv18 (W.q6 rfl gv18 (W.q6 rfl gv18 (W.q5 (.bool false) gv18 rfl (.nil ?_))))
  obtain rfl := zAa h23
  exact ⟨false, _, rfl, O10, (zAf _), rfl⟩
 have h19 := z03 g17 h15
 refine W.q2 (hg := gk rfl rfl gv18 rfl) _ t13 ?_
 obtain ⟨x20, i21, h22⟩ := z00 h19
 refine W.pure (v := (.int .u8 x20)) (gk rfl rfl gv18 rfl) rfl (z9r un9 (oo rfl rfl) (oo rfl rfl) i21) (W.q3 (hg := gk rfl rfl gv18 rfl) (.bool (x20 == 48)) rfl rfl (W.q4 (.bool (x20 == 48)) gv18 rfl (.nil ?_)))
 obtain rfl := zAa h22
 exact ⟨(x20 == 48), _, rfl, O10, (zAf _), rfl⟩
def z7l (K : Nat) (p0 : zAd) (p1 : zAd) : Option Int := (if (decide ((p0.size : Int) < (p1.size : Int))) = true then some (-1) else (if (decide ((p0.size : Int) > (p1.size : Int))) = true then some 1 else (if (sLt p0 p1) = true then some (-1) else (if (!(sLt p0 p1 || sEq p0 p1)) = true then some 1 else some 0))))
theorem zat (p0 : zAd) (p1 : zAd) (O : Ow G H (L)) (r : Int) (h : z7l K p0 p1 = some r) :
    CR Tryz.prog 97 [(.string p0), (.string p1)] G H (L) (fun v G' _ => v = .int .i64 r) := by
 unfold z7l at h
 refine CR.og (n := 25) (fn := Tryz.f97) (by kernel_rfl) rfl rfl fun R kr => (.seq (.region (W.q1 (.int .i64 0) rfl (.nil (.seq (.block ?_))))))
 refine .seq (.region (W.q2 (.string p0) rfl (W.pure (v := (.int .i64 (p0.size : Int))) rfl rfl (z1p (oo rfl rfl) un9) (W.q2 (.string p1) rfl (W.pure (v := (.int .i64 (p1.size : Int))) rfl rfl (z1p (oo rfl rfl) un9) (W.q3 (.bool (decide ((p0.size : Int) < (p1.size : Int)))) rfl rfl ?_))))))
 refine W.q1 (.bool (decide ((p0.size : Int) < (p1.size : Int)))) rfl (.nil (.cond (b := decide ((p0.size : Int) < (p1.size : Int))) rfl rfl (fun g1 => ?_) (fun g1 => ?_)))
 .have h2 := z03 g1 h
  refine .seq (.region (W.q1 (.int .i64 (-1)) rfl (.nil (.ret ?_))))
  obtain rfl := zAa h2
  exact z1h kr (v1 := (.int .i64 (-1))) (by rfl) (z07 (by rfl) (by exact rfl)) O (zAf _) rfl
 have h3 := z0g g1 h
 refine .seq (.region (W.q2 (.string p0) rfl (W.pure (v := (.int .i64 (p0.size : Int))) rfl rfl (z1p (oo rfl rfl) un9) (W.q2 (.string p1) rfl (W.pure (v := (.int .i64 (p1.size : Int))) rfl rfl (z1p (oo rfl rfl) un9) (W.q3 (.bool (decide ((p0.size : Int) > (p1.size : Int)))) rfl rfl ?_))))))
 refine W.q1 (.bool (decide ((p0.size : Int) > (p1.size : Int)))) rfl (.nil (.cond (b := decide ((p0.size : Int) > (p1.size : Int))) rfl rfl (fun g4 => ?_) (fun g4 => ?_)))
 .have h5 := z03 g4 h3
  refine .seq (.region (W.q1 (.int .i64 1) rfl (.nil (.ret ?_))))
  obtain rfl := zAa h5
  exact z1h kr (v1 := (.int .i64 1)) (by rfl) (z07 (by rfl) (by exact rfl)) O (zAf _) rfl
 have h6 := z0g g4 h3
 refine .seq (.region (W.q2 (.string p0) rfl (W.q2 (.string p1) rfl (W.pure (v := (.bool (sLt p0 p1))) rfl rfl (zo5 (oo rfl rfl) (oo rfl rfl)) (W.q1 (.bool (sLt p0 p1)) rfl (.nil ?_))))))
 refine .cond (b := sLt p0 p1) rfl rfl (fun g7 => ?_) (fun g7 => ?_)
 .have h8 := z03 g7 h6
  refine .seq (.region (W.q1 (.int .i64 (-1)) rfl (.nil (.ret ?_))))
  obtain rfl := zAa h8
  exact z1h kr (v1 := (.int .i64 (-1))) (by rfl) (z07 (by rfl) (by exact rfl)) O (zAf _) rfl
 have h9 := z0g g7 h6
 refine .seq (.region (W.q2 (.string p0) rfl (W.q2 (.string p1) rfl (W.pure (v := (.bool (!(sLt p0 p1 || sEq p0 p1)))) rfl rfl (zo6 (oo rfl rfl) (oo rfl rfl)) (W.q1 (.bool (!(sLt p0 p1 || sEq p0 p1))) rfl (.nil ?_))))))
 refine .cond (b := (!(sLt p0 p1 || sEq p0 p1))) rfl rfl (fun g10 => ?_) (fun g10 => ?_)
 .have h11 := z03 g10 h9
  refine .seq (.region (W.q1 (.int .i64 1) rfl (.nil (.ret ?_))))
  obtain rfl := zAa h11
  exact z1h kr (v1 := (.int .i64 1)) (by rfl) (z07 (by rfl) (by exact rfl)) O (zAf _) rfl
 have h12 := z0g g10 h9
 refine .skip (.seq (.region (W.q1 (.int .i64 0) rfl (.nil (.ret ?_)))))
 obtain rfl := zAa h12
 exact z1h kr (v1 := (.int .i64 0)) (by rfl) (z07 (by rfl) (by exact rfl)) O (zAf _) rfl
def z5z (K : Nat) (p0 : zAd) (p1 : Int) : Option Int := (if (decide (p1 < (p0.size : Int))) = true then ((bidx p0 (z04 .i64 ((z04 .i64 ((p0.size : Int) - 1)) - p1))).bind fun x3 => some (IntKind.wrap .i64 (z04 .u8 (x3 - 48)))) else some 0)
theorem z5r (p0 : zAd) (p1 : Int) (O : Ow G H (L)) (r : Int) (h : z5z K p0 p1 = some r) :
    CR Tryz.prog 149 [(.string p0), (.int .i64 p1)] G H (L) (fun v G' _ => v = .int .i64 r) := by
 unfold z5z at h
 refine CR.og (n := 18) (fn := Tryz.f149) (by kernel_rfl) rfl rfl fun R kr => (.seq (.region (W.q1 (.int .i64 0) rfl (.nil (.seq (.seq ?_))))))
 refine .region (W.q2 (.int .i64 p1) rfl (W.q2 (.string p0) rfl (W.pure (v := (.int .i64 (p0.size : Int))) rfl rfl (z1p (oo rfl rfl) un9) (W.q3 (.bool (decide (p1 < (p0.size : Int)))) rfl rfl (.nil (.cond (b := decide (p1 < (p0.size : Int))) rfl rfl (fun g1 => ?_) (fun g1 => ?_)))))))
 rotate_left
 .have h6 := z0g g1 h
  refine .skip (.seq (.region (W.q1 (.int .i64 0) rfl (.nil (.ret ?_)))))
  obtain rfl := zAa h6
  exact z1h kr (v1 := (.int .i64 0)) (by rfl) (z07 (by rfl) (by exact rfl)) O (zAf _) rfl
 have h2 := z03 g1 h
 refine .seq (.region (W.q2 (.string p0) rfl (W.q2 (.string p0) rfl (W.pure (v := (.int .i64 (p0.size : Int))) rfl rfl (z1p (oo rfl rfl) un9) (W.q3 (.int .i64 (z04 .i64 ((p0.size : Int) - 1))) rfl rfl (W.q2 (.int .i64 p1) rfl ?_))))))
 refine W.q3 (.int .i64 (z04 .i64 ((z04 .i64 ((p0.size : Int) - 1)) - p1))) rfl rfl ?_
 obtain ⟨x3, i4, h5⟩ := z00 h2
 refine W.pure (v := (.int .u8 x3)) rfl rfl (z9r un9 (oo rfl rfl) (oo rfl rfl) i4) (W.q3 (.int .u8 (z04 .u8 (x3 - 48))) rfl rfl (W.pure (v := (.int .i64 (IntKind.wrap .i64 (z04 .u8 (x3 - 48))))) rfl rfl (z4l in5 in3 (oo rfl rfl)) (W.q1 (.int .i64 (IntKind.wrap .i64 (z04 .u8 (x3 - 48)))) rfl (.nil (.ret ?_)))))
 obtain rfl := zAa h5
 exact z1h kr (v1 := (.int .i64 (IntKind.wrap .i64 (z04 .u8 (x3 - 48))))) (by rfl) (z07 (by rfl) (by exact rfl)) O (zAf _) rfl
def z3e (K : Nat) (p0 : List Int) : Nat -> List Int -> Int -> Option (List Int)
  | 0, _, _ => none
  | k + 1, x11, x12 => (if (decide (x12 < (List.length p0 : Int))) = true then ((idx p0 x12).bind fun x23 => ((idx x11 (z04 .i64 ((z04 .i64 ((List.length p0 : Int) - 1)) - x12))).bind fun x27 => z3e K p0 k (List.set x11 (Int.toNat (z04 .i64 ((z04 .i64 ((List.length p0 : Int) - 1)) - x12))) (IntKind.wrap .u8 (z04 .i64 ((48 : Int) + x23)))) (z04 .i64 (x12 + 1)))) else some x11)
def z9f (K : Nat) (p0 : List Int) : Option zAd := (if 0 <= (List.length p0 : Int) /\ (List.length p0 : Int) <= (List.length p0 : Int) /\ (List.length p0 : Int) <= 16777216 then (Option.bind (z3e K p0 K (List.replicate (Int.toNat (List.length p0 : Int)) 0) 0) (tu1 fun x36 => (if 0 < List.length x36 then (if ((⟨#[48]⟩ : zAd)).size + ((strOfNums x36)).size <= 4611686018427387904 then ((z74 K ((⟨#[48]⟩ : zAd) ++ (strOfNums x36))).bind fun x52 => some x52) else none) else none))) else none)
theorem zaj (v0 : Value) (p0 : List Int) (hp0 : (rSl (rI .i64)).rep G [v0] p0) (O : Ow G H (L)) (r : zAd) (h : z9f K p0 = some r) :
    CR Tryz.prog 150 [v0] G H (L) (fun v G' _ => v = .string r) := by
 unfold z9f at h
 refine CR.og (n := 31) (fn := Tryz.f150) (by kernel_rfl) rfl rfl fun R kr => (.seq (.region (W.q1 (.string (⟨#[]⟩ : zAd)) rfl (.nil (.seq (.region ?_))))))
 refine W.q2 v0 rfl (W.pure (v := (.int .i64 (List.length p0 : Int))) rfl rfl (z0f (oo rfl rfl) (z0a hp0) (z02 zcn)) ?_)
 obtain ⟨g2, h3⟩ := z2p h
 refine W.lo rfl rfl (Lo.makeSlice (r := (rI .u8)) (x0 := 0) (a := (List.length p0 : Int)) (c := (List.length p0 : Int)) rfl zgx ze5 sz5 (by kernel_rfl) rfl by5 (by decide) rfl rfl g2 (zI .u8) O) ?_
 rintro v5 H6 ⟨O1, sm4⟩
 refine W.q1 v5 rfl (.nil (.seq (.seq (.region (W.q2 v0 rfl (W.pure (v := (.int .i64 (List.length p0 : Int))) rfl rfl (z0f (oo rfl rfl) (z0a hp0) (z02 zcn)) ?_))))))
 refine W.q2 (.int .i64 0) rfl (.nil ?_)
 obtain ⟨q7, h8, h9⟩ := z00 h3
 refine AW.midT (fun σ' H' => ∃ (y1 : List Int) (G' : GM), y1 = q7 /\ Ow G' H' (eSl v5 5 (rI .u8) y1 :: L) /\ GM.le G G') ?_ ?_
 rotate_left
 .rintro σ37 H38 fr39 ⟨x36, G40, rfl, O41, s42⟩
  have h44 := z09 h9
  refine .seq (.region (W.q2 v5 ((fr39 3 rfl).trans rfl) ?_))
  obtain ⟨es45, e46, e47⟩ := z4n (j := 0) rfl O41
  obtain ⟨g48, h49⟩ := z2p h44
  refine W.bytesStr rfl rfl zgx in5 un9 e46 e47 g48 ?_
  obtain ⟨g50, h51⟩ := z2p h49
  refine W.pure (v := (.string ((⟨#[48]⟩ : zAd) ++ (strOfNums x36)))) rfl rfl (zc6 g50 (oo rfl rfl) (oo rfl rfl)) ?_
  obtain ⟨x52, i53, h54⟩ := z00 h51
  refine W.lo rfl rfl (Lo.cP rfl (fn := Tryz.f162) (by kernel_rfl) rfl (mc rfl mn) O41 (fun L' O' => z7y K ((⟨#[48]⟩ : zAd) ++ (strOfNums x36)) O' _ i53)) ?_
  rintro v61 H62 ⟨G55, O56, s57, sm60, rfl⟩
  refine W.q1 (.string x52) rfl (.nil (.ret ?_))
  have O63 : Ow G55 H62 (L) := O56.drop 0
  obtain rfl := zAa h54
  exact z1h kr (v1 := (.string x52)) (by rfl) (z07 (by rfl) (by exact rfl)) O63 (zAe s42 s57) rfl
 refine .block (AW.loop (α := Nat) (fun k' σ' H' => ∃ (y1 : List Int) (y2 : Int) (G' : GM), z3e K p0 k' y1 y2 = some q7 /\ Ow G' H' (eSl v5 5 (rI .u8) y1 :: L) /\ GM.le G G' /\ σ' 11 = .int .i64 y2) (fun k' => k') K ⟨(List.replicate (Int.toNat (List.length p0 : Int)) 0), 0, _, h8, O1, (zAf _), rfl⟩ ?_)
 rintro k10
 rintro σ13 H14 fr15 ⟨x11, x12, G16, h19, O17, s18, t20⟩
 rcases k10 with _ | k10
 .exact z06 h19
 rw [z3e] at h19
 refine .seq (.region (W.q3 (.bool (decide (x12 < (List.length p0 : Int)))) t20 ((fr15 10 rfl).trans rfl) (.nil (.seq (.cond (b := decide (x12 < (List.length p0 : Int))) rfl rfl (fun g21 => ?_) (fun g21 => ?_))))))
 rotate_left
 .have h35 := z0g g21 h19
  refine .exit ?_
  obtain rfl := zAa h35
  exact ⟨x11, _, rfl, O17, s18⟩
 have h22 := z03 g21 h19
 refine .skip (.seq (.block (.seq (.region (W.q2 _ t20 ?_)))))
 obtain ⟨x23, i24, h25⟩ := z00 h22
 have j26 := z0d i24
 refine W.pure (v := (z1k v0 (Int.toNat x12 * 1))) rfl rfl (z26 zcn sz3 (oo rfl ((fr15 9 rfl).trans rfl)) (oo rfl t20) (z0a (RT.mono _ s18 hp0)) j26.1 j26.2.1) (W.load1 (v := (.int .i64 x23)) (r := []) rfl rfl ag3 (z15 rfl (At.int (At.le (At.le (z17 hp0 j26.2.2) s18 s18) (zAf _) O17.fro))) (W.q1 (.int .i64 x12) rfl (W.q1 (.int .i64 x23) rfl (.nil (.region (W.q2 v5 ((fr15 3 rfl).trans rfl) ?_))))))
 refine W.q2 v0 ((fr15 0 rfl).trans rfl) (W.pure (v := (.int .i64 (List.length p0 : Int))) rfl rfl (z0f (oo rfl rfl) (z0a (RT.mono _ s18 hp0)) (z02 zcn)) (W.q3 (.int .i64 (z04 .i64 ((List.length p0 : Int) - 1))) rfl rfl (W.q2 (.int .i64 x12) rfl (W.q3 (.int .i64 (z04 .i64 ((z04 .i64 ((List.length p0 : Int) - 1)) - x12))) rfl rfl (W.q2 (.int .i64 x23) rfl (W.q3 (.int .i64 (z04 .i64 ((48 : Int) + x23))) rfl rfl ?_))))))
 refine W.pure (v := (.int .u8 (IntKind.wrap .u8 (z04 .i64 ((48 : Int) + x23))))) rfl rfl (z4l in3 in5 (oo rfl rfl)) ?_
 obtain ⟨x27, i28, h29⟩ := z00 h25
 have j30 := z0d i28
 refine W.pure (v := (z1k v5 (Int.toNat (z04 .i64 ((z04 .i64 ((List.length p0 : Int) - 1)) - x12)) * 1))) rfl rfl (z26 zgx sz5 (oo rfl rfl) (oo rfl rfl) (O17.slLen (j := 0) rfl) j30.1 j30.2.1) (W.lo rfl rfl (Lo.storeSl0 (j := 0) (y0 := IntKind.wrap .u8 (z04 .i64 ((48 : Int) + x23))) (v := (.int .u8 (IntKind.wrap .u8 (z04 .i64 ((48 : Int) + x23))))) rfl j30.2.2  rfl sz5 rfl rfl rfl O17) ?_)
 rintro v33 H34 ⟨O31, sm32⟩
 refine .nil (.region (W.q3 (.int .i64 (z04 .i64 (x12 + 1))) t20 rfl (W.q2 (.int .i64 (z04 .i64 (x12 + 1))) rfl (.nil ?_))))
 exact ⟨k10, zAg _, ⟨(List.set x11 (Int.toNat (z04 .i64 ((z04 .i64 ((List.length p0 : Int) - 1)) - x12))) (IntKind.wrap .u8 (z04 .i64 ((48 : Int) + x23)))), z04 .i64 (x12 + 1), _, h29, O31, s18, rfl⟩⟩
def z2m (K : Nat) (p0 : zAd) (p1 : zAd) : Nat -> List Int -> Int -> Int -> Option (List Int)
  | 0, _, _, _ => none
  | k + 1, x6, x7, x8 => (if (decide (x8 < (p0.size : Int))) = true then ((z5z K p0 x8).bind fun x20 => ((z5z K p1 x8).bind fun x31 => (Option.bind ((if (decide ((z04 .i64 ((z04 .i64 (x20 - x31)) - x7)) < 0)) = true then (lt (z04 .i64 ((z04 .i64 ((z04 .i64 (x20 - x31)) - x7)) + 10)) fun x47 => some (1, x47)) else some (0, z04 .i64 ((z04 .i64 (x20 - x31)) - x7)))) (tu2 fun x51 x52 => (if List.length x6 + List.length [x52] <= 16777216 then z2m K p0 p1 k (x6 ++ [x52]) x51 (z04 .i64 (x8 + 1)) else none))))) else some x6)
def z7m (K : Nat) (p0 : zAd) (p1 : zAd) : Option zAd := (Option.bind (z2m K p0 p1 K [] 0 0) (tu1 fun x78 => ((z9f K x78).bind fun x87 => some x87)))
theorem zau (p0 : zAd) (p1 : zAd) (O : Ow G H (L)) (r : zAd) (h : z7m K p0 p1 = some r) :
    CR Tryz.prog 98 [(.string p0), (.string p1)] G H (L) (fun v G' _ => v = .string r) := by
 unfold z7m at h
 refine CR.og (n := 34) (fn := Tryz.f98) (by kernel_rfl) rfl rfl fun R kr => (.seq (.region (W.q1 (.string (⟨#[]⟩ : zAd)) rfl (.nil (.seq (.region ?_))))))
 refine W.q1 (.slice none 0 0) rfl (.nil (.seq (.region (W.q1 (.int .i64 0) rfl (.nil (.seq ?_))))))
 refine .seq (.region (W.q2 (.string p0) rfl (W.pure (v := (.int .i64 (p0.size : Int))) rfl rfl (z1p (oo rfl rfl) un9) (W.q2 (.int .i64 0) rfl (.nil ?_)))))
 obtain ⟨q1, h2, h3⟩ := z00 h
 refine AW.midT (fun σ' H' => ∃ (y1 : List Int) (G' : GM), y1 = q1 /\ Ow G' H' (eSl (σ' 5) 3 (rI .i64) y1 :: L) /\ GM.le G G') ?_ ?_
 rotate_left
 .rintro σ79 H80 fr81 ⟨x78, G82, rfl, O83, s84⟩
  have h86 := z09 h3
  refine .seq (.region (W.q2 (σ79 5) rfl ?_))
  obtain ⟨x87, i88, h89⟩ := z00 h86
  refine W.lo rfl rfl (Lo.callB (j := 0) rfl rfl (fn := Tryz.f150) (by kernel_rfl) rfl (mc rfl mn) O83 (fun G' L' hG O' hB => zaj K (σ79 5) x78 hB O' _ i88)) ?_
  rintro v96 H97 ⟨G90, O91, s92, sm95, rfl⟩
  refine W.q1 (.string x87) rfl (.nil (.ret ?_))
  have O98 : Ow G90 H97 (L) := O91.drop 0
  obtain rfl := zAa h89
  exact z1h kr (v1 := (.string x87)) (by rfl) (z07 (by rfl) (by exact rfl)) O98 (zAe s84 s92) rfl
 refine .block ?_
 have O4 := O.nilSl 3 (rI .i64)
 refine AW.loop (α := Nat) (fun k' σ' H' => ∃ (y1 : List Int) (y2 : Int) (y3 : Int) (G' : GM), z2m K p0 p1 k' y1 y2 y3 = some q1 /\ Ow G' H' (eSl (σ' 5) 3 (rI .i64) y1 :: L) /\ GM.le G G' /\ σ' 6 = .int .i64 y2 /\ σ' 11 = .int .i64 y3) (fun k' => k') K ⟨[], 0, 0, _, h2, O4, (zAf _), rfl, rfl⟩ ?_
 rintro k5
 rintro σ9 H10 fr11 ⟨x6, x7, x8, G12, h15, O13, s14, t16, t17⟩
 rcases k5 with _ | k5
 .exact z06 h15
 rw [z2m] at h15
 refine .seq (.region (W.q3 (.bool (decide (x8 < (p0.size : Int)))) t17 ((fr11 10 rfl).trans rfl) (.nil (.seq (.cond (b := decide (x8 < (p0.size : Int))) rfl rfl (fun g18 => ?_) (fun g18 => ?_))))))
 rotate_left
 .have h77 := z0g g18 h15
  refine .exit ?_
  obtain rfl := zAa h77
  exact ⟨x6, _, rfl, O13, s14⟩
 have h19 := z03 g18 h15
 refine .skip (.seq (.block (.seq (.region (W.q2 _ t17 (W.q1 (.int .i64 x8) rfl ?_))))))
 refine .nil (.seq (.region (W.q2 (.string p0) ((fr11 0 rfl).trans rfl) (W.q2 (.int .i64 x8) rfl ?_))))
 obtain ⟨x20, i21, h22⟩ := z00 h19
 refine W.lo rfl rfl (Lo.cP rfl (fn := Tryz.f149) (by kernel_rfl) rfl (mc rfl (mc rfl mn)) O13 (fun L' O' => z5r K p0 x8 O' _ i21)) ?_
 rintro v29 H30 ⟨G23, O24, s25, sm28, rfl⟩
 refine W.q2 (.string p1) ((fr11 1 rfl).trans rfl) (W.q2 (.int .i64 x8) rfl ?_)
 obtain ⟨x31, i32, h33⟩ := z00 h22
 refine W.lo rfl rfl (Lo.cP rfl (fn := Tryz.f149) (by kernel_rfl) rfl (mc rfl (mc rfl mn)) O24 (fun L' O' => z5r K p1 x8 O' _ i32)) ?_
 rintro v40 H41 ⟨G34, O35, s36, sm39, rfl⟩
 refine W.q3 (.int .i64 (z04 .i64 (x20 - x31))) rfl rfl (W.q2 _ t16 (W.q3 (.int .i64 (z04 .i64 ((z04 .i64 (x20 - x31)) - x7))) rfl rfl (W.q1 (.int .i64 (z04 .i64 ((z04 .i64 (x20 - x31)) - x7))) rfl (.nil (.seq (.region ?_))))))
 refine W.q1 (.int .i64 0) rfl (.nil (.seq (.seq (.region (W.q2 (.int .i64 (z04 .i64 ((z04 .i64 (x20 - x31)) - x7))) rfl (W.q3 (.bool (decide ((z04 .i64 ((z04 .i64 (x20 - x31)) - x7)) < 0))) rfl rfl ?_))))))
 refine .nil ?_
 obtain ⟨q42, h43, h44⟩ := z00 h33
 refine AW.midT (fun σ' H' => ∃ (y1 : Int) (y2 : Int) (G' : GM), (y1, y2) = q42 /\ Ow G' H' (eSl (σ9 5) 3 (rI .i64) x6 :: L) /\ GM.le G34 G' /\ σ' 6 = .int .i64 y1 /\ σ' 8 = .int .i64 y2) ?_ ?_
 .refine .cond (b := decide ((z04 .i64 ((z04 .i64 (x20 - x31)) - x7)) < 0)) rfl rfl (fun g45 => ?_) (fun g45 => ?_)
  rotate_left
  .have h50 := z0g g45 h43
   refine .skip ?_
   obtain rfl := zAa h50
   exact ⟨0, z04 .i64 ((z04 .i64 (x20 - x31)) - x7), _, rfl, O35, (zAf _), rfl, rfl⟩
  have h46 := z03 g45 h43
  refine .region (W.q2 (.int .i64 (z04 .i64 ((z04 .i64 (x20 - x31)) - x7))) rfl (W.q3 (.int .i64 (z04 .i64 ((z04 .i64 ((z04 .i64 (x20 - x31)) - x7)) + 10))) rfl rfl ?_))
  obtain ⟨x47, e48, h49⟩ := z7b h46
  refine W.q1 _ (congrArg (Value.int .i64) e48) (W.q1 (.int .i64 1) rfl (.nil ?_))
  obtain rfl := zAa h49
  exact ⟨1, x47, _, rfl, O35, (zAf _), rfl, rfl⟩
 rintro σ53 H54 fr55 ⟨x51, x52, G56, rfl, O57, s58, t60, t61⟩
 have h62 := z6c h44
 refine .region (W.q2 (σ9 5) ((fr55 5 rfl).trans rfl) (W.q2 _ t61 (W.lo rfl rfl (Lo.buildSlice (r := (rI .i64)) (vs := [(.int .i64 x52)]) (xs := [x52]) zcn ze3 sz3 (by kernel_rfl) rfl (qc rfl qn) rfl (.cons rfl .nil) O57) ?_)))
 rintro v65 H66 ⟨O63, sm64⟩
 obtain ⟨es68, e69, e70⟩ := z4n (j := 0) rfl O63
 obtain ⟨g71, h72⟩ := z2p h62
 refine W.lo rfl rfl (Lo.append (j := 1) (v := (σ9 5)) rfl rfl zcn zos ze3 sz3 by3 (by decide) (by decide) rfl e69 e70 g71 O63) ?_
 rintro v74 H75 ⟨O67, sm73⟩
 refine W.q1 v74 rfl (.nil (.region (W.q3 (.int .i64 (z04 .i64 (x8 + 1))) ((fr55 11 rfl).trans t17) rfl (W.q2 (.int .i64 (z04 .i64 (x8 + 1))) rfl (.nil ?_)))))
 have O76 : Ow G56 H75 (eSl v74 3 (rI .i64) (x6 ++ [x52]) :: L) := O67.drop 0
 exact ⟨k5, zAg _, ⟨(x6 ++ [x52]), x51, z04 .i64 (x8 + 1), _, h72, O76, (zAe s14 (zAe s25 (zAe s36 s58))), t60, rfl⟩⟩
def z3i (K : Nat) (p1 : zAd) : Nat -> zAd -> Int -> Option (zAd × Int)
  | 0, _, _ => none
  | k + 1, x56, x57 => ((z7l K x56 p1).bind fun x67 => (if (decide (x67 >= 0)) = true then ((z7m K x56 p1).bind fun x80 => z3i K p1 k x80 (z04 .u8 (x57 + 1))) else some (x56, x57)))
def z3j (K : Nat) (p0 : zAd) (p1 : zAd) : Nat -> zAd -> zAd -> Int -> Option (zAd × zAd)
  | 0, _, _, _ => none
  | k + 1, x21, x22, x23 => (if (decide (x23 < (p0.size : Int))) = true then ((ssl p0 x23 (z04 .i64 (x23 + 1))).bind fun x36 => (if (x22).size + (x36).size <= 4611686018427387904 then ((z74 K (x22 ++ x36)).bind fun x41 => (Option.bind (z3i K p1 K x41 48) (tu2 fun x92 x93 => (if (x21).size + ((Utf8.encode x93)).size <= 4611686018427387904 then z3j K p0 p1 k (x21 ++ (Utf8.encode x93)) x92 (z04 .i64 (x23 + 1)) else none)))) else none)) else some (x21, x22))
def z6x (K : Nat) (p0 : zAd) (p1 : zAd) : Option (zAd × zAd) := ((ssl p0 0 (imin (p0.size : Int) (z04 .i64 ((p1.size : Int) - 1)))).bind fun x1 => (if ((⟨#[48]⟩ : zAd)).size + (x1).size <= 4611686018427387904 then ((z74 K ((⟨#[48]⟩ : zAd) ++ x1)).bind fun x6 => (Option.bind (z3j K p0 p1 K (⟨#[48]⟩ : zAd) x6 (imin (p0.size : Int) (z04 .i64 ((p1.size : Int) - 1)))) (tu2 fun x107 x108 => ((z74 K x107).bind fun x119 => some (x119, x108))))) else none))
theorem z8n (p0 : zAd) (p1 : zAd) (O : Ow G H (L)) (r : zAd × zAd) (h : z6x K p0 p1 = some r) :
    CR Tryz.prog 129 [(.string p0), (.string p1)] G H (L) (fun v G' _ => v = .tuple #[.string r.1, .string r.2]) := by
 unfold z6x at h
 refine CR.og (n := 53) (fn := Tryz.f129) (by kernel_rfl) rfl rfl fun R kr => (.seq (.region (W.q1 (.string (⟨#[]⟩ : zAd)) rfl (W.q1 (.string (⟨#[]⟩ : zAd)) rfl (.nil (.seq ?_))))))
 refine .region (W.q2 (.string p0) rfl (W.pure (v := (.int .i64 (p0.size : Int))) rfl rfl (z1p (oo rfl rfl) un9) (W.q2 (.string p1) rfl (W.pure (v := (.int .i64 (p1.size : Int))) rfl rfl (z1p (oo rfl rfl) un9) (W.q3 (.int .i64 (z04 .i64 ((p1.size : Int) - 1))) rfl rfl (W.pure (v := (.int .i64 (imin (p0.size : Int) (z04 .i64 ((p1.size : Int) - 1))))) rfl rfl (zo4 (oo rfl rfl) (oo rfl rfl)) ?_))))))
 refine W.q1 (.int .i64 (imin (p0.size : Int) (z04 .i64 ((p1.size : Int) - 1)))) rfl (.nil (.seq (.region (W.q2 (.string p0) rfl (W.q2 (.int .i64 (imin (p0.size : Int) (z04 .i64 ((p1.size : Int) - 1)))) rfl ?_)))))
 obtain ⟨x1, i2, h3⟩ := z00 h
 refine W.pure (v := (.string x1)) rfl rfl (zi8 un9 (oo rfl rfl) (oo rfl rfl) i2) ?_
 obtain ⟨g4, h5⟩ := z2p h3
 refine W.pure (v := (.string ((⟨#[48]⟩ : zAd) ++ x1))) rfl rfl (zc6 g4 (oo rfl rfl) (oo rfl rfl)) ?_
 obtain ⟨x6, i7, h8⟩ := z00 h5
 refine W.lo rfl rfl (Lo.cP rfl (fn := Tryz.f162) (by kernel_rfl) rfl (mc rfl mn) O (fun L' O' => z7y K ((⟨#[48]⟩ : zAd) ++ x1) O' _ i7)) ?_
 rintro v15 H16 ⟨G9, O10, s11, sm14, rfl⟩
 refine W.q1 (.string (⟨#[48]⟩ : zAd)) rfl (W.q1 (.string x6) rfl (.nil (.seq (.seq (.region (W.q2 (.int .i64 (imin (p0.size : Int) (z04 .i64 ((p1.size : Int) - 1)))) rfl ?_))))))
 refine W.q1 (.int .i64 (imin (p0.size : Int) (z04 .i64 ((p1.size : Int) - 1)))) rfl (.nil ?_)
 obtain ⟨q17, h18, h19⟩ := z00 h8
 refine AW.midT (fun σ' H' => ∃ (y1 : zAd) (y2 : zAd) (G' : GM), (y1, y2) = q17 /\ Ow G' H' (L) /\ GM.le G9 G' /\ σ' 7 = .string y1 /\ σ' 8 = .string y2) ?_ ?_
 rotate_left
 .rintro σ109 H110 fr111 ⟨x107, x108, G112, rfl, O113, s114, t116, t117⟩
  have h118 := z6c h19
  refine .seq (.region (W.q2 _ t116 ?_))
  obtain ⟨x119, i120, h121⟩ := z00 h118
  refine W.lo rfl rfl (Lo.cP rfl (fn := Tryz.f162) (by kernel_rfl) rfl (mc rfl mn) O113 (fun L' O' => z7y K x107 O' _ i120)) ?_
  rintro v128 H129 ⟨G122, O123, s124, sm127, rfl⟩
  refine W.q2 _ t117 (W.q1 (.string x119) rfl (W.q1 (.string x108) rfl (.nil (.ret ?_))))
  obtain rfl := zAa h121
  exact zgn kr (v1 := (.string x119)) (v2 := (.string x108)) (by rfl) (z07 (by rfl) (by exact rfl)) (z07 (by rfl) (by exact rfl)) O123 (zAe s11 (zAe s114 s124)) rfl
 refine .block (AW.loop (α := Nat) (fun k' σ' H' => ∃ (y1 : zAd) (y2 : zAd) (y3 : Int) (G' : GM), z3j K p0 p1 k' y1 y2 y3 = some q17 /\ Ow G' H' (L) /\ GM.le G9 G' /\ σ' 7 = .string y1 /\ σ' 8 = .string y2 /\ σ' 9 = .int .i64 y3) (fun k' => k') K ⟨(⟨#[48]⟩ : zAd), x6, imin (p0.size : Int) (z04 .i64 ((p1.size : Int) - 1)), _, h18, O10, (zAf _), rfl, rfl, rfl⟩ ?_)
 rintro k20
 rintro σ24 H25 fr26 ⟨x21, x22, x23, G27, h30, O28, s29, t31, t32, t33⟩
 rcases k20 with _ | k20
 .exact z06 h30
 rw [z3j] at h30
 refine .seq (.seq (.region (W.q2 _ t33 (W.q2 (.string p0) ((fr26 0 rfl).trans rfl) (W.pure (v := (.int .i64 (p0.size : Int))) rfl rfl (z1p (oo rfl rfl) un9) (W.q3 (.bool (decide (x23 < (p0.size : Int)))) rfl rfl ?_))))))
 refine .nil (.cond (b := decide (x23 < (p0.size : Int))) rfl rfl (fun g34 => ?_) (fun g34 => ?_))
 rotate_left
 .have h106 := z0g g34 h30
  refine .exit ?_
  obtain rfl := zAa h106
  exact ⟨x21, x22, _, rfl, O28, s29, t31, t32⟩
 have h35 := z03 g34 h30
 refine .skip (.seq (.block (.seq (.region (W.q2 _ t32 (W.q2 (.string p0) ((fr26 0 rfl).trans rfl) ?_))))))
 refine W.q2 _ t33 (W.q2 _ t33 (W.q3 (.int .i64 (z04 .i64 (x23 + 1))) rfl rfl ?_))
 obtain ⟨x36, i37, h38⟩ := z00 h35
 refine W.pure (v := (.string x36)) rfl rfl (zl2 un9 (oo rfl rfl) (oo rfl rfl) (oo rfl rfl) i37) ?_
 obtain ⟨g39, h40⟩ := z2p h38
 refine W.pure (v := (.string (x22 ++ x36))) rfl rfl (zc6 g39 (oo rfl rfl) (oo rfl rfl)) ?_
 obtain ⟨x41, i42, h43⟩ := z00 h40
 refine W.lo rfl rfl (Lo.cP rfl (fn := Tryz.f162) (by kernel_rfl) rfl (mc rfl mn) O28 (fun L' O' => z7y K (x22 ++ x36) O' _ i42)) ?_
 rintro v50 H51 ⟨G44, O45, s46, sm49, rfl⟩
 refine W.q1 (.string x41) rfl (.nil (.seq (.region (W.q1 (.int .u8 48) rfl (.nil (.seq ?_))))))
 obtain ⟨q52, h53, h54⟩ := z00 h43
 refine AW.midT (fun σ' H' => ∃ (y1 : zAd) (y2 : Int) (G' : GM), (y1, y2) = q52 /\ Ow G' H' (L) /\ GM.le G44 G' /\ σ' 8 = .string y1 /\ σ' 10 = .int .u8 y2) ?_ ?_
 rotate_left
 .rintro σ94 H95 fr96 ⟨x92, x93, G97, rfl, O98, s99, t101, t102⟩
  have h103 := z6c h54
  refine .region (W.q2 _ ((fr96 7 rfl).trans t31) (W.q2 _ t102 (W.pure (v := (.string (Utf8.encode x93))) rfl rfl (zlr in5 un9 (oo rfl rfl)) ?_)))
  obtain ⟨g104, h105⟩ := z2p h103
  refine W.pure (v := (.string (x21 ++ (Utf8.encode x93)))) rfl rfl (zc6 g104 (oo rfl rfl) (oo rfl rfl)) (W.q1 (.string (x21 ++ (Utf8.encode x93))) rfl (.nil (.region (W.q2 _ ((fr96 9 rfl).trans t33) (W.q3 (.int .i64 (z04 .i64 (x23 + 1))) rfl rfl (W.q1 (.int .i64 (z04 .i64 (x23 + 1))) rfl ?_))))))
  refine .nil ?_
  exact ⟨k20, zAg _, ⟨(x21 ++ (Utf8.encode x93)), x92, z04 .i64 (x23 + 1), _, h105, O98, (zAe s29 (zAe s46 s99)), rfl, t101, rfl⟩⟩
 refine .block (AW.loop (α := Nat) (fun k' σ' H' => ∃ (y1 : zAd) (y2 : Int) (G' : GM), z3i K p1 k' y1 y2 = some q52 /\ Ow G' H' (L) /\ GM.le G44 G' /\ σ' 8 = .string y1 /\ σ' 10 = .int .u8 y2) (fun k' => k') K ⟨x41, 48, _, h53, O45, (zAf _), rfl, rfl⟩ ?_)
 rintro k55
 rintro σ58 H59 fr60 ⟨x56, x57, G61, h64, O62, s63, t65, t66⟩
 rcases k55 with _ | k55
 .exact z06 h64
 rw [z3i] at h64
 refine .seq (.seq (.region (W.q2 _ t65 (W.q2 (.string p1) ((fr60 1 rfl).trans ((fr26 1 rfl).trans rfl)) ?_))))
 obtain ⟨x67, i68, h69⟩ := z00 h64
 refine W.lo rfl rfl (Lo.cP rfl (fn := Tryz.f97) (by kernel_rfl) rfl (mc rfl (mc rfl mn)) O62 (fun L' O' => zat K x56 p1 O' _ i68)) ?_
 rintro v76 H77 ⟨G70, O71, s72, sm75, rfl⟩
 refine W.q3 (.bool (decide (x67 >= 0))) rfl rfl (.nil (.cond (b := decide (x67 >= 0)) rfl rfl (fun g78 => ?_) (fun g78 => ?_)))
 rotate_left
 .have h91 := z0g g78 h69
  refine .exit ?_
  obtain rfl := zAa h91
  exact ⟨x56, x57, _, rfl, O71, (zAe s63 s72), t65, t66⟩
 have h79 := z03 g78 h69
 refine .skip (.block (.seq (.region (W.q2 _ t65 (W.q2 (.string p1) ((fr60 1 rfl).trans ((fr26 1 rfl).trans rfl)) ?_)))))
 obtain ⟨x80, i81, h82⟩ := z00 h79
 refine W.lo rfl rfl (Lo.cP rfl (fn := Tryz.f98) (by kernel_rfl) rfl (mc rfl (mc rfl mn)) O71 (fun L' O' => zau K x56 p1 O' _ i81)) ?_
 rintro v89 H90 ⟨G83, O84, s85, sm88, rfl⟩
 refine W.q1 (.string x80) rfl (.nil (.region (W.q2 _ t66 (W.q3 (.int .u8 (z04 .u8 (x57 + 1))) rfl rfl (W.q1 (.int .u8 (z04 .u8 (x57 + 1))) rfl (.nil ?_))))))
 exact ⟨k55, zAg _, ⟨x80, z04 .u8 (x57 + 1), _, h82, O84, (zAe s63 (zAe s72 s85)), rfl, rfl⟩⟩
def z1r (K : Nat) : Nat -> zAd -> zAd -> Option (zAd)
  | 0, _, _ => none
  | k + 1, x5, x6 => (if (!(sEq x6 (⟨#[48]⟩ : zAd))) = true then ((z6x K x5 x6).bind fun x18 => z1r K k x6 x18.2) else some x5)
def z7n (K : Nat) (p0 : zAd) (p1 : zAd) : Option zAd := (Option.bind (z1r K K p0 p1) (tu1 fun x30 => some x30))
theorem zav (p0 : zAd) (p1 : zAd) (O : Ow G H (L)) (r : zAd) (h : z7n K p0 p1 = some r) :
    CR Tryz.prog 60 [(.string p0), (.string p1)] G H (L) (fun v G' _ => v = .string r) := by
 unfold z7n at h
 refine CR.og (n := 18) (fn := Tryz.f60) (by kernel_rfl) rfl rfl fun R kr => (.seq (.region (W.q1 (.string (⟨#[]⟩ : zAd)) rfl (.nil (.seq ?_)))))
 obtain ⟨q1, h2, h3⟩ := z00 h
 refine AW.midT (fun σ' H' => ∃ (y1 : zAd) (G' : GM), y1 = q1 /\ Ow G' H' (L) /\ GM.le G G' /\ σ' 0 = .string y1) ?_ ?_
 rotate_left
 .rintro σ31 H32 fr33 ⟨x30, G34, rfl, O35, s36, t38⟩
  have h39 := z09 h3
  refine .seq (.region (W.q2 _ t38 (W.q1 (.string x30) rfl (.nil (.ret ?_)))))
  obtain rfl := zAa h39
  exact z1h kr (v1 := (.string x30)) (by rfl) (z07 (by rfl) (by exact rfl)) O35 s36 rfl
 refine .block (AW.loop (α := Nat) (fun k' σ' H' => ∃ (y1 : zAd) (y2 : zAd) (G' : GM), z1r K k' y1 y2 = some q1 /\ Ow G' H' (L) /\ GM.le G G' /\ σ' 0 = .string y1 /\ σ' 1 = .string y2) (fun k' => k') K ⟨p0, p1, _, h2, O, (zAf _), rfl, rfl⟩ ?_)
 rintro k4
 rintro σ7 H8 fr9 ⟨x5, x6, G10, h13, O11, s12, t14, t15⟩
 rcases k4 with _ | k4
 .exact z06 h13
 rw [z1r] at h13
 refine .seq (.seq (.region (W.q2 _ t15 (W.pure (v := (.bool (!(sEq x6 (⟨#[48]⟩ : zAd))))) rfl rfl (ze8 (oo rfl rfl) (oo rfl rfl)) (.nil (.cond (b := (!(sEq x6 (⟨#[48]⟩ : zAd)))) rfl rfl (fun g16 => ?_) (fun g16 => ?_)))))))
 rotate_left
 .have h29 := z0g g16 h13
  refine .exit ?_
  obtain rfl := zAa h29
  exact ⟨x5, _, rfl, O11, s12, t14⟩
 have h17 := z03 g16 h13
 refine .skip (.block (.seq (.region (W.q2 _ t14 (W.q2 _ t15 ?_)))))
 obtain ⟨x18, i19, h20⟩ := z00 h17
 refine W.lo rfl rfl (Lo.cP rfl (fn := Tryz.f129) (by kernel_rfl) rfl (mc rfl (mc rfl mn)) O11 (fun L' O' => z8n K x5 x6 O' _ i19)) ?_
 rintro v27 H28 ⟨G21, O22, s23, sm26, rfl⟩
 refine W.q2 (.tuple #[(.string x18.1), (.string x18.2)]) rfl (W.pure (v := (.string x18.1)) rfl rfl (z08 (oo rfl rfl) rfl) (W.pure (v := (.string x18.2)) rfl rfl (z08 (oo rfl rfl) rfl) (W.q1 (.string x18.1) rfl (W.q1 (.string x18.2) rfl (.nil (.region ?_))))))
 refine W.q2 _ t15 (W.q2 (.string x18.2) rfl (W.q1 (.string x6) rfl (W.q1 (.string x18.2) rfl (.nil ?_))))
 exact ⟨k4, zAg _, ⟨x6, x18.2, _, h20, O22, (zAe s12 s23), rfl, rfl⟩⟩
def z1j (K : Nat) (x30 : zAd) : Nat -> Int -> zAd -> zAd -> Int -> Option (Int × zAd × zAd)
  | 0, _, _, _, _ => none
  | k + 1, x46, x47, x48, x49 => (if (decide (x49 < (x30.size : Int))) = true then (Option.bind ((Option.bind (((bidx x30 x49).bind fun x69 => (if (x69 == 47) = true then some (x46 == 1) else some false))) (tu1 fun x76 => (if x76 = true then ((ssl x30 0 x49).bind fun x93 => ((ssl x30 (z04 .i64 (x49 + 1)) (x30.size : Int)).bind fun x96 => some (2, x93, x96))) else some (x46, x47, x48))))) (tu3 fun x100 x101 x102 => z1j K x30 k x100 x101 x102 (z04 .i64 (x49 + 1)))) else some (x46, x47, x48))
def z4x (K : Nat) (p0 : zAd) : Option Int := (Option.bind ((if (decide ((p0.size : Int) > 0)) = true then ((bidx p0 0).bind fun x7 => some (x7 == 45)) else some false)) (tu1 fun x11 => (Option.bind ((if x11 = true then ((ssl p0 1 (p0.size : Int)).bind fun x26 => some (x26, true)) else some (p0, false))) (tu2 fun x30 x31 => (Option.bind (z1j K x30 K 1 x30 (⟨#[50]⟩ : zAd) 0) (tu3 fun x115 x116 x117 => ((z5p K x116).bind fun x129 => ((z5p K x117).bind fun x140 => (Option.bind ((if (x129 == 5) = true then some true else (if (x140 == 5) = true then some true else (if x31 = true then some (sEq x116 (⟨#[48]⟩ : zAd)) else some false)))) (tu1 fun x166 => (if x166 = true then some 5 else (Option.bind ((if (x129 != 0) = true then some true else some (x140 != 0))) (tu1 fun x186 => (if x186 = true then some 2 else (Option.bind ((if (x115 == 2) = true then (if (sEq x117 (⟨#[48]⟩ : zAd)) = true then some true else (if (sEq x117 (⟨#[49]⟩ : zAd)) = true then some true else ((z7n K x116 x117).bind fun x213 => some (!(sEq x213 (⟨#[49]⟩ : zAd)))))) else some false)) (tu1 fun x225 => (if x225 = true then some 3 else some 0)))))))))))))))))
theorem z98 (p0 : zAd) (O : Ow G H (L)) (r : Int) (h : z4x K p0 = some r) :
    CR Tryz.prog 16 [(.string p0)] G H (L) (fun v G' _ => v = .int .i64 r) := by
 unfold z4x at h
 refine CR.og (n := 86) (fn := Tryz.f16) (by kernel_rfl) rfl rfl fun R kr => (.seq (.region (W.q1 (.int .i64 0) rfl (.nil (.seq (.region ?_))))))
 refine W.q2 (.string p0) rfl (W.q1 (.string p0) rfl (W.q1 (.bool false) rfl (W.q1 (.int .i64 1) rfl (.nil (.seq (.seq ?_))))))
 obtain ⟨q1, h2, h3⟩ := z00 h
 refine AW.midT (fun σ' H' => ∃ (y1 : Bool) (G' : GM), y1 = q1 /\ Ow G' H' (L) /\ GM.le G G' /\ σ' 19 = .bool y1) ?_ ?_
 .refine .region (W.q2 (.string p0) rfl (W.pure (v := (.int .i64 (p0.size : Int))) rfl rfl (z1p (oo rfl rfl) un9) (W.q3 (.bool (decide ((p0.size : Int) > 0))) rfl rfl (W.q2 (.bool (decide ((p0.size : Int) > 0))) rfl (W.splitAt (t := 15) (b := decide ((p0.size : Int) > 0)) rfl (fun g4 gv5 => ?_) (fun g4 gv5 => ?_))))))
  rotate_left
  .have h10 := z0g g4 h2
   refine W.q6 rfl gv5 (W.q6 rfl gv5 (W.q6 rfl gv5 (W.q5 (.bool false) gv5 rfl (.nil ?_))))
   obtain rfl := zAa h10
   exact ⟨false, _, rfl, O, (zAf _), rfl⟩
  have h6 := z03 g4 h2
  refine W.q2 (hg := gk rfl rfl gv5 rfl) (.string p0) rfl ?_
  obtain ⟨x7, i8, h9⟩ := z00 h6
  refine W.pure (v := (.int .u8 x7)) (gk rfl rfl gv5 rfl) rfl (z9r un9 (oo rfl rfl) (oo rfl rfl) i8) (W.q3 (hg := gk rfl rfl gv5 rfl) (.bool (x7 == 45)) rfl rfl (W.q4 (.bool (x7 == 45)) gv5 rfl (.nil ?_)))
  obtain rfl := zAa h9
  exact ⟨(x7 == 45), _, rfl, O, (zAf _), rfl⟩
 rintro σ12 H13 fr14 ⟨x11, G15, rfl, O16, s17, t19⟩
 have h20 := z09 h3
 obtain ⟨q21, h22, h23⟩ := z00 h20
 refine AW.midT (fun σ' H' => ∃ (y1 : zAd) (y2 : Bool) (G' : GM), (y1, y2) = q21 /\ Ow G' H' (L) /\ GM.le G15 G' /\ σ' 3 = .string y1 /\ σ' 4 = .bool y2) ?_ ?_
 .refine .cond (b := x11) rfl t19 (fun g24 => ?_) (fun g24 => ?_)
  rotate_left
  .have h29 := z0g g24 h22
   refine .skip ?_
   obtain rfl := zAa h29
   exact ⟨p0, false, _, rfl, O16, (zAf _), ((fr14 3 rfl).trans rfl), ((fr14 4 rfl).trans rfl)⟩
  have h25 := z03 g24 h22
  refine .region (W.q2 (.string p0) ((fr14 3 rfl).trans rfl) ?_)
  obtain ⟨x26, i27, h28⟩ := z00 h25
  refine W.pure (v := (.string x26)) rfl rfl (ze9 un9 (oo rfl rfl) (oo rfl rfl) i27) (W.q1 (.string x26) rfl (W.q1 (.bool true) rfl (.nil ?_)))
  obtain rfl := zAa h28
  exact ⟨x26, true, _, rfl, O16, (zAf _), rfl, rfl⟩
 rintro σ32 H33 fr34 ⟨x30, x31, G35, rfl, O36, s37, t39, t40⟩
 have h41 := z6c h23
 refine .seq (.region (W.q2 _ t39 (W.q1 (.string x30) rfl (W.q1 (.string (⟨#[50]⟩ : zAd)) rfl (.nil (.seq ?_))))))
 refine .seq (.region (W.q2 _ t39 (W.pure (v := (.int .i64 (x30.size : Int))) rfl rfl (z1p (oo rfl rfl) un9) (W.q2 (.int .i64 0) rfl (.nil ?_)))))
 obtain ⟨q42, h43, h44⟩ := z00 h41
 refine AW.midT (fun σ' H' => ∃ (y1 : Int) (y2 : zAd) (y3 : zAd) (G' : GM), (y1, y2, y3) = q42 /\ Ow G' H' (L) /\ GM.le G35 G' /\ σ' 5 = .int .i64 y1 /\ σ' 6 = .string y2 /\ σ' 7 = .string y3) ?_ ?_
 .refine .block (AW.loop (α := Nat) (fun k' σ' H' => ∃ (y1 : Int) (y2 : zAd) (y3 : zAd) (y4 : Int) (G' : GM), z1j K x30 k' y1 y2 y3 y4 = some q42 /\ Ow G' H' (L) /\ GM.le G35 G' /\ σ' 5 = .int .i64 y1 /\ σ' 6 = .string y2 /\ σ' 7 = .string y3 /\ σ' 25 = .int .i64 y4) (fun k' => k') K ⟨1, x30, (⟨#[50]⟩ : zAd), 0, _, h43, O36, (zAf _), ((fr34 5 rfl).trans ((fr14 5 rfl).trans rfl)), rfl, rfl, rfl⟩ ?_)
  rintro k45
  rintro σ50 H51 fr52 ⟨x46, x47, x48, x49, G53, h56, O54, s55, t57, t58, t59, t60⟩
  rcases k45 with _ | k45
  .exact z06 h56
  rw [z1j] at h56
  refine .seq (.region (W.q3 (.bool (decide (x49 < (x30.size : Int)))) t60 ((fr52 24 rfl).trans rfl) (.nil (.seq (.cond (b := decide (x49 < (x30.size : Int))) rfl rfl (fun g61 => ?_) (fun g61 => ?_))))))
  rotate_left
  .have h114 := z0g g61 h56
   refine .exit ?_
   obtain rfl := zAa h114
   exact ⟨x46, x47, x48, _, rfl, O54, s55, t57, t58, t59⟩
  have h62 := z03 g61 h56
  refine .skip (.seq ?_)
  obtain ⟨q63, h64, h65⟩ := z00 h62
  refine AW.midT (fun σ' H' => ∃ (y1 : Int) (y2 : zAd) (y3 : zAd) (G' : GM), (y1, y2, y3) = q63 /\ Ow G' H' (L) /\ GM.le G53 G' /\ σ' 5 = .int .i64 y1 /\ σ' 6 = .string y2 /\ σ' 7 = .string y3) ?_ ?_
  rotate_left
  .rintro σ103 H104 fr105 ⟨x100, x101, x102, G106, rfl, O107, s108, t110, t111, t112⟩
   have h113 := zfo h65
   refine .region (W.q3 (.int .i64 (z04 .i64 (x49 + 1))) ((fr105 25 rfl).trans t60) rfl (W.q2 (.int .i64 (z04 .i64 (x49 + 1))) rfl (.nil ?_)))
   exact ⟨k45, zAg _, ⟨x100, x101, x102, z04 .i64 (x49 + 1), _, h113, O107, (zAe s55 s108), t110, t111, t112, rfl⟩⟩
  refine .block (.seq (.region (W.q2 _ t60 (W.q1 (.int .i64 x49) rfl (.nil (.seq ?_))))))
  obtain ⟨q66, h67, h68⟩ := z00 h64
  refine AW.midT (fun σ' H' => ∃ (y1 : Bool) (G' : GM), y1 = q66 /\ Ow G' H' (L) /\ GM.le G53 G' /\ σ' 35 = .bool y1) ?_ ?_
  .refine .region (W.q2 _ ((fr52 3 rfl).trans t39) (W.q2 (.int .i64 x49) rfl ?_))
   obtain ⟨x69, i70, h71⟩ := z00 h67
   refine W.pure (v := (.int .u8 x69)) rfl rfl (z9r un9 (oo rfl rfl) (oo rfl rfl) i70) (W.q3 (.bool (x69 == 47)) rfl rfl (W.q2 (.bool (x69 == 47)) rfl (W.splitAt (t := 32) (b := (x69 == 47)) rfl (fun g72 gv73 => ?_) (fun g72 gv73 => ?_))))
   rotate_left
   .have h75 := z0g g72 h71
    refine W.q6 rfl gv73 (W.q6 rfl gv73 (W.q5 (.bool false) gv73 rfl (.nil ?_)))
    obtain rfl := zAa h75
    exact ⟨false, _, rfl, O54, (zAf _), rfl⟩
   have h74 := z03 g72 h71
   refine W.q2 (hg := gk rfl rfl gv73 rfl) _ t57 (W.q3 (hg := gk rfl rfl gv73 rfl) (.bool (x46 == 1)) rfl rfl (W.q4 (.bool (x46 == 1)) gv73 rfl (.nil ?_)))
   obtain rfl := zAa h74
   exact ⟨(x46 == 1), _, rfl, O54, (zAf _), rfl⟩
  rintro σ77 H78 fr79 ⟨x76, G80, rfl, O81, s82, t84⟩
  have h85 := z09 h68
  refine .cond (b := x76) rfl t84 (fun g86 => ?_) (fun g86 => ?_)
  rotate_left
  .have h99 := z0g g86 h85
   refine .skip ?_
   obtain rfl := zAa h99
   exact ⟨x46, x47, x48, _, rfl, O81, s82, ((fr79 5 rfl).trans t57), ((fr79 6 rfl).trans t58), ((fr79 7 rfl).trans t59)⟩
  have h87 := z03 g86 h85
  refine .draw2 (M := [0, 0, 3, 0, 0, 16, 56, 7, 255, 511]) mixed (by kernel_rfl) (by kernel_rfl) fun H88 N92 x89 F91 => ?_
  have O90 := O81.ext x89
  refine D2.q2 _ ((fr79 3 rfl).trans ((fr52 3 rfl).trans t39)) (D2.q2 (.int .i64 x49) ((fr79 8 rfl).trans rfl) ?_)
  obtain ⟨x93, i94, h95⟩ := z00 h87
  refine D2.pure (v := (.string x93)) rfl rfl (zi8 un9 (oo rfl rfl) (oo rfl rfl) i94) (D2.q2 _ ((fr79 3 rfl).trans ((fr52 3 rfl).trans t39)) (D2.q2 (.int .i64 x49) ((fr79 8 rfl).trans rfl) (D2.q3 (.int .i64 (z04 .i64 (x49 + 1))) rfl rfl ?_)))
  obtain ⟨x96, i97, h98⟩ := z00 h95
  refine D2.pure (v := (.string x96)) rfl rfl (ze9 un9 (oo rfl rfl) (oo rfl rfl) i97) (D2.q1 (.string x93) rfl (D2.q1 (.string x96) rfl (D2.q1 (.int .i64 2) rfl (.nil ?_))))
  obtain rfl := zAa h98
  exact ⟨2, x93, x96, _, rfl, O90, s82, rfl, rfl, rfl⟩
 rintro σ118 H119 fr120 ⟨x115, x116, x117, G121, rfl, O122, s123, t125, t126, t127⟩
 have h128 := zfo h44
 refine .seq (.region (W.q2 _ t126 ?_))
 obtain ⟨x129, i130, h131⟩ := z00 h128
 refine W.lo rfl rfl (Lo.cP rfl (fn := Tryz.f59) (by kernel_rfl) rfl (mc rfl mn) O122 (fun L' O' => z97 K x116 O' _ i130)) ?_
 rintro v138 H139 ⟨G132, O133, s134, sm137, rfl⟩
 refine W.q2 _ t127 ?_
 obtain ⟨x140, i141, h142⟩ := z00 h131
 refine W.lo rfl rfl (Lo.cP rfl (fn := Tryz.f59) (by kernel_rfl) rfl (mc rfl mn) O133 (fun L' O' => z97 K x117 O' _ i141)) ?_
 rintro v149 H150 ⟨G143, O144, s145, sm148, rfl⟩
 refine W.q1 (.int .i64 x129) rfl (W.q1 (.int .i64 x140) rfl (.nil (.seq (.block (.seq ?_)))))
 obtain ⟨q151, h152, h153⟩ := z00 h142
 refine AW.midT (fun σ' H' => ∃ (y1 : Bool) (G' : GM), y1 = q151 /\ Ow G' H' (L) /\ GM.le G143 G' /\ σ' 48 = .bool y1) ?_ ?_
 .refine .region (W.q2 (.int .i64 x129) rfl (W.q3 (.bool (x129 == 5)) rfl rfl (W.q2 (.bool (x129 == 5)) rfl (W.splitAt (t := 51) (b := (x129 == 5)) rfl (fun g154 gv155 => ?_) (fun g154 gv155 => ?_)))))
  .have h156 := z03 g154 h152
   refine W.q6 rfl gv155 (W.q6 rfl gv155 (W.q4 (.bool true) gv155 rfl (W.q2 (.bool true) rfl (W.q6 rfl rfl (W.q6 rfl rfl (W.skipU rfl rfl rfl rfl ?_))))))
   refine W.skipU rfl rfl rfl rfl (W.q6 rfl rfl (W.q4 (.bool true) rfl rfl (W.q1 (.bool true) rfl (.nil ?_))))
   obtain rfl := zAa h156
   exact ⟨true, _, rfl, O144, (zAf _), rfl⟩
  have h157 := z0g g154 h152
  refine W.q2 (hg := gk rfl rfl gv155 rfl) (.int .i64 x140) rfl (W.q3 (hg := gk rfl rfl gv155 rfl) (.bool (x140 == 5)) rfl rfl (W.q5 (.bool (x140 == 5)) gv155 rfl (W.q2 (.bool (x140 == 5)) rfl (W.splitAt (t := 55) (b := (x140 == 5)) rfl (fun g158 gv159 => ?_) (fun g158 gv159 => ?_)))))
  .have h160 := z03 g158 h157
   refine W.q6 rfl gv159 (W.q6 rfl gv159 (W.skipU rfl rfl rfl rfl (W.skipU rfl rfl rfl rfl (W.q6 rfl gv159 (W.q4 (.bool true) gv159 rfl (W.q1 (.bool true) rfl ?_))))))
   refine .nil ?_
   obtain rfl := zAa h160
   exact ⟨true, _, rfl, O144, (zAf _), rfl⟩
  have h161 := z0g g158 h157
  refine W.q2 (hg := gk rfl rfl gv159 rfl) _ ((fr120 4 rfl).trans t40) (W.q2 (hg := gk rfl rfl gv159 rfl) (.bool x31) rfl (W.splitAt (t := 57) (b := x31) rfl (fun g162 gv163 => ?_) (fun g162 gv163 => ?_)))
  rotate_left
  .have h165 := z0g g162 h161
   refine W.q6 rfl gv163 (W.q6 rfl gv163 (W.q5 (hg := gk rfl rfl gv159 rfl) (.bool false) gv163 rfl (W.q5 (.bool false) gv159 rfl (W.q1 (.bool false) rfl (.nil ?_)))))
   obtain rfl := zAa h165
   exact ⟨false, _, rfl, O144, (zAf _), rfl⟩
  have h164 := z03 g162 h161
  refine W.q2 (hg := gk rfl rfl gv163 rfl) _ t126 (W.pure (v := (.bool (sEq x116 (⟨#[48]⟩ : zAd)))) (gk rfl rfl gv163 rfl) rfl (z9c (oo rfl rfl) (oo rfl rfl)) (W.q4 (hg := gk rfl rfl gv159 rfl) (.bool (sEq x116 (⟨#[48]⟩ : zAd))) gv163 rfl (W.q5 (.bool (sEq x116 (⟨#[48]⟩ : zAd))) gv159 rfl (W.q1 (.bool (sEq x116 (⟨#[48]⟩ : zAd))) rfl (.nil ?_)))))
  obtain rfl := zAa h164
  exact ⟨sEq x116 (⟨#[48]⟩ : zAd), _, rfl, O144, (zAf _), rfl⟩
 rintro σ167 H168 fr169 ⟨x166, G170, rfl, O171, s172, t174⟩
 have h175 := z09 h153
 refine .cond (b := x166) rfl t174 (fun g176 => ?_) (fun g176 => ?_)
 .have h177 := z03 g176 h175
  refine .seq (.region (W.q1 (.int .i64 5) rfl (.nil (.ret ?_))))
  obtain rfl := zAa h177
  exact z1h kr (v1 := (.int .i64 5)) (by rfl) (z07 (by rfl) (by exact rfl)) O171 (zAe s17 (zAe s37 (zAe s123 (zAe s134 (zAe s145 s172))))) rfl
 have h178 := z0g g176 h175
 refine .seq ?_
 obtain ⟨q179, h180, h181⟩ := z00 h178
 refine AW.midT (fun σ' H' => ∃ (y1 : Bool) (G' : GM), y1 = q179 /\ Ow G' H' (L) /\ GM.le G170 G' /\ σ' 62 = .bool y1) ?_ ?_
 .refine .region (W.q2 (.int .i64 x129) ((fr169 9 rfl).trans rfl) (W.q3 (.bool (x129 != 0)) rfl rfl (W.q2 (.bool (x129 != 0)) rfl (W.splitAt (t := 65) (b := (x129 != 0)) rfl (fun g182 gv183 => ?_) (fun g182 gv183 => ?_)))))
  .have h184 := z03 g182 h180
   refine W.q6 rfl gv183 (W.q6 rfl gv183 (W.q4 (.bool true) gv183 rfl (W.q1 (.bool true) rfl (.nil ?_))))
   obtain rfl := zAa h184
   exact ⟨true, _, rfl, O171, (zAf _), rfl⟩
  have h185 := z0g g182 h180
  refine W.q2 (hg := gk rfl rfl gv183 rfl) (.int .i64 x140) ((fr169 10 rfl).trans rfl) (W.q3 (hg := gk rfl rfl gv183 rfl) (.bool (x140 != 0)) rfl rfl (W.q5 (.bool (x140 != 0)) gv183 rfl (W.q1 (.bool (x140 != 0)) rfl (.nil ?_))))
  obtain rfl := zAa h185
  exact ⟨(x140 != 0), _, rfl, O171, (zAf _), rfl⟩
 rintro σ187 H188 fr189 ⟨x186, G190, rfl, O191, s192, t194⟩
 have h195 := z09 h181
 refine .cond (b := x186) rfl t194 (fun g196 => ?_) (fun g196 => ?_)
 .have h197 := z03 g196 h195
  refine .seq (.region (W.q1 (.int .i64 2) rfl (.nil (.ret ?_))))
  obtain rfl := zAa h197
  exact z1h kr (v1 := (.int .i64 2)) (by rfl) (z07 (by rfl) (by exact rfl)) O191 (zAe s17 (zAe s37 (zAe s123 (zAe s134 (zAe s145 (zAe s172 s192)))))) rfl
 have h198 := z0g g196 h195
 refine .seq ?_
 obtain ⟨q199, h200, h201⟩ := z00 h198
 refine AW.midT (fun σ' H' => ∃ (y1 : Bool) (G' : GM), y1 = q199 /\ Ow G' H' (L) /\ GM.le G190 G' /\ σ' 69 = .bool y1) ?_ ?_
 rotate_left
 .rintro σ226 H227 fr228 ⟨x225, G229, rfl, O230, s231, t233⟩
  have h234 := z09 h201
  refine .cond (b := x225) rfl t233 (fun g235 => ?_) (fun g235 => ?_)
  .have h236 := z03 g235 h234
   refine .seq (.region (W.q1 (.int .i64 3) rfl (.nil (.ret ?_))))
   obtain rfl := zAa h236
   exact z1h kr (v1 := (.int .i64 3)) (by rfl) (z07 (by rfl) (by exact rfl)) O230 (zAe s17 (zAe s37 (zAe s123 (zAe s134 (zAe s145 (zAe s172 (zAe s192 s231))))))) rfl
  have h237 := z0g g235 h234
  refine .skip (.seq (.region (W.q1 (.int .i64 0) rfl (.nil (.ret ?_)))))
  obtain rfl := zAa h237
  exact z1h kr (v1 := (.int .i64 0)) (by rfl) (z07 (by rfl) (by exact rfl)) O230 (zAe s17 (zAe s37 (zAe s123 (zAe s134 (zAe s145 (zAe s172 (zAe s192 s231))))))) rfl
 refine .region (W.q2 _ ((fr189 5 rfl).trans ((fr169 5 rfl).trans t125)) (W.q3 (.bool (x115 == 2)) rfl rfl (W.q2 (.bool (x115 == 2)) rfl (W.splitAt (t := 72) (b := (x115 == 2)) rfl (fun g202 gv203 => ?_) (fun g202 gv203 => ?_)))))
 rotate_left
 .have h224 := z0g g202 h200
  refine W.q6 rfl gv203 (W.q6 rfl gv203 (W.q6 rfl gv203 (W.skipU rfl rfl rfl rfl (W.skipU rfl rfl rfl rfl (W.q6 rfl gv203 (W.q6 rfl gv203 ?_))))))
  refine W.skipU rfl rfl rfl rfl (W.skipU rfl rfl rfl rfl (W.skipU rfl rfl rfl rfl (W.skipU rfl rfl rfl rfl (W.q6 rfl gv203 (W.q5 (.bool false) gv203 rfl (W.q1 (.bool false) rfl ?_))))))
  refine .nil ?_
  obtain rfl := zAa h224
  exact ⟨false, _, rfl, O191, (zAf _), rfl⟩
 have h204 := z03 g202 h200
 refine W.q2 (hg := gk rfl rfl gv203 rfl) _ ((fr189 7 rfl).trans ((fr169 7 rfl).trans t127)) (W.pure (v := (.bool (sEq x117 (⟨#[48]⟩ : zAd)))) (gk rfl rfl gv203 rfl) rfl (z9c (oo rfl rfl) (oo rfl rfl)) (W.q2 (hg := gk rfl rfl gv203 rfl) (.bool (sEq x117 (⟨#[48]⟩ : zAd))) rfl (W.splitAt (t := 75) (b := sEq x117 (⟨#[48]⟩ : zAd)) rfl (fun g205 gv206 => ?_) (fun g205 gv206 => ?_))))
 .have h207 := z03 g205 h204
  refine W.q6 rfl gv206 (W.q6 rfl gv206 (W.q4 (hg := gk rfl rfl gv203 rfl) (.bool true) gv206 rfl (W.q2 (hg := gk rfl rfl gv203 rfl) (.bool true) rfl (W.q6 rfl rfl (W.q6 rfl rfl (W.q6 rfl rfl ?_))))))
  refine W.q6 rfl rfl (W.q4 (hg := gk rfl rfl gv203 rfl) (.bool true) rfl rfl (W.q4 (.bool true) gv203 rfl (W.q1 (.bool true) rfl (.nil ?_))))
  obtain rfl := zAa h207
  exact ⟨true, _, rfl, O191, (zAf _), rfl⟩
 have h208 := z0g g205 h204
 refine W.q2 (hg := gk rfl rfl gv206 rfl) _ ((fr189 7 rfl).trans ((fr169 7 rfl).trans t127)) (W.pure (v := (.bool (sEq x117 (⟨#[49]⟩ : zAd)))) (gk rfl rfl gv206 rfl) rfl (z9c (oo rfl rfl) (oo rfl rfl)) (W.q5 (hg := gk rfl rfl gv203 rfl) (.bool (sEq x117 (⟨#[49]⟩ : zAd))) gv206 rfl (W.q2 (hg := gk rfl rfl gv203 rfl) (.bool (sEq x117 (⟨#[49]⟩ : zAd))) rfl (W.splitAt (t := 79) (b := sEq x117 (⟨#[49]⟩ : zAd)) rfl (fun g209 gv210 => ?_) (fun g209 gv210 => ?_)))))
 .have h211 := z03 g209 h208
  refine W.q6 rfl gv210 (W.q6 rfl gv210 (W.q6 rfl gv210 (W.q6 rfl gv210 (W.q4 (hg := gk rfl rfl gv203 rfl) (.bool true) gv210 rfl (W.q4 (.bool true) gv203 rfl (W.q1 (.bool true) rfl ?_))))))
  refine .nil ?_
  obtain rfl := zAa h211
  exact ⟨true, _, rfl, O191, (zAf _), rfl⟩
 have h212 := z0g g209 h208
 refine W.q2 (hg := gk rfl rfl gv210 rfl) _ ((fr189 6 rfl).trans ((fr169 6 rfl).trans t126)) (W.q2 (hg := gk rfl rfl gv210 rfl) _ ((fr189 7 rfl).trans ((fr169 7 rfl).trans t127)) ?_)
 obtain ⟨x213, i214, h215⟩ := z00 h212
 refine W.lo (gk rfl rfl gv210 rfl) rfl (Lo.cP rfl (fn := Tryz.f60) (by kernel_rfl) rfl (mc rfl (mc rfl mn)) O191 (fun L' O' => zav K x116 x117 O' _ i214)) ?_
 rintro v222 H223 ⟨G216, O217, s218, sm221, rfl⟩
 refine W.pure (v := (.bool (!(sEq x213 (⟨#[49]⟩ : zAd))))) (gk rfl rfl gv210 rfl) rfl (ze8 (oo rfl rfl) (oo rfl rfl)) (W.q5 (hg := gk rfl rfl gv203 rfl) (.bool (!(sEq x213 (⟨#[49]⟩ : zAd)))) gv210 rfl (W.q4 (.bool (!(sEq x213 (⟨#[49]⟩ : zAd)))) gv203 rfl (W.q1 (.bool (!(sEq x213 (⟨#[49]⟩ : zAd)))) rfl (.nil ?_))))
 obtain rfl := zAa h215
 exact ⟨(!(sEq x213 (⟨#[49]⟩ : zAd))), _, rfl, O217, s218, rfl⟩
end Go.Am.Tryz
