/- Typed functions with the same answers as the program's, and the walks that show it. -/
import Derived.Test.YtdogeclnbdldaaaDoorG2Z5
import Derived.Test.YtdogeclnbdldaaaDoorG7Z5
import Derived.Test.YtdogeclnbdldaaaDoorG4Z5
set_option maxRecDepth 100000
set_option maxHeartbeats 8000000
set_option linter.unusedVariables false
set_option linter.unusedSimpArgs false
namespace Go.Am.Tryd
open Go Go.Am Go.Proofs
variable (K : Nat) {G : GM} {H : AH} {L : List Pc}
def z1b (K : Nat) (p1 : List Int) (p2 : Int) : Nat -> List Int -> Int -> Int -> Option (List Int)
  | 0, _, _, _ => none
  | k + 1, x5, x6, x7 => (if (decide (x7 <= (List.length p1 : Int))) = true then ((idx x5 (z03 .i64 (p2 + x7))).bind fun x19 => (Option.bind ((if (decide (x7 < (List.length p1 : Int))) = true then ((idx p1 x7).bind fun x28 => some (z03 .u32 ((z03 .u32 (x19 + x6)) + x28))) else some (z03 .u32 (x19 + x6)))) (tu1 fun x33 => ((idx x5 (z03 .i64 (p2 + x7))).bind fun x43 => z1b K p1 p2 k (List.set x5 (Int.toNat (z03 .i64 (p2 + x7))) (Int.tmod x33 1000000000)) (z03 .u32 (Int.tdiv x33 1000000000)) (z03 .i64 (x7 + 1)))))) else some x5)
def z2f (K : Nat) (p0 : List Int) (p1 : List Int) (p2 : Int) : Option (List Int) := (Option.bind (z1b K p1 p2 K p0 0 0) (tu1 fun x52 => some x52))
theorem z7v (v0 : Value) (p0 : List Int) (v1 : Value) (p1 : List Int) (hp1 : (rSl (rI .u32)).rep G [v1] p1) (p2 : Int) (O : Ow G H (eSl v0 145 (rI .u32) p0 :: L)) (r : List Int) (h : z2f K p0 p1 p2 = some r) :
    CR Tryd.prog 129 [v0, v1, (.int .i64 p2)] G H (eSl v0 145 (rI .u32) r :: L) (fun v G' _ => v = .tuple #[]) := by
 unfold z2f at h
 refine CR.og (n := 42) (fn := Tryd.f129) (by kernel_rfl) rfl rfl fun R kr => (.seq (.region (W.q1 (.int .u32 0) rfl (.nil (.seq (.region ?_))))))
 refine W.q1 (.int .i64 0) rfl (.nil ?_)
 obtain ⟨q1, h2, h3⟩ := z05 h
 refine AW.midT (fun σ' H' => ∃ (y1 : List Int) (G' : GM), y1 = q1 /\ Ow G' H' (eSl v0 145 (rI .u32) y1 :: L) /\ GM.le G G') ?_ ?_
 rotate_left
 .rintro σ53 H54 fr55 ⟨x52, G56, rfl, O57, s58⟩
  have h60 := z0c h3
  obtain rfl := zAa h60
  exact ziu kr  (by rfl)  O57 s58 rfl
 refine .block (AW.loop (α := Nat) (fun k' σ' H' => ∃ (y1 : List Int) (y2 : Int) (y3 : Int) (G' : GM), z1b K p1 p2 k' y1 y2 y3 = some q1 /\ Ow G' H' (eSl v0 145 (rI .u32) y1 :: L) /\ GM.le G G' /\ σ' 6 = .int .u32 y2 /\ σ' 7 = .int .i64 y3) (fun k' => k') K ⟨p0, 0, 0, _, h2, O, (zAf _), rfl, rfl⟩ ?_)
 rintro k4
 rintro σ8 H9 fr10 ⟨x5, x6, x7, G11, h14, O12, s13, t15, t16⟩
 rcases k4 with _ | k4
 .exact z08 h14
 rw [z1b] at h14
 refine .seq (.seq (.region (W.q2 _ t16 (W.q2 v1 ((fr10 1 rfl).trans rfl) (W.pure (v := (.int .i64 (List.length p1 : Int))) rfl rfl (z0i (oo rfl rfl) (z0a (RT.mono _ s13 hp1)) (z02 el63)) (W.q3 (.bool (decide (x7 <= (List.length p1 : Int)))) rfl rfl ?_))))))
 refine .nil (.cond (b := decide (x7 <= (List.length p1 : Int))) rfl rfl (fun g17 => ?_) (fun g17 => ?_))
 rotate_left
 .have h51 := z0m g17 h14
  refine .exit ?_
  obtain rfl := zAa h51
  exact ⟨x5, _, rfl, O12, s13⟩
 have h18 := z04 g17 h14
 refine .skip (.seq (.block (.seq (.region (W.q2 v0 ((fr10 0 rfl).trans rfl) (W.q2 (.int .i64 p2) ((fr10 2 rfl).trans rfl) ?_))))))
 refine W.q2 _ t16 (W.q3 (.int .i64 (z03 .i64 (p2 + x7))) rfl rfl ?_)
 obtain ⟨x19, i20, h21⟩ := z05 h18
 have j22 := z0l i20
 refine W.pure (v := (z3f v0 (Int.toNat (z03 .i64 (p2 + x7)) * 1))) rfl rfl (z46 el63 z3g (oo rfl rfl) (oo rfl rfl) (O12.slLen (j := 0) rfl) j22.1 j22.2.1) (W.load1 (v := (.int .u32 x19)) (r := []) rfl rfl z7m (z26 rfl (At.int (O12.atSl (j := 0) rfl j22.2.2))) (W.q2 _ t15 (W.q3 (.int .u32 (z03 .u32 (x19 + x6))) rfl rfl (W.q1 (.int .u32 (z03 .u32 (x19 + x6))) rfl (.nil (.seq ?_))))))
 refine .seq (.region (W.q2 _ t16 (W.q2 v1 ((fr10 1 rfl).trans rfl) (W.pure (v := (.int .i64 (List.length p1 : Int))) rfl rfl (z0i (oo rfl rfl) (z0a (RT.mono _ s13 hp1)) (z02 el63)) (W.q3 (.bool (decide (x7 < (List.length p1 : Int)))) rfl rfl (.nil ?_))))))
 obtain ⟨q23, h24, h25⟩ := z05 h21
 refine AW.midT (fun σ' H' => ∃ (y1 : Int) (G' : GM), y1 = q23 /\ Ow G' H' (eSl v0 145 (rI .u32) x5 :: L) /\ GM.le G11 G' /\ σ' 8 = .int .u32 y1) ?_ ?_
 .refine .cond (b := decide (x7 < (List.length p1 : Int))) rfl rfl (fun g26 => ?_) (fun g26 => ?_)
  rotate_left
  .have h32 := z0m g26 h24
   refine .skip ?_
   obtain rfl := zAa h32
   exact ⟨z03 .u32 (x19 + x6), _, rfl, O12, (zAf _), rfl⟩
  have h27 := z04 g26 h24
  refine .region (W.q2 (.int .u32 (z03 .u32 (x19 + x6))) rfl (W.q2 v1 ((fr10 1 rfl).trans rfl) (W.q2 _ t16 ?_)))
  obtain ⟨x28, i29, h30⟩ := z05 h27
  have j31 := z0l i29
  refine W.pure (v := (z3f v1 (Int.toNat x7 * 1))) rfl rfl (z46 el63 z3g (oo rfl rfl) (oo rfl rfl) (z0a (RT.mono _ s13 hp1)) j31.1 j31.2.1) (W.load1 (v := (.int .u32 x28)) (r := []) rfl rfl z7m (z26 rfl (At.int (At.le (At.le (z2x hp1 j31.2.2) s13 s13) (zAf _) O12.fro))) (W.q3 (.int .u32 (z03 .u32 ((z03 .u32 (x19 + x6)) + x28))) rfl rfl (W.q1 (.int .u32 (z03 .u32 ((z03 .u32 (x19 + x6)) + x28))) rfl (.nil ?_))))
  obtain rfl := zAa h30
  exact ⟨z03 .u32 ((z03 .u32 (x19 + x6)) + x28), _, rfl, O12, (zAf _), rfl⟩
 rintro σ34 H35 fr36 ⟨x33, G37, rfl, O38, s39, t41⟩
 have h42 := z0c h25
 refine .seq (.region (W.q2 _ t41 (W.pure (v := (.int .u32 (z03 .u32 (Int.tdiv x33 1000000000)))) rfl rfl (zg1 (by decide) (oo rfl rfl) (oo rfl rfl)) (W.q1 (.int .u32 (z03 .u32 (Int.tdiv x33 1000000000))) rfl (.nil (.region ?_))))))
 refine W.q2 v0 ((fr36 0 rfl).trans ((fr10 0 rfl).trans rfl)) (W.q2 (.int .i64 p2) ((fr36 2 rfl).trans ((fr10 2 rfl).trans rfl)) (W.q2 _ ((fr36 7 rfl).trans t16) (W.q3 (.int .i64 (z03 .i64 (p2 + x7))) rfl rfl (W.q2 _ t41 (W.pure (v := (.int .u32 (Int.tmod x33 1000000000))) rfl rfl (zgy (by decide) (oo rfl rfl) (oo rfl rfl)) ?_)))))
 obtain ⟨x43, i44, h45⟩ := z05 h42
 have j46 := z0l i44
 refine W.pure (v := (z3f v0 (Int.toNat (z03 .i64 (p2 + x7)) * 1))) rfl rfl (z46 el63 z3g (oo rfl rfl) (oo rfl rfl) (O38.slLen (j := 0) rfl) j46.1 j46.2.1) (W.lo rfl rfl (Lo.storeSl0 (j := 0) (y0 := Int.tmod x33 1000000000) (v := (.int .u32 (Int.tmod x33 1000000000))) rfl j46.2.2  rfl z3g rfl rfl rfl O38) ?_)
 rintro v49 H50 ⟨O47, sm48⟩
 refine .nil (.region (W.q2 _ ((fr36 7 rfl).trans t16) (W.q3 (.int .i64 (z03 .i64 (x7 + 1))) rfl rfl (W.q1 (.int .i64 (z03 .i64 (x7 + 1))) rfl (.nil ?_)))))
 exact ⟨k4, zAg _, ⟨(List.set x5 (Int.toNat (z03 .i64 (p2 + x7))) (Int.tmod x33 1000000000)), z03 .u32 (Int.tdiv x33 1000000000), z03 .i64 (x7 + 1), _, h45, O47, (zAe s13 s39), rfl, rfl⟩⟩
def z28 (K : Nat) (p0 : List Int) : Nat -> List Int -> Option (List Int)
  | 0, _ => none
  | k + 1, x105 => (if (decide ((List.length x105 : Int) <= (List.length p0 : Int))) = true then (if List.length x105 + List.length [0] <= 16777216 then z28 K p0 k (x105 ++ [0]) else none) else some x105)
def z19 (K : Nat) (x88 : List Int) (x160 : List Int) (x161 : Int) : Nat -> Int -> Int -> Option (Int)
  | 0, _, _ => none
  | k + 1, x212, x213 => (Option.bind ((if (decide (x212 >= 1000000000)) = true then some true else ((idx x88 (z03 .i64 ((List.length x88 : Int) - 2))).bind fun x235 => (lt (z03 .i64 ((z03 .i64 (x161 + (List.length x88 : Int))) - 2)) fun x239 => ((idx x160 x239).bind fun x242 => (lt (z03 .u64 ((z03 .u64 (x213 * 1000000000)) + (IntKind.wrap .u64 x242))) fun x246 => (lt (decide ((z03 .u64 (x212 * (IntKind.wrap .u64 x235))) > x246)) fun x249 => some x249))))))) (tu1 fun x252 => (if x252 = true then ((idx x88 (z03 .i64 ((List.length x88 : Int) - 1))).bind fun x264 => (lt (decide ((z03 .u64 (x213 + (IntKind.wrap .u64 x264))) >= 1000000000)) fun x268 => (if x268 = true then some (z03 .u64 (x212 - 1)) else z19 K x88 x160 x161 k (z03 .u64 (x212 - 1)) (z03 .u64 (x213 + (IntKind.wrap .u64 x264)))))) else some x212)))
def z12 (K : Nat) (x88 : List Int) : Nat -> List Int -> List Int -> Int -> Option (List Int × List Int)
  | 0, _, _, _ => none
  | k + 1, x159, x160, x161 => (if (decide (x161 >= 0)) = true then ((idx x160 (z03 .i64 (x161 + (List.length x88 : Int)))).bind fun x177 => (lt (z03 .i64 ((z03 .i64 (x161 + (List.length x88 : Int))) - 1)) fun x181 => ((idx x160 x181).bind fun x184 => (lt (z03 .u64 ((z03 .u64 ((IntKind.wrap .u64 x177) * 1000000000)) + (IntKind.wrap .u64 x184))) fun x188 => ((idx x88 (z03 .i64 ((List.length x88 : Int) - 1))).bind fun x196 => (if (IntKind.wrap .u64 x196) ≠ 0 then ((idx x88 (z03 .i64 ((List.length x88 : Int) - 1))).bind fun x202 => (if (IntKind.wrap .u64 x202) ≠ 0 then (Option.bind (z19 K x88 x160 x161 K (z03 .u64 (Int.tdiv x188 (IntKind.wrap .u64 x196))) (Int.tmod x188 (IntKind.wrap .u64 x202))) (tu1 fun x275 => ((z23 K x160 x88 x161 x275).bind fun x286 => (Option.bind ((if x286.1 = true then ((z2f K x286.2 x88 x161).bind fun x302 => some (x302, z03 .u64 (x275 - 1))) else some (x286.2, x275))) (tu2 fun x314 x315 => ((idx x159 x161).bind fun x325 => z12 K x88 k (List.set x159 (Int.toNat x161) (IntKind.wrap .u32 x315)) x314 (z03 .i64 (x161 - 1)))))))) else none)) else none)))))) else some (x159, x160))
def z3p (K : Nat) (p0 : List Int) (p1 : List Int) : Option (List Int × List Int) := ((z3n K p0 p1).bind fun x1 => (if (decide (x1 < 0)) = true then some ([], p0) else (if ((List.length p1 : Int) == 1) = true then ((idx p1 0).bind fun x17 => ((z2k K p0 x17).bind fun x21 => some (x21.1, x21.2))) else ((idx p1 (z03 .i64 ((List.length p1 : Int) - 1))).bind fun x37 => (if (z03 .u64 ((IntKind.wrap .u64 x37) + 1)) ≠ 0 then (lt (z03 .u64 (Int.tdiv (1000000000 : Int) (z03 .u64 ((IntKind.wrap .u64 x37) + 1)))) fun x43 => ((z3o K p0 [IntKind.wrap .u32 x43]).bind fun x54 => (if List.length x54 + List.length [0] <= 16777216 then ((z3o K p1 [IntKind.wrap .u32 x43]).bind fun x88 => (Option.bind (z28 K p0 K (x54 ++ [0])) (tu1 fun x130 => (lt (z03 .i64 ((List.length x130 : Int) - (List.length x88 : Int))) fun x139 => (if 0 <= x139 /\ x139 <= x139 /\ x139 <= 16777216 then (lt (z03 .i64 ((List.length x130 : Int) - (List.length x88 : Int))) fun x148 => (Option.bind (z12 K x88 K (List.replicate (Int.toNat x139) 0) x130 (z03 .i64 (x148 - 1))) (tu2 fun x337 x338 => ((z1f K x338).bind fun x348 => ((z2k K x348 (IntKind.wrap .u32 x43)).bind fun x365 => ((z1f K x337).bind fun x380 => some (x380, x365.1))))))) else none))))) else none))) else none)))))
theorem z8y (v0 : Value) (p0 : List Int) (hp0 : (rSl (rI .u32)).rep G [v0] p0) (v1 : Value) (p1 : List Int) (hp1 : (rSl (rI .u32)).rep G [v1] p1) (O : Ow G H (L)) (r : List Int × List Int) (h : z3p K p0 p1 = some r) :
    CR Tryd.prog 119 [v0, v1] G H (L) (fun v G' _ => ∃ (w0 : Value), ∃ (w1 : Value), v = .tuple #[w0, w1] /\ (rSl (rI .u32)).rep G' [w0] r.1 /\ (rSl (rI .u32)).rep G' [w1] r.2) := by
 unfold z3p at h
 refine CR.og (n := 171) (fn := Tryd.f119) (by kernel_rfl) rfl rfl fun R kr => (.seq (.region (W.q1 (.slice none 0 0) rfl (W.q1 (.slice none 0 0) rfl (.nil (.seq ?_))))))
 refine .seq (.region (W.q2 v0 rfl (W.q2 v1 rfl ?_)))
 obtain ⟨x1, i2, h3⟩ := z05 h
 refine W.lo rfl rfl (Lo.cP rfl (fn := Tryd.f91) (by kernel_rfl) rfl (mc rfl (mc rfl mn)) O (fun L' O' => z5r K v0 p0 hp0 v1 p1 hp1 O' _ i2)) ?_
 rintro v10 H11 ⟨G4, O5, s6, sm9, rfl⟩
 refine W.q3 (.bool (decide (x1 < 0))) rfl rfl (.nil (.cond (b := decide (x1 < 0)) rfl rfl (fun g12 => ?_) (fun g12 => ?_)))
 .have h13 := z04 g12 h3
  refine .seq (.region (W.q2 v0 rfl (W.q1 (.slice none 0 0) rfl (W.q1 v0 rfl (.nil (.ret ?_))))))
  obtain rfl := zAa h13
  exact zeh kr (v1 := (.slice none 0 0)) (v2 := v0) (by rfl) (z06 (by rfl) (by exact rfl)) (z06 (by rfl) (by exact rfl)) O5 s6 ⟨(.slice none 0 0), v0, rfl, zfz, (RT.mono _ s6 hp0)⟩
 have h14 := z0m g12 h3
 refine .skip (.seq (.seq (.region (W.q2 v1 rfl (W.pure (v := (.int .i64 (List.length p1 : Int))) rfl rfl (z0i (oo rfl rfl) (z0a (RT.mono _ s6 hp1)) (z02 el63)) (W.q3 (.bool ((List.length p1 : Int) == 1)) rfl rfl ?_))))))
 refine .nil (.cond (b := ((List.length p1 : Int) == 1)) rfl rfl (fun g15 => ?_) (fun g15 => ?_))
 .have h16 := z04 g15 h14
  refine .seq (.region (W.q2 v0 rfl (W.q2 v1 rfl ?_)))
  obtain ⟨x17, i18, h19⟩ := z05 h16
  have j20 := z0l i18
  refine W.pure (v := (z3f v1 (Int.toNat 0 * 1))) rfl rfl (z46 el63 z3g (oo rfl rfl) (oo rfl rfl) (z0a (RT.mono _ s6 hp1)) j20.1 j20.2.1) (W.load1 (v := (.int .u32 x17)) (r := []) rfl rfl z7m (z26 rfl (At.int (At.le (At.le (z2x hp1 j20.2.2) s6 s6) (zAf _) O5.fro))) ?_)
  obtain ⟨x21, i22, h23⟩ := z05 h19
  refine W.lo rfl rfl (Lo.cP rfl (fn := Tryd.f127) (by kernel_rfl) rfl (mc rfl (mc rfl mn)) O5 (fun L' O' => z4u K v0 p0 (RT.mono _ s6 hp0) x17 O' _ i22)) ?_
  rintro v34 H35 ⟨G24, O25, s26, sm33, ⟨w28, w30, rfl, f29, f31⟩⟩
  refine W.pure (v := w28) rfl rfl (z14 (oo rfl rfl) rfl) (W.pure (v := w30) rfl rfl (z14 (oo rfl rfl) rfl) (W.q1 w28 rfl (W.q1 w30 rfl (.nil (.ret ?_)))))
  obtain rfl := zAa h23
  exact zeh kr (v1 := w28) (v2 := w30) (by rfl) (z06 (by rfl) (by exact rfl)) (z06 (by rfl) (by exact rfl)) O25 (zAe s6 s26) ⟨w28, w30, rfl, f29, f31⟩
 have h36 := z0m g15 h14
 refine .skip (.seq (.region (W.q2 v1 rfl (W.q2 v1 rfl (W.pure (v := (.int .i64 (List.length p1 : Int))) rfl rfl (z0i (oo rfl rfl) (z0a (RT.mono _ s6 hp1)) (z02 el63)) (W.q3 (.int .i64 (z03 .i64 ((List.length p1 : Int) - 1))) rfl rfl ?_))))))
 obtain ⟨x37, i38, h39⟩ := z05 h36
 have j40 := z0l i38
 refine W.pure (v := (z3f v1 (Int.toNat (z03 .i64 ((List.length p1 : Int) - 1)) * 1))) rfl rfl (z46 el63 z3g (oo rfl rfl) (oo rfl rfl) (z0a (RT.mono _ s6 hp1)) j40.1 j40.2.1) (W.load1 (v := (.int .u32 x37)) (r := []) rfl rfl z7m (z26 rfl (At.int (At.le (At.le (z2x hp1 j40.2.2) s6 s6) (zAf _) O5.fro))) (W.pure (v := (.int .u64 (IntKind.wrap .u64 x37))) rfl rfl (z2w z6h z7n (oo rfl rfl)) (W.q3 (.int .u64 (z03 .u64 ((IntKind.wrap .u64 x37) + 1))) rfl rfl ?_)))
 obtain ⟨g41, h42⟩ := z4g h39
 refine W.pure (v := (.int .u64 (z03 .u64 (Int.tdiv (1000000000 : Int) (z03 .u64 ((IntKind.wrap .u64 x37) + 1)))))) rfl rfl (zg1 g41 (oo rfl rfl) (oo rfl rfl)) ?_
 obtain ⟨x43, e44, h45⟩ := z4j h42
 refine W.pure (v := (.int .u32 (IntKind.wrap .u32 x43))) rfl rfl (z2w z7n z6h (oo rfl (congrArg (Value.int .u64) e44))) (W.q1 (.int .u32 (IntKind.wrap .u32 x43)) rfl (.nil (.seq (.region (W.q2 v0 rfl (W.q2 (.int .u32 (IntKind.wrap .u32 x43)) rfl ?_))))))
 refine W.lo rfl rfl (Lo.buildSlice (r := (rI .u32)) (vs := [(.int .u32 (IntKind.wrap .u32 x43))]) (xs := [IntKind.wrap .u32 x43]) el63 zaq z3g (by kernel_rfl) rfl (qc rfl qn) rfl (.cons rfl .nil) O5) ?_
 rintro v48 H49 ⟨O46, sm47⟩
 obtain ⟨G50, O51, s52, f53⟩ := O46.frzSl (j := 0) rfl
 obtain ⟨x54, i55, h56⟩ := z05 h45
 refine W.lo rfl rfl (Lo.callPF (ps := []) (pw := fun w => [eSl w 145 (rI .u32) x54]) rfl (fn := Tryd.f87) (by kernel_rfl) rfl (mc rfl (mc rfl mn)) O51 (fun L' O' => z5s K v0 p0 (RT.mono _ (zAe s6 s52) hp0) v48 [IntKind.wrap .u32 x43] f53 O' _ i55)) ?_
 rintro v65 H66 ⟨w62, G57, O58, s59, sm64, rfl⟩
 refine W.lo rfl rfl (Lo.buildSlice (r := (rI .u32)) (vs := [(.int .u32 0)]) (xs := [0]) el63 zaq z3g (by kernel_rfl) rfl (qc rfl qn) rfl (.cons rfl .nil) O58) ?_
 rintro v69 H70 ⟨O67, sm68⟩
 obtain ⟨es72, e73, e74⟩ := z85 (j := 0) rfl O67
 obtain ⟨g75, h76⟩ := z4g h56
 refine W.lo rfl rfl (Lo.append (j := 1) (v := w62) rfl rfl el63 ni63 zaq z3g zg4 (by decide) (by decide) rfl e73 e74 g75 O67) ?_
 rintro v78 H79 ⟨O71, sm77⟩
 refine W.q2 v1 rfl (W.q2 (.int .u32 (IntKind.wrap .u32 x43)) rfl (W.lo rfl rfl (Lo.buildSlice (r := (rI .u32)) (vs := [(.int .u32 (IntKind.wrap .u32 x43))]) (xs := [IntKind.wrap .u32 x43]) el63 zaq z3g (by kernel_rfl) rfl (qc rfl qn) rfl (.cons rfl .nil) O71) ?_))
 rintro v82 H83 ⟨O80, sm81⟩
 obtain ⟨G84, O85, s86, f87⟩ := O80.frzSl (j := 0) rfl
 obtain ⟨x88, i89, h90⟩ := z05 h76
 refine W.lo rfl rfl (Lo.callPF (ps := []) (pw := fun w => [eSl w 145 (rI .u32) x88]) rfl (fn := Tryd.f87) (by kernel_rfl) rfl (mc rfl (mc rfl mn)) O85 (fun L' O' => z5s K v1 p1 (RT.mono _ (zAe s6 (zAe s52 (zAe s59 s86))) hp1) v82 [IntKind.wrap .u32 x43] f87 O' _ i89)) ?_
 rintro v99 H100 ⟨w96, G91, O92, s93, sm98, rfl⟩
 refine W.q1 v78 rfl (W.q1 w96 rfl (.nil (.seq ?_)))
 obtain ⟨q101, h102, h103⟩ := z05 h90
 refine AW.midT (fun σ' H' => ∃ (y1 : List Int) (G' : GM), y1 = q101 /\ Ow G' H' (eSl w96 145 (rI .u32) x88 :: eSl v69 145 (rI .u32) [0] :: eSl (σ' 7) 145 (rI .u32) y1 :: L) /\ GM.le G91 G') ?_ ?_
 .refine .block (AW.loop (α := Nat) (fun k' σ' H' => ∃ (y1 : List Int) (G' : GM), z28 K p0 k' y1 = some q101 /\ Ow G' H' (eSl w96 145 (rI .u32) x88 :: eSl v69 145 (rI .u32) [0] :: eSl (σ' 7) 145 (rI .u32) y1 :: L) /\ GM.le G91 G') (fun k' => k') K ⟨(x54 ++ [0]), _, h102, O92, (zAf _)⟩ ?_)
  rintro k104
  rintro σ106 H107 fr108 ⟨x105, G109, h112, O110, s111⟩
  rcases k104 with _ | k104
  .exact z08 h112
  rw [z28] at h112
  refine .seq (.seq (.region (W.q2 (σ106 7) rfl (W.pure (v := (.int .i64 (List.length x105 : Int))) rfl rfl (z0i (oo rfl rfl) (O110.slLen (j := 2) rfl) (z02 el63)) (W.q2 v0 ((fr108 0 rfl).trans rfl) (W.pure (v := (.int .i64 (List.length p0 : Int))) rfl rfl (z0i (oo rfl rfl) (z0a (RT.mono _ (zAe s6 (zAe s52 (zAe s59 (zAe s86 (zAe s93 s111))))) hp0)) (z02 el63)) ?_))))))
  refine W.q3 (.bool (decide ((List.length x105 : Int) <= (List.length p0 : Int)))) rfl rfl (.nil (.cond (b := decide ((List.length x105 : Int) <= (List.length p0 : Int))) rfl rfl (fun g113 => ?_) (fun g113 => ?_)))
  rotate_left
  .have h129 := z0m g113 h112
   refine .exit ?_
   obtain rfl := zAa h129
   exact ⟨x105, _, rfl, O110, s111⟩
  have h114 := z04 g113 h112
  refine .skip (.block (.region (W.q2 (σ106 7) rfl (W.lo rfl rfl (Lo.buildSlice (r := (rI .u32)) (vs := [(.int .u32 0)]) (xs := [0]) el63 zaq z3g (by kernel_rfl) rfl (qc rfl qn) rfl (.cons rfl .nil) O110) ?_))))
  rintro v117 H118 ⟨O115, sm116⟩
  obtain ⟨es120, e121, e122⟩ := z85 (j := 0) rfl O115
  obtain ⟨g123, h124⟩ := z4g h114
  refine W.lo rfl rfl (Lo.append (j := 3) (v := (σ106 7)) rfl rfl el63 ni63 zaq z3g zg4 (by decide) (by decide) rfl e121 e122 g123 O115) ?_
  rintro v126 H127 ⟨O119, sm125⟩
  refine W.q1 v126 rfl (.nil ?_)
  have O128 : Ow G109 H127 (eSl w96 145 (rI .u32) x88 :: eSl v69 145 (rI .u32) [0] :: eSl v126 145 (rI .u32) (x105 ++ [0]) :: L) := O119.drop 0
  exact ⟨k104, zAg _, ⟨(x105 ++ [0]), _, h124, O128, s111⟩⟩
 rintro σ131 H132 fr133 ⟨x130, G134, rfl, O135, s136⟩
 have h138 := z0c h103
 refine .seq (.region (W.q2 w96 ((fr133 8 rfl).trans rfl) (W.pure (v := (.int .i64 (List.length x88 : Int))) rfl rfl (z0i (oo rfl rfl) (O135.slLen (j := 0) rfl) (z02 el63)) (W.q1 (.int .i64 (List.length x88 : Int)) rfl (.nil (.seq ?_))))))
 refine .region (W.q2 (σ131 7) rfl (W.pure (v := (.int .i64 (List.length x130 : Int))) rfl rfl (z0i (oo rfl rfl) (O135.slLen (j := 2) rfl) (z02 el63)) (W.q2 (.int .i64 (List.length x88 : Int)) rfl (W.q3 (.int .i64 (z03 .i64 ((List.length x130 : Int) - (List.length x88 : Int)))) rfl rfl ?_))))
 obtain ⟨x139, e140, h141⟩ := z4j h138
 obtain ⟨g143, h144⟩ := z4g h141
 refine W.lo rfl rfl (Lo.makeSlice (r := (rI .u32)) (x0 := 0) (a := x139) (c := x139) rfl el63 zaq z3g (by kernel_rfl) rfl zg4 (by decide) (congrArg (Value.int .i64) e140) (congrArg (Value.int .i64) e140) g143 (zI .u32) O135) ?_
 rintro v146 H147 ⟨O142, sm145⟩
 refine W.q1 v146 rfl (.nil (.seq (.seq (.region (W.q2 (σ131 7) rfl (W.pure (v := (.int .i64 (List.length x130 : Int))) rfl rfl (z0i (oo rfl rfl) (O142.slLen (j := 3) rfl) (z02 el63)) ?_))))))
 refine W.q2 (.int .i64 (List.length x88 : Int)) rfl (W.q3 (.int .i64 (z03 .i64 ((List.length x130 : Int) - (List.length x88 : Int)))) rfl rfl ?_)
 obtain ⟨x148, e149, h150⟩ := z4j h144
 refine W.q3 (.int .i64 (z03 .i64 (x148 - 1))) (congrArg (Value.int .i64) e149) rfl (W.q1 (.int .i64 (z03 .i64 (x148 - 1))) rfl (.nil ?_))
 obtain ⟨G151, O152, s153, f154⟩ := O142.frzSl (j := 1) rfl
 obtain ⟨q155, h156, h157⟩ := z05 h150
 refine AW.midT (fun σ' H' => ∃ (y1 : List Int) (y2 : List Int) (G' : GM), (y1, y2) = q155 /\ Ow G' H' (eSl v146 145 (rI .u32) y1 :: eSl v69 145 (rI .u32) [0] :: eSl (σ131 7) 145 (rI .u32) y2 :: L) /\ GM.le G151 G') ?_ ?_
 rotate_left
 .rintro σ339 H340 fr341 ⟨x337, x338, G342, rfl, O343, s344⟩
  have h346 := z57 h157
  refine .seq (.region (W.q2 (σ131 7) ((fr341 7 rfl).trans rfl) ?_))
  have O347 : Ow G342 H340 (eSl (σ131 7) 145 (rI .u32) x338 :: eSl v146 145 (rI .u32) x337 :: eSl v69 145 (rI .u32) [0] :: L) := O343.front (j := 2) rfl
  obtain ⟨x348, i349, h350⟩ := z05 h346
  refine W.lo rfl rfl (Lo.callPF (ps := [eSl (σ131 7) 145 (rI .u32) x338]) (pw := fun w => [eSl w 145 (rI .u32) x348]) rfl (fn := Tryd.f118) (by kernel_rfl) rfl (mc rfl mn) O347 (fun L' O' => z1z K (σ131 7) x338 O' _ i349)) ?_
  rintro v359 H360 ⟨w356, G351, O352, s353, sm358, rfl⟩
  refine W.q2 (.int .u32 (IntKind.wrap .u32 x43)) ((fr341 6 rfl).trans ((fr133 6 rfl).trans rfl)) ?_
  obtain ⟨G361, O362, s363, f364⟩ := O352.frzSl (j := 0) rfl
  obtain ⟨x365, i366, h367⟩ := z05 h350
  refine W.lo rfl rfl (Lo.cP rfl (fn := Tryd.f127) (by kernel_rfl) rfl (mc rfl (mc rfl mn)) O362 (fun L' O' => z4u K w356 x348 f364 (IntKind.wrap .u32 x43) O' _ i366)) ?_
  rintro v378 H379 ⟨G368, O369, s370, sm377, ⟨w372, w374, rfl, f373, f375⟩⟩
  refine W.q2 (.tuple #[w372, w374]) rfl (W.pure (v := w372) rfl rfl (z14 (oo rfl rfl) rfl) (W.pure (v := w374) rfl rfl (z14 (oo rfl rfl) rfl) (W.q1 w372 rfl (W.q1 w374 rfl (.nil (.seq ?_))))))
  refine .region (W.q2 v146 ((fr341 10 rfl).trans rfl) ?_)
  obtain ⟨x380, i381, h382⟩ := z05 h367
  refine W.lo rfl rfl (Lo.callPF (ps := [eSl v146 145 (rI .u32) x337]) (pw := fun w => [eSl w 145 (rI .u32) x380]) rfl (fn := Tryd.f118) (by kernel_rfl) rfl (mc rfl mn) O369 (fun L' O' => z1z K v146 x337 O' _ i381)) ?_
  rintro v391 H392 ⟨w388, G383, O384, s385, sm390, rfl⟩
  refine W.q2 w372 rfl (W.q1 w388 rfl (W.q1 w372 rfl (.nil (.ret ?_))))
  obtain ⟨G393, O394, s395, f396⟩ := O384.frzSl (j := 0) rfl
  have O397 : Ow G393 H392 (L) := O394.drop 0
  obtain rfl := zAa h382
  exact zeh kr (v1 := w388) (v2 := w372) (by rfl) (z06 (by rfl) (by exact rfl)) (z06 (by rfl) (by exact rfl)) O397 (zAe s6 (zAe s52 (zAe s59 (zAe s86 (zAe s93 (zAe s136 (zAe s153 (zAe s344 (zAe s353 (zAe s363 (zAe s370 (zAe s385 s395)))))))))))) ⟨w388, w372, rfl, f396, (RT.mono _ (zAe s385 s395) f373)⟩
 refine .block (AW.loop (α := Nat) (fun k' σ' H' => ∃ (y1 : List Int) (y2 : List Int) (y3 : Int) (G' : GM), z12 K x88 k' y1 y2 y3 = some q155 /\ Ow G' H' (eSl v146 145 (rI .u32) y1 :: eSl v69 145 (rI .u32) [0] :: eSl (σ131 7) 145 (rI .u32) y2 :: L) /\ GM.le G151 G' /\ σ' 11 = .int .i64 y3) (fun k' => k') K ⟨(List.replicate (Int.toNat x139) 0), x130, z03 .i64 (x148 - 1), _, h156, O152, (zAf _), rfl⟩ ?_)
 rintro k158
 rintro σ162 H163 fr164 ⟨x159, x160, x161, G165, h168, O166, s167, t169⟩
 rcases k158 with _ | k158
 .exact z08 h168
 rw [z12] at h168
 refine .seq (.seq (.region (W.q2 _ t169 (W.q3 (.bool (decide (x161 >= 0))) rfl rfl (.nil (.cond (b := decide (x161 >= 0)) rfl rfl (fun g170 => ?_) (fun g170 => ?_)))))))
 rotate_left
 .have h336 := z0m g170 h168
  refine .exit ?_
  obtain rfl := zAa h336
  exact ⟨x159, x160, _, rfl, O166, s167⟩
 have h171 := z04 g170 h168
 refine .skip (.seq (.block (.seq (.draw2 (M := [0, 0, 0, 6, 15, 31, 63, 127, 0, 0, 0, 1536, 3584, 7936, 16128, 32512, 65535, 131071]) mixed (by kernel_rfl) (by kernel_rfl) fun H172 N176 x173 F175 => ?_))))
 have O174 := O166.ext x173
 refine D2.q2 (σ131 7) ((fr164 7 rfl).trans rfl) (D2.q2 _ t169 (D2.q2 (.int .i64 (List.length x88 : Int)) ((fr164 9 rfl).trans rfl) (D2.q3 (.int .i64 (z03 .i64 (x161 + (List.length x88 : Int)))) rfl rfl ?_)))
 obtain ⟨x177, i178, h179⟩ := z05 h171
 have j180 := z0l i178
 refine D2.pure (v := (z3f (σ131 7) (Int.toNat (z03 .i64 (x161 + (List.length x88 : Int))) * 1))) rfl rfl (z46 el63 z3g (oo rfl rfl) (oo rfl rfl) (O174.slLen (j := 2) rfl) j180.1 j180.2.1) (D2.load1' (v := (.int .u32 x177)) (r := []) rfl rfl z7m (z26 rfl (At.int (O174.atSl (j := 2) rfl j180.2.2))) z1k (D2.pure (v := (.int .u64 (IntKind.wrap .u64 x177))) rfl rfl (z2w z6h z7n (oo rfl rfl)) (D2.q3 (.int .u64 (z03 .u64 ((IntKind.wrap .u64 x177) * 1000000000))) rfl rfl (D2.q2 (σ131 7) ((fr164 7 rfl).trans rfl) (D2.q2 _ t169 (D2.q2 (.int .i64 (List.length x88 : Int)) ((fr164 9 rfl).trans rfl) ?_))))))
 refine D2.q3 (.int .i64 (z03 .i64 (x161 + (List.length x88 : Int)))) rfl rfl (D2.q3 (.int .i64 (z03 .i64 ((z03 .i64 (x161 + (List.length x88 : Int))) - 1))) rfl rfl ?_)
 obtain ⟨x181, e182, h183⟩ := z4j h179
 obtain ⟨x184, i185, h186⟩ := z05 h183
 have j187 := z0l i185
 refine D2.pure (v := (z3f (σ131 7) (Int.toNat x181 * 1))) rfl rfl (z46 el63 z3g (oo rfl rfl) (oo rfl (congrArg (Value.int .i64) e182)) (O174.slLen (j := 2) rfl) j187.1 j187.2.1) (D2.load1' (v := (.int .u32 x184)) (r := []) rfl rfl z7m (z26 rfl (At.int (O174.atSl (j := 2) rfl j187.2.2))) z1k (D2.pure (v := (.int .u64 (IntKind.wrap .u64 x184))) rfl rfl (z2w z6h z7n (oo rfl rfl)) (D2.q3 (.int .u64 (z03 .u64 ((z03 .u64 ((IntKind.wrap .u64 x177) * 1000000000)) + (IntKind.wrap .u64 x184)))) rfl rfl ?_)))
 obtain ⟨x188, e189, h190⟩ := z4j h186
 refine D2.q1 _ (congrArg (Value.int .u64) e189) (.nil (.seq (.draw2 (M := [0, 0, 0, 4, 14, 30, 62, 127, 0, 0, 0, 1024, 3584, 7680, 15872, 32512, 255, 131071]) mixed (by kernel_rfl) (by kernel_rfl) fun H191 N195 x192 F194 => ?_)))
 have O193 := O174.ext x192
 refine D2.q2 (.int .u64 x188) rfl (D2.q2 w96 ((fr164 8 rfl).trans ((fr133 8 rfl).trans rfl)) (D2.q2 (.int .i64 (List.length x88 : Int)) ((fr164 9 rfl).trans rfl) (D2.q3 (.int .i64 (z03 .i64 ((List.length x88 : Int) - 1))) rfl rfl ?_)))
 obtain ⟨x196, i197, h198⟩ := z05 h190
 have j199 := z0l i197
 refine D2.pure (v := (z3f w96 (Int.toNat (z03 .i64 ((List.length x88 : Int) - 1)) * 1))) rfl rfl (z46 el63 z3g (oo rfl rfl) (oo rfl rfl) (z0a (RT.mono _ s167 f154)) j199.1 j199.2.1) (D2.load1' (v := (.int .u32 x196)) (r := []) rfl rfl z7m (z26 rfl (At.int (At.le (At.le (z2x f154 j199.2.2) s167 s167) (zAf _) O193.fro))) z1k (D2.pure (v := (.int .u64 (IntKind.wrap .u64 x196))) rfl rfl (z2w z6h z7n (oo rfl rfl)) ?_))
 obtain ⟨g200, h201⟩ := z4g h198
 refine D2.pure (v := (.int .u64 (z03 .u64 (Int.tdiv x188 (IntKind.wrap .u64 x196))))) rfl rfl (zg1 g200 (oo rfl rfl) (oo rfl rfl)) (D2.q2 (.int .u64 x188) rfl (D2.q2 w96 ((fr164 8 rfl).trans ((fr133 8 rfl).trans rfl)) (D2.q2 (.int .i64 (List.length x88 : Int)) ((fr164 9 rfl).trans rfl) (D2.q3 (.int .i64 (z03 .i64 ((List.length x88 : Int) - 1))) rfl rfl ?_))))
 obtain ⟨x202, i203, h204⟩ := z05 h201
 have j205 := z0l i203
 refine D2.pure (v := (z3f w96 (Int.toNat (z03 .i64 ((List.length x88 : Int) - 1)) * 1))) rfl rfl (z46 el63 z3g (oo rfl rfl) (oo rfl rfl) (z0a (RT.mono _ s167 f154)) j205.1 j205.2.1) (D2.load1' (v := (.int .u32 x202)) (r := []) rfl rfl z7m (z26 rfl (At.int (At.le (At.le (z2x f154 j205.2.2) s167 s167) (zAf _) O193.fro))) z1k (D2.pure (v := (.int .u64 (IntKind.wrap .u64 x202))) rfl rfl (z2w z6h z7n (oo rfl rfl)) ?_))
 obtain ⟨g206, h207⟩ := z4g h204
 refine D2.pure (v := (.int .u64 (Int.tmod x188 (IntKind.wrap .u64 x202)))) rfl rfl (zgy g206 (oo rfl rfl) (oo rfl rfl)) (D2.q1 (.int .u64 (z03 .u64 (Int.tdiv x188 (IntKind.wrap .u64 x196)))) rfl (D2.q1 (.int .u64 (Int.tmod x188 (IntKind.wrap .u64 x202))) rfl (.nil (.seq ?_))))
 obtain ⟨q208, h209, h210⟩ := z05 h207
 refine AW.midT (fun σ' H' => ∃ (y1 : Int) (G' : GM), y1 = q208 /\ Ow G' H' (eSl v146 145 (rI .u32) x159 :: eSl v69 145 (rI .u32) [0] :: eSl (σ131 7) 145 (rI .u32) x160 :: L) /\ GM.le G165 G' /\ σ' 13 = .int .u64 y1) ?_ ?_
 rotate_left
 .rintro σ276 H277 fr278 ⟨x275, G279, rfl, O280, s281, t283⟩
  have h284 := z0c h210
  refine .seq (.seq (.region (W.q2 (σ131 7) ((fr278 7 rfl).trans ((fr164 7 rfl).trans rfl)) (W.q2 w96 ((fr278 8 rfl).trans ((fr164 8 rfl).trans ((fr133 8 rfl).trans rfl))) (W.q2 _ ((fr278 11 rfl).trans t169) (W.q2 _ t283 ?_))))))
  have O285 : Ow G279 H277 (eSl (σ131 7) 145 (rI .u32) x160 :: eSl v146 145 (rI .u32) x159 :: eSl v69 145 (rI .u32) [0] :: L) := O280.front (j := 2) rfl
  obtain ⟨x286, i287, h288⟩ := z05 h284
  refine W.lo rfl rfl (Lo.callP (ps := [eSl (σ131 7) 145 (rI .u32) x160]) (ps' := [eSl (σ131 7) 145 (rI .u32) x286.2]) rfl (fn := Tryd.f128) (by kernel_rfl) rfl (mc rfl (mc rfl (mc rfl (mc rfl mn)))) O285 (fun L' O' => z7b K (σ131 7) x160 w96 x88 (RT.mono _ (zAe s167 s281) f154) x161 x275 O' _ i287)) ?_
  rintro v295 H296 ⟨G289, O290, s291, sm294, rfl⟩
  refine .nil ?_
  obtain ⟨q297, h298, h299⟩ := z05 h288
  refine AW.midT (fun σ' H' => ∃ (y1 : List Int) (y2 : Int) (G' : GM), (y1, y2) = q297 /\ Ow G' H' (eSl (σ131 7) 145 (rI .u32) y1 :: eSl v146 145 (rI .u32) x159 :: eSl v69 145 (rI .u32) [0] :: L) /\ GM.le G289 G' /\ σ' 13 = .int .u64 y2) ?_ ?_
  .refine .cond (b := x286.1) rfl rfl (fun g300 => ?_) (fun g300 => ?_)
   rotate_left
   .have h313 := z0m g300 h298
    refine .skip ?_
    obtain rfl := zAa h313
    exact ⟨x286.2, x275, _, rfl, O290, (zAf _), t283⟩
   have h301 := z04 g300 h298
   refine .seq (.region (W.q2 _ t283 (W.q3 (.int .u64 (z03 .u64 (x275 - 1))) rfl rfl (W.q1 (.int .u64 (z03 .u64 (x275 - 1))) rfl (.nil (.region ?_))))))
   refine W.q2 (σ131 7) ((fr278 7 rfl).trans ((fr164 7 rfl).trans rfl)) (W.q2 w96 ((fr278 8 rfl).trans ((fr164 8 rfl).trans ((fr133 8 rfl).trans rfl))) (W.q2 _ ((fr278 11 rfl).trans t169) ?_))
   obtain ⟨x302, i303, h304⟩ := z05 h301
   refine W.lo rfl rfl (Lo.callP (ps := [eSl (σ131 7) 145 (rI .u32) x286.2]) (ps' := [eSl (σ131 7) 145 (rI .u32) x302]) rfl (fn := Tryd.f129) (by kernel_rfl) rfl (mc rfl (mc rfl (mc rfl mn))) O290 (fun L' O' => z7v K (σ131 7) x286.2 w96 x88 (RT.mono _ (zAe s167 (zAe s281 s291)) f154) x161 O' _ i303)) ?_
   rintro v311 H312 ⟨G305, O306, s307, sm310, rfl⟩
   refine .nil ?_
   obtain rfl := zAa h304
   exact ⟨x302, z03 .u64 (x275 - 1), _, rfl, O306, s307, rfl⟩
  rintro σ316 H317 fr318 ⟨x314, x315, G319, rfl, O320, s321, t323⟩
  have h324 := z57 h299
  refine .region (W.q2 v146 ((fr318 10 rfl).trans ((fr278 10 rfl).trans ((fr164 10 rfl).trans rfl))) (W.q2 _ ((fr318 11 rfl).trans ((fr278 11 rfl).trans t169)) (W.q2 _ t323 (W.pure (v := (.int .u32 (IntKind.wrap .u32 x315))) rfl rfl (z2w z7n z6h (oo rfl rfl)) ?_))))
  obtain ⟨x325, i326, h327⟩ := z05 h324
  have j328 := z0l i326
  refine W.pure (v := (z3f v146 (Int.toNat x161 * 1))) rfl rfl (z46 el63 z3g (oo rfl rfl) (oo rfl rfl) (O320.slLen (j := 1) rfl) j328.1 j328.2.1) (W.lo rfl rfl (Lo.storeSl0 (j := 1) (y0 := IntKind.wrap .u32 x315) (v := (.int .u32 (IntKind.wrap .u32 x315))) rfl j328.2.2  rfl z3g rfl rfl rfl O320) ?_)
  rintro v331 H332 ⟨O329, sm330⟩
  refine .nil (.region (W.q2 _ ((fr318 11 rfl).trans ((fr278 11 rfl).trans t169)) (W.q3 (.int .i64 (z03 .i64 (x161 - 1))) rfl rfl (W.q1 (.int .i64 (z03 .i64 (x161 - 1))) rfl (.nil ?_)))))
  have O333 : Ow G319 H332 (eSl (σ131 7) 145 (rI .u32) x314 :: eSl v146 145 (rI .u32) (List.set x159 (Int.toNat x161) (IntKind.wrap .u32 x315)) :: eSl v69 145 (rI .u32) [0] :: L) := O329.front (j := 0) rfl
  have O334 : Ow G319 H332 (eSl v69 145 (rI .u32) [0] :: eSl (σ131 7) 145 (rI .u32) x314 :: eSl v146 145 (rI .u32) (List.set x159 (Int.toNat x161) (IntKind.wrap .u32 x315)) :: L) := O333.front (j := 2) rfl
  have O335 : Ow G319 H332 (eSl v146 145 (rI .u32) (List.set x159 (Int.toNat x161) (IntKind.wrap .u32 x315)) :: eSl v69 145 (rI .u32) [0] :: eSl (σ131 7) 145 (rI .u32) x314 :: L) := O334.front (j := 2) rfl
  exact ⟨k158, zAg _, ⟨(List.set x159 (Int.toNat x161) (IntKind.wrap .u32 x315)), x314, z03 .i64 (x161 - 1), _, h327, O335, (zAe s167 (zAe s281 (zAe s291 s321))), rfl⟩⟩
 refine .block (AW.loop (α := Nat) (fun k' σ' H' => ∃ (y1 : Int) (y2 : Int) (G' : GM), z19 K x88 x160 x161 k' y1 y2 = some q208 /\ Ow G' H' (eSl v146 145 (rI .u32) x159 :: eSl v69 145 (rI .u32) [0] :: eSl (σ131 7) 145 (rI .u32) x160 :: L) /\ GM.le G165 G' /\ σ' 13 = .int .u64 y1 /\ σ' 14 = .int .u64 y2) (fun k' => k') K ⟨z03 .u64 (Int.tdiv x188 (IntKind.wrap .u64 x196)), Int.tmod x188 (IntKind.wrap .u64 x202), _, h209, O193, (zAf _), rfl, rfl⟩ ?_)
 rintro k211
 rintro σ214 H215 fr216 ⟨x212, x213, G217, h220, O218, s219, t221, t222⟩
 rcases k211 with _ | k211
 .exact z08 h220
 rw [z19] at h220
 refine .seq (.seq ?_)
 obtain ⟨q223, h224, h225⟩ := z05 h220
 refine AW.midT (fun σ' H' => ∃ (y1 : Bool) (G' : GM), y1 = q223 /\ Ow G' H' (eSl v146 145 (rI .u32) x159 :: eSl v69 145 (rI .u32) [0] :: eSl (σ131 7) 145 (rI .u32) x160 :: L) /\ GM.le G217 G' /\ σ' 132 = .bool y1) ?_ ?_
 rotate_left
 .rintro σ253 H254 fr255 ⟨x252, G256, rfl, O257, s258, t260⟩
  have h261 := z0c h225
  refine .cond (b := x252) rfl t260 (fun g262 => ?_) (fun g262 => ?_)
  rotate_left
  .have h274 := z0m g262 h261
   refine .exit ?_
   obtain rfl := zAa h274
   exact ⟨x212, _, rfl, O257, (zAe s219 s258), ((fr255 13 rfl).trans t221)⟩
  have h263 := z04 g262 h261
  refine .skip (.block (.seq (.region (W.q2 _ ((fr255 13 rfl).trans t221) (W.q3 (.int .u64 (z03 .u64 (x212 - 1))) rfl rfl (W.q1 (.int .u64 (z03 .u64 (x212 - 1))) rfl ?_))))))
  refine .nil (.seq (.region (W.q2 _ ((fr255 14 rfl).trans t222) (W.q2 w96 ((fr255 8 rfl).trans ((fr216 8 rfl).trans ((fr164 8 rfl).trans ((fr133 8 rfl).trans rfl)))) (W.q2 (.int .i64 (List.length x88 : Int)) ((fr255 9 rfl).trans ((fr216 9 rfl).trans ((fr164 9 rfl).trans rfl))) (W.q3 (.int .i64 (z03 .i64 ((List.length x88 : Int) - 1))) rfl rfl ?_))))))
  obtain ⟨x264, i265, h266⟩ := z05 h263
  have j267 := z0l i265
  refine W.pure (v := (z3f w96 (Int.toNat (z03 .i64 ((List.length x88 : Int) - 1)) * 1))) rfl rfl (z46 el63 z3g (oo rfl rfl) (oo rfl rfl) (z0a (RT.mono _ (zAe s167 (zAe s219 s258)) f154)) j267.1 j267.2.1) (W.load1 (v := (.int .u32 x264)) (r := []) rfl rfl z7m (z26 rfl (At.int (At.le (At.le (z2x f154 j267.2.2) (zAe s167 (zAe s219 s258)) (zAe s167 (zAe s219 s258))) (zAf _) O257.fro))) (W.pure (v := (.int .u64 (IntKind.wrap .u64 x264))) rfl rfl (z2w z6h z7n (oo rfl rfl)) (W.q3 (.int .u64 (z03 .u64 (x213 + (IntKind.wrap .u64 x264)))) rfl rfl (W.q1 (.int .u64 (z03 .u64 (x213 + (IntKind.wrap .u64 x264)))) rfl (.nil (.seq ?_))))))
  refine .region (W.q2 (.int .u64 (z03 .u64 (x213 + (IntKind.wrap .u64 x264)))) rfl (W.q3 (.bool (decide ((z03 .u64 (x213 + (IntKind.wrap .u64 x264))) >= 1000000000))) rfl rfl ?_))
  obtain ⟨x268, e269, h270⟩ := z4j h266
  refine .nil (.cond (b := x268) rfl (congrArg (Value.bool) e269) (fun g271 => ?_) (fun g271 => ?_))
  .have h272 := z04 g271 h270
   refine .exit ?_
   obtain rfl := zAa h272
   exact ⟨z03 .u64 (x212 - 1), _, rfl, O257, (zAe s219 s258), rfl⟩
  have h273 := z0m g271 h270
  refine .skip ?_
  exact ⟨k211, zAg _, ⟨z03 .u64 (x212 - 1), z03 .u64 (x213 + (IntKind.wrap .u64 x264)), _, h273, O257, (zAe s219 s258), rfl, rfl⟩⟩
 refine .draw2 (M := [0, 1, 3, 7, 7, 7, 39, 119, 247, 503, 1023, 7, 2055, 7, 7, 7, 49159, 114695, 253959, 516103, 1040391, 2095111, 4194303, 8388607]) mixed (by kernel_rfl) (by kernel_rfl) fun H226 N230 x227 F229 => ?_
 have O228 := O218.ext x227
 refine D2.q2 _ t221 (D2.q3 (.bool (decide (x212 >= 1000000000))) rfl rfl (D2.q2 (.bool (decide (x212 >= 1000000000))) rfl (D2.splitAt (t := 111) (b := decide (x212 >= 1000000000)) rfl (fun g231 gv232 => ?_) (fun g231 gv232 => ?_))))
 .have h233 := z04 g231 h224
  refine D2.skip (gk rfl rfl gv232 rfl) rfl (D2.skip (gk rfl rfl gv232 rfl) rfl (D2.skip (gk rfl rfl gv232 rfl) rfl (D2.skip (gk rfl rfl gv232 rfl) rfl (D2.skip (gk rfl rfl gv232 rfl) rfl (D2.skip (gk rfl rfl gv232 rfl) rfl (D2.skip (gk rfl rfl gv232 rfl) rfl ?_))))))
  refine D2.skip (gk rfl rfl gv232 rfl) rfl (D2.skip (gk rfl rfl gv232 rfl) rfl (D2.skip (gk rfl rfl gv232 rfl) rfl (D2.skip (gk rfl rfl gv232 rfl) rfl (D2.skip (gk rfl rfl gv232 rfl) rfl (D2.skip (gk rfl rfl gv232 rfl) rfl (D2.skip (gk rfl rfl gv232 rfl) rfl ?_))))))
  refine D2.skip (gk rfl rfl gv232 rfl) rfl (D2.skip (gk rfl rfl gv232 rfl) rfl (D2.skip (gk rfl rfl gv232 rfl) rfl (D2.skip (gk rfl rfl gv232 rfl) rfl (D2.skip (gk rfl rfl gv232 rfl) rfl (D2.skip (gk rfl rfl gv232 rfl) rfl (D2.pure (v := (.bool true)) rfl rfl (z84 (oo rfl gv232) (oo rfl rfl)) ?_))))))
  refine .nil ?_
  obtain rfl := zAa h233
  exact ⟨true, _, rfl, O228, (zAf _), rfl⟩
 have h234 := z0m g231 h224
 refine D2.q2 (hg := gk rfl rfl gv232 rfl) _ t221 (D2.q2 (hg := gk rfl rfl gv232 rfl) w96 ((fr216 8 rfl).trans ((fr164 8 rfl).trans ((fr133 8 rfl).trans rfl))) (D2.q2 (hg := gk rfl rfl gv232 rfl) (.int .i64 (List.length x88 : Int)) ((fr216 9 rfl).trans ((fr164 9 rfl).trans rfl)) (D2.q3 (hg := gk rfl rfl gv232 rfl) (.int .i64 (z03 .i64 ((List.length x88 : Int) - 2))) rfl rfl ?_)))
 obtain ⟨x235, i236, h237⟩ := z05 h234
 have j238 := z0l i236
 refine D2.pure (v := (z3f w96 (Int.toNat (z03 .i64 ((List.length x88 : Int) - 2)) * 1))) (gk rfl rfl gv232 rfl) rfl (z46 el63 z3g (oo rfl rfl) (oo rfl rfl) (z0a (RT.mono _ (zAe s167 s219) f154)) j238.1 j238.2.1) (D2.load1' (v := (.int .u32 x235)) (r := []) (gk rfl rfl gv232 rfl) rfl z7m (z26 rfl (At.int (At.le (At.le (z2x f154 j238.2.2) (zAe s167 s219) (zAe s167 s219)) (zAf _) O228.fro))) z1k (D2.pure (v := (.int .u64 (IntKind.wrap .u64 x235))) (gk rfl rfl gv232 rfl) rfl (z2w z6h z7n (oo rfl rfl)) (D2.q3 (hg := gk rfl rfl gv232 rfl) (.int .u64 (z03 .u64 (x212 * (IntKind.wrap .u64 x235)))) rfl rfl (D2.q2 (hg := gk rfl rfl gv232 rfl) _ t222 (D2.q3 (hg := gk rfl rfl gv232 rfl) (.int .u64 (z03 .u64 (x213 * 1000000000))) rfl rfl (D2.q2 (hg := gk rfl rfl gv232 rfl) (σ131 7) ((fr216 7 rfl).trans ((fr164 7 rfl).trans rfl)) ?_))))))
 refine D2.q2 (hg := gk rfl rfl gv232 rfl) _ ((fr216 11 rfl).trans t169) (D2.q2 (hg := gk rfl rfl gv232 rfl) (.int .i64 (List.length x88 : Int)) ((fr216 9 rfl).trans ((fr164 9 rfl).trans rfl)) (D2.q3 (hg := gk rfl rfl gv232 rfl) (.int .i64 (z03 .i64 (x161 + (List.length x88 : Int)))) rfl rfl (D2.q3 (hg := gk rfl rfl gv232 rfl) (.int .i64 (z03 .i64 ((z03 .i64 (x161 + (List.length x88 : Int))) - 2))) rfl rfl ?_)))
 obtain ⟨x239, e240, h241⟩ := z4j h237
 obtain ⟨x242, i243, h244⟩ := z05 h241
 have j245 := z0l i243
 refine D2.pure (v := (z3f (σ131 7) (Int.toNat x239 * 1))) (gk rfl rfl gv232 rfl) rfl (z46 el63 z3g (oo rfl rfl) (oo rfl (congrArg (Value.int .i64) e240)) (O228.slLen (j := 2) rfl) j245.1 j245.2.1) (D2.load1' (v := (.int .u32 x242)) (r := []) (gk rfl rfl gv232 rfl) rfl z7m (z26 rfl (At.int (O228.atSl (j := 2) rfl j245.2.2))) z1k (D2.pure (v := (.int .u64 (IntKind.wrap .u64 x242))) (gk rfl rfl gv232 rfl) rfl (z2w z6h z7n (oo rfl rfl)) (D2.q3 (hg := gk rfl rfl gv232 rfl) (.int .u64 (z03 .u64 ((z03 .u64 (x213 * 1000000000)) + (IntKind.wrap .u64 x242)))) rfl rfl ?_)))
 obtain ⟨x246, e247, h248⟩ := z4j h244
 refine D2.q3 (hg := gk rfl rfl gv232 rfl) (.bool (decide ((z03 .u64 (x212 * (IntKind.wrap .u64 x235))) > x246))) rfl (congrArg (Value.int .u64) e247) ?_
 obtain ⟨x249, e250, h251⟩ := z4j h248
 refine D2.pure (v := (.bool x249)) rfl rfl (z6c (oo rfl gv232) (oo rfl (congrArg (Value.bool) e250))) (.nil ?_)
 obtain rfl := zAa h251
 exact ⟨x249, _, rfl, O228, (zAf _), rfl⟩
def z0j (K : Nat) : Nat -> List Int -> List Int -> Option (List Int)
  | 0, _, _ => none
  | k + 1, x5, x6 => (if (decide ((List.length x6 : Int) > 0)) = true then ((z3p K x5 x6).bind fun x18 => z0j K k x6 x18.2) else some x5)
def z4a (K : Nat) (p0 : List Int) (p1 : List Int) : Option (List Int) := (Option.bind (z0j K K p0 p1) (tu1 fun x34 => some x34))
theorem z8z (v0 : Value) (p0 : List Int) (hp0 : (rSl (rI .u32)).rep G [v0] p0) (v1 : Value) (p1 : List Int) (hp1 : (rSl (rI .u32)).rep G [v1] p1) (O : Ow G H (L)) (r : List Int) (h : z4a K p0 p1 = some r) :
    CR Tryd.prog 102 [v0, v1] G H (L) (fun v G' _ => ∃ (w0 : Value), w0 = v /\ (rSl (rI .u32)).rep G' [w0] r) := by
 unfold z4a at h
 refine CR.og (n := 19) (fn := Tryd.f102) (by kernel_rfl) rfl rfl fun R kr => (.seq (.region (W.q1 (.slice none 0 0) rfl (.nil (.seq ?_)))))
 obtain ⟨q1, h2, h3⟩ := z05 h
 refine AW.midT (fun σ' H' => ∃ (y1 : List Int) (G' : GM), y1 = q1 /\ Ow G' H' (L) /\ GM.le G G' /\ (rSl (rI .u32)).rep G' [σ' 0] y1) ?_ ?_
 rotate_left
 .rintro σ35 H36 fr37 ⟨x34, G38, rfl, O39, s40, f42⟩
  have h43 := z0c h3
  refine .seq (.region (W.q2 (σ35 0) rfl (W.q1 (σ35 0) rfl (.nil (.ret ?_)))))
  obtain rfl := zAa h43
  exact z1y kr (v1 := (σ35 0)) (by rfl) (z06 (by rfl) (by exact rfl)) O39 s40 ⟨(σ35 0), rfl, f42⟩
 refine .block (AW.loop (α := Nat) (fun k' σ' H' => ∃ (y1 : List Int) (y2 : List Int) (G' : GM), z0j K k' y1 y2 = some q1 /\ Ow G' H' (L) /\ GM.le G G' /\ (rSl (rI .u32)).rep G' [σ' 0] y1 /\ (rSl (rI .u32)).rep G' [σ' 1] y2) (fun k' => k') K ⟨p0, p1, _, h2, O, (zAf _), hp0, hp1⟩ ?_)
 rintro k4
 rintro σ7 H8 fr9 ⟨x5, x6, G10, h13, O11, s12, f14, f15⟩
 rcases k4 with _ | k4
 .exact z08 h13
 rw [z0j] at h13
 refine .seq (.seq (.region (W.q2 (σ7 1) rfl (W.pure (v := (.int .i64 (List.length x6 : Int))) rfl rfl (z0i (oo rfl rfl) (z0a f15) (z02 el63)) (W.q3 (.bool (decide ((List.length x6 : Int) > 0))) rfl rfl (.nil ?_))))))
 refine .cond (b := decide ((List.length x6 : Int) > 0)) rfl rfl (fun g16 => ?_) (fun g16 => ?_)
 rotate_left
 .have h33 := z0m g16 h13
  refine .exit ?_
  obtain rfl := zAa h33
  exact ⟨x5, _, rfl, O11, s12, f14⟩
 have h17 := z04 g16 h13
 refine .skip (.block (.seq (.region (W.q2 (σ7 0) rfl (W.q2 (σ7 1) rfl ?_)))))
 obtain ⟨x18, i19, h20⟩ := z05 h17
 refine W.lo rfl rfl (Lo.cP rfl (fn := Tryd.f119) (by kernel_rfl) rfl (mc rfl (mc rfl mn)) O11 (fun L' O' => z8y K (σ7 0) x5 f14 (σ7 1) x6 f15 O' _ i19)) ?_
 rintro v31 H32 ⟨G21, O22, s23, sm30, ⟨w25, w27, rfl, f26, f28⟩⟩
 refine W.q2 (.tuple #[w25, w27]) rfl (W.pure (v := w25) rfl rfl (z14 (oo rfl rfl) rfl) (W.pure (v := w27) rfl rfl (z14 (oo rfl rfl) rfl) (W.q1 w25 rfl (W.q1 w27 rfl (.nil (.region ?_))))))
 refine W.q2 (σ7 1) rfl (W.q2 w27 rfl (W.q1 (σ7 1) rfl (W.q1 w27 rfl (.nil ?_))))
 exact ⟨k4, zAg _, ⟨x6, x18.2, _, h20, O22, (zAe s12 s23), (RT.mono _ s23 f15), f28⟩⟩
def z3q (K : Nat) : Nat -> List Int -> Int -> Option (List Int)
  | 0, _, _ => none
  | k + 1, x6, x7 => (if (decide (x7 > 0)) = true then (if List.length x6 + List.length [IntKind.wrap .u32 (Int.tmod x7 1000000000)] <= 16777216 then z3q K k (x6 ++ [IntKind.wrap .u32 (Int.tmod x7 1000000000)]) (z03 .i64 (Int.tdiv x7 1000000000)) else none) else some x6)
def z7c (K : Nat) (p0 : Int) : Option (List Int) := (Option.bind (z3q K K [] p0) (tu1 fun x33 => some x33))
theorem zbh (p0 : Int) (O : Ow G H (L)) (r : List Int) (h : z7c K p0 = some r) :
    CRF Tryd.prog 97 [(.int .i64 p0)] G H (fun w0 => (eSl w0 145 (rI .u32) r :: L)) (fun w0 v G' => w0 = v) := by
 unfold z7c at h
 refine CRF.og (n := 15) (fn := Tryd.f97) (by kernel_rfl) rfl rfl fun R kr => (.seq (.region (W.q1 (.slice none 0 0) rfl (.nil (.seq (.region ?_))))))
 refine W.q1 (.slice none 0 0) rfl (.nil (.seq ?_))
 obtain ⟨q1, h2, h3⟩ := z05 h
 refine AW.midT (fun σ' H' => ∃ (y1 : List Int) (G' : GM), y1 = q1 /\ Ow G' H' (eSl (σ' 3) 145 (rI .u32) y1 :: L) /\ GM.le G G') ?_ ?_
 rotate_left
 .rintro σ34 H35 fr36 ⟨x33, G37, rfl, O38, s39⟩
  have h41 := z0c h3
  refine .seq (.region (W.q2 (σ34 3) rfl (W.q1 (σ34 3) rfl (.nil (.ret ?_)))))
  obtain rfl := zAa h41
  exact zei kr (σ34 3) (v1 := (σ34 3)) (by rfl) (z06 (by rfl) (by exact rfl)) O38 s39 rfl
 refine .block ?_
 have O4 := O.nilSl 145 (rI .u32)
 refine AW.loop (α := Nat) (fun k' σ' H' => ∃ (y1 : List Int) (y2 : Int) (G' : GM), z3q K k' y1 y2 = some q1 /\ Ow G' H' (eSl (σ' 3) 145 (rI .u32) y1 :: L) /\ GM.le G G' /\ σ' 0 = .int .i64 y2) (fun k' => k') K ⟨[], p0, _, h2, O4, (zAf _), rfl⟩ ?_
 rintro k5
 rintro σ8 H9 fr10 ⟨x6, x7, G11, h14, O12, s13, t15⟩
 rcases k5 with _ | k5
 .exact z08 h14
 rw [z3q] at h14
 refine .seq (.seq (.region (W.q2 _ t15 (W.q3 (.bool (decide (x7 > 0))) rfl rfl (.nil (.cond (b := decide (x7 > 0)) rfl rfl (fun g16 => ?_) (fun g16 => ?_)))))))
 rotate_left
 .have h32 := z0m g16 h14
  refine .exit ?_
  obtain rfl := zAa h32
  exact ⟨x6, _, rfl, O12, s13⟩
 have h17 := z04 g16 h14
 refine .skip (.block (.seq (.region (W.q2 (σ8 3) rfl (W.q2 _ t15 (W.pure (v := (.int .i64 (Int.tmod x7 1000000000))) rfl rfl (zgy (by decide) (oo rfl rfl) (oo rfl rfl)) ?_))))))
 refine W.pure (v := (.int .u32 (IntKind.wrap .u32 (Int.tmod x7 1000000000)))) rfl rfl (z2w in3 z6h (oo rfl rfl)) (W.lo rfl rfl (Lo.buildSlice (r := (rI .u32)) (vs := [(.int .u32 (IntKind.wrap .u32 (Int.tmod x7 1000000000)))]) (xs := [IntKind.wrap .u32 (Int.tmod x7 1000000000)]) el63 zaq z3g (by kernel_rfl) rfl (qc rfl qn) rfl (.cons rfl .nil) O12) ?_)
 rintro v20 H21 ⟨O18, sm19⟩
 obtain ⟨es23, e24, e25⟩ := z85 (j := 0) rfl O18
 obtain ⟨g26, h27⟩ := z4g h17
 refine W.lo rfl rfl (Lo.append (j := 1) (v := (σ8 3)) rfl rfl el63 ni63 zaq z3g zg4 (by decide) (by decide) rfl e24 e25 g26 O18) ?_
 rintro v29 H30 ⟨O22, sm28⟩
 refine W.q1 v29 rfl (.nil (.region (W.q2 _ t15 (W.pure (v := (.int .i64 (z03 .i64 (Int.tdiv x7 1000000000)))) rfl rfl (zg1 (by decide) (oo rfl rfl) (oo rfl rfl)) (W.q1 (.int .i64 (z03 .i64 (Int.tdiv x7 1000000000))) rfl (.nil ?_))))))
 have O31 : Ow G11 H30 (eSl v29 145 (rI .u32) (x6 ++ [IntKind.wrap .u32 (Int.tmod x7 1000000000)]) :: L) := O22.drop 0
 exact ⟨k5, zAg _, ⟨(x6 ++ [IntKind.wrap .u32 (Int.tmod x7 1000000000)]), z03 .i64 (Int.tdiv x7 1000000000), _, h27, O31, s13, rfl⟩⟩
def z3r (K : Nat) (p0 : zAd) : Option Int := ((z15 K p0 (⟨#[45]⟩ : zAd)).bind fun x1 => ((z2j K x1.1 (⟨#[47]⟩ : zAd)).bind fun x12 => ((z3m K x12.1).bind fun x23 => (Option.bind ((if x12.2.2 = true then ((z3m K x12.2.1).bind fun x39 => some x39) else some 0)) (tu1 fun x51 => (Option.bind ((if (x23 == 5) = true then some true else (if (x51 == 5) = true then some true else (if x1.2 = true then some (sEq x12.1 (⟨#[48]⟩ : zAd)) else some false)))) (tu1 fun x76 => (if x76 = true then some 5 else (Option.bind ((if (x23 != 0) = true then some true else some (x51 != 0))) (tu1 fun x96 => (if x96 = true then some 2 else (Option.bind ((if x12.2.2 = true then (if (sEq x12.2.1 (⟨#[48]⟩ : zAd)) = true then some true else (if (sEq x12.2.1 (⟨#[49]⟩ : zAd)) = true then some true else ((z49 K x12.1).bind fun x123 => ((z49 K x12.2.1).bind fun x136 => ((z4a K x123 x136).bind fun x157 => ((z7c K 1).bind fun x170 => ((z3n K x157 x170).bind fun x183 => some (x183 != 0)))))))) else some false)) (tu1 fun x196 => (if x196 = true then some 3 else some 0))))))))))))))
theorem z90 (p0 : zAd) (O : Ow G H (L)) (r : Int) (h : z3r K p0 = some r) :
    CR Tryd.prog 42 [(.string p0)] G H (L) (fun v G' _ => v = .int .i64 r) := by
 unfold z3r at h
 refine CR.og (n := 64) (fn := Tryd.f42) (by kernel_rfl) rfl rfl fun R kr => (.seq (.region (W.q1 (.int .i64 0) rfl (.nil (.seq (.region ?_))))))
 refine W.q2 (.string p0) rfl ?_
 obtain ⟨x1, i2, h3⟩ := z05 h
 refine W.lo rfl rfl (Lo.cP rfl (fn := Tryd.f94) (by kernel_rfl) rfl (mc rfl (mc rfl mn)) O (fun L' O' => z4t K p0 (⟨#[45]⟩ : zAd) O' _ i2)) ?_
 rintro v10 H11 ⟨G4, O5, s6, sm9, rfl⟩
 refine W.q2 (.tuple #[(.string x1.1), (.bool x1.2)]) rfl (W.pure (v := (.string x1.1)) rfl rfl (z14 (oo rfl rfl) rfl) (W.pure (v := (.bool x1.2)) rfl rfl (z14 (oo rfl rfl) rfl) (W.q1 (.string x1.1) rfl (W.q1 (.bool x1.2) rfl (.nil (.seq ?_))))))
 refine .region (W.q2 (.string x1.1) rfl ?_)
 obtain ⟨x12, i13, h14⟩ := z05 h3
 refine W.lo rfl rfl (Lo.cP rfl (fn := Tryd.f95) (by kernel_rfl) rfl (mc rfl (mc rfl mn)) O5 (fun L' O' => z7a K x1.1 (⟨#[47]⟩ : zAd) O' _ i13)) ?_
 rintro v21 H22 ⟨G15, O16, s17, sm20, rfl⟩
 refine W.q2 (.tuple #[(.string x12.1), (.string x12.2.1), (.bool x12.2.2)]) rfl (W.pure (v := (.string x12.1)) rfl rfl (z14 (oo rfl rfl) rfl) (W.pure (v := (.string x12.2.1)) rfl rfl (z14 (oo rfl rfl) rfl) (W.pure (v := (.bool x12.2.2)) rfl rfl (z14 (oo rfl rfl) rfl) (W.q1 (.string x12.1) rfl (W.q1 (.string x12.2.1) rfl (W.q1 (.bool x12.2.2) rfl ?_))))))
 refine .nil (.seq (.region (W.q2 (.string x12.1) rfl ?_)))
 obtain ⟨x23, i24, h25⟩ := z05 h14
 refine W.lo rfl rfl (Lo.cP rfl (fn := Tryd.f101) (by kernel_rfl) rfl (mc rfl mn) O16 (fun L' O' => z5q K x12.1 O' _ i24)) ?_
 rintro v32 H33 ⟨G26, O27, s28, sm31, rfl⟩
 refine W.q1 (.int .i64 x23) rfl (W.q1 (.int .i64 0) rfl (.nil (.seq (.seq (.region (W.q2 (.bool x12.2.2) rfl ?_))))))
 refine .nil ?_
 obtain ⟨q34, h35, h36⟩ := z05 h25
 refine AW.midT (fun σ' H' => ∃ (y1 : Int) (G' : GM), y1 = q34 /\ Ow G' H' (L) /\ GM.le G26 G' /\ σ' 9 = .int .i64 y1) ?_ ?_
 .refine .cond (b := x12.2.2) rfl rfl (fun g37 => ?_) (fun g37 => ?_)
  rotate_left
  .have h50 := z0m g37 h35
   refine .skip ?_
   obtain rfl := zAa h50
   exact ⟨0, _, rfl, O27, (zAf _), rfl⟩
  have h38 := z04 g37 h35
  refine .region (W.q2 (.string x12.2.1) rfl ?_)
  obtain ⟨x39, i40, h41⟩ := z05 h38
  refine W.lo rfl rfl (Lo.cP rfl (fn := Tryd.f101) (by kernel_rfl) rfl (mc rfl mn) O27 (fun L' O' => z5q K x12.2.1 O' _ i40)) ?_
  rintro v48 H49 ⟨G42, O43, s44, sm47, rfl⟩
  refine W.q1 (.int .i64 x39) rfl (.nil ?_)
  obtain rfl := zAa h41
  exact ⟨x39, _, rfl, O43, s44, rfl⟩
 rintro σ52 H53 fr54 ⟨x51, G55, rfl, O56, s57, t59⟩
 have h60 := z0c h36
 refine .seq (.seq ?_)
 obtain ⟨q61, h62, h63⟩ := z05 h60
 refine AW.midT (fun σ' H' => ∃ (y1 : Bool) (G' : GM), y1 = q61 /\ Ow G' H' (L) /\ GM.le G55 G' /\ σ' 38 = .bool y1) ?_ ?_
 .refine .region (W.q2 (.int .i64 x23) ((fr54 8 rfl).trans rfl) (W.q3 (.bool (x23 == 5)) rfl rfl (W.q2 (.bool (x23 == 5)) rfl (W.splitAt (t := 28) (b := (x23 == 5)) rfl (fun g64 gv65 => ?_) (fun g64 gv65 => ?_)))))
  .have h66 := z04 g64 h62
   refine W.q6 rfl gv65 (W.q6 rfl gv65 (W.q4 (.bool true) gv65 rfl (W.q2 (.bool true) rfl (W.q6 rfl rfl (W.q6 rfl rfl (W.skipU rfl rfl rfl rfl ?_))))))
   refine W.skipU rfl rfl rfl rfl (W.q6 rfl rfl (W.q4 (.bool true) rfl rfl (.nil ?_)))
   obtain rfl := zAa h66
   exact ⟨true, _, rfl, O56, (zAf _), rfl⟩
  have h67 := z0m g64 h62
  refine W.q2 (hg := gk rfl rfl gv65 rfl) _ t59 (W.q3 (hg := gk rfl rfl gv65 rfl) (.bool (x51 == 5)) rfl rfl (W.q5 (.bool (x51 == 5)) gv65 rfl (W.q2 (.bool (x51 == 5)) rfl (W.splitAt (t := 32) (b := (x51 == 5)) rfl (fun g68 gv69 => ?_) (fun g68 gv69 => ?_)))))
  .have h70 := z04 g68 h67
   refine W.q6 rfl gv69 (W.q6 rfl gv69 (W.skipU rfl rfl rfl rfl (W.skipU rfl rfl rfl rfl (W.q6 rfl gv69 (W.q4 (.bool true) gv69 rfl (.nil ?_))))))
   obtain rfl := zAa h70
   exact ⟨true, _, rfl, O56, (zAf _), rfl⟩
  have h71 := z0m g68 h67
  refine W.q2 (hg := gk rfl rfl gv69 rfl) (.bool x1.2) ((fr54 4 rfl).trans rfl) (W.q2 (hg := gk rfl rfl gv69 rfl) (.bool x1.2) rfl (W.splitAt (t := 34) (b := x1.2) rfl (fun g72 gv73 => ?_) (fun g72 gv73 => ?_)))
  rotate_left
  .have h75 := z0m g72 h71
   refine W.q6 rfl gv73 (W.q6 rfl gv73 (W.q5 (hg := gk rfl rfl gv69 rfl) (.bool false) gv73 rfl (W.q5 (.bool false) gv69 rfl (.nil ?_))))
   obtain rfl := zAa h75
   exact ⟨false, _, rfl, O56, (zAf _), rfl⟩
  have h74 := z04 g72 h71
  refine W.q2 (hg := gk rfl rfl gv73 rfl) (.string x12.1) ((fr54 5 rfl).trans rfl) (W.pure (v := (.bool (sEq x12.1 (⟨#[48]⟩ : zAd)))) (gk rfl rfl gv73 rfl) rfl (z7r (oo rfl rfl) (oo rfl rfl)) (W.q4 (hg := gk rfl rfl gv69 rfl) (.bool (sEq x12.1 (⟨#[48]⟩ : zAd))) gv73 rfl (W.q5 (.bool (sEq x12.1 (⟨#[48]⟩ : zAd))) gv69 rfl (.nil ?_))))
  obtain rfl := zAa h74
  exact ⟨sEq x12.1 (⟨#[48]⟩ : zAd), _, rfl, O56, (zAf _), rfl⟩
 rintro σ77 H78 fr79 ⟨x76, G80, rfl, O81, s82, t84⟩
 have h85 := z0c h63
 refine .cond (b := x76) rfl t84 (fun g86 => ?_) (fun g86 => ?_)
 .have h87 := z04 g86 h85
  refine .seq (.region (W.q1 (.int .i64 5) rfl (.nil (.ret ?_))))
  obtain rfl := zAa h87
  exact z1y kr (v1 := (.int .i64 5)) (by rfl) (z06 (by rfl) (by exact rfl)) O81 (zAe s6 (zAe s17 (zAe s28 (zAe s57 s82)))) rfl
 have h88 := z0m g86 h85
 refine .skip (.seq (.seq ?_))
 obtain ⟨q89, h90, h91⟩ := z05 h88
 refine AW.midT (fun σ' H' => ∃ (y1 : Bool) (G' : GM), y1 = q89 /\ Ow G' H' (L) /\ GM.le G80 G' /\ σ' 44 = .bool y1) ?_ ?_
 .refine .region (W.q2 (.int .i64 x23) ((fr79 8 rfl).trans ((fr54 8 rfl).trans rfl)) (W.q3 (.bool (x23 != 0)) rfl rfl (W.q2 (.bool (x23 != 0)) rfl (W.splitAt (t := 41) (b := (x23 != 0)) rfl (fun g92 gv93 => ?_) (fun g92 gv93 => ?_)))))
  .have h94 := z04 g92 h90
   refine W.q6 rfl gv93 (W.q6 rfl gv93 (W.q4 (.bool true) gv93 rfl (.nil ?_)))
   obtain rfl := zAa h94
   exact ⟨true, _, rfl, O81, (zAf _), rfl⟩
  have h95 := z0m g92 h90
  refine W.q2 (hg := gk rfl rfl gv93 rfl) _ ((fr79 9 rfl).trans t59) (W.q3 (hg := gk rfl rfl gv93 rfl) (.bool (x51 != 0)) rfl rfl (W.q5 (.bool (x51 != 0)) gv93 rfl (.nil ?_)))
  obtain rfl := zAa h95
  exact ⟨(x51 != 0), _, rfl, O81, (zAf _), rfl⟩
 rintro σ97 H98 fr99 ⟨x96, G100, rfl, O101, s102, t104⟩
 have h105 := z0c h91
 refine .cond (b := x96) rfl t104 (fun g106 => ?_) (fun g106 => ?_)
 .have h107 := z04 g106 h105
  refine .seq (.region (W.q1 (.int .i64 2) rfl (.nil (.ret ?_))))
  obtain rfl := zAa h107
  exact z1y kr (v1 := (.int .i64 2)) (by rfl) (z06 (by rfl) (by exact rfl)) O101 (zAe s6 (zAe s17 (zAe s28 (zAe s57 (zAe s82 s102))))) rfl
 have h108 := z0m g106 h105
 refine .skip (.seq (.seq ?_))
 obtain ⟨q109, h110, h111⟩ := z05 h108
 refine AW.midT (fun σ' H' => ∃ (y1 : Bool) (G' : GM), y1 = q109 /\ Ow G' H' (L) /\ GM.le G100 G' /\ σ' 63 = .bool y1) ?_ ?_
 rotate_left
 .rintro σ197 H198 fr199 ⟨x196, G200, rfl, O201, s202, t204⟩
  have h205 := z0c h111
  refine .cond (b := x196) rfl t204 (fun g206 => ?_) (fun g206 => ?_)
  .have h207 := z04 g206 h205
   refine .seq (.region (W.q1 (.int .i64 3) rfl (.nil (.ret ?_))))
   obtain rfl := zAa h207
   exact z1y kr (v1 := (.int .i64 3)) (by rfl) (z06 (by rfl) (by exact rfl)) O201 (zAe s6 (zAe s17 (zAe s28 (zAe s57 (zAe s82 (zAe s102 s202)))))) rfl
  have h208 := z0m g206 h205
  refine .skip (.seq (.region (W.q1 (.int .i64 0) rfl (.nil (.ret ?_)))))
  obtain rfl := zAa h208
  exact z1y kr (v1 := (.int .i64 0)) (by rfl) (z06 (by rfl) (by exact rfl)) O201 (zAe s6 (zAe s17 (zAe s28 (zAe s57 (zAe s82 (zAe s102 s202)))))) rfl
 refine .region (W.q2 (.bool x12.2.2) ((fr99 7 rfl).trans ((fr79 7 rfl).trans ((fr54 7 rfl).trans rfl))) (W.q2 (.bool x12.2.2) rfl (W.splitAt (t := 46) (b := x12.2.2) rfl (fun g112 gv113 => ?_) (fun g112 gv113 => ?_))))
 rotate_left
 .have h195 := z0m g112 h110
  refine W.q6 rfl gv113 (W.q6 rfl gv113 (W.q6 rfl gv113 (W.skipU rfl rfl rfl rfl (W.skipU rfl rfl rfl rfl (W.q6 rfl gv113 (W.q6 rfl gv113 ?_))))))
  refine W.skipU rfl rfl rfl rfl (W.skipU rfl rfl rfl rfl (W.skipU rfl rfl rfl rfl (W.skipU rfl rfl rfl rfl (W.skipU rfl rfl rfl rfl (W.skipU rfl rfl rfl rfl (W.skipU rfl rfl rfl rfl ?_))))))
  refine W.skipU rfl rfl rfl rfl (W.q6 rfl gv113 (W.q5 (.bool false) gv113 rfl (.nil ?_)))
  obtain rfl := zAa h195
  exact ⟨false, _, rfl, O101, (zAf _), rfl⟩
 have h114 := z04 g112 h110
 refine W.q2 (hg := gk rfl rfl gv113 rfl) (.string x12.2.1) ((fr99 6 rfl).trans ((fr79 6 rfl).trans ((fr54 6 rfl).trans rfl))) (W.pure (v := (.bool (sEq x12.2.1 (⟨#[48]⟩ : zAd)))) (gk rfl rfl gv113 rfl) rfl (z7r (oo rfl rfl) (oo rfl rfl)) (W.q2 (hg := gk rfl rfl gv113 rfl) (.bool (sEq x12.2.1 (⟨#[48]⟩ : zAd))) rfl (W.splitAt (t := 49) (b := sEq x12.2.1 (⟨#[48]⟩ : zAd)) rfl (fun g115 gv116 => ?_) (fun g115 gv116 => ?_))))
 .have h117 := z04 g115 h114
  refine W.q6 rfl gv116 (W.q6 rfl gv116 (W.q4 (hg := gk rfl rfl gv113 rfl) (.bool true) gv116 rfl (W.q2 (hg := gk rfl rfl gv113 rfl) (.bool true) rfl (W.q6 rfl rfl (W.q6 rfl rfl (W.q6 rfl rfl ?_))))))
  refine W.q6 rfl rfl (W.q6 rfl rfl (W.q6 rfl rfl (W.q6 rfl rfl (W.q6 rfl rfl (W.q4 (hg := gk rfl rfl gv113 rfl) (.bool true) rfl rfl (W.q4 (.bool true) gv113 rfl ?_))))))
  refine .nil ?_
  obtain rfl := zAa h117
  exact ⟨true, _, rfl, O101, (zAf _), rfl⟩
 have h118 := z0m g115 h114
 refine W.q2 (hg := gk rfl rfl gv116 rfl) (.string x12.2.1) ((fr99 6 rfl).trans ((fr79 6 rfl).trans ((fr54 6 rfl).trans rfl))) (W.pure (v := (.bool (sEq x12.2.1 (⟨#[49]⟩ : zAd)))) (gk rfl rfl gv116 rfl) rfl (z7r (oo rfl rfl) (oo rfl rfl)) (W.q5 (hg := gk rfl rfl gv113 rfl) (.bool (sEq x12.2.1 (⟨#[49]⟩ : zAd))) gv116 rfl (W.q2 (hg := gk rfl rfl gv113 rfl) (.bool (sEq x12.2.1 (⟨#[49]⟩ : zAd))) rfl (W.splitAt (t := 53) (b := sEq x12.2.1 (⟨#[49]⟩ : zAd)) rfl (fun g119 gv120 => ?_) (fun g119 gv120 => ?_)))))
 .have h121 := z04 g119 h118
  refine W.q6 rfl gv120 (W.q6 rfl gv120 (W.q6 rfl gv120 (W.q6 rfl gv120 (W.q6 rfl gv120 (W.q6 rfl gv120 (W.q6 rfl gv120 ?_))))))
  refine W.q6 rfl gv120 (W.q4 (hg := gk rfl rfl gv113 rfl) (.bool true) gv120 rfl (W.q4 (.bool true) gv113 rfl (.nil ?_)))
  obtain rfl := zAa h121
  exact ⟨true, _, rfl, O101, (zAf _), rfl⟩
 have h122 := z0m g119 h118
 refine W.q2 (hg := gk rfl rfl gv120 rfl) (.string x12.1) ((fr99 5 rfl).trans ((fr79 5 rfl).trans ((fr54 5 rfl).trans rfl))) ?_
 obtain ⟨x123, i124, h125⟩ := z05 h122
 refine W.lo (gk rfl rfl gv120 rfl) rfl (Lo.callPF (ps := []) (pw := fun w => [eSl w 145 (rI .u32) x123]) rfl (fn := Tryd.f96) (by kernel_rfl) rfl (mc rfl mn) O101 (fun L' O' => z6e K x12.1 O' _ i124)) ?_
 rintro v134 H135 ⟨w131, G126, O127, s128, sm133, rfl⟩
 refine W.q2 (hg := gk rfl rfl gv120 rfl) (.string x12.2.1) ((fr99 6 rfl).trans ((fr79 6 rfl).trans ((fr54 6 rfl).trans rfl))) ?_
 obtain ⟨x136, i137, h138⟩ := z05 h125
 refine W.lo (gk rfl rfl gv120 rfl) rfl (Lo.callPF (ps := []) (pw := fun w => [eSl w 145 (rI .u32) x136]) rfl (fn := Tryd.f96) (by kernel_rfl) rfl (mc rfl mn) O127 (fun L' O' => z6e K x12.2.1 O' _ i137)) ?_
 rintro v147 H148 ⟨w144, G139, O140, s141, sm146, rfl⟩
 obtain ⟨G149, O150, s151, f152⟩ := O140.frzSl (j := 1) rfl
 obtain ⟨G153, O154, s155, f156⟩ := O150.frzSl (j := 0) rfl
 obtain ⟨x157, i158, h159⟩ := z05 h138
 refine W.lo (gk rfl rfl gv120 rfl) rfl (Lo.cP rfl (fn := Tryd.f102) (by kernel_rfl) rfl (mc rfl (mc rfl mn)) O154 (fun L' O' => z8z K w131 x123 (RT.mono _ s155 f152) w144 x136 f156 O' _ i158)) ?_
 rintro v168 H169 ⟨G160, O161, s162, sm167, ⟨w164, rfl, f165⟩⟩
 obtain ⟨x170, i171, h172⟩ := z05 h159
 refine W.lo (gk rfl rfl gv120 rfl) rfl (Lo.callPF (ps := []) (pw := fun w => [eSl w 145 (rI .u32) x170]) rfl (fn := Tryd.f97) (by kernel_rfl) rfl (mc rfl mn) O161 (fun L' O' => zbh K 1 O' _ i171)) ?_
 rintro v181 H182 ⟨w178, G173, O174, s175, sm180, rfl⟩
 obtain ⟨x183, i184, h185⟩ := z05 h172
 refine W.lo (gk rfl rfl gv120 rfl) rfl (Lo.callB (j := 0) rfl rfl (fn := Tryd.f91) (by kernel_rfl) rfl (mc rfl (mc rfl mn)) O174 (fun G' L' hG O' hB => z5r K w164 x157 (RT.mono _ hG (RT.mono _ s175 f165)) w178 x170 hB O' _ i184)) ?_
 rintro v192 H193 ⟨G186, O187, s188, sm191, rfl⟩
 refine W.q3 (hg := gk rfl rfl gv120 rfl) (.bool (x183 != 0)) rfl rfl (W.q5 (hg := gk rfl rfl gv113 rfl) (.bool (x183 != 0)) gv120 rfl (W.q4 (.bool (x183 != 0)) gv113 rfl (.nil ?_)))
 have O194 : Ow G186 H193 (L) := O187.drop 0
 obtain rfl := zAa h185
 exact ⟨(x183 != 0), _, rfl, O194, (zAe s128 (zAe s141 (zAe s151 (zAe s155 (zAe s162 (zAe s175 s188)))))), rfl⟩
def z0k (K : Nat) (p0 : List zAd) : Nat -> Int -> Option (Int ⊕ Unit)
  | 0, _ => none
  | k + 1, x5 => (if (decide (x5 < (List.length p0 : Int))) = true then ((idx p0 x5).bind fun x16 => ((z3r K x16).bind fun x20 => (if (x20 != 0) = true then some (.inl x20) else z0k K p0 k (z03 .i64 (x5 + 1))))) else some (.inr ()))
def z2s (K : Nat) (p0 : List zAd) : Option Int := (zap (z0k K p0 K 0) (tu1 fun a44 => some a44) (tu0 (some 0)))
theorem z6i (v0 : Value) (p0 : List zAd) (hp0 : (rSl rS).rep G [v0] p0) (O : Ow G H (L)) (r : Int) (h : z2s K p0 = some r) :
    CR Tryd.prog 58 [v0] G H (L) (fun v G' _ => v = .int .i64 r) := by
 unfold z2s at h
 refine CR.og (n := 18) (fn := Tryd.f58) (by kernel_rfl) rfl rfl fun R kr => (.seq (.region (W.q1 (.int .i64 0) rfl (.nil (.seq (.seq ?_))))))
 refine .region (W.q2 v0 rfl (W.pure (v := (.int .i64 (List.length p0 : Int))) rfl rfl (z0i (oo rfl rfl) (z0a hp0) (z02 el22)) (W.q2 (.int .i64 0) rfl (.nil ?_))))
 obtain ⟨q1, h2, h3⟩ := z3y h
 refine AW.midT (fun σ' H' => ∃  (G' : GM), (.inr ()) = q1 /\ Ow G' H' (L) /\ GM.le G G') ?_ ?_
 rotate_left
 .rintro σ36 H37 fr38 ⟨G39, rfl, O40, s41⟩
  have h43 := z6d (z9j h3)
  refine .seq (.region (W.q1 (.int .i64 0) rfl (.nil (.ret ?_))))
  obtain rfl := zAa h43
  exact z1y kr (v1 := (.int .i64 0)) (by rfl) (z06 (by rfl) (by exact rfl)) O40 s41 rfl
 refine .block (AW.loop (α := Nat) (fun k' σ' H' => ∃ (y1 : Int) (G' : GM), z0k K p0 k' y1 = some q1 /\ Ow G' H' (L) /\ GM.le G G' /\ σ' 8 = .int .i64 y1) (fun k' => k') K ⟨0, _, h2, O, (zAf _), rfl⟩ ?_)
 rintro k4
 rintro σ6 H7 fr8 ⟨x5, G9, h12, O10, s11, t13⟩
 rcases k4 with _ | k4
 .exact z08 h12
 rw [z0k] at h12
 refine .seq (.region (W.q3 (.bool (decide (x5 < (List.length p0 : Int)))) t13 ((fr8 7 rfl).trans rfl) (.nil (.seq (.cond (b := decide (x5 < (List.length p0 : Int))) rfl rfl (fun g14 => ?_) (fun g14 => ?_))))))
 rotate_left
 .have h35 := z0m g14 h12
  refine .exit ?_
  obtain rfl := zAa h35
  exact ⟨_, rfl, O10, s11⟩
 have h15 := z04 g14 h12
 refine .skip (.seq (.block (.seq (.region ?_))))
 obtain ⟨x16, i17, h18⟩ := z05 h15
 have j19 := z0l i17
 refine W.pure (v := (z3f v0 (Int.toNat x5 * 1))) rfl rfl (z46 el22 sz25 (oo rfl ((fr8 6 rfl).trans rfl)) (oo rfl t13) (z0a (RT.mono _ s11 hp0)) j19.1 j19.2.1) (W.load1 (v := (.string x16)) (r := []) rfl rfl ag25 (z26 rfl (At.str (At.le (At.le (z2x hp0 j19.2.2) s11 s11) (zAf _) O10.fro))) (W.q1 (.string x16) rfl (.nil (.seq (.region (W.q2 (.string x16) rfl ?_))))))
 obtain ⟨x20, i21, h22⟩ := z05 h18
 refine W.lo rfl rfl (Lo.cP rfl (fn := Tryd.f42) (by kernel_rfl) rfl (mc rfl mn) O10 (fun L' O' => z90 K x16 O' _ i21)) ?_
 rintro v29 H30 ⟨G23, O24, s25, sm28, rfl⟩
 refine W.q1 (.int .i64 x20) rfl (.nil (.seq (.region (W.q2 (.int .i64 x20) rfl (W.q3 (.bool (x20 != 0)) rfl rfl (.nil ?_))))))
 refine .cond (b := (x20 != 0)) rfl rfl (fun g31 => ?_) (fun g31 => ?_)
 rotate_left
 .have h34 := z0m g31 h22
  refine .skip (.region (W.q3 (.int .i64 (z03 .i64 (x5 + 1))) t13 rfl (W.q2 (.int .i64 (z03 .i64 (x5 + 1))) rfl (.nil ?_))))
  exact ⟨k4, zAg _, ⟨z03 .i64 (x5 + 1), _, h34, O24, (zAe s11 s25), rfl⟩⟩
 have h32 := z04 g31 h22
 refine .seq (.region (W.q2 (.int .i64 x20) rfl (W.q1 (.int .i64 x20) rfl (.nil (.ret ?_)))))
 obtain rfl := zAa h32
 have h33 := z0c (z75 h3)
 obtain rfl := zAa h33
 exact z1y kr (v1 := (.int .i64 x20)) (by rfl) (z06 (by rfl) (by exact rfl)) O24 (zAe s11 s25) rfl
def z16 (K : Nat) (p0 : List zAd) : Option Int := (if (decide ((List.length p0 : Int) > 40)) = true then some 2 else ((z2s K p0).bind fun x4 => some x4))
theorem z2g (v0 : Value) (p0 : List zAd) (hp0 : (rSl rS).rep G [v0] p0) (O : Ow G H (L)) (r : Int) (h : z16 K p0 = some r) :
    CR Tryd.prog 20 [v0] G H (L) (fun v G' _ => v = .int .i64 r) := by
 unfold z16 at h
 refine CR.og (n := 8) (fn := Tryd.f20) (by kernel_rfl) rfl rfl fun R kr => (.seq (.region (W.q1 (.int .i64 0) rfl (.nil (.seq (.seq ?_))))))
 refine .region (W.q2 v0 rfl (W.pure (v := (.int .i64 (List.length p0 : Int))) rfl rfl (z0i (oo rfl rfl) (z0a hp0) (z02 el23)) (W.q3 (.bool (decide ((List.length p0 : Int) > 40))) rfl rfl (.nil (.cond (b := decide ((List.length p0 : Int) > 40)) rfl rfl (fun g1 => ?_) (fun g1 => ?_))))))
 .have h2 := z04 g1 h
  refine .seq (.region (W.q1 (.int .i64 2) rfl (.nil (.ret ?_))))
  obtain rfl := zAa h2
  exact z1y kr (v1 := (.int .i64 2)) (by rfl) (z06 (by rfl) (by exact rfl)) O (zAf _) rfl
 have h3 := z0m g1 h
 refine .skip (.seq (.region (W.q2 v0 rfl ?_)))
 obtain ⟨x4, i5, h6⟩ := z05 h3
 refine W.lo rfl rfl (Lo.cP rfl (fn := Tryd.f58) (by kernel_rfl) rfl (mc rfl mn) O (fun L' O' => z6i K v0 p0 hp0 O' _ i5)) ?_
 rintro v13 H14 ⟨G7, O8, s9, sm12, rfl⟩
 refine W.q1 (.int .i64 x4) rfl (.nil (.ret ?_))
 obtain rfl := zAa h6
 exact z1y kr (v1 := (.int .i64 x4)) (by rfl) (z06 (by rfl) (by exact rfl)) O8 s9 rfl
def z17 (K : Nat) (p0 : List (List zAd)) : Nat -> Int -> Option (Int ⊕ Unit)
  | 0, _ => none
  | k + 1, x8 => (if (decide (x8 < (List.length p0 : Int))) = true then ((idx p0 x8).bind fun x19 => ((idx p0 0).bind fun x26 => (if ((List.length x19 : Int) != (List.length x26 : Int)) = true then some (.inl 3) else ((z16 K x19).bind fun x37 => (if (x37 != 0) = true then some (.inl x37) else z17 K p0 k (z03 .i64 (x8 + 1))))))) else some (.inr ()))
def z2t (K : Nat) (p0 : List (List zAd)) : Option Int := (if (decide ((List.length p0 : Int) > 40)) = true then some 2 else (zap (z17 K p0 K 0) (tu1 fun a61 => some a61) (tu0 (some 0))))
theorem z6j (v0 : Value) (p0 : List (List zAd)) (hp0 : (rSl (rSl rS)).rep G [v0] p0) (O : Ow G H (L)) (r : Int) (h : z2t K p0 = some r) :
    CR Tryd.prog 18 [v0] G H (L) (fun v G' _ => v = .int .i64 r) := by
 unfold z2t at h
 refine CR.og (n := 28) (fn := Tryd.f18) (by kernel_rfl) rfl rfl fun R kr => (.seq (.region (W.q1 (.int .i64 0) rfl (.nil (.seq (.seq ?_))))))
 refine .region (W.q2 v0 rfl (W.pure (v := (.int .i64 (List.length p0 : Int))) rfl rfl (z0i (oo rfl rfl) (z0a hp0) (z02 el36)) (W.q3 (.bool (decide ((List.length p0 : Int) > 40))) rfl rfl (.nil (.cond (b := decide ((List.length p0 : Int) > 40)) rfl rfl (fun g1 => ?_) (fun g1 => ?_))))))
 .have h2 := z04 g1 h
  refine .seq (.region (W.q1 (.int .i64 2) rfl (.nil (.ret ?_))))
  obtain rfl := zAa h2
  exact z1y kr (v1 := (.int .i64 2)) (by rfl) (z06 (by rfl) (by exact rfl)) O (zAf _) rfl
 have h3 := z0m g1 h
 refine .skip (.seq (.seq (.region (W.q2 v0 rfl (W.pure (v := (.int .i64 (List.length p0 : Int))) rfl rfl (z0i (oo rfl rfl) (z0a hp0) (z02 el36)) (W.q2 (.int .i64 0) rfl ?_))))))
 refine .nil ?_
 obtain ⟨q4, h5, h6⟩ := z3y h3
 refine AW.midT (fun σ' H' => ∃  (G' : GM), (.inr ()) = q4 /\ Ow G' H' (L) /\ GM.le G G') ?_ ?_
 rotate_left
 .rintro σ53 H54 fr55 ⟨G56, rfl, O57, s58⟩
  have h60 := z6d (z9j h6)
  refine .seq (.region (W.q1 (.int .i64 0) rfl (.nil (.ret ?_))))
  obtain rfl := zAa h60
  exact z1y kr (v1 := (.int .i64 0)) (by rfl) (z06 (by rfl) (by exact rfl)) O57 s58 rfl
 refine .block (AW.loop (α := Nat) (fun k' σ' H' => ∃ (y1 : Int) (G' : GM), z17 K p0 k' y1 = some q4 /\ Ow G' H' (L) /\ GM.le G G' /\ σ' 11 = .int .i64 y1) (fun k' => k') K ⟨0, _, h5, O, (zAf _), rfl⟩ ?_)
 rintro k7
 rintro σ9 H10 fr11 ⟨x8, G12, h15, O13, s14, t16⟩
 rcases k7 with _ | k7
 .exact z08 h15
 rw [z17] at h15
 refine .seq (.region (W.q3 (.bool (decide (x8 < (List.length p0 : Int)))) t16 ((fr11 10 rfl).trans rfl) (.nil (.seq (.cond (b := decide (x8 < (List.length p0 : Int))) rfl rfl (fun g17 => ?_) (fun g17 => ?_))))))
 rotate_left
 .have h52 := z0m g17 h15
  refine .exit ?_
  obtain rfl := zAa h52
  exact ⟨_, rfl, O13, s14⟩
 have h18 := z04 g17 h15
 refine .skip (.seq (.block (.seq (.region ?_))))
 obtain ⟨x19, i20, h21⟩ := z05 h18
 have j22 := z0l i20
 refine W.pure (v := (z3f v0 (Int.toNat x8 * 1))) rfl rfl (z46 el36 sz23 (oo rfl ((fr11 9 rfl).trans rfl)) (oo rfl t16) (z0a (RT.mono _ s14 hp0)) j22.1 j22.2.1) ?_
 obtain ⟨w23, p24, f25⟩ := At.sl (At.le (z2x hp0 j22.2.2) s14 s14)
 replace p24 := PtG.le p24 O13.fro
 refine W.load1 (v := w23) (r := []) rfl rfl ag23 (z26 rfl p24) (W.q1 w23 rfl (.nil (.seq (.seq (.region (W.q2 w23 rfl ?_))))))
 refine W.pure (v := (.int .i64 (List.length x19 : Int))) rfl rfl (z0i (oo rfl rfl) (z0a f25) (z02 el23)) (W.q2 v0 ((fr11 0 rfl).trans rfl) ?_)
 obtain ⟨x26, i27, h28⟩ := z05 h21
 have j29 := z0l i27
 refine W.pure (v := (z3f v0 (Int.toNat 0 * 1))) rfl rfl (z46 el36 sz23 (oo rfl rfl) (oo rfl rfl) (z0a (RT.mono _ s14 hp0)) j29.1 j29.2.1) ?_
 obtain ⟨w30, p31, f32⟩ := At.sl (At.le (z2x hp0 j29.2.2) s14 s14)
 replace p31 := PtG.le p31 O13.fro
 refine W.load1 (v := w30) (r := []) rfl rfl ag23 (z26 rfl p31) (W.pure (v := (.int .i64 (List.length x26 : Int))) rfl rfl (z0i (oo rfl rfl) (z0a f32) (z02 el23)) (W.q3 (.bool ((List.length x19 : Int) != (List.length x26 : Int))) rfl rfl (.nil (.cond (b := ((List.length x19 : Int) != (List.length x26 : Int))) rfl rfl (fun g33 => ?_) (fun g33 => ?_)))))
 .have h34 := z04 g33 h28
  refine .seq (.region (W.q1 (.int .i64 3) rfl (.nil (.ret ?_))))
  obtain rfl := zAa h34
  have h35 := z0c (z75 h6)
  obtain rfl := zAa h35
  exact z1y kr (v1 := (.int .i64 3)) (by rfl) (z06 (by rfl) (by exact rfl)) O13 s14 rfl
 have h36 := z0m g33 h28
 refine .skip (.seq (.region (W.q2 w23 rfl ?_)))
 obtain ⟨x37, i38, h39⟩ := z05 h36
 refine W.lo rfl rfl (Lo.cP rfl (fn := Tryd.f20) (by kernel_rfl) rfl (mc rfl mn) O13 (fun L' O' => z2g K w23 x19 f25 O' _ i38)) ?_
 rintro v46 H47 ⟨G40, O41, s42, sm45, rfl⟩
 refine W.q1 (.int .i64 x37) rfl (.nil (.seq (.region (W.q2 (.int .i64 x37) rfl (W.q3 (.bool (x37 != 0)) rfl rfl (.nil ?_))))))
 refine .cond (b := (x37 != 0)) rfl rfl (fun g48 => ?_) (fun g48 => ?_)
 rotate_left
 .have h51 := z0m g48 h39
  refine .skip (.region (W.q3 (.int .i64 (z03 .i64 (x8 + 1))) t16 rfl (W.q2 (.int .i64 (z03 .i64 (x8 + 1))) rfl (.nil ?_))))
  exact ⟨k7, zAg _, ⟨z03 .i64 (x8 + 1), _, h51, O41, (zAe s14 s42), rfl⟩⟩
 have h49 := z04 g48 h39
 refine .seq (.region (W.q2 (.int .i64 x37) rfl (W.q1 (.int .i64 x37) rfl (.nil (.ret ?_)))))
 obtain rfl := zAa h49
 have h50 := z0c (z75 h6)
 obtain rfl := zAa h50
 exact z1y kr (v1 := (.int .i64 x37)) (by rfl) (z06 (by rfl) (by exact rfl)) O41 (zAe s14 s42) rfl
def z2u (K : Nat) (p0 : List (List zAd)) : Option Int := (if ((List.length p0 : Int) == 0) = true then some 0 else ((idx p0 0).bind fun x4 => some (List.length x4 : Int)))
theorem z6k (v0 : Value) (p0 : List (List zAd)) (hp0 : (rSl (rSl rS)).rep G [v0] p0) (O : Ow G H (L)) (r : Int) (h : z2u K p0 = some r) :
    CR Tryd.prog 61 [v0] G H (L) (fun v G' _ => v = .int .i64 r) := by
 unfold z2u at h
 refine CR.og (n := 10) (fn := Tryd.f61) (by kernel_rfl) rfl rfl fun R kr => (.seq (.region (W.q1 (.int .i64 0) rfl (.nil (.seq (.seq ?_))))))
 refine .region (W.q2 v0 rfl (W.pure (v := (.int .i64 (List.length p0 : Int))) rfl rfl (z0i (oo rfl rfl) (z0a hp0) (z02 el36)) (W.q3 (.bool ((List.length p0 : Int) == 0)) rfl rfl (.nil (.cond (b := ((List.length p0 : Int) == 0)) rfl rfl (fun g1 => ?_) (fun g1 => ?_))))))
 .have h2 := z04 g1 h
  refine .seq (.region (W.q1 (.int .i64 0) rfl (.nil (.ret ?_))))
  obtain rfl := zAa h2
  exact z1y kr (v1 := (.int .i64 0)) (by rfl) (z06 (by rfl) (by exact rfl)) O (zAf _) rfl
 have h3 := z0m g1 h
 refine .skip (.seq (.region (W.q2 v0 rfl ?_)))
 obtain ⟨x4, i5, h6⟩ := z05 h3
 have j7 := z0l i5
 refine W.pure (v := (z3f v0 (Int.toNat 0 * 1))) rfl rfl (z46 el36 sz23 (oo rfl rfl) (oo rfl rfl) (z0a hp0) j7.1 j7.2.1) ?_
 obtain ⟨w8, p9, f10⟩ := At.sl (z2x hp0 j7.2.2)
 replace p9 := PtG.le p9 O.fro
 refine W.load1 (v := w8) (r := []) rfl rfl ag23 (z26 rfl p9) (W.pure (v := (.int .i64 (List.length x4 : Int))) rfl rfl (z0i (oo rfl rfl) (z0a f10) (z02 el23)) (W.q1 (.int .i64 (List.length x4 : Int)) rfl (.nil (.ret ?_))))
 obtain rfl := zAa h6
 exact z1y kr (v1 := (.int .i64 (List.length x4 : Int))) (by rfl) (z06 (by rfl) (by exact rfl)) O (zAf _) rfl
def z1m (K : Nat) (p0 : SimplexProblem) : Option Int := (Option.bind ((if (decide ((List.length p0.A : Int) > 40)) = true then some true else some (decide ((List.length p0.C : Int) > 40)))) (tu1 fun x19 => (if x19 = true then some 2 else ((z2t K p0.A).bind fun x36 => (if (x36 != 0) = true then some x36 else ((z16 K p0.B).bind fun x54 => (if (x54 != 0) = true then some x54 else ((z16 K p0.C).bind fun x72 => (if (x72 != 0) = true then some x72 else (Option.bind ((if ((List.length p0.A : Int) != (List.length p0.B : Int)) = true then some true else (if (decide ((List.length p0.A : Int) > 0)) = true then ((z2u K p0.A).bind fun x114 => some (x114 != (List.length p0.C : Int))) else some false))) (tu1 fun x129 => (if x129 = true then some 3 else some 0))))))))))))
theorem z33 (v0 : List Value) (p0 : SimplexProblem) (hp0 : T_SimplexProblem.rep G v0 p0) (O : Ow G H (L)) (r : Int) (h : z1m K p0 = some r) :
    CR Tryd.prog 23 [.agg (List.toArray v0)] G H (L) (fun v G' _ => v = .int .i64 r) := by
 unfold z1m at h
 refine CR.og (n := 56) (fn := Tryd.f23) (by kernel_rfl) rfl rfl fun R kr => (.seq (.region (W.lo rfl rfl (Lo.box (r := T_SimplexProblem) (x0 := p0) (v := (.agg (List.toArray v0))) rfl rfl hp0 O) ?_)))
 rintro v4 H5 ⟨b2, rfl, O1, sm3⟩
 refine W.q1 (.int .i64 0) rfl (.nil (.seq (.seq ?_)))
 obtain ⟨q6, h7, h8⟩ := z05 h
 refine AW.midT (fun σ' H' => ∃ (y1 : Bool) (G' : GM), y1 = q6 /\ Ow G' H' (eVar b2 43 T_SimplexProblem p0 :: L) /\ GM.le G G' /\ σ' 15 = .bool y1) ?_ ?_
 .refine .region (W.pure (v := (padd (.pointer (some ⟨b2, 0, none⟩)) 0)) rfl rfl (z3d z7s (oo rfl rfl) (O1.atVar (j := 0) rfl)) ?_)
  obtain ⟨w9, p10, f11⟩ := At.sl (At.proj (O1.atVar (j := 0) rfl) z0b)
  refine W.load1 (v := w9) (r := []) rfl rfl ag36 (z26 rfl p10) (W.pure (v := (.int .i64 (List.length p0.A : Int))) rfl rfl (z0i (oo rfl rfl) (z0a f11) (z02 el36)) (W.q3 (.bool (decide ((List.length p0.A : Int) > 40))) rfl rfl (W.q2 (.bool (decide ((List.length p0.A : Int) > 40))) rfl (W.splitAt (t := 10) (b := decide ((List.length p0.A : Int) > 40)) rfl (fun g12 gv13 => ?_) (fun g12 gv13 => ?_)))))
  .have h14 := z04 g12 h7
   refine W.q6 rfl gv13 (W.q6 rfl gv13 (W.q6 rfl gv13 (W.q6 rfl gv13 (W.q4 (.bool true) gv13 rfl (.nil ?_)))))
   obtain rfl := zAa h14
   exact ⟨true, _, rfl, O1, (zAf _), rfl⟩
  have h15 := z0m g12 h7
  refine W.pure (v := (padd (.pointer (some ⟨b2, 0, none⟩)) 2)) (gk rfl rfl gv13 rfl) rfl (z3d zbf (oo rfl rfl) (O1.atVar (j := 0) rfl)) ?_
  obtain ⟨w16, p17, f18⟩ := At.sl (At.proj (O1.atVar (j := 0) rfl) z1d)
  refine W.load1 (v := w16) (r := []) (gk rfl rfl gv13 rfl) rfl ag23 (z26 rfl p17) (W.pure (v := (.int .i64 (List.length p0.C : Int))) (gk rfl rfl gv13 rfl) rfl (z0i (oo rfl rfl) (z0a f18) (z02 el23)) (W.q3 (hg := gk rfl rfl gv13 rfl) (.bool (decide ((List.length p0.C : Int) > 40))) rfl rfl (W.q5 (.bool (decide ((List.length p0.C : Int) > 40))) gv13 rfl (.nil ?_))))
  obtain rfl := zAa h15
  exact ⟨decide ((List.length p0.C : Int) > 40), _, rfl, O1, (zAf _), rfl⟩
 rintro σ20 H21 fr22 ⟨x19, G23, rfl, O24, s25, t27⟩
 have h28 := z0c h8
 refine .cond (b := x19) rfl t27 (fun g29 => ?_) (fun g29 => ?_)
 .have h30 := z04 g29 h28
  refine .seq (.region (W.q1 (.int .i64 2) rfl (.nil (.ret ?_))))
  have O31 : Ow G23 H21 (L) := O24.drop 0
  obtain rfl := zAa h30
  exact z1y kr (v1 := (.int .i64 2)) (by rfl) (z06 (by rfl) (by exact rfl)) O31 s25 rfl
 have h32 := z0m g29 h28
 refine .skip (.seq (.seq (.region (W.pure (v := (padd (.pointer (some ⟨b2, 0, none⟩)) 0)) rfl rfl (z3d z7s (oo rfl ((fr22 1 rfl).trans rfl)) (O24.atVar (j := 0) rfl)) ?_))))
 obtain ⟨w33, p34, f35⟩ := At.sl (At.proj (O24.atVar (j := 0) rfl) z0b)
 refine W.load1 (v := w33) (r := []) rfl rfl ag36 (z26 rfl p34) ?_
 obtain ⟨x36, i37, h38⟩ := z05 h32
 refine W.lo rfl rfl (Lo.cP rfl (fn := Tryd.f18) (by kernel_rfl) rfl (mc rfl mn) O24 (fun L' O' => z6j K w33 p0.A f35 O' _ i37)) ?_
 rintro v45 H46 ⟨G39, O40, s41, sm44, rfl⟩
 refine W.q1 (.int .i64 x36) rfl (.nil (.seq (.region (W.q2 (.int .i64 x36) rfl (W.q3 (.bool (x36 != 0)) rfl rfl (.nil ?_))))))
 refine .cond (b := (x36 != 0)) rfl rfl (fun g47 => ?_) (fun g47 => ?_)
 .have h48 := z04 g47 h38
  refine .seq (.region (W.q2 (.int .i64 x36) rfl (W.q1 (.int .i64 x36) rfl (.nil (.ret ?_)))))
  have O49 : Ow G39 H46 (L) := O40.drop 0
  obtain rfl := zAa h48
  exact z1y kr (v1 := (.int .i64 x36)) (by rfl) (z06 (by rfl) (by exact rfl)) O49 (zAe s25 s41) rfl
 have h50 := z0m g47 h38
 refine .skip (.seq (.seq (.region (W.pure (v := (padd (.pointer (some ⟨b2, 0, none⟩)) 1)) rfl rfl (z3d zee (oo rfl ((fr22 1 rfl).trans rfl)) (O40.atVar (j := 0) rfl)) ?_))))
 obtain ⟨w51, p52, f53⟩ := At.sl (At.proj (O40.atVar (j := 0) rfl) z27)
 refine W.load1 (v := w51) (r := []) rfl rfl ag23 (z26 rfl p52) ?_
 obtain ⟨x54, i55, h56⟩ := z05 h50
 refine W.lo rfl rfl (Lo.cP rfl (fn := Tryd.f20) (by kernel_rfl) rfl (mc rfl mn) O40 (fun L' O' => z2g K w51 p0.B f53 O' _ i55)) ?_
 rintro v63 H64 ⟨G57, O58, s59, sm62, rfl⟩
 refine W.q1 (.int .i64 x54) rfl (.nil (.seq (.region (W.q2 (.int .i64 x54) rfl (W.q3 (.bool (x54 != 0)) rfl rfl (.nil ?_))))))
 refine .cond (b := (x54 != 0)) rfl rfl (fun g65 => ?_) (fun g65 => ?_)
 .have h66 := z04 g65 h56
  refine .seq (.region (W.q2 (.int .i64 x54) rfl (W.q1 (.int .i64 x54) rfl (.nil (.ret ?_)))))
  have O67 : Ow G57 H64 (L) := O58.drop 0
  obtain rfl := zAa h66
  exact z1y kr (v1 := (.int .i64 x54)) (by rfl) (z06 (by rfl) (by exact rfl)) O67 (zAe s25 (zAe s41 s59)) rfl
 have h68 := z0m g65 h56
 refine .skip (.seq (.seq (.region (W.pure (v := (padd (.pointer (some ⟨b2, 0, none⟩)) 2)) rfl rfl (z3d zbf (oo rfl ((fr22 1 rfl).trans rfl)) (O58.atVar (j := 0) rfl)) ?_))))
 obtain ⟨w69, p70, f71⟩ := At.sl (At.proj (O58.atVar (j := 0) rfl) z1d)
 refine W.load1 (v := w69) (r := []) rfl rfl ag23 (z26 rfl p70) ?_
 obtain ⟨x72, i73, h74⟩ := z05 h68
 refine W.lo rfl rfl (Lo.cP rfl (fn := Tryd.f20) (by kernel_rfl) rfl (mc rfl mn) O58 (fun L' O' => z2g K w69 p0.C f71 O' _ i73)) ?_
 rintro v81 H82 ⟨G75, O76, s77, sm80, rfl⟩
 refine W.q1 (.int .i64 x72) rfl (.nil (.seq (.region (W.q2 (.int .i64 x72) rfl (W.q3 (.bool (x72 != 0)) rfl rfl (.nil ?_))))))
 refine .cond (b := (x72 != 0)) rfl rfl (fun g83 => ?_) (fun g83 => ?_)
 .have h84 := z04 g83 h74
  refine .seq (.region (W.q2 (.int .i64 x72) rfl (W.q1 (.int .i64 x72) rfl (.nil (.ret ?_)))))
  have O85 : Ow G75 H82 (L) := O76.drop 0
  obtain rfl := zAa h84
  exact z1y kr (v1 := (.int .i64 x72)) (by rfl) (z06 (by rfl) (by exact rfl)) O85 (zAe s25 (zAe s41 (zAe s59 s77))) rfl
 have h86 := z0m g83 h74
 refine .skip (.seq (.seq ?_))
 obtain ⟨q87, h88, h89⟩ := z05 h86
 refine AW.midT (fun σ' H' => ∃ (y1 : Bool) (G' : GM), y1 = q87 /\ Ow G' H' (eVar b2 43 T_SimplexProblem p0 :: L) /\ GM.le G75 G' /\ σ' 55 = .bool y1) ?_ ?_
 rotate_left
 .rintro σ130 H131 fr132 ⟨x129, G133, rfl, O134, s135, t137⟩
  have h138 := z0c h89
  refine .cond (b := x129) rfl t137 (fun g139 => ?_) (fun g139 => ?_)
  .have h140 := z04 g139 h138
   refine .seq (.region (W.q1 (.int .i64 3) rfl (.nil (.ret ?_))))
   have O141 : Ow G133 H131 (L) := O134.drop 0
   obtain rfl := zAa h140
   exact z1y kr (v1 := (.int .i64 3)) (by rfl) (z06 (by rfl) (by exact rfl)) O141 (zAe s25 (zAe s41 (zAe s59 (zAe s77 s135)))) rfl
  have h142 := z0m g139 h138
  refine .skip (.seq (.region (W.q1 (.int .i64 0) rfl (.nil (.ret ?_)))))
  have O143 : Ow G133 H131 (L) := O134.drop 0
  obtain rfl := zAa h142
  exact z1y kr (v1 := (.int .i64 0)) (by rfl) (z06 (by rfl) (by exact rfl)) O143 (zAe s25 (zAe s41 (zAe s59 (zAe s77 s135)))) rfl
 refine .draw2 (M := [0, 1, 3, 0, 8, 24, 63, 127, 255, 511, 1023, 2047, 4095, 8191, 16383, 32767, 8191, 73727, 204799, 524287, 1048575, 2097151]) mixed (by kernel_rfl) (by kernel_rfl) fun H90 N94 x91 F93 => ?_
 have O92 := O76.ext x91
 refine D2.pure (v := (padd (.pointer (some ⟨b2, 0, none⟩)) 0)) rfl rfl (z3d z7s (oo rfl ((fr22 1 rfl).trans rfl)) (O92.atVar (j := 0) rfl)) ?_
 obtain ⟨w95, p96, f97⟩ := At.sl (At.proj (O92.atVar (j := 0) rfl) z0b)
 refine D2.load1' (v := w95) (r := []) rfl rfl ag36 (z26 rfl p96) z1k (D2.pure (v := (.int .i64 (List.length p0.A : Int))) rfl rfl (z0i (oo rfl rfl) (z0a f97) (z02 el36)) (D2.pure (v := (padd (.pointer (some ⟨b2, 0, none⟩)) 1)) rfl rfl (z3d zee (oo rfl ((fr22 1 rfl).trans rfl)) (O92.atVar (j := 0) rfl)) ?_))
 obtain ⟨w98, p99, f100⟩ := At.sl (At.proj (O92.atVar (j := 0) rfl) z27)
 refine D2.load1' (v := w98) (r := []) rfl rfl ag23 (z26 rfl p99) z1k (D2.pure (v := (.int .i64 (List.length p0.B : Int))) rfl rfl (z0i (oo rfl rfl) (z0a f100) (z02 el23)) (D2.q3 (.bool ((List.length p0.A : Int) != (List.length p0.B : Int))) rfl rfl (D2.q2 (.bool ((List.length p0.A : Int) != (List.length p0.B : Int))) rfl (D2.splitAt (t := 41) (b := ((List.length p0.A : Int) != (List.length p0.B : Int))) rfl (fun g101 gv102 => ?_) (fun g101 gv102 => ?_)))))
 .have h103 := z04 g101 h88
  refine D2.skip (gk rfl rfl gv102 rfl) rfl (D2.skip (gk rfl rfl gv102 rfl) rfl (D2.skip (gk rfl rfl gv102 rfl) rfl (D2.skip (gk rfl rfl gv102 rfl) rfl (D2.skip (gk rfl rfl gv102 rfl) rfl (D2.skipU rfl rfl rfl rfl (D2.skipU rfl rfl rfl rfl ?_))))))
  refine D2.skipU rfl rfl rfl rfl (D2.skipU rfl rfl rfl rfl (D2.skipU rfl rfl rfl rfl (D2.skipU rfl rfl rfl rfl (D2.skipU rfl rfl rfl rfl (D2.skip (gk rfl rfl gv102 rfl) rfl (D2.pure (v := (.bool true)) rfl rfl (z84 (oo rfl gv102) (oo rfl rfl)) ?_))))))
  refine .nil ?_
  obtain rfl := zAa h103
  exact ⟨true, _, rfl, O92, (zAf _), rfl⟩
 have h104 := z0m g101 h88
 refine D2.pure (v := (padd (.pointer (some ⟨b2, 0, none⟩)) 0)) (gk rfl rfl gv102 rfl) rfl (z3d z7s (oo rfl ((fr22 1 rfl).trans rfl)) (O92.atVar (j := 0) rfl)) ?_
 obtain ⟨w105, p106, f107⟩ := At.sl (At.proj (O92.atVar (j := 0) rfl) z0b)
 refine D2.load1' (v := w105) (r := []) (gk rfl rfl gv102 rfl) rfl ag36 (z26 rfl p106) z1k (D2.pure (v := (.int .i64 (List.length p0.A : Int))) (gk rfl rfl gv102 rfl) rfl (z0i (oo rfl rfl) (z0a f107) (z02 el36)) (D2.q3 (hg := gk rfl rfl gv102 rfl) (.bool (decide ((List.length p0.A : Int) > 0))) rfl rfl (D2.q2 (hg := gk rfl rfl gv102 rfl) (.bool (decide ((List.length p0.A : Int) > 0))) rfl (D2.splitAt (t := 46) (b := decide ((List.length p0.A : Int) > 0)) rfl (fun g108 gv109 => ?_) (fun g108 gv109 => ?_)))))
 rotate_left
 .have h128 := z0m g108 h104
  refine D2.skip (gk rfl rfl gv109 rfl) rfl (D2.skip (gk rfl rfl gv109 rfl) rfl (D2.skip (gk rfl rfl gv109 rfl) rfl (D2.skip (gk rfl rfl gv109 rfl) rfl (D2.skip (gk rfl rfl gv109 rfl) rfl (D2.skip (gk rfl rfl gv109 rfl) rfl (D2.skip (gk rfl rfl gv109 rfl) rfl ?_))))))
  refine D2.pure (v := (.bool false)) (gk rfl rfl gv102 rfl) rfl (z6c (oo rfl gv109) (oo rfl rfl)) (D2.pure (v := (.bool false)) rfl rfl (z6c (oo rfl gv102) (oo rfl rfl)) (.nil ?_))
  obtain rfl := zAa h128
  exact ⟨false, _, rfl, O92, (zAf _), rfl⟩
 have h110 := z04 g108 h104
 refine D2.pure (v := (padd (.pointer (some ⟨b2, 0, none⟩)) 0)) (gk rfl rfl gv109 rfl) rfl (z3d z7s (oo rfl ((fr22 1 rfl).trans rfl)) (O92.atVar (j := 0) rfl)) ?_
 obtain ⟨w111, p112, f113⟩ := At.sl (At.proj (O92.atVar (j := 0) rfl) z0b)
 refine D2.load1' (v := w111) (r := []) (gk rfl rfl gv109 rfl) rfl ag36 (z26 rfl p112) z1k ?_
 obtain ⟨x114, i115, h116⟩ := z05 h110
 refine D2.lo (gk rfl rfl gv109 rfl) rfl (Lo.cP rfl (fn := Tryd.f61) (by kernel_rfl) rfl (mc rfl mn) O92 (fun L' O' => z6k K w111 p0.A f113 O' _ i115)) ?_ z1k ?_ ?_
 .rintro v123 H124 ⟨G117, O118, s119, sm122, rfl⟩; exact (faR1 (.inl (by decide)) (faR1 (.inl (by decide)) (faR1 (.inl (by decide)) (faR1 (.inl (by decide)) z1k))))
 .rintro v123 H124 ⟨G117, O118, s119, sm122, rfl⟩; exact z1k
 rintro v123 H124 ⟨G117, O118, s119, sm122, rfl⟩
 refine D2.pure (v := (padd (.pointer (some ⟨b2, 0, none⟩)) 2)) (gk rfl rfl gv109 rfl) rfl (z3d zbf (oo rfl ((fr22 1 rfl).trans rfl)) (O118.atVar (j := 0) rfl)) ?_
 obtain ⟨w125, p126, f127⟩ := At.sl (At.proj (O118.atVar (j := 0) rfl) z1d)
 refine D2.load1' (v := w125) (r := []) (gk rfl rfl gv109 rfl) rfl ag23 (z26 rfl p126) (zcn (sm122 _ (Or.inr ⟨0, _, rfl, List.mem_singleton.2 rfl⟩)) z1k) (D2.pure (v := (.int .i64 (List.length p0.C : Int))) (gk rfl rfl gv109 rfl) rfl (z0i (oo rfl rfl) (z0a f127) (z02 el23)) (D2.q3 (hg := gk rfl rfl gv109 rfl) (.bool (x114 != (List.length p0.C : Int))) rfl rfl (D2.pure (v := (.bool (x114 != (List.length p0.C : Int)))) (gk rfl rfl gv102 rfl) rfl (z84 (oo rfl gv109) (oo rfl rfl)) (D2.pure (v := (.bool (x114 != (List.length p0.C : Int)))) rfl rfl (z6c (oo rfl gv102) (oo rfl rfl)) (.nil ?_)))))
 obtain rfl := zAa h116
 exact ⟨(x114 != (List.length p0.C : Int)), _, rfl, O118, s119, rfl⟩
structure Q where
  neg : Bool
  num : List Int
  den : List Int
  deriving DecidableEq, Inhabited
structure SimplexResult where
  Kind : Int
  X : List zAd
  Y : List zAd
  Ray : List zAd
  Value : zAd
  deriving DecidableEq, Inhabited
def T_SimplexResult : RT SimplexResult := rIso (rP (rI .i64) (rP (rSl rS) (rP (rSl rS) (rP (rSl rS) rS)))) (fun s : SimplexResult => (s.Kind, s.X, s.Y, s.Ray, s.Value))
theorem z45 (G : GM) : T_SimplexResult.rep G ([.int .i64 0] ++ ([.slice none 0 0] ++ ([.slice none 0 0] ++ ([.slice none 0 0] ++ [.string ByteArray.empty])))) ((SimplexResult.mk 0 ([] : List zAd) ([] : List zAd) ([] : List zAd) ByteArray.empty)) := ⟨_, _, rfl, (zI .i64) G, ⟨_, _, rfl, zL G, ⟨_, _, rfl, zL G, ⟨_, _, rfl, zL G, (zS G)⟩⟩⟩⟩
theorem z5c : Proj T_SimplexResult 0 (rI .i64) (fun x => x.Kind) := by
  have h := (Proj.iso (rP (rI .i64) (rP (rSl rS) (rP (rSl rS) (rP (rSl rS) rS)))) (fun s : SimplexResult => (s.Kind, s.X, s.Y, s.Ray, s.Value))).comp (Proj.fst _ _)
  exact h
theorem z6l : Proj T_SimplexResult 1 (rSl rS) (fun x => x.X) := by
  have h := (Proj.iso (rP (rI .i64) (rP (rSl rS) (rP (rSl rS) (rP (rSl rS) rS)))) (fun s : SimplexResult => (s.Kind, s.X, s.Y, s.Ray, s.Value))).comp ((Proj.snd _ _).comp (Proj.fst _ _))
  exact h
theorem z6m : Proj T_SimplexResult 2 (rSl rS) (fun x => x.Y) := by
  have h := (Proj.iso (rP (rI .i64) (rP (rSl rS) (rP (rSl rS) (rP (rSl rS) rS)))) (fun s : SimplexResult => (s.Kind, s.X, s.Y, s.Ray, s.Value))).comp ((Proj.snd _ _).comp ((Proj.snd _ _).comp (Proj.fst _ _)))
  exact h
theorem z5t : Proj T_SimplexResult 3 (rSl rS) (fun x => x.Ray) := by
  have h := (Proj.iso (rP (rI .i64) (rP (rSl rS) (rP (rSl rS) (rP (rSl rS) rS)))) (fun s : SimplexResult => (s.Kind, s.X, s.Y, s.Ray, s.Value))).comp ((Proj.snd _ _).comp ((Proj.snd _ _).comp ((Proj.snd _ _).comp (Proj.fst _ _))))
  exact h
theorem z55 : Proj T_SimplexResult 4 rS (fun x => x.Value) := by
  have h := (Proj.iso (rP (rI .i64) (rP (rSl rS) (rP (rSl rS) (rP (rSl rS) rS)))) (fun s : SimplexResult => (s.Kind, s.X, s.Y, s.Ray, s.Value))).comp ((Proj.snd _ _).comp ((Proj.snd _ _).comp ((Proj.snd _ _).comp ((Proj.snd _ _).comp (Proj.self _)))))
  exact h
theorem z6n {G : GM}   : ∃ cs : List Value, (∀ {s : List Value} {d : Tmp} {ty : TypeId} {pos : String} {af : Array Edge} {g : Option (Nat × Bool)} {ps : Array (Nat × Operand)}, zbq s ps.toList = some [] -> z1p Tryd.prog s ⟨some d, .build 46 ps, ty, pos, af, g⟩ = some (.agg (List.toArray cs))) /\ T_SimplexResult.rep G cs (SimplexResult.mk 0 ([] : List zAd) ([] : List zAd) ([] : List zAd) ByteArray.empty) := by
  refine ⟨_, fun {s d ty pos af g ps} hps => zfy pl46 ze46 zo46 hps ?_, z45 G⟩
  rfl
def z2d (K : Nat) (p0 : SimplexProblem) : Option (SimplexResult × Int) := ((z1m K p0).bind fun x14 => (if (x14 != 0) = true then some ((SimplexResult.mk 0 ([] : List zAd) ([] : List zAd) ([] : List zAd) ByteArray.empty), x14) else none))
theorem z65 (v0 : List Value) (p0 : SimplexProblem) (hp0 : T_SimplexProblem.rep G v0 p0) (O : Ow G H (L)) (r : SimplexResult × Int) (h : z2d K p0 = some r) :
    CR Tryd.prog 24 [.agg (List.toArray v0)] G H (L) (fun v G' _ => ∃ (w0 : List Value), v = .tuple #[.agg (List.toArray w0), .int .i64 r.2] /\ T_SimplexResult.rep G' w0 r.1) := by
 unfold z2d at h
 refine CR.og (n := 164) (fn := Tryd.f24) (by kernel_rfl) rfl rfl fun R kr => (.seq (.region (W.lo rfl rfl (Lo.box (r := T_SimplexProblem) (x0 := p0) (v := (.agg (List.toArray v0))) rfl rfl hp0 O) ?_)))
 rintro v4 H5 ⟨b2, rfl, O1, sm3⟩
 refine W.lo rfl rfl (Lo.alloc (r := T_SimplexResult) (x0 := (SimplexResult.mk 0 ([] : List zAd) ([] : List zAd) ([] : List zAd) ByteArray.empty)) ze46 (by kernel_rfl) z45 O1) ?_
 rintro v9 H10 ⟨b7, rfl, O6, sm8⟩
 refine W.q1 (.int .i64 0) rfl (.nil (.seq (.seq (.region ?_))))
 obtain ⟨c11, p12, f13⟩ := (O6.atVar (j := 1) rfl)
 refine W.loadA (cs := c11) rfl rfl ag43 sz43 (z26 rfl p12) (RT.len _ f13) ?_
 obtain ⟨x14, i15, h16⟩ := z05 h
 refine W.lo rfl rfl (Lo.cP rfl (fn := Tryd.f23) (by kernel_rfl) rfl (mc rfl mn) O6 (fun L' O' => z33 K c11 p0 f13 O' _ i15)) ?_
 rintro v23 H24 ⟨G17, O18, s19, sm22, rfl⟩
 refine W.q1 (.int .i64 x14) rfl (.nil (.seq (.region (W.q2 (.int .i64 x14) rfl (W.q3 (.bool (x14 != 0)) rfl rfl (.nil ?_))))))
 refine .cond (b := (x14 != 0)) rfl rfl (fun g25 => ?_) (fun g25 => ?_)
 rotate_left
 .have h39 := z0m g25 h16
  refine .skip (.seq (.region ?_))
  obtain ⟨c40, p41, f42⟩ := (O18.atVar (j := 1) rfl)
  refine W.loadA (cs := c40) rfl rfl ag43 sz43 (z26 rfl p41) (RT.len _ f42) ?_
  exact gap h39
 have h26 := z04 g25 h16
 refine .seq (.region ?_)
 obtain ⟨c27, e29, f28⟩ := z6n
 refine W.pure (v := .agg (List.toArray c27)) rfl rfl (e29 (za3 rfl qn')) (W.q2 (.int .i64 x14) rfl (W.lo rfl rfl (Lo.storeVar (j := 0) (s := T_SimplexResult) (y0 := (SimplexResult.mk 0 ([] : List zAd) ([] : List zAd) ([] : List zAd) ByteArray.empty)) (v := (.agg (List.toArray c27))) (o := 0) rfl ((Put.at (Put.self _) _ _)) rfl sz46 rfl (by omega) rfl f28 O18) ?_))
 rintro v32 H33 ⟨O30, sm31⟩
 refine W.q1 (.int .i64 x14) rfl (.nil (.ret ?_))
 obtain ⟨c34, p35, f36⟩ := (O30.atVar (j := 0) rfl)
 have O37 : Ow G17 H33 (eVar b2 43 T_SimplexProblem p0 :: L) := O30.drop 0
 have O38 : Ow G17 H33 (L) := O37.drop 0
 obtain rfl := zAa h26
 exact zeh kr (v1 := (.agg (List.toArray c34))) (v2 := (.int .i64 x14)) (by rfl) (zg2 (p := (.pointer (some ⟨b7, 0, none⟩))) (by rfl) ag46 sz46 (by exact rfl) p35 (RT.len _ f36)) (z06 (by rfl) (by exact rfl)) O38 s19 ⟨c34, rfl, f36⟩
def z24 (K : Nat) (p0 : SimplexProblem) (p1 : SimplexResult) : Option Int := ((z1m K p0).bind fun x14 => (if (x14 != 0) = true then some x14 else none))
theorem z5u (v0 : List Value) (p0 : SimplexProblem) (hp0 : T_SimplexProblem.rep G v0 p0) (v1 : List Value) (p1 : SimplexResult) (hp1 : T_SimplexResult.rep G v1 p1) (O : Ow G H (L)) (r : Int) (h : z24 K p0 p1 = some r) :
    CR Tryd.prog 25 [.agg (List.toArray v0), .agg (List.toArray v1)] G H (L) (fun v G' _ => v = .int .i64 r) := by
 unfold z24 at h
 refine CR.og (n := 133) (fn := Tryd.f25) (by kernel_rfl) rfl rfl fun R kr => (.seq (.region (W.lo rfl rfl (Lo.box (r := T_SimplexProblem) (x0 := p0) (v := (.agg (List.toArray v0))) rfl rfl hp0 O) ?_)))
 rintro v4 H5 ⟨b2, rfl, O1, sm3⟩
 refine W.lo rfl rfl (Lo.box (r := T_SimplexResult) (x0 := p1) (v := (.agg (List.toArray v1))) rfl rfl hp1 O1) ?_
 rintro v9 H10 ⟨b7, rfl, O6, sm8⟩
 refine W.q1 (.int .i64 0) rfl (.nil (.seq (.seq (.region ?_))))
 obtain ⟨c11, p12, f13⟩ := (O6.atVar (j := 1) rfl)
 refine W.loadA (cs := c11) rfl rfl ag43 sz43 (z26 rfl p12) (RT.len _ f13) ?_
 obtain ⟨x14, i15, h16⟩ := z05 h
 refine W.lo rfl rfl (Lo.cP rfl (fn := Tryd.f23) (by kernel_rfl) rfl (mc rfl mn) O6 (fun L' O' => z33 K c11 p0 f13 O' _ i15)) ?_
 rintro v23 H24 ⟨G17, O18, s19, sm22, rfl⟩
 refine W.q1 (.int .i64 x14) rfl (.nil (.seq (.region (W.q2 (.int .i64 x14) rfl (W.q3 (.bool (x14 != 0)) rfl rfl (.nil ?_))))))
 refine .cond (b := (x14 != 0)) rfl rfl (fun g25 => ?_) (fun g25 => ?_)
 rotate_left
 .have h29 := z0m g25 h16
  refine .skip (.seq (.seq (.region ?_)))
  obtain ⟨c30, p31, f32⟩ := (O18.atVar (j := 1) rfl)
  refine W.loadA (cs := c30) rfl rfl ag43 sz43 (z26 rfl p31) (RT.len _ f32) ?_
  obtain ⟨c33, p34, f35⟩ := (O18.atVar (j := 0) rfl)
  refine W.loadA (cs := c33) rfl rfl ag46 sz46 (z26 rfl p34) (RT.len _ f35) ?_
  exact gap h29
 have h26 := z04 g25 h16
 refine .seq (.region (W.q2 (.int .i64 x14) rfl (W.q1 (.int .i64 x14) rfl (.nil (.ret ?_)))))
 have O27 : Ow G17 H24 (eVar b2 43 T_SimplexProblem p0 :: L) := O18.drop 0
 have O28 : Ow G17 H24 (L) := O27.drop 0
 obtain rfl := zAa h26
 exact z1y kr (v1 := (.int .i64 x14)) (by rfl) (z06 (by rfl) (by exact rfl)) O28 s19 rfl
end Go.Am.Tryd
/- Typed functions with the same answers as the program's, and the walks that show it. -/
namespace Go.Am.Tryd
open Go Go.Am Go.Proofs
def z21 (K : Nat) (p0 : SimplexProblem) : Option Bool := ((z3e K ).bind fun x6 => (if (!x6) = true then some false else ((z1s K p0).bind fun x24 => ((z1m K p0).bind fun x38 => (if (x38 != x24) = true then some false else (if (x24 == 0) = true then some true else ((z2d K p0).bind fun x60 => (Option.bind ((if (x60.2 == x24) = true then (lt (z03 .i64 ((List.length x60.1.X : Int) + (List.length x60.1.Y : Int))) fun x94 => (if ((z03 .i64 (x94 + (List.length x60.1.Ray : Int))) == 0) = true then (if (x60.1.Kind == 0) = true then (if (sEq x60.1.Value (⟨#[]⟩ : zAd)) = true then ((z24 K p0 x60.1).bind fun x115 => some (x115 == x24)) else some false) else some false) else some false)) else some false)) (tu1 fun x130 => some x130)))))))))
theorem z4v (K : Nat) {G : GM} {H : AH} {L : List Pc} (v0 : List Value) (p0 : SimplexProblem) (hp0 : T_SimplexProblem.rep G v0 p0) (O : Ow G H (L)) (r : Bool) (h : z21 K p0 = some r) :
    CR Tryd.prog 5 [.agg (List.toArray v0)] G H (L) (fun v G' _ => v = .bool r) := by
 unfold z21 at h
 refine CR.og (n := 55) (fn := Tryd.f5) (by kernel_rfl) rfl rfl fun R kr => (.seq (.region (W.lo rfl rfl (Lo.box (r := T_SimplexProblem) (x0 := p0) (v := (.agg (List.toArray v0))) rfl rfl hp0 O) ?_)))
 rintro v4 H5 ⟨b2, rfl, O1, sm3⟩
 refine W.q1 (.bool false) rfl (.nil (.seq (.seq (.region ?_))))
 obtain ⟨x6, i7, h8⟩ := z05 h
 refine W.lo rfl rfl (Lo.cP rfl (fn := Tryd.f21) (by kernel_rfl) rfl mn O1 (fun L' O' => z5b K  O' _ i7)) ?_
 rintro v15 H16 ⟨G9, O10, s11, sm14, rfl⟩
 refine W.pure (v := (.bool (!x6))) rfl rfl (zcl (a := x6) (oo rfl rfl)) (.nil (.cond (b := (!x6)) rfl rfl (fun g17 => ?_) (fun g17 => ?_)))
 .have h18 := z04 g17 h8
  refine .seq (.region (W.q1 (.bool false) rfl (.nil (.ret ?_))))
  have O19 : Ow G9 H16 (L) := O10.drop 0
  obtain rfl := zAa h18
  exact z1y kr (v1 := (.bool false)) (by rfl) (z06 (by rfl) (by exact rfl)) O19 s11 rfl
 have h20 := z0m g17 h8
 refine .skip (.seq (.region ?_))
 obtain ⟨c21, p22, f23⟩ := (O10.atVar (j := 0) rfl)
 refine W.loadA (cs := c21) rfl rfl ag43 sz43 (z26 rfl p22) (RT.len _ f23) ?_
 obtain ⟨x24, i25, h26⟩ := z05 h20
 refine W.lo rfl rfl (Lo.cP rfl (fn := Tryd.f22) (by kernel_rfl) rfl (mc rfl mn) O10 (fun L' O' => z54 K c21 p0 f23 O' _ i25)) ?_
 rintro v33 H34 ⟨G27, O28, s29, sm32, rfl⟩
 refine W.q1 (.int .i64 x24) rfl (.nil (.seq (.seq (.region ?_))))
 obtain ⟨c35, p36, f37⟩ := (O28.atVar (j := 0) rfl)
 refine W.loadA (cs := c35) rfl rfl ag43 sz43 (z26 rfl p36) (RT.len _ f37) ?_
 obtain ⟨x38, i39, h40⟩ := z05 h26
 refine W.lo rfl rfl (Lo.cP rfl (fn := Tryd.f23) (by kernel_rfl) rfl (mc rfl mn) O28 (fun L' O' => z33 K c35 p0 f37 O' _ i39)) ?_
 rintro v47 H48 ⟨G41, O42, s43, sm46, rfl⟩
 refine W.q2 (.int .i64 x24) rfl (W.q3 (.bool (x38 != x24)) rfl rfl (.nil (.cond (b := (x38 != x24)) rfl rfl (fun g49 => ?_) (fun g49 => ?_))))
 .have h50 := z04 g49 h40
  refine .seq (.region (W.q1 (.bool false) rfl (.nil (.ret ?_))))
  have O51 : Ow G41 H48 (L) := O42.drop 0
  obtain rfl := zAa h50
  exact z1y kr (v1 := (.bool false)) (by rfl) (z06 (by rfl) (by exact rfl)) O51 (zAe s11 (zAe s29 s43)) rfl
 have h52 := z0m g49 h40
 refine .skip (.seq (.seq (.region (W.q2 (.int .i64 x24) rfl (W.q3 (.bool (x24 == 0)) rfl rfl (.nil ?_))))))
 refine .cond (b := (x24 == 0)) rfl rfl (fun g53 => ?_) (fun g53 => ?_)
 .have h54 := z04 g53 h52
  refine .seq (.region (W.q1 (.bool true) rfl (.nil (.ret ?_))))
  have O55 : Ow G41 H48 (L) := O42.drop 0
  obtain rfl := zAa h54
  exact z1y kr (v1 := (.bool true)) (by rfl) (z06 (by rfl) (by exact rfl)) O55 (zAe s11 (zAe s29 s43)) rfl
 have h56 := z0m g53 h52
 refine .skip (.seq (.region ?_))
 obtain ⟨c57, p58, f59⟩ := (O42.atVar (j := 0) rfl)
 refine W.loadA (cs := c57) rfl rfl ag43 sz43 (z26 rfl p58) (RT.len _ f59) ?_
 obtain ⟨x60, i61, h62⟩ := z05 h56
 refine W.lo rfl rfl (Lo.cP rfl (fn := Tryd.f24) (by kernel_rfl) rfl (mc rfl mn) O42 (fun L' O' => z65 K c57 p0 f59 O' _ i61)) ?_
 rintro v71 H72 ⟨G63, O64, s65, sm70, ⟨c67, rfl, f68⟩⟩
 refine W.q2 (.tuple #[(.agg (List.toArray c67)), (.int .i64 x60.2)]) rfl (W.pure (v := (.agg (List.toArray c67))) rfl rfl (z14 (oo rfl rfl) rfl) (W.pure (v := (.int .i64 x60.2)) rfl rfl (z14 (oo rfl rfl) rfl) (W.lo rfl rfl (Lo.alloc (r := T_SimplexResult) (x0 := (SimplexResult.mk 0 ([] : List zAd) ([] : List zAd) ([] : List zAd) ByteArray.empty)) ze46 (by kernel_rfl) z45 O64) ?_)))
 rintro v76 H77 ⟨b74, rfl, O73, sm75⟩
 refine W.lo rfl rfl (Lo.storeVar (j := 0) (s := T_SimplexResult) (y0 := x60.1) (v := (.agg (List.toArray c67))) (o := 0) rfl ((Put.at (Put.self _) _ _)) rfl sz46 rfl (by omega) rfl f68 O73) ?_
 rintro v80 H81 ⟨O78, sm79⟩
 refine W.q1 (.int .i64 x60.2) rfl (.nil (.seq ?_))
 obtain ⟨q82, h83, h84⟩ := z05 h62
 refine AW.midT (fun σ' H' => ∃ (y1 : Bool) (G' : GM), y1 = q82 /\ Ow G' H' (eVar b74 46 T_SimplexResult x60.1 :: eVar b2 43 T_SimplexProblem p0 :: L) /\ GM.le G63 G' /\ σ' 2 = .bool y1) ?_ ?_
 rotate_left
 .rintro σ131 H132 fr133 ⟨x130, G134, rfl, O135, s136, t138⟩
  have h139 := z0c h84
  refine .ret ?_
  have O140 : Ow G134 H132 (eVar b2 43 T_SimplexProblem p0 :: L) := O135.drop 0
  have O141 : Ow G134 H132 (L) := O140.drop 0
  obtain rfl := zAa h139
  exact z1y kr (v1 := (.bool x130)) (by rfl) (z06 (by rfl) (by exact t138)) O141 (zAe s11 (zAe s29 (zAe s43 (zAe s65 s136)))) rfl
 refine .region (W.q2 (.int .i64 x60.2) rfl (W.q2 (.int .i64 x24) rfl (W.q3 (.bool (x60.2 == x24)) rfl rfl (W.q2 (.bool (x60.2 == x24)) rfl (W.splitAt (t := 24) (b := (x60.2 == x24)) rfl (fun g85 gv86 => ?_) (fun g85 gv86 => ?_))))))
 rotate_left
 .have h129 := z0m g85 h83
  refine W.q6 rfl gv86 (W.q6 rfl gv86 (W.q6 rfl gv86 (W.q6 rfl gv86 (W.q6 rfl gv86 (W.q6 rfl gv86 (W.q6 rfl gv86 ?_))))))
  refine W.q6 rfl gv86 (W.q6 rfl gv86 (W.q6 rfl gv86 (W.q6 rfl gv86 (W.q6 rfl gv86 (W.q5 (.bool false) gv86 rfl (W.q2 (.bool false) rfl ?_))))))
  refine W.q6 rfl rfl (W.q6 rfl rfl (W.q6 rfl rfl (W.q5 (.bool false) rfl rfl (W.q2 (.bool false) rfl (W.q6 rfl rfl (W.q6 rfl rfl ?_))))))
  refine W.q6 rfl rfl (W.q5 (.bool false) rfl rfl (W.q2 (.bool false) rfl (W.q6 rfl rfl (W.q6 rfl rfl (W.q6 rfl rfl (W.q6 rfl rfl ?_))))))
  refine W.q6 rfl rfl (W.q5 (.bool false) rfl rfl (W.q1 (.bool false) rfl (.nil ?_)))
  obtain rfl := zAa h129
  exact ⟨false, _, rfl, O78, (zAf _), rfl⟩
 have h87 := z04 g85 h83
 refine W.pure (v := (padd (.pointer (some ⟨b74, 0, none⟩)) 1)) (gk rfl rfl gv86 rfl) rfl (z3d zib (oo rfl rfl) (O78.atVar (j := 0) rfl)) ?_
 obtain ⟨w88, p89, f90⟩ := At.sl (At.proj (O78.atVar (j := 0) rfl) z6l)
 refine W.load1 (v := w88) (r := []) (gk rfl rfl gv86 rfl) rfl ag23 (z26 rfl p89) (W.pure (v := (.int .i64 (List.length x60.1.X : Int))) (gk rfl rfl gv86 rfl) rfl (z0i (oo rfl rfl) (z0a f90) (z02 el23)) (W.pure (v := (padd (.pointer (some ⟨b74, 0, none⟩)) 2)) (gk rfl rfl gv86 rfl) rfl (z3d zic (oo rfl rfl) (O78.atVar (j := 0) rfl)) ?_))
 obtain ⟨w91, p92, f93⟩ := At.sl (At.proj (O78.atVar (j := 0) rfl) z6m)
 refine W.load1 (v := w91) (r := []) (gk rfl rfl gv86 rfl) rfl ag23 (z26 rfl p92) (W.pure (v := (.int .i64 (List.length x60.1.Y : Int))) (gk rfl rfl gv86 rfl) rfl (z0i (oo rfl rfl) (z0a f93) (z02 el23)) (W.q3 (hg := gk rfl rfl gv86 rfl) (.int .i64 (z03 .i64 ((List.length x60.1.X : Int) + (List.length x60.1.Y : Int)))) rfl rfl ?_))
 obtain ⟨x94, e95, h96⟩ := z4j h87
 refine W.pure (v := (padd (.pointer (some ⟨b74, 0, none⟩)) 3)) (gk rfl rfl gv86 rfl) rfl (z3d zid (oo rfl rfl) (O78.atVar (j := 0) rfl)) ?_
 obtain ⟨w97, p98, f99⟩ := At.sl (At.proj (O78.atVar (j := 0) rfl) z5t)
 refine W.load1 (v := w97) (r := []) (gk rfl rfl gv86 rfl) rfl ag23 (z26 rfl p98) (W.pure (v := (.int .i64 (List.length x60.1.Ray : Int))) (gk rfl rfl gv86 rfl) rfl (z0i (oo rfl rfl) (z0a f99) (z02 el23)) (W.q3 (hg := gk rfl rfl gv86 rfl) (.int .i64 (z03 .i64 (x94 + (List.length x60.1.Ray : Int)))) (congrArg (Value.int .i64) e95) rfl (W.q3 (hg := gk rfl rfl gv86 rfl) (.bool ((z03 .i64 (x94 + (List.length x60.1.Ray : Int))) == 0)) rfl rfl (W.q4 (.bool ((z03 .i64 (x94 + (List.length x60.1.Ray : Int))) == 0)) gv86 rfl (W.q2 (.bool ((z03 .i64 (x94 + (List.length x60.1.Ray : Int))) == 0)) rfl (W.splitAt (t := 38) (b := ((z03 .i64 (x94 + (List.length x60.1.Ray : Int))) == 0)) rfl (fun g100 gv101 => ?_) (fun g100 gv101 => ?_)))))))
 rotate_left
 .have h128 := z0m g100 h96
  refine W.q6 rfl gv101 (W.q6 rfl gv101 (W.q6 rfl gv101 (W.q5 (.bool false) gv101 rfl (W.q2 (.bool false) rfl (W.q6 rfl rfl (W.q6 rfl rfl ?_))))))
  refine W.q6 rfl rfl (W.q5 (.bool false) rfl rfl (W.q2 (.bool false) rfl (W.q6 rfl rfl (W.q6 rfl rfl (W.q6 rfl rfl (W.q6 rfl rfl ?_))))))
  refine W.q6 rfl rfl (W.q5 (.bool false) rfl rfl (W.q1 (.bool false) rfl (.nil ?_)))
  obtain rfl := zAa h128
  exact ⟨false, _, rfl, O78, (zAf _), rfl⟩
 have h102 := z04 g100 h96
 refine W.pure (v := (padd (.pointer (some ⟨b74, 0, none⟩)) 0)) (gk rfl rfl gv101 rfl) rfl (z3d zia (oo rfl rfl) (O78.atVar (j := 0) rfl)) (W.load1 (v := (.int .i64 x60.1.Kind)) (r := []) (gk rfl rfl gv101 rfl) rfl ag3 (z26 rfl (At.int (At.proj (O78.atVar (j := 0) rfl) z5c))) (W.q3 (hg := gk rfl rfl gv101 rfl) (.bool (x60.1.Kind == 0)) rfl rfl (W.q4 (.bool (x60.1.Kind == 0)) gv101 rfl (W.q2 (.bool (x60.1.Kind == 0)) rfl (W.splitAt (t := 43) (b := (x60.1.Kind == 0)) rfl (fun g103 gv104 => ?_) (fun g103 gv104 => ?_))))))
 rotate_left
 .have h127 := z0m g103 h102
  refine W.q6 rfl gv104 (W.q6 rfl gv104 (W.q6 rfl gv104 (W.q5 (.bool false) gv104 rfl (W.q2 (.bool false) rfl (W.q6 rfl rfl (W.q6 rfl rfl ?_))))))
  refine W.q6 rfl rfl (W.q6 rfl rfl (W.q6 rfl rfl (W.q5 (.bool false) rfl rfl (W.q1 (.bool false) rfl (.nil ?_)))))
  obtain rfl := zAa h127
  exact ⟨false, _, rfl, O78, (zAf _), rfl⟩
 have h105 := z04 g103 h102
 refine W.pure (v := (padd (.pointer (some ⟨b74, 0, none⟩)) 4)) (gk rfl rfl gv104 rfl) rfl (z3d zie (oo rfl rfl) (O78.atVar (j := 0) rfl)) (W.load1 (v := (.string x60.1.Value)) (r := []) (gk rfl rfl gv104 rfl) rfl ag25 (z26 rfl (At.str (At.proj (O78.atVar (j := 0) rfl) z55))) (W.pure (v := (.bool (sEq x60.1.Value (⟨#[]⟩ : zAd)))) (gk rfl rfl gv104 rfl) rfl (z7r (oo rfl rfl) (oo rfl rfl)) (W.q4 (.bool (sEq x60.1.Value (⟨#[]⟩ : zAd))) gv104 rfl (W.q2 (.bool (sEq x60.1.Value (⟨#[]⟩ : zAd))) rfl (W.splitAt (t := 48) (b := sEq x60.1.Value (⟨#[]⟩ : zAd)) rfl (fun g106 gv107 => ?_) (fun g106 gv107 => ?_))))))
 rotate_left
 .have h126 := z0m g106 h105
  refine W.q6 rfl gv107 (W.q6 rfl gv107 (W.q6 rfl gv107 (W.q6 rfl gv107 (W.q6 rfl gv107 (W.q5 (.bool false) gv107 rfl (W.q1 (.bool false) rfl ?_))))))
  refine .nil ?_
  obtain rfl := zAa h126
  exact ⟨false, _, rfl, O78, (zAf _), rfl⟩
 have h108 := z04 g106 h105
 obtain ⟨c109, p110, f111⟩ := (O78.atVar (j := 1) rfl)
 refine W.loadA (cs := c109) (gk rfl rfl gv107 rfl) rfl ag43 sz43 (z26 rfl p110) (RT.len _ f111) ?_
 obtain ⟨c112, p113, f114⟩ := (O78.atVar (j := 0) rfl)
 refine W.loadA (cs := c112) (gk rfl rfl gv107 rfl) rfl ag46 sz46 (z26 rfl p113) (RT.len _ f114) ?_
 obtain ⟨x115, i116, h117⟩ := z05 h108
 refine W.lo (gk rfl rfl gv107 rfl) rfl (Lo.cP rfl (fn := Tryd.f25) (by kernel_rfl) rfl (mc rfl (mc rfl mn)) O78 (fun L' O' => z5u K c109 p0 f111 c112 x60.1 f114 O' _ i116)) ?_
 rintro v124 H125 ⟨G118, O119, s120, sm123, rfl⟩
 refine W.q2 (hg := gk rfl rfl gv107 rfl) (.int .i64 x24) rfl (W.q3 (hg := gk rfl rfl gv107 rfl) (.bool (x115 == x24)) rfl rfl (W.q4 (.bool (x115 == x24)) gv107 rfl (W.q1 (.bool (x115 == x24)) rfl (.nil ?_))))
 obtain rfl := zAa h117
 exact ⟨(x115 == x24), _, rfl, O119, s120, rfl⟩
end Go.Am.Tryd
/- Numbers: digits in a base, the least one first; decimal texts. Plain, no program. -/
namespace Go.Am
open Go
def valB (B : Int) : List Int -> Int
 | [] => 0
 | d :: l => d + B * valB B l
def DigB (B : Int) (l : List Int) : Prop := ∀ d ∈ l, 0 <= d /\ d < B
theorem DigB.nil (B : Int) : DigB B [] := fun d h => by simp at h
theorem DigB.cons {B d : Int} {l : List Int} (h : DigB B (d :: l)) : (0 <= d /\ d < B) /\ DigB B l := ⟨h d (by simp), fun x hx => h x (by simp [hx])⟩
theorem DigB.app {B : Int} {l m : List Int} (h : DigB B l) (k : DigB B m) : DigB B (l ++ m) := fun d hd => by
 rcases List.mem_append.1 hd with hd | hd
 ·exact h d hd
 ·exact k d hd
theorem z3u (B : Int) : ∀ (l m : List Int), valB B (l ++ m) = valB B l + B ^ l.length * valB B m
 | [], m => by simp [valB]
 | d :: l, m => by
  simp only [List.cons_append, valB, z3u B l m, List.length_cons, Int.pow_succ]
  rw [Int.mul_add, <- Int.mul_assoc, Int.mul_comm B (B ^ l.length), Int.add_assoc]
theorem z0y {B : Int} (hB : 0 < B) : ∀ (l : List Int), DigB B l -> 0 <= valB B l
 | [], _ => Int.le_refl _
 | d :: l, h => by
  have h1 := (h.cons).1
  have h2 := z0y hB l h.cons.2
  have := Int.mul_nonneg (Int.le_of_lt hB) h2
  simp only [valB]; omega
theorem z40 {B : Int} (hB : 0 < B) : ∀ (l : List Int), DigB B l -> valB B l < B ^ l.length
 | [], _ => by simp [valB]
 | d :: l, h => by
  have h1 := (h.cons).1
  have h2 := z40 hB l h.cons.2
  have h3 : B * (valB B l + 1) <= B * B ^ l.length := Int.mul_le_mul_of_nonneg_left (by omega) (Int.le_of_lt hB)
  rw [Int.mul_add, Int.mul_one] at h3
  simp only [valB, List.length_cons, Int.pow_succ]
  rw [Int.mul_comm (B ^ l.length) B]
  omega
def CanB (B : Int) (l : List Int) : Prop := DigB B l /\ l.getLast? ≠ some 0
theorem CanB.tail {B d : Int} {l : List Int} (h : CanB B (d :: l)) : CanB B l := by
 refine ⟨h.1.cons.2, fun e => h.2 ?_⟩
 cases l with
 | nil => simp at e
 | cons x l => rw [List.getLast?_cons_cons]; exact e
theorem z7d {B : Int} (hB : 1 < B) : ∀ (l : List Int), CanB B l -> l ≠ [] -> 0 < valB B l
 | [], _, h => absurd rfl h
 | d :: l, h, _ => by
  have h1 := h.1.cons.1
  cases l with
  | nil =>
   have : d ≠ 0 := fun e => h.2 (by simp [e])
   simp only [valB]; omega
  | cons x l =>
   have h2 := z7d hB (x :: l) h.tail (by simp)
   have h3 : B * 1 <= B * valB B (x :: l) := Int.mul_le_mul_of_nonneg_left (by omega) (by omega)
   simp only [valB] at h2 h3 ⊢; omega
theorem zg8 {B d e x y : Int} (hd : 0 <= d /\ d < B) (he : 0 <= e /\ e < B) (h : d + B * x = e + B * y) : d = e /\ x = y := by
 have h1 : x = y := by
  rcases Int.lt_trichotomy x y with h2 | h2 | h2
  ·have : B * (x + 1) <= B * y := Int.mul_le_mul_of_nonneg_left (by omega) (by omega)
   rw [Int.mul_add, Int.mul_one] at this; omega
  ·exact h2
  ·have : B * (y + 1) <= B * x := Int.mul_le_mul_of_nonneg_left (by omega) (by omega)
   rw [Int.mul_add, Int.mul_one] at this; omega
 subst h1
 exact ⟨by omega, rfl⟩
theorem zg9 {B : Int} (hB : 1 < B) : ∀ (l m : List Int), CanB B l -> CanB B m -> valB B l = valB B m -> l = m
 | [], [], _, _, _ => rfl
 | [], e :: m, _, h2, h => by
  have := z7d hB (e :: m) h2 (by simp)
  rw [<- h] at this; simp [valB] at this
 | d :: l, [], h1, _, h => by
  have := z7d hB (d :: l) h1 (by simp)
  rw [h] at this; simp [valB] at this
 | d :: l, e :: m, h1, h2, h => by
  obtain ⟨rfl, h3⟩ := zg8 h1.1.cons.1 h2.1.cons.1 h
  rw [zg9 hB l m h1.tail h2.tail h3]
def digT (c : Int) : Bool := decide (48 <= c) && decide (c <= 57)
def z5v (s : zAd) : List Int := ((z01 s).map (· - 48)).reverse
def numT (s : zAd) : Int := valB 10 (z5v s)
def CanT (s : zAd) : Prop := s.size ≠ 0 /\ (z01 s).all digT = true /\ ((z01 s).head? = some 48 -> s.size = 1)
theorem z2l {a b : zAd} (h : z01 a = z01 b) : a = b := by
 unfold z01 at h
 have h1 : a.data.toList = b.data.toList := by
  have : Function.Injective fun b : UInt8 => (b.toNat : Int) := fun x y h => by
   have : x.toNat = y.toNat := by have h' : (x.toNat : Int) = (y.toNat : Int) := h; omega
   exact UInt8.toNat_inj.1 this
  exact List.map_inj_right (fun x y h => this h) |>.1 h
 cases a; cases b
 congr 1
 exact Array.toList_inj.1 h1
theorem z91 {s : zAd} (h : (z01 s).all digT = true) : DigB 10 (z5v s) := by
 intro d hd
 unfold z5v at hd
 rw [List.mem_reverse, List.mem_map] at hd
 obtain ⟨c, hc, rfl⟩ := hd
 have := List.all_eq_true.1 h c hc
 simp only [digT, Bool.and_eq_true, decide_eq_true_eq] at this
 omega
theorem z51 (s : zAd) : (z5v s).length = s.size := by
 unfold z5v
 rw [List.length_reverse, List.length_map, z00]
theorem zau {a b : zAd} (h : z5v a = z5v b) : a = b := by
 unfold z5v at h
 have h1 := List.reverse_inj.1 h
 exact z2l (List.map_inj_right (fun x y h => by omega) |>.1 h1)
theorem z52 {s : zAd} (h : CanT s) (h0 : (z01 s).head? = some 48) : z5v s = [0] := by
 have h1 := h.2.2 h0
 have hl := z00 s
 rw [h1] at hl
 match hb : z01 s, hl with
 | [c], _ => rw [hb] at h0; simp at h0; subst h0; simp [z5v, hb]
theorem z92 {s : zAd} (h : CanT s) (h0 : (z01 s).head? ≠ some 48) : CanB 10 (z5v s) := by
 refine ⟨z91 h.2.1, fun e => h0 ?_⟩
 unfold z5v at e
 rw [List.getLast?_reverse, List.head?_map] at e
 cases hb : (z01 s).head? with
 | none => rw [hb] at e; cases e
 | some c => rw [hb] at e; simp at e; congr 1; omega
theorem z66 {a b : zAd} (ha : CanT a) (hb : CanT b) (h : numT a = numT b) : a = b := by
 have pos : ∀ s : zAd, CanT s -> (z01 s).head? ≠ some 48 -> 0 < numT s := fun s hs h0 => z7d (by omega) _ (z92 hs h0) (fun e => by
  have := z51 s
  rw [e] at this
  exact hs.1 this.symm)
 by_cases h1 : (z01 a).head? = some 48 <;> by_cases h2 : (z01 b).head? = some 48
 ·exact zau (by rw [z52 ha h1, z52 hb h2])
 ·have := pos b hb h2
  unfold numT at h this
  rw [z52 ha h1] at h
  simp [valB] at h; omega
 ·have := pos a ha h1
  unfold numT at h this
  rw [z52 hb h2] at h
  simp [valB] at h; omega
 ·exact zau (zg9 (by omega) _ _ (z92 ha h1) (z92 hb h2) h)
theorem z1n (a : zAd) (i j : Nat) : z01 (a.extract i j) = ((z01 a).drop i).take (j - i) := by
 unfold z01
 rw [ByteArray.data_extract, Array.toList_extract]
 simp [List.extract, List.map_drop, List.map_take]
theorem z3i (a b : zAd) : z01 (a ++ b) = z01 a ++ z01 b := by
 unfold z01
 rw [ByteArray.data_append, Array.toList_append, List.map_append]
theorem zbi (xs : List Int) (h : ∀ x ∈ xs, 0 <= x /\ x <= 255) : z01 (strOfNums xs) = xs := by
 unfold z01
 rw [strOfNums_data, List.map_map]
 conv => rhs; rw [<- List.map_id xs]
 apply List.map_congr_left
 intro x hx
 have := h x hx
 show ((UInt8.ofNat x.toNat).toNat : Int) = x
 rw [UInt8.toNat_ofNat']
 omega
theorem za7 {s : zAd} {c : Int} {l : List Int} (h : z01 s = c :: l) : ∃ t, ssl s 1 (s.size : Int) = some t /\ z01 t = l /\ t.size = l.length := by
 have hn := z00 s
 rw [h] at hn
 simp at hn
 refine ⟨s.extract 1 s.size, ?_, ?_, ?_⟩
 ·unfold ssl
  rw [if_pos (by omega)]
  simp
 ·rw [z1n, h]
  simp
  exact List.take_of_length_le (by omega)
 ·rw [<- z00, z1n, h]
  simp
  omega
theorem zel {s t : zAd} {c : Int} (h : z01 s = c :: z01 t) : numT s = numT t + 10 ^ t.size * (c - 48) := by
 unfold numT z5v
 rw [h, List.map_cons, List.reverse_cons, z3u]
 simp [valB, z00]
end Go.Am
/- Graphs: connected parts, their numbers, closure of a matrix, ways. Plain, no program. -/
namespace Go.Am
open Go
def Edg (l : List (Int × Int)) (U : Nat -> Bool) (a b : Nat) : Prop := ∃ k, k < l.length /\ U k = true /\ (l.getD k (0, 0) = ((a : Int), (b : Int)) \/ l.getD k (0, 0) = ((b : Int), (a : Int)))
inductive Con (l : List (Int × Int)) (U : Nat -> Bool) : Nat -> Nat -> Prop
 | refl (a : Nat) : Con l U a a
 | tail {a b c : Nat} : Con l U a b -> Edg l U b c -> Con l U a c
structure Outer (l : List (Int × Int)) (U : Nat -> Bool) (n : Nat) (cs : List Int) (m s : Nat) : Prop where
 len : cs.length = n
 rng : ∀ i < n, -1 <= cs.getD i 0 /\ cs.getD i 0 < m
 done : ∀ i < s, i < n -> 0 <= cs.getD i 0
 cls : ∀ i j, i < n -> j < n -> 0 <= cs.getD i 0 -> (cs.getD i 0 = cs.getD j 0 ↔ Con l U i j)
 last : 0 < m -> ∃ j < s, j < n /\ cs.getD j 0 = (m : Int) - 1
 rgs : ∀ i < n, 0 < cs.getD i 0 -> ∃ j < i, cs.getD j 0 = cs.getD i 0 - 1
 few : m <= s
structure Mid (l : List (Int × Int)) (U : Nat -> Bool) (n : Nat) (base : List Int) (m s : Nat) (cs : List Int) : Prop where
 len : cs.length = n
 own : ∀ i < n, (cs.getD i 0 = m /\ base.getD i 0 = -1 /\ Con l U s i) \/ cs.getD i 0 = base.getD i 0
 start : cs.getD s 0 = m
theorem z7e {cs : List Int} {i j : Nat} {v : Int} (hi : i < cs.length) : (cs.set i v).getD j 0 = if j = i then v else cs.getD j 0 := by
 rw [zAb, List.getElem?_set]
 by_cases h : i = j
 ·subst h; simp [hi]
 ·rw [if_neg h, if_neg (fun e => h e.symm), zAb]
theorem Edg.symm {l : List (Int × Int)} {U : Nat -> Bool} {a b : Nat} (h : Edg l U a b) : Edg l U b a := by
 obtain ⟨k, h1, h2, h3⟩ := h
 exact ⟨k, h1, h2, h3.symm⟩
theorem Con.trans {l : List (Int × Int)} {U : Nat -> Bool} {a b c : Nat} (h : Con l U a b) (k : Con l U b c) : Con l U a c := by
 induction k with
 | refl => exact h
 | tail _ e ih => exact .tail ih e
theorem Con.symm {l : List (Int × Int)} {U : Nat -> Bool} {a b : Nat} (h : Con l U a b) : Con l U b a := by
 induction h with
 | refl => exact .refl _
 | tail _ e ih => exact (Con.tail (.refl _) e.symm).trans ih
structure EqvOn (M : Nat -> Nat -> Bool) (n : Nat) : Prop where
 refl : ∀ a < n, M a a = true
 symm : ∀ a b, a < n -> b < n -> M a b = true -> M b a = true
 trans : ∀ a b c, a < n -> b < n -> c < n -> M a b = true -> M b c = true -> M a c = true
structure NumOk (M : Nat -> Nat -> Bool) (cs : List Int) (m i : Nat) : Prop where
 len : cs.length = i
 rng : ∀ a < i, 0 <= cs.getD a 0 /\ cs.getD a 0 < m
 cls : ∀ a b, a < i -> b < i -> (cs.getD a 0 = cs.getD b 0 ↔ M a b = true)
 last : 0 < m -> ∃ a < i, cs.getD a 0 = (m : Int) - 1
 rgs : ∀ a < i, 0 < cs.getD a 0 -> ∃ b < a, cs.getD b 0 = cs.getD a 0 - 1
 few : m <= i
structure WOk (l : List (Int × Int)) (U : Nat -> Bool) (n : Nat) (M : Nat -> Nat -> Bool) (m : Nat) : Prop where
 sound : ∀ a b, a < n -> b < n -> M a b = true -> Con l U a b
 refl : ∀ a < n, M a a = true
 edge : ∀ a b, a < n -> b < n -> Edg l U a b -> M a b = true
 tr : ∀ c < m, ∀ a b, a < n -> b < n -> M a c = true -> M c b = true -> M a b = true
def Wk (l : List (Int × Int)) (U : Nat -> Bool) (to : Nat) : Nat -> Nat -> Prop
 | 0, v => v = to
 | k + 1, v => ∃ w, Edg l U v w /\ Wk l U to k w
structure FarOk (l : List (Int × Int)) (U : Nat -> Bool) (n to : Nat) (fs : List Int) (d : Nat) : Prop where
 len : fs.length = n
 rng : ∀ v < n, -1 <= fs.getD v 0
 fnd : ∀ v < n, ∀ k : Nat, fs.getD v 0 = k -> k <= d /\ Wk l U to k v /\ ∀ j < k, ¬ Wk l U to j v
 nof : ∀ v < n, fs.getD v 0 = -1 -> ∀ j ≤ d, ¬ Wk l U to j v
structure Rnd (l : List (Int × Int)) (U : Nat -> Bool) (n to : Nat) (fs gs : List Int) (d : Nat) : Prop where
 len : gs.length = n
 old : ∀ v < n, gs.getD v 0 = fs.getD v 0 \/ (fs.getD v 0 = -1 /\ gs.getD v 0 = (d : Int) + 1 /\ Wk l U to (d + 1) v)
def neg (n : Nat) (fs : List Int) : Nat := ((List.range n).filter fun v => fs.getD v 0 == -1).length
theorem zd3 {S R : Type} (n : Nat) (l : Nat -> S -> Int -> Option R) (I : S -> Nat -> Prop) (Q : R -> Prop)
  (h : ∀ k s (i : Nat), i < n -> I s i -> (∃ r, l (k + 1) s (i : Int) = some r /\ Q r) \/ ∃ s', I s' (i + 1) /\ l (k + 1) s (i : Int) = l k s' ((i + 1 : Nat) : Int))
  (h0 : ∀ k s (i : Nat), i = n -> I s i -> ∃ r, l (k + 1) s (i : Int) = some r /\ Q r) : ∀ k s, n < k -> I s 0 -> ∃ r, l k s 0 = some r /\ Q r := by
 have key : ∀ d k s (i : Nat), n - i = d -> i <= n -> d < k -> I s i -> ∃ r, l k s (i : Int) = some r /\ Q r := by
  intro d
  induction d with
  | zero =>
   intro k s i hd hi hk hI
   obtain ⟨k, rfl⟩ : ∃ m, k = m + 1 := ⟨k - 1, by omega⟩
   exact h0 k s i (by omega) hI
  | succ d ih =>
   intro k s i hd hi hk hI
   obtain ⟨k, rfl⟩ : ∃ m, k = m + 1 := ⟨k - 1, by omega⟩
   rcases h k s i (by omega) hI with h1 | ⟨s', h1, h2⟩
   ·exact h1
   ·rw [h2]; exact ih k s' (i + 1) (by omega) (by omega) (by omega) h1
 intro k s hk hI
 exact key n k s 0 (by omega) (Nat.zero_le _) hk hI
theorem zhb {S R : Type} (l : Nat -> S -> Option R) (I : S -> Prop) (mu : S -> Nat) (Q : R -> Prop)
  (h : ∀ k s, I s -> (∃ r, l (k + 1) s = some r /\ Q r) \/ ∃ s', I s' /\ mu s' < mu s /\ l (k + 1) s = l k s') : ∀ k s, mu s < k -> I s -> ∃ r, l k s = some r /\ Q r := by
 intro k
 induction k with
 | zero => intro s h1; omega
 | succ k ih =>
  intro s h1 hI
  rcases h k s hI with h2 | ⟨s', h2, h3, h4⟩
  ·exact h2
  ·rw [h4]; exact ih s' (by omega) h2
def two (p : Int × Int) : List Int := [p.1, p.2]
theorem zd4 {cs : List Int} {a : Nat} (h : a < cs.length) : idx cs (a : Int) = some (cs.getD a 0) := by
 apply z4i
 simp [h, zAb]
end Go.Am
/- Plain lemmas: rules for typed functions over whole numbers; digits set in place; the guess of a digit of a quotient. -/
namespace Go.Am
open Go
theorem z0z {α β : Type} (a : α) (f : α -> Option β) : Option.bind (some a) f = f a := (rfl)
theorem tu0a {β : Type} (g : Option β) (u : Unit) : tu0 g u = g := (rfl)
theorem tu1a {α β : Type} (g : α -> Option β) (a : α) : tu1 g a = g a := (rfl)
theorem tu2a {α1 α2 β : Type} (g : α1 -> α2 -> Option β) (p : α1 × α2) : tu2 g p = g p.1 p.2 := (rfl)
theorem tu3a {α1 α2 α3 β : Type} (g : α1 -> α2 -> α3 -> Option β) (p : α1 × α2 × α3) : tu3 g p = g p.1 p.2.1 p.2.2 := (rfl)
theorem tu4a {α1 α2 α3 α4 β : Type} (g : α1 -> α2 -> α3 -> α4 -> Option β) (p : α1 × α2 × α3 × α4) : tu4 g p = g p.1 p.2.1 p.2.2.1 p.2.2.2 := (rfl)
theorem tu5a {α1 α2 α3 α4 α5 β : Type} (g : α1 -> α2 -> α3 -> α4 -> α5 -> Option β) (p : α1 × α2 × α3 × α4 × α5) : tu5 g p = g p.1 p.2.1 p.2.2.1 p.2.2.2.1 p.2.2.2.2 := (rfl)
theorem lta {α β : Type} (x : α) (f : α -> Option β) : lt x f = f x := (rfl)
theorem zga {α β γ : Type} (a : α) (f : α -> Option γ) (g : β -> Option γ) : zap (some (.inl a)) f g = f a := (rfl)
theorem zgb {α β γ : Type} (b : β) (f : α -> Option γ) (g : β -> Option γ) : zap (some (.inr b)) f g = g b := (rfl)
theorem ziw {α β γ : Type} (a : α) (f : α -> Option γ) (g : β -> Option γ) : outS (.inl a) f g = f a := (rfl)
theorem zix {α β γ : Type} (b : β) (f : α -> Option γ) (g : β -> Option γ) : outS (.inr b) f g = g b := (rfl)
theorem zhc {α : Type} [BEq α] [LawfulBEq α] {a b : α} : ((a == b) = true) = (a = b) := propext beq_iff_eq
theorem zhd {a b : Int} : ((a != b) = true) = (a ≠ b) := by simp
theorem k64 {a : Int} (h1 : -9223372036854775808 <= a) (h2 : a <= 9223372036854775807) : z03 .i64 a = a := kw h1 h2
theorem ku64 {a : Int} (h1 : 0 <= a) (h2 : a <= 18446744073709551615) : z03 .u64 a = a := z4e (by simp [z5i]; omega)
theorem ku32 {a : Int} (h1 : 0 <= a) (h2 : a <= 4294967295) : z03 .u32 a = a := z4e (by simp [z5i]; omega)
theorem ku8 {a : Int} (h1 : 0 <= a) (h2 : a <= 255) : z03 .u8 a = a := z4e (by simp [z5i]; omega)
theorem i64w {a : Int} (h1 : -9223372036854775808 <= a) (h2 : a <= 9223372036854775807) : IntKind.wrap .i64 a = a := by rw [<- z4l]; exact k64 h1 h2
theorem u64w {a : Int} (h1 : 0 <= a) (h2 : a <= 18446744073709551615) : IntKind.wrap .u64 a = a := by rw [<- z4l]; exact ku64 h1 h2
theorem u32w {a : Int} (h1 : 0 <= a) (h2 : a <= 4294967295) : IntKind.wrap .u32 a = a := by rw [<- z4l]; exact ku32 h1 h2
theorem u8w {a : Int} (h1 : 0 <= a) (h2 : a <= 255) : IntKind.wrap .u8 a = a := by rw [<- z4l]; exact ku8 h1 h2
theorem idxI {xs : List Int} {j : Int} (h1 : 0 <= j) (h2 : j < (xs.length : Int)) : idx xs j = some (xs.getD j.toNat 0) := by
 unfold idx
 rw [if_neg (by omega), zAb, zAh (by omega)]
 rfl
theorem zin {s : zAd} {j : Int} (h1 : 0 <= j) (h2 : j < (s.size : Int)) : bidx s j = some ((z01 s).getD j.toNat 0) := by
 rw [z76]; exact idxI h1 (by rw [z00]; exact h2)
theorem lslI {α : Type} {xs : List α} {l h : Int} (h1 : 0 <= l) (h2 : l <= h) (h3 : h <= (xs.length : Int)) : lsl xs l h = some ((xs.drop l.toNat).take (h.toNat - l.toNat)) := by unfold lsl; rw [if_pos ⟨h1, h2, h3⟩]
theorem sslI {s : zAd} {l h : Int} (h1 : 0 <= l) (h2 : l <= h) (h3 : h <= (s.size : Int)) : ssl s l h = some (s.extract l.toNat h.toNat) := by unfold ssl; rw [if_pos ⟨h1, h2, h3⟩]
theorem zio {a b : Int} (h : 0 <= a) : Int.tdiv a b = a / b := Int.tdiv_eq_ediv_of_nonneg h
theorem ziy {a b : Int} (h : 0 <= a) : Int.tmod a b = a % b := Int.tmod_eq_emod_of_nonneg h
theorem za8 {S R : Type} (l : Nat -> S -> Option R) (I : S -> Prop) (mu : S -> Nat) (Q : R -> Prop)
  (h : ∀ k s, I s -> (∃ r, l (k + 1) s = some r /\ Q r) \/ ∃ s', l (k + 1) s = l k s' /\ mu s' < mu s /\ I s') {k : Nat} (s : S) (hk : mu s < k) (hI : I s) : ∃ r, l k s = some r /\ Q r :=
 zhb l I mu Q (fun k s hs => (h k s hs).imp id fun ⟨s', a, b, c⟩ => ⟨s', c, b, a⟩) k s hk hI
theorem z25 {B : Int} (hB : 0 < B) {x : List Int} (h : DigB B x) (k : Nat) : 0 <= x.getD k 0 /\ x.getD k 0 < B := by
 by_cases hk : k < x.length
 ·rw [zAb, zAh hk]; exact h _ (List.getElem_mem hk)
 ·rw [zAb, List.getElem?_eq_none (by omega)]; exact ⟨Int.le_refl _, hB⟩
theorem z67 (B : Int) : ∀ (l : List Int) (p : Nat) (d : Int), p < l.length -> valB B (l.set p d) = valB B l + B ^ p * (d - l.getD p 0)
 | [], p, d, h => by simp at h
 | x :: l, 0, d, _ => by simp [valB]; omega
 | x :: l, p + 1, d, h => by
  have := z67 B l p d (by simpa using h)
  simp only [List.set_cons_succ, valB, this, List.getD_cons_succ, Int.pow_succ]
  grind
theorem DigB.set {B d : Int} {l : List Int} (h : DigB B l) (p : Nat) (hd : 0 <= d /\ d < B) : DigB B (l.set p d) := fun x hx => by
 rcases List.mem_or_eq_of_mem_set hx with h1 | h1
 ·exact h x h1
 ·subst h1; exact hd
theorem DigB.take {B : Int} {l : List Int} (h : DigB B l) (k : Nat) : DigB B (l.take k) := fun x hx => h x (List.mem_of_mem_take hx)
theorem DigB.drop {B : Int} {l : List Int} (h : DigB B l) (k : Nat) : DigB B (l.drop k) := fun x hx => h x (List.mem_of_mem_drop hx)
theorem DigB.snoc {B d : Int} {l : List Int} (h : DigB B l) (hd : 0 <= d /\ d < B) : DigB B (l ++ [d]) := h.app fun x hx => by simp at hx; omega
theorem z5w (B : Int) (l : List Int) (k : Nat) (hk : k <= l.length) : valB B l = valB B (l.take k) + B ^ k * valB B (l.drop k) := by
 conv => lhs; rw [<- List.take_append_drop k l]
 rw [z3u, List.length_take, Nat.min_eq_left hk]
theorem z9o (B : Int) (n : Nat) : valB B (List.replicate n 0) = 0 := by
 induction n with
 | zero => rfl
 | succ n ih => simp [List.replicate_succ, valB, ih]
theorem DigB.zeros {B : Int} (hB : 0 < B) (n : Nat) : DigB B (List.replicate n 0) := fun x hx => by
 rw [List.mem_replicate] at hx; omega
theorem z3j (B : Int) (x : List Int) (k : Nat) : valB B (x.take (k + 1)) = valB B (x.take k) + B ^ k * x.getD k 0 := by
 by_cases h : k < x.length
 ·have hx : x[k]? = some x[k] := zAh h
  rw [List.take_add_one, hx, z3u, List.length_take, Nat.min_eq_left (by omega), zAb, hx]
  simp [valB]
 ·rw [List.take_of_length_le (by omega), List.take_of_length_le (by omega), zAb, List.getElem?_eq_none (by omega)]
  simp
theorem z93 (B : Int) (x : List Int) (d : Int) : valB B (x ++ [d]) = valB B x + B ^ x.length * d := by rw [z3u]; simp [valB]
theorem z7f (l : List Int) (h : l ≠ []) : ∃ r d, l = r ++ [d] := by
 rcases List.eq_nil_or_concat l with rfl | ⟨r, d, rfl⟩
 ·exact absurd rfl h
 ·exact ⟨r, d, by simp⟩
theorem zgc {B : Int} (hB : 1 < B) {l : List Int} (h : CanB B l) (h0 : l ≠ []) : B ^ (l.length - 1) <= valB B l := by
 obtain ⟨r, d, rfl⟩ := z7f l h0
 have hd : d ≠ 0 := fun e => h.2 (by simp [e])
 have hd2 := h.1 d (by simp)
 have hr := z0y (B := B) (by omega) r (fun x hx => h.1 x (by simp [hx]))
 have e : (r ++ [d]).length - 1 = r.length := by simp
 rw [z93, e]
 have h1 : B ^ r.length * 1 <= B ^ r.length * d := Int.mul_le_mul_of_nonneg_left (by omega) (Int.le_of_lt (Int.pow_pos (by omega)))
 omega
theorem z7g {B : Int} (hB : 0 < B) {i j : Nat} (h : i <= j) : B ^ i <= B ^ j := by
 obtain ⟨m, rfl⟩ : ∃ m, j = i + m := ⟨j - i, by omega⟩
 rw [Int.pow_add]
 have p1 : 0 < B ^ m := Int.pow_pos hB
 have p2 : 0 < B ^ i := Int.pow_pos hB
 have := Int.mul_le_mul_of_nonneg_left (show 1 <= B ^ m by omega) (Int.le_of_lt p2)
 omega
theorem zd5 {B : Int} (hB : 1 < B) {l m : List Int} (h : DigB B l) (hm : CanB B m) (hl : l.length < m.length) : valB B l < valB B m := by
 have h1 := z40 (B := B) (by omega) l h
 have h2 := zgc hB hm (by intro e; subst e; simp at hl)
 have h3 : B ^ l.length <= B ^ (m.length - 1) := by
  obtain ⟨j, hj⟩ : ∃ j, m.length - 1 = l.length + j := ⟨m.length - 1 - l.length, by omega⟩
  rw [hj, Int.pow_add]
  have p1 : 0 < B ^ j := Int.pow_pos (by omega)
  have p2 : 0 < B ^ l.length := Int.pow_pos (by omega)
  have := Int.mul_le_mul_of_nonneg_left (show 1 <= B ^ j by omega) (Int.le_of_lt p2)
  omega
 omega
theorem zd6 {B : Int} (hB : 1 < B) {l m : List Int} (h : CanB B l) (hm : DigB B m) (hv : valB B l <= valB B m) : l.length <= m.length := by
 refine Nat.not_lt.1 fun hl => ?_
 have := zd5 hB hm h hl
 omega
theorem z2a {a b c : Int} (hc : 0 <= c) (h : a <= b) : c * a <= c * b := Int.mul_le_mul_of_nonneg_left h hc
theorem z5d {a b : Int} (ha : 0 <= a) (hb : 0 <= b) : 0 <= a * b := Int.mul_nonneg ha hb
structure Kn (B P v1 v2 vl top u3 ul q : Int) : Prop where
 B1 : 1 < B
 P0 : 0 < P
 v1p : 1 <= v1
 v2p : 0 <= v2
 v2b : v2 < B
 vlp : 0 <= vl
 vlb : vl < P
 tp : 0 <= top
 u3p : 0 <= u3
 u3b : u3 < B
 ulp : 0 <= ul
 ulb : ul < P
 q0 : 0 <= q
 qB : q < B
 lo : q * (P * (B * v1 + v2) + vl) <= P * (B * top + u3) + ul
 hi : P * (B * top + u3) + ul < (q + 1) * (P * (B * v1 + v2) + vl)
section
variable {B P v1 v2 vl top u3 ul q g r : Int}
theorem Kn.first (h : Kn B P v1 v2 vl top u3 ul q) : q <= top / v1 := by
 obtain ⟨B1, P0, v1p, v2p, v2b, vlp, vlb, tp, u3p, u3b, ulp, ulb, q0, qB, lo, hi⟩ := h
 rw [Int.le_ediv_iff_mul_le (by omega)]
 refine Int.le_of_lt_add_one (Int.not_le.1 fun hc => ?_)
 have a1 := z2a (Int.le_of_lt (Int.mul_pos P0 (show 0 < B by omega))) hc
 have a2 := z5d (Int.le_of_lt P0) (z5d q0 v2p)
 have a3 := z5d q0 vlp
 have a4 := z2a (Int.le_of_lt P0) (show u3 <= B - 1 by omega)
 grind
theorem Kn.down (h : Kn B P v1 v2 vl top u3 ul q) (hr : top = g * v1 + r) (hg : 0 <= g) (hc : g * v2 > r * B + u3) : q < g := by
 obtain ⟨B1, P0, v1p, v2p, v2b, vlp, vlb, tp, u3p, u3b, ulp, ulb, q0, qB, lo, hi⟩ := h
 refine Int.not_le.1 fun hq => ?_
 have hV : 0 <= P * (B * v1 + v2) + vl := by
  have := z5d (Int.le_of_lt P0) (show 0 <= B * v1 + v2 from by have := z5d (show 0 <= B by omega) (show 0 <= v1 by omega); omega)
  omega
 have a1 := z2a hV hq
 have a2 := z2a (Int.le_of_lt P0) (show r * B + u3 + 1 <= g * v2 by omega)
 have a3 := z5d hg vlp
 subst hr
 grind
theorem Kn.exitA (h : Kn B P v1 v2 vl top u3 ul q) (hr : top = g * v1 + r) (hg : 0 <= g) (hB : g < B) (hc : g * v2 <= r * B + u3) : g <= q + 1 := by
 obtain ⟨B1, P0, v1p, v2p, v2b, vlp, vlb, tp, u3p, u3b, ulp, ulb, q0, qB, lo, hi⟩ := h
 refine Int.not_lt.1 fun hq => ?_
 have hV : 0 <= P * (B * v1 + v2) + vl := by
  have := z5d (Int.le_of_lt P0) (show 0 <= B * v1 + v2 from by have := z5d (show 0 <= B by omega) (show 0 <= v1 by omega); omega)
  omega
 have a1 := z2a hV (show q + 1 <= g - 1 by omega)
 have a2 := z2a (Int.le_of_lt P0) hc
 have a3 := z2a hg (show vl <= P - 1 by omega)
 have a4 := z2a (Int.le_of_lt P0) (show g <= B - 1 by omega)
 have a5 := z2a (Int.le_of_lt (Int.mul_pos P0 (show 0 < B by omega))) v1p
 have a6 := z5d (Int.le_of_lt P0) v2p
 subst hr
 grind
theorem Kn.exitB (h : Kn B P v1 v2 vl top u3 ul q) (hr : top = g * v1 + r) (hg : 0 <= g) (hB : g <= B) (hc : B <= r) : g <= q := by
 obtain ⟨B1, P0, v1p, v2p, v2b, vlp, vlb, tp, u3p, u3b, ulp, ulb, q0, qB, lo, hi⟩ := h
 refine Int.not_lt.1 fun hq => ?_
 have hV : 0 <= P * (B * v1 + v2) + vl := by
  have := z5d (Int.le_of_lt P0) (show 0 <= B * v1 + v2 from by have := z5d (show 0 <= B by omega) (show 0 <= v1 by omega); omega)
  omega
 have a1 := z2a hV (show q + 1 <= g by omega)
 have hPg := z5d (Int.le_of_lt P0) hg
 have a2 := z2a hPg (show v2 <= B - 1 by omega)
 have a3 := z2a hg (show vl <= P - 1 by omega)
 have a4 := z2a (Int.le_of_lt (Int.mul_pos P0 (show 0 < B by omega))) (show g <= r by omega)
 have a6 := z5d (Int.le_of_lt P0) u3p
 subst hr
 grind
end
set_option linter.defProp false in
def runL := And.intro @decide_eq_true_eq (And.intro @if_pos.{1} (And.intro @if_neg.{1} (And.intro @if_true.{1} (And.intro @if_false.{1} (And.intro @z0z (And.intro @zhc (And.intro @zhd (And.intro @idxI (And.intro @zin (And.intro @sslI (And.intro @lslI (And.intro @k64 (And.intro @ku64 (And.intro @ku32 (And.intro @ku8 (And.intro @i64w (And.intro @u64w (And.intro @u32w (And.intro @u8w (And.intro @zio (And.intro @ziy (And.intro @tu0a (And.intro @tu1a (And.intro @tu2a (And.intro @tu3a (And.intro @tu4a (And.intro @tu5a (And.intro @lta (And.intro @zga (And.intro @zgb (And.intro @ziw (And.intro @zix (And.intro @Int.toNat_natCast (And.intro @List.length_cons.{0} (And.intro @List.length_nil.{0} (And.intro @List.length_set.{0} (And.intro @Int.toNat_zero (@List.replicate_zero.{0}))))))))))))))))))))))))))))))))))))))
end Go.Am
/- Plain law: the program's numbers: digits in the base 10^9. -/
namespace Go.Am.Tryd
open Go Go.Am Go.Proofs
variable {K : Nat}
def NumN (n : Int) (l : List Int) : Prop := CanB 1000000000 l /\ valB 1000000000 l = n
theorem NumN.inj {n : Int} {l m : List Int} (h : NumN n l) (k : NumN n m) : l = m := zg9 (B := 1000000000) (by omega) l m h.1 k.1 (h.2.trans k.2.symm)
theorem NumN.nonneg {n : Int} {l : List Int} (h : NumN n l) : 0 <= n := by rw [<- h.2]; exact z0y (by omega) l h.1.1
theorem NumN.nil : NumN 0 [] := ⟨⟨DigB.nil _, by simp⟩, rfl⟩
theorem NumN.pos {n : Int} {l : List Int} (h : NumN n l) (h0 : l ≠ []) : 0 < n := by rw [<- h.2]; exact z7d (by omega) l h.1 h0
theorem NumN.nil_iff {n : Int} {l : List Int} (h : NumN n l) : l = [] ↔ n = 0 := by
 constructor
 ·rintro rfl; exact h.2.symm
 ·intro e; by_cases h0 : l = []
  ·exact h0
  ·have := h.pos h0; omega
theorem NumN.len0 {n : Int} {l : List Int} (h : NumN n l) : l.length = 0 ↔ n = 0 := by rw [<- h.nil_iff, List.length_eq_zero_iff]
theorem NumN.one {n : Int} (h : 0 < n) (h2 : n < 1000000000) : NumN n [n] := ⟨⟨fun d hd => by simp at hd; omega, by simp; omega⟩, by simp [valB]⟩
theorem zem {B : Int} : ∀ n k (l : List Int), l.length = n -> n <= 8000000 -> n < k -> DigB B l -> ∃ t, z1l K k l = some t /\ CanB B t /\ valB B t = valB B l /\ t.length <= l.length := by
 intro n
 induction n with
 | zero =>
  intro k l hl _ hk hd
  obtain ⟨k, rfl⟩ : ∃ m, k = m + 1 := ⟨k - 1, by omega⟩
  have : l = [] := List.length_eq_zero_iff.1 hl
  subst this
  exact ⟨[], by rw [z1l]; simp [tu1], ⟨hd, by simp⟩, rfl, Nat.le_refl _⟩
 | succ n ih =>
  intro k l hl hb hk hd
  obtain ⟨k, rfl⟩ : ∃ m, k = m + 1 := ⟨k - 1, by omega⟩
  obtain ⟨r, d, rfl⟩ : ∃ r d, l = r ++ [d] := z7f l (by intro e; subst e; simp at hl)
  have hr : r.length = n := by simpa using hl
  have e1 : z03 .i64 (((r ++ [d]).length : Int) - 1) = (n : Int) := by rw [hl, kw (by omega) (by omega)]; omega
  have e2 : idx (r ++ [d]) (n : Int) = some d := z4i (by simp [<- hr])
  have e3 : lsl (r ++ [d]) 0 (n : Int) = some r := by
   unfold lsl
   rw [if_pos (by rw [hl]; omega)]
   simp [<- hr]
  have e4 : ((r ++ [d]).length : Int) > 0 := by rw [hl]; omega
  have dr : DigB B r := fun x hx => hd x (by simp [hx])
  rw [z1l, e1, e2, e3, decide_eq_true e4]
  by_cases h0 : d = 0
  ·obtain ⟨t, h1, h2, h3, h4⟩ := ih k r hr (by omega) (by omega) dr
   refine ⟨t, by simp [h0, tu1, h1], h2, ?_, by simp; omega⟩
   rw [h3, z3u, h0]; simp [valB]
  ·exact ⟨r ++ [d], by simp [h0, tu1], ⟨hd, by simpa using h0⟩, rfl, Nat.le_refl _⟩
theorem z86 {B : Int} {l : List Int} (hl : l.length <= 8000000) (hK : 2000000000 < K) (hd : DigB B l) : ∃ t, z1f K l = some t /\ CanB B t /\ valB B t = valB B l /\ t.length <= l.length := by
 obtain ⟨t, h1, h2⟩ := zem (K := K) l.length K l rfl hl (by omega) hd
 exact ⟨t, by unfold z1f; rw [h1]; rfl, h2⟩
theorem zen {x y : List Int} (hl : x.length = y.length) (hx : x.length <= 4000000) (hK : 2000000000 < K) (dx : DigB 1000000000 x) (dy : DigB 1000000000 y) :
  ∃ r : Int ⊕ Unit, z11 K x y K ((x.length : Int) - 1) = some r /\ r = (if valB 1000000000 x < valB 1000000000 y then .inl (-1) else if valB 1000000000 x = valB 1000000000 y then .inr () else .inl 1) := by
 have hdrop : ∀ (l : List Int) j, valB 1000000000 (l.drop j) = l.getD j 0 + 1000000000 * valB 1000000000 (l.drop (j + 1)) := fun l j => by
  by_cases h : j < l.length
  ·rw [List.drop_eq_getElem_cons h, zAb, zAh h]; rfl
  ·rw [List.drop_eq_nil_of_le (by omega), List.drop_eq_nil_of_le (by omega), zAb, List.getElem?_eq_none (by omega)]; rfl
 refine za8 (fun k (s : Int) => z11 K x y k s) (fun s => ∃ j : Nat, s = (j : Int) - 1 /\ j <= x.length /\ valB 1000000000 (x.drop j) = valB 1000000000 (y.drop j)) (fun s => (s + 1).toNat) _ ?_ ((x.length : Int) - 1) (by omega) ⟨x.length, rfl, Nat.le_refl _, by rw [List.drop_eq_nil_of_le (Nat.le_refl _), List.drop_eq_nil_of_le (by omega)]⟩
 rintro k _ ⟨j, rfl, hj, he⟩
 by_cases h0 : j = 0
 ·subst h0
  left
  rw [List.drop_zero, List.drop_zero] at he
  rw [z11]
  refine ⟨.inr (), by simp (discharger := omega) only [runL], ?_⟩
  rw [if_neg (by omega), if_pos he]
 ·obtain ⟨i, rfl⟩ : ∃ i, j = i + 1 := ⟨j - 1, by omega⟩
  have e1 : ((i + 1 : Nat) : Int) - 1 = i := by omega
  rw [e1]
  have ex := z25 (by omega) dx i
  have ey := z25 (by omega) dy i
  have sx := z5w 1000000000 x i (by omega)
  have sy := z5w 1000000000 y i (by omega)
  have ax := hdrop x i
  have ay := hdrop y i
  have bx := z40 (B := 1000000000) (by omega) _ (dx.take i)
  have by' := z40 (B := 1000000000) (by omega) _ (dy.take i)
  have cx := z0y (B := 1000000000) (by omega) _ (dx.take i)
  have cy := z0y (B := 1000000000) (by omega) _ (dy.take i)
  rw [List.length_take, Nat.min_eq_left (by omega)] at bx by'
  have p0 : 0 < (1000000000 : Int) ^ i := Int.pow_pos (by omega)
  rw [ax, he] at sx
  rw [ay] at sy
  by_cases h1 : x.getD i 0 < y.getD i 0
  ·left
   refine ⟨.inl (-1), by rw [z11]; simp (discharger := omega) only [runL], ?_⟩
   have := z2a (Int.le_of_lt p0) (show x.getD i 0 + 1 <= y.getD i 0 by omega)
   rw [if_pos (by grind)]
  ·by_cases h2 : x.getD i 0 > y.getD i 0
   ·left
    refine ⟨.inl 1, by rw [z11]; simp (discharger := omega) only [runL], ?_⟩
    have := z2a (Int.le_of_lt p0) (show y.getD i 0 + 1 <= x.getD i 0 by omega)
    rw [if_neg (by grind), if_neg (by grind)]
   ·right
    refine ⟨(i : Int) - 1, by rw [z11]; simp (discharger := omega) only [runL], by omega, i, rfl, by omega, ?_⟩
    rw [ax, ay, he]
    omega
theorem zfd {x y : List Int} {a b : Int} (hx : x.length <= 4000000) (hy : y.length <= 4000000) (hK : 2000000000 < K) (nx : NumN a x) (ny : NumN b y) : z3n K x y = some (if a < b then -1 else if a = b then 0 else 1) := by
 unfold z3n
 by_cases h : x.length = y.length
 ·obtain ⟨r, h1, h2⟩ := zen (K := K) h hx hK nx.1.1 ny.1.1
  rw [nx.2, ny.2] at h2
  have e : ((x.length : Int) != (y.length : Int)) = false := by simp; omega
  rw [e]
  rw [k64 (by omega) (by omega), h1, h2]
  simp only [Bool.false_eq_true, if_false, zap, Option.bind_some]
  by_cases c1 : a < b
  ·simp [c1, tu1]
  ·by_cases c2 : a = b
   ·subst c2; simp [tu0]
   ·simp [c1, c2, tu1]
 ·have e : ((x.length : Int) != (y.length : Int)) = true := by simp; omega
  rw [e, if_pos rfl]
  by_cases h1 : x.length < y.length
  ·have := zd5 (B := 1000000000) (by omega) nx.1.1 ny.1 h1
   rw [nx.2, ny.2] at this
   simp (discharger := omega) only [runL]
  ·have := zd5 (B := 1000000000) (by omega) ny.1.1 nx.1 (by omega)
   rw [nx.2, ny.2] at this
   simp (discharger := omega) only [runL]
end Go.Am.Tryd
/- Plain law: products of the program's numbers; division by one digit. -/
namespace Go.Am.Tryd
open Go Go.Am Go.Proofs
variable {K : Nat}
theorem zfe {a b : Int} (ha : 0 <= a /\ a < 1000000000) (hb : 0 <= b /\ b < 1000000000) : 0 <= a * b /\ a * b <= 999999998000000001 := by
 refine ⟨Int.mul_nonneg ha.1 hb.1, ?_⟩
 have h1 := z2a ha.1 (show b <= 999999999 by omega)
 omega
theorem zhe {y out : List Int} {u : Int} {i : Nat} (hl : i + y.length <= out.length) (ho : out.length <= 8000000) (hK : 2000000000 < K) (hu : 0 <= u /\ u < 1000000000) (dy : DigB 1000000000 y) (d0 : DigB 1000000000 out) :
  ∃ r : List Int × Int, z1i K y (i : Int) u K out 0 0 = some r /\ r.1.length = out.length /\ DigB 1000000000 r.1 /\ (0 <= r.2 /\ r.2 < 1000000000) /\ (∀ j, i + y.length <= j -> r.1.getD j 0 = out.getD j 0) ∧
   valB 1000000000 r.1 + 1000000000 ^ (i + y.length) * r.2 = valB 1000000000 out + 1000000000 ^ i * (u * valB 1000000000 y) := by
 refine za8 (fun k (s : List Int × Int × Int) => z1i K y (i : Int) u k s.1 s.2.1 s.2.2) (fun s => ∃ q : Nat, s.2.2 = q /\ q <= y.length /\ s.1.length = out.length /\ DigB 1000000000 s.1 /\ (0 <= s.2.1 /\ s.2.1 < 1000000000) /\ (∀ j, i + q <= j -> s.1.getD j 0 = out.getD j 0) ∧
   valB 1000000000 s.1 + 1000000000 ^ (i + q) * s.2.1 = valB 1000000000 out + 1000000000 ^ i * (u * valB 1000000000 (y.take q))) (fun s => (y.length - s.2.2 : Int).toNat) _ ?_ ((out, 0, 0) : List Int × Int × Int) (by simp; omega) ⟨0, rfl, by omega, rfl, d0, by simp, fun _ _ => rfl, by simp [valB]⟩
 rintro k ⟨o, c, _⟩ ⟨q, rfl, h0, h1, h2, h3, hz, h4⟩
 dsimp only at h1 h2 h3 h4 hz ⊢
 by_cases hq : q < y.length
 ·right
  have ey := z25 (by omega) dy q
  have eo := z25 (by omega) h2 (i + q)
  have ty := z3j 1000000000 y q
  have hm := zfe hu ey
  have hset := fun d => z67 1000000000 o (i + q) d (by omega)
  have hgs := fun d j => z7e (cs := o) (i := i + q) (j := j) (v := d) (by omega)
  have e1 : ((i : Int) + (q : Int)) = ((i + q : Nat) : Int) := by omega
  generalize hw : u * y.getD q 0 = w at hm
  generalize ho : o.getD (i + q) 0 = z at eo hset
  have hdm := Int.emod_add_mul_ediv (w + z + c) 1000000000
  refine ⟨(o.set (i + q) ((w + z + c) % 1000000000), (w + z + c) / 1000000000, (q : Int) + 1), ?_, by dsimp only; omega, q + 1, rfl, by omega, by simp [h1], h2.set _ (by omega), by dsimp only; omega, fun j hj => by rw [hgs, if_neg (by omega)]; exact hz j (by omega), ?_⟩
  ·rw [z1i]
   simp (discharger := omega) only [runL, e1, hw, ho]
  ·dsimp only
   rw [hset, ty]
   have e2 : (1000000000 : Int) ^ (i + (q + 1)) = 1000000000 ^ i * 1000000000 ^ q * 1000000000 := by rw [<- Nat.add_assoc, Int.pow_succ, Int.pow_add]
   rw [e2]
   rw [Int.pow_add] at h4 ⊢
   subst hw
   generalize (u * y.getD q 0 + z + c) / 1000000000 = Q at *
   generalize (u * y.getD q 0 + z + c) % 1000000000 = R at *
   grind
 ·left
  have : q = y.length := by omega
  subst this
  rw [List.take_of_length_le (Nat.le_refl _)] at h4
  exact ⟨(o, c), by rw [z1i]; simp (discharger := omega) only [runL], h1, h2, h3, hz, h4⟩
theorem zeo {x y : List Int} (hl : x.length + y.length <= 8000000) (hK : 2000000000 < K) (dx : DigB 1000000000 x) (dy : DigB 1000000000 y) :
  ∃ r : List Int, z1j K x y K (List.replicate (x.length + y.length) 0) 0 = some r /\ r.length = x.length + y.length /\ DigB 1000000000 r /\ valB 1000000000 r = valB 1000000000 x * valB 1000000000 y := by
 refine za8 (fun k (s : List Int × Int) => z1j K x y k s.1 s.2) (fun s => ∃ i : Nat, s.2 = i /\ i <= x.length /\ s.1.length = x.length + y.length /\ DigB 1000000000 s.1 /\ (∀ j, i + y.length <= j -> s.1.getD j 0 = 0) /\ valB 1000000000 s.1 = valB 1000000000 (x.take i) * valB 1000000000 y) (fun s => (x.length - s.2 : Int).toNat) _ ?_ ((List.replicate (x.length + y.length) 0, 0) : List Int × Int) (by simp; omega) ⟨0, rfl, by omega, by simp, .zeros (by omega) _, fun j _ => by simp [zAb, List.getElem?_replicate]; split <;> rfl, by simp [valB, z9o]⟩
 rintro k ⟨out, _⟩ ⟨i, rfl, h0, h1, h2, hz, h4⟩
 dsimp only at h1 h2 h4 hz ⊢
 by_cases hi : i < x.length
 ·right
  have ex := z25 (by omega) dx i
  have tx := z3j 1000000000 x i
  obtain ⟨⟨r, c⟩, r1, r2, r3, r4, r5, r6⟩ := zhe (K := K) (y := y) (out := out) (u := x.getD i 0) (i := i) (by omega) (by omega) hK ex dy h2
  dsimp only at r2 r3 r4 r5 r6
  have hz0 := r5 (i + y.length) (Nat.le_refl _)
  rw [hz _ (Nat.le_refl _)] at hz0
  have hset := z67 1000000000 r (i + y.length) c (by omega)
  have hgs := fun d j => z7e (cs := r) (i := i + y.length) (j := j) (v := d) (by omega)
  have e1 : ((i : Int) + (y.length : Int)) = ((i + y.length : Nat) : Int) := by omega
  refine ⟨(r.set (i + y.length) c, (i : Int) + 1), ?_, by dsimp only; omega, i + 1, rfl, by omega, by simp [r2, h1], r3.set _ r4, fun j hj => by rw [hgs, if_neg (by omega), r5 j (by omega)]; exact hz j (by omega), ?_⟩
  ·rw [z1j]
   simp (discharger := omega) only [runL, r1, e1]
  ·dsimp only
   rw [hset, hz0, tx]
   grind
 ·left
  have : i = x.length := by omega
  subst this
  rw [List.take_of_length_le (Nat.le_refl _)] at h4
  exact ⟨out, by rw [z1j]; simp (discharger := omega) only [runL], h1, h2, h4⟩
theorem zff {x y : List Int} {a b : Int} (hl : x.length + y.length <= 8000000) (hK : 2000000000 < K) (nx : NumN a x) (ny : NumN b y) : ∃ z, z3o K x y = some z /\ NumN (a * b) z /\ z.length <= x.length + y.length := by
 obtain ⟨r, h1, h2, h3, h4⟩ := zeo hl hK nx.1.1 ny.1.1
 rw [nx.2, ny.2] at h4
 obtain ⟨t, t1, t2, t3, t4⟩ := z86 (K := K) (B := 1000000000) (l := r) (by omega) hK h3
 refine ⟨t, ?_, ⟨t2, by rw [t3, h4]⟩, by omega⟩
 unfold z3o
 have e1 : ((x.length : Int) + (y.length : Int)) = ((x.length + y.length : Nat) : Int) := by omega
 simp (discharger := omega) only [runL, h1, t1, e1]
theorem zd7 (l : List Int) (j : Nat) : valB 1000000000 (l.drop j) = l.getD j 0 + 1000000000 * valB 1000000000 (l.drop (j + 1)) := by
 by_cases h : j < l.length
 ·rw [List.drop_eq_getElem_cons h, zAb, zAh h]; rfl
 ·rw [List.drop_eq_nil_of_le (by omega), List.drop_eq_nil_of_le (by omega), zAb, List.getElem?_eq_none (by omega)]; rfl
theorem zbj {x : List Int} {d : Int} (hl : x.length <= 8000000) (hK : 2000000000 < K) (dx : DigB 1000000000 x) (hd : 1 <= d /\ d <= 1000000000) :
  ∃ r : List Int × Int, z13 K x d K (List.replicate x.length 0) 0 ((x.length : Int) - 1) = some r /\ r.1.length = x.length /\ DigB 1000000000 r.1 /\ (0 <= r.2 /\ r.2 < d) /\ valB 1000000000 x = d * valB 1000000000 r.1 + r.2 := by
 refine za8 (fun k (s : List Int × Int × Int) => z13 K x d k s.1 s.2.1 s.2.2) (fun s => ∃ j : Nat, s.2.2 = (j : Int) - 1 /\ j <= x.length /\ s.1.length = x.length /\ DigB 1000000000 s.1 /\ (0 <= s.2.1 /\ s.2.1 < d) /\ valB 1000000000 (x.drop j) = d * valB 1000000000 (s.1.drop j) + s.2.1) (fun s => (s.2.2 + 1).toNat) _ ?_ ((List.replicate x.length 0, 0, (x.length : Int) - 1) : List Int × Int × Int) (by dsimp only; omega) ⟨x.length, rfl, Nat.le_refl _, by simp, .zeros (by omega) _, by dsimp only; omega, by simp [valB]⟩
 rintro k ⟨out, c, _⟩ ⟨j, rfl, hj, h1, h2, h3, h4⟩
 dsimp only at h1 h2 h3 h4 ⊢
 by_cases h0 : j = 0
 ·left
  subst h0
  rw [List.drop_zero, List.drop_zero] at h4
  exact ⟨(out, c), by rw [z13]; simp (discharger := omega) only [runL], h1, h2, h3, h4⟩
 ·right
  obtain ⟨i, rfl⟩ : ∃ i, j = i + 1 := ⟨j - 1, by omega⟩
  have e1 : ((i + 1 : Nat) : Int) - 1 = i := by omega
  rw [e1]
  have ex := z25 (by omega) dx i
  have ax := zd7 x i
  generalize hu : x.getD i 0 = u at ex ax
  have hq0 : 0 <= (c * 1000000000 + u) / d := Int.ediv_nonneg (by omega) (by omega)
  have hqB : (c * 1000000000 + u) / d < 1000000000 := Int.ediv_lt_of_lt_mul (by omega) (by omega)
  have hr0 : 0 <= (c * 1000000000 + u) % d := Int.emod_nonneg _ (by omega)
  have hrd : (c * 1000000000 + u) % d < d := Int.emod_lt_of_pos _ (by omega)
  have hdm := Int.emod_add_mul_ediv (c * 1000000000 + u) d
  refine ⟨(out.set i ((c * 1000000000 + u) / d), (c * 1000000000 + u) % d, (i : Int) - 1), ?_, by dsimp only; omega, i, rfl, by omega, by simp [h1], h2.set _ ⟨hq0, hqB⟩, ⟨hr0, hrd⟩, ?_⟩
  ·rw [z13]
   have hd' : d ≠ 0 := by omega
   simp (discharger := omega) only [runL, hu]
  ·dsimp only
   rw [zd7 (out.set i _) i, List.drop_set_of_lt (by omega), z7e (by omega), if_pos rfl, ax, h4]
   generalize (c * 1000000000 + u) / d = Q at *
   generalize (c * 1000000000 + u) % d = R at *
   grind
theorem zep {d : Int} (hd : 0 <= d /\ d < 1000000000) (hK : 2000000000 < K) : ∃ z, z1f K [d] = some z /\ NumN d z /\ z.length <= 1 := by
 obtain ⟨t, t1, t2, t3, t4⟩ := z86 (K := K) (B := 1000000000) (l := [d]) (by simp) hK (fun x hx => by simp at hx; omega)
 exact ⟨t, t1, ⟨t2, by rw [t3]; simp [valB]⟩, by simpa using t4⟩
theorem z7h {n d q r : Int} (hd : 0 < d) (h : n = d * q + r) (h0 : 0 <= r) (h1 : r < d) : q = n / d /\ r = n % d := by
 have e1 : n / d = q := by
  rw [h, Int.add_comm, Int.add_mul_ediv_left _ _ (by omega), Int.ediv_eq_zero_of_lt h0 h1]; omega
 refine ⟨e1.symm, ?_⟩
 have := Int.emod_add_mul_ediv n d
 rw [e1] at this
 omega
theorem zav {x : List Int} {a d : Int} (hl : x.length <= 8000000) (hK : 2000000000 < K) (nx : NumN a x) (hd : 1 <= d /\ d <= 1000000000) : ∃ q r, z2k K x d = some (q, r) /\ NumN (a / d) q /\ NumN (a % d) r /\ q.length <= x.length /\ r.length <= 1 := by
 obtain ⟨⟨o, c⟩, h1, h2, h3, h4, h5⟩ := zbj hl hK nx.1.1 hd
 dsimp only at h2 h3 h4 h5
 rw [nx.2] at h5
 obtain ⟨e1, e2⟩ := z7h (by omega) h5 h4.1 h4.2
 obtain ⟨t, t1, t2, t3, t4⟩ := z86 (K := K) (B := 1000000000) (l := o) (by omega) hK h3
 obtain ⟨z, z1, z2, z3⟩ := zep (K := K) (d := c) (by omega) hK
 refine ⟨t, z, ?_, ⟨t2, by rw [t3, e1]⟩, by rw [<- e2]; exact z2, by omega, z3⟩
 unfold z2k
 simp (discharger := omega) only [runL, h1, t1, z1]
end Go.Am.Tryd
/- Plain law: texts and the program's numbers: Read and Text. -/
namespace Go.Am.Tryd
open Go Go.Am Go.Proofs
variable {K : Nat}
def numB (l : List Int) : Int := valB 10 ((l.map (· - 48)).reverse)
theorem zeq (s : zAd) : numT s = numB (z01 s) := rfl
theorem z94 : numB [] = 0 := rfl
theorem z6s (l : List Int) (c : Int) : numB (l ++ [c]) = numB l * 10 + (c - 48) := by
 unfold numB
 simp [valB]
 omega
theorem zd8 (l m : List Int) : numB (l ++ m) = numB m + 10 ^ m.length * numB l := by
 unfold numB
 rw [List.map_append, List.reverse_append, z3u]
 simp
theorem zaw (c : Int) (l : List Int) : numB (c :: l) = numB l + 10 ^ l.length * (c - 48) := by
 have := zd8 [c] l
 simpa [numB, valB] using this
theorem zd9 {l : List Int} (h : l.all digT = true) : DigB 10 ((l.map (· - 48)).reverse) := by
 intro d hd
 rw [List.mem_reverse, List.mem_map] at hd
 obtain ⟨c, hc, rfl⟩ := hd
 have := List.all_eq_true.1 h c hc
 simp only [digT, Bool.and_eq_true, decide_eq_true_eq] at this
 omega
theorem z4b {l : List Int} (h : l.all digT = true) : 0 <= numB l := z0y (by omega) _ (zd9 h)
theorem z87 {l : List Int} (h : l.all digT = true) : numB l < 10 ^ l.length := by
 have := z40 (B := 10) (by omega) _ (zd9 h)
 simpa [numB] using this
theorem digT_iff {c : Int} : digT c = true ↔ 48 <= c /\ c <= 57 := by simp [digT]
theorem z7i {l : List Int} (h : l.all digT = true) (k : Nat) : (l.take k).all digT = true := List.all_eq_true.2 fun x hx => List.all_eq_true.1 h x (List.mem_of_mem_take hx)
theorem zgd {l : List Int} (h : l.all digT = true) (k : Nat) : (l.drop k).all digT = true := List.all_eq_true.2 fun x hx => List.all_eq_true.1 h x (List.mem_of_mem_drop hx)
theorem zax {l : List Int} {i : Nat} (h : i < l.length) : l.take (i + 1) = l.take i ++ [l.getD i 0] := by
 rw [List.take_add_one, zAh h, zAb, zAh h]; rfl
theorem zay {l : List Int} (h : l.all digT = true) {i : Nat} (hi : i < l.length) : 48 <= l.getD i 0 /\ l.getD i 0 <= 57 := by
 rw [zAb, zAh hi]
 exact digT_iff.1 (List.all_eq_true.1 h _ (List.getElem_mem hi))
theorem zer {t : zAd} (ht : t.size <= 9) (hK : 2000000000 < K) (hd : (z01 t).all digT = true) : z1h K t K 0 0 = some (numT t) := by
 suffices h : ∃ r, z1h K t K 0 0 = some r /\ r = numT t by obtain ⟨r, h1, rfl⟩ := h; exact h1
 have hn := z00 t
 refine za8 (fun k (s : Int × Int) => z1h K t k s.1 s.2) (fun s => ∃ i : Nat, s.2 = i /\ i <= t.size /\ s.1 = numB ((z01 t).take i)) (fun s => (t.size - s.2 : Int).toNat) _ ?_ ((0, 0) : Int × Int) (by simp; omega) ⟨0, rfl, by omega, by simp [z94]⟩
 rintro k ⟨_, _⟩ ⟨i, rfl, h0, rfl⟩
 dsimp only
 by_cases hi : i < t.size
 ·right
  have b1 := z4b (z7i hd i)
  have b2 := z87 (z7i hd i)
  have b3 : (10 : Int) ^ (List.take i (z01 t)).length <= 10 ^ 8 := by
   rw [List.length_take, hn, Nat.min_eq_left (by omega)]
   exact z7g (by omega) (by omega)
  have hc := zay hd (i := i) (by omega)
  have hs := zax (l := z01 t) (i := i) (by omega)
  have b4 : (10 : Int) ^ 8 = 100000000 := by decide
  refine ⟨(numB ((z01 t).take (i + 1)), (i : Int) + 1), ?_, by dsimp only; omega, i + 1, rfl, by omega, rfl⟩
  rw [z1h, hs, z6s]
  generalize numB ((z01 t).take i) = d at *
  rw [hn]
  have hi' : (i : Int) < ((z01 t).length : Int) := by omega
  simp (discharger := omega) only [runL]
 ·left
  have : i = t.size := by omega
  subst this
  refine ⟨numB ((z01 t).take t.size), by rw [z1h, hn]; simp (discharger := omega) only [runL], ?_⟩
  rw [List.take_of_length_le (by omega)]
  rfl
theorem zes {s : zAd} (hs : s.size <= 8000000) (hK : 2000000000 < K) (hd : (z01 s).all digT = true) :
  ∃ r : List Int, z1v K s K [] (s.size : Int) = some r /\ 9 * r.length < s.size + 9 /\ DigB 1000000000 r /\ valB 1000000000 r = numT s := by
 have hn := z00 s
 refine za8 (fun k (q : List Int × Int) => z1v K s k q.1 q.2) (fun q => q.2 = (s.size : Int) - 9 * q.1.length /\ 9 * q.1.length < s.size + 9 /\ DigB 1000000000 q.1 /\ valB 1000000000 q.1 + 1000000000 ^ q.1.length * numB ((z01 s).take q.2.toNat) = numT s) (fun q => (q.2 + 9).toNat) _ ?_ (([], (s.size : Int)) : List Int × Int) (by dsimp only; omega) ⟨by simp, by simp, .nil _, by simp [valB]; rw [List.take_of_length_le (by omega)]; rfl⟩
 rintro k ⟨out, e⟩ ⟨h1, h2, h3, h4⟩
 dsimp only at h1 h2 h3 h4 ⊢
 by_cases he : e > 0
 ·right
  obtain ⟨lo, hlo, hm⟩ : ∃ lo : Nat, imax 0 (z03 .i64 (e - 9)) = lo /\ ((lo : Int) = e - 9 \/ ((lo = 0) /\ e < 9)) := by
   rw [k64 (by omega) (by omega)]
   unfold imax
   by_cases h9 : e - 9 > 0
   ·exact ⟨(e - 9).toNat, by rw [if_pos h9]; omega, .inl (by omega)⟩
   ·exact ⟨0, by rw [if_neg h9]; rfl, by omega⟩
  have hb : z01 (s.extract lo e.toNat) = ((z01 s).drop lo).take (e.toNat - lo) := z1n _ _ _
  have hsz : (s.extract lo e.toNat).size = e.toNat - lo := by rw [<- z00, hb, List.length_take, List.length_drop]; omega
  have hdp : (z01 (s.extract lo e.toNat)).all digT = true := by rw [hb]; exact z7i (zgd hd _) _
  have hp := zer (K := K) (t := s.extract lo e.toNat) (by omega) hK hdp
  have hv0 := z4b hdp
  have hv1 := z87 hdp
  have hsplit : (z01 s).take e.toNat = (z01 s).take lo ++ z01 (s.extract lo e.toNat) := by
   rw [hb, show e.toNat = lo + (e.toNat - lo) by omega, List.take_add]; simp
  have hlen : (z01 (s.extract lo e.toNat)).length = e.toNat - lo := by rw [z00]; exact hsz
  have hBv : numB (z01 (s.extract lo e.toNat)) < 1000000000 := by
   have : (10 : Int) ^ (z01 (s.extract lo e.toNat)).length <= 10 ^ 9 := z7g (by omega) (by omega)
   have e9 : (10 : Int) ^ 9 = 1000000000 := by decide
   omega
  refine ⟨(out ++ [numT (s.extract lo e.toNat)], e - 9), ?_, by dsimp only; omega, by simp; omega, by simp; omega, h3.snoc ⟨hv0, hBv⟩, ?_⟩
  ·rw [z1v, hlo]
   simp (discharger := omega) only [runL, hp]
  ·dsimp only
   rw [z93, List.length_append, List.length_singleton, Int.pow_succ, zeq]
   rw [hsplit, zd8, hlen] at h4
   rcases hm with hm | ⟨hm, h9⟩
   ·have e9 : e.toNat - lo = 9 := by omega
    have e10 : (10 : Int) ^ 9 = 1000000000 := by decide
    have el : (e - 9).toNat = lo := by omega
    rw [e9, e10] at h4
    rw [el]
    grind
   ·subst hm
    have el : (e - 9).toNat = 0 := by omega
    rw [el, List.take_zero, z94] at *
    grind
 ·left
  have el : e.toNat = 0 := by omega
  rw [el, List.take_zero, z94] at h4
  exact ⟨out, by rw [z1v]; simp (discharger := omega) only [runL], h2, h3, by omega⟩
theorem z7x {s : zAd} (hs : s.size <= 8000000) (hK : 2000000000 < K) (hd : (z01 s).all digT = true) : ∃ z, z49 K s = some z /\ NumN (numT s) z /\ 9 * z.length < s.size + 9 := by
 obtain ⟨r, h1, h2, h3, h4⟩ := zes hs hK hd
 obtain ⟨t, t1, t2, t3, t4⟩ := z86 (K := K) (B := 1000000000) (l := r) (by omega) hK h3
 exact ⟨t, by unfold z49; simp (discharger := omega) only [runL, h1, t1], ⟨t2, by rw [t3, h4]⟩, by omega⟩
end Go.Am.Tryd
/- Plain law: the reference's texts of digits. -/
namespace Go.Am.Tryd
open Go Go.Am Go.Proofs
variable {K : Nat}
theorem zet {s : zAd} {c : Int} {l : List Int} (h : z01 s = c :: l) : bidx s 0 = some c := by rw [z76, h]; rfl
theorem zda : ∀ n k (s : zAd), s.size = n -> n < k -> 0 < n -> (z01 s).all digT = true -> ∃ t, z31 K k s = some t /\ CanT t /\ numT t = numT s := by
 intro n
 induction n with
 | zero => intro k s _ _ h; omega
 | succ n ih =>
  intro k s hs hk _ hd
  obtain ⟨k, rfl⟩ : ∃ m, k = m + 1 := ⟨k - 1, by omega⟩
  have hn := z00 s
  cases hb : z01 s with
  | nil => rw [hb] at hn; simp at hn; omega
  | cons c l =>
   rw [z31, zet hb]
   by_cases h1 : (s.size : Int) > 1
   ·by_cases h2 : c = 48
    ·obtain ⟨t, h3, h4, h5⟩ := za7 hb
     have hl : l.length = n := by rw [hb] at hn; simp at hn; omega
     obtain ⟨r, h6, h7, h8⟩ := ih k t (by omega) (by omega) (by omega) (by rw [h4]; rw [hb] at hd; simp only [List.all_cons, Bool.and_eq_true] at hd; exact hd.2)
     refine ⟨r, ?_, h7, ?_⟩
     ·simp [h1, h2, h3, h6, tu1]
     ·rw [h8, zel (s := s) (t := t) (c := c) (by rw [hb, h4]), h2]; simp
    ·refine ⟨s, by simp [h1, h2, tu1], ⟨by omega, hd, fun e => ?_⟩, rfl⟩
     rw [hb] at e; simp at e; exact absurd e h2
   ·exact ⟨s, by simp [h1, tu1], ⟨by omega, hd, fun e => by omega⟩, rfl⟩
theorem z6t {s : zAd} (hs : s.size <= 1048576) (h0 : 0 < s.size) (hK : s.size < K) (hd : (z01 s).all digT = true) : ∃ t, z3z K s = some t /\ CanT t /\ numT t = numT s := by
 obtain ⟨t, h1, h2⟩ := zda (K := K) s.size K s rfl hK h0 hd
 exact ⟨t, by unfold z3z; rw [h1]; rfl, h2⟩
theorem zaz {s : zAd} (hs : s.size <= 1048576) (hd : (z01 s).all digT = true) (k : Nat) (hk : k <= 1048577) : z50 K s k = some ((z5v s).getD k 0) := by
 have hn := z00 s
 unfold z50
 by_cases h : k < s.size
 ·have h' : ((k : Int) < (s.size : Int)) := by omega
  have hi : s.size - 1 - k < (z01 s).length := by omega
  have e1 : z03 .i64 (z03 .i64 ((s.size : Int) - 1) - (k : Int)) = ((s.size - 1 - k : Nat) : Int) := by
   rw [kw (a := (s.size : Int) - 1) (by omega) (by omega), kw (by omega) (by omega)]; omega
  have hx : (z01 s)[s.size - 1 - k]? = some (z01 s)[s.size - 1 - k] := zAh hi
  have hc := List.all_eq_true.1 hd _ (List.getElem_mem hi)
  simp only [digT, Bool.and_eq_true, decide_eq_true_eq] at hc
  rw [decide_eq_true h', if_pos rfl, e1, z76, z4i hx]
  have hg : (z5v s).getD k 0 = (z01 s)[s.size - 1 - k] - 48 := by
   unfold z5v
   rw [zAb, List.getElem?_reverse (by simp; omega), List.length_map, hn, List.getElem?_map, hx]
   rfl
  rw [hg]
  generalize (z01 s)[s.size - 1 - k] = c at hc
  have e2 : z03 .u8 (c - 48) = c - 48 := z4e (by simp [z5i]; omega)
  have e3 : IntKind.wrap .i64 (c - 48) = c - 48 := by rw [<- z4l]; exact kw (by omega) (by omega)
  simp [e2, e3]
 ·have h' : ¬ ((k : Int) < (s.size : Int)) := by omega
  rw [decide_eq_false h', if_neg (by simp)]
  congr 1
  rw [zAb, List.getElem?_eq_none (by rw [z51]; omega)]
  rfl
theorem ziz {x : Int} (h : 0 <= x) (h' : x <= 255) : z03 .u8 x = x := z4e (by simp [z5i]; omega)
theorem zeu {l : List Int} (hl : l.length <= 1048577) (hK : l.length < K) (hd : DigB 10 l) : z1r K l K (List.replicate l.length 0) 0 = some (l.map (48 + ·)).reverse := by
 suffices h : ∃ r, z1r K l K (List.replicate l.length 0) 0 = some r /\ r = (l.map (48 + ·)).reverse by
  obtain ⟨r, h1, rfl⟩ := h; exact h1
 refine zd3 (S := List Int) l.length (fun k s i => z1r K l k s i) (fun b i => b.length = l.length /\ ∀ j < l.length, b.getD j 0 = if l.length - 1 - j < i then 48 + l.getD (l.length - 1 - j) 0 else 0) _ ?_ ?_ K _ hK ⟨by simp, fun j hj => by simp [zAb, hj]⟩
 ·rintro k b i hi ⟨hb, hj⟩
  right
  have hp : l.length - 1 - i < b.length := by omega
  have e1 : z03 .i64 (z03 .i64 ((l.length : Int) - 1) - (i : Int)) = ((l.length - 1 - i : Nat) : Int) := by
   rw [kw (a := (l.length : Int) - 1) (by omega) (by omega), kw (by omega) (by omega)]; omega
  have hx := hd (l.getD i 0) (by rw [zAb, zAh hi]; simp)
  have e2 : IntKind.wrap .u8 (z03 .i64 (48 + l.getD i 0)) = 48 + l.getD i 0 := by
   rw [kw (a := 48 + l.getD i 0) (by omega) (by omega), <- z4l]; exact ziz (by omega) (by omega)
  refine ⟨b.set (l.length - 1 - i) (48 + l.getD i 0), ⟨by simp [hb], fun j hjl => ?_⟩, ?_⟩
  ·have hg : (b.set (l.length - 1 - i) (48 + l.getD i 0)).getD j 0 = if j = l.length - 1 - i then 48 + l.getD i 0 else b.getD j 0 := z7e hp
   rw [hg, hj j hjl]
   by_cases e : j = l.length - 1 - i
   ·have e3 : l.length - 1 - j = i := by omega
    rw [if_pos e, e3, if_pos (zAg i)]
   ·rw [if_neg e]
    by_cases e3 : l.length - 1 - j < i
    ·rw [if_pos e3, if_pos (by omega)]
    ·rw [if_neg e3, if_neg (by omega)]
  ·show z1r K l (k + 1) b i = _
   rw [z1r, zeg hi, if_pos rfl, zd4 hi]
   simp only [Option.bind_some, e1, zd4 hp, e2, Int.toNat_natCast, kw1 hi (by omega)]
 ·rintro k b i rfl ⟨hb, hj⟩
  refine ⟨b, ?_, ?_⟩
  ·show z1r K l (k + 1) b l.length = _
   rw [z1r, zar (Nat.le_refl _)]; simp
  ·apply List.ext_getElem (by simp [hb])
   intro j h1 h2
   have h3 := hj j (by omega)
   rw [if_pos (by omega), zAb, zAh h1, zAb, zAh (show l.length - 1 - j < l.length by omega)] at h3
   simp at h3
   simp [h3]
theorem zge {l : List Int} (hl : l.length <= 1048575) (h0 : l ≠ []) (hK : l.length + 1 < K) (hd : DigB 10 l) : ∃ t, z78 K l = some t /\ CanT t /\ numT t = valB 10 l := by
 have hlen : 0 < l.length := by cases l with | nil => exact absurd rfl h0 | cons _ _ => simp
 have hrange : ∀ x ∈ (l.map (48 + ·)).reverse, 0 <= x /\ x <= 255 := fun x hx => by
  rw [List.mem_reverse, List.mem_map] at hx
  obtain ⟨d, h1, rfl⟩ := hx
  have := hd d h1
  omega
 have hb := zbi _ hrange
 have hz : z01 ((⟨#[48]⟩ : zAd) ++ strOfNums (l.map (48 + ·)).reverse) = 48 :: (l.map (48 + ·)).reverse := by
  rw [z3i, hb]; rfl
 have hsz : ((⟨#[48]⟩ : zAd) ++ strOfNums (l.map (48 + ·)).reverse).size = l.length + 1 := by
  rw [<- z00, hz]; simp
 have hdg : (z01 ((⟨#[48]⟩ : zAd) ++ strOfNums (l.map (48 + ·)).reverse)).all digT = true := by
  rw [hz, List.all_eq_true]
  intro x hx
  rcases List.mem_cons.1 hx with rfl | hx
  ·rfl
  ·rw [List.mem_reverse, List.mem_map] at hx
   obtain ⟨d, h1, rfl⟩ := hx
   have := hd d h1
   simp [digT]; omega
 obtain ⟨t, h1, h2, h3⟩ := z6t (K := K) (s := (⟨#[48]⟩ : zAd) ++ strOfNums (l.map (48 + ·)).reverse) (by omega) (by omega) (by omega) hdg
 refine ⟨t, ?_, h2, ?_⟩
 ·unfold z78
  rw [if_pos (by omega), Int.toNat_natCast, zeu (by omega) (by omega) hd]
  have e1 : (⟨#[48]⟩ : zAd).size = 1 := rfl
  simp only [Option.bind_some, tu1, List.length_reverse, List.length_map, strOfNums_size, e1]
  rw [if_pos hlen, if_pos (by omega), h1]
  rfl
 ·rw [h3]
  unfold numT z5v
  rw [hz, List.map_cons, List.reverse_cons, z3u, List.map_reverse, List.reverse_reverse, List.map_map]
  have : l.map ((fun x => x - 48) ∘ (fun x => 48 + x)) = l := by
   conv => rhs; rw [<- List.map_id l]
   apply List.map_congr_left
   intro x _
   show 48 + x - 48 = x
   omega
  rw [this]
  simp [valB]
end Go.Am.Tryd
/- Plain law: the reference's sum and difference of texts. -/
namespace Go.Am.Tryd
open Go Go.Am Go.Proofs
variable {K : Nat}
theorem zdb (B : Int) (x : List Int) (k : Nat) : valB B (x.take (k + 1)) = valB B (x.take k) + B ^ k * x.getD k 0 := by
 by_cases h : k < x.length
 ·have hx : x[k]? = some x[k] := zAh h
  rw [List.take_add_one, hx, z3u, List.length_take, Nat.min_eq_left (by omega), zAb, hx]
  simp [valB]
 ·rw [List.take_of_length_le (by omega), List.take_of_length_le (by omega), zAb, List.getElem?_eq_none (by omega)]
  simp
theorem zhf {B : Int} (hB : 0 < B) {x : List Int} (h : DigB B x) (k : Nat) : 0 <= x.getD k 0 /\ x.getD k 0 < B := by
 by_cases hk : k < x.length
 ·rw [zAb, zAh hk]
  exact h _ (List.getElem_mem hk)
 ·rw [zAb, List.getElem?_eq_none (by omega)]
  simp [hB]
theorem zhg {a b : zAd} (ha : a.size <= 1000000) (hb : b.size <= a.size) (h0 : 0 < a.size) (hK : 1048580 < K) (da : (z01 a).all digT = true) (db : (z01 b).all digT = true) (hle : numT b <= numT a) : ∃ t, z4q K a b = some t /\ CanT t /\ numT t = numT a - numT b := by
 have dx := z91 da
 have dy := z91 db
 have lx := z51 a
 have ly := z51 b
 have key : ∃ r, z1a K a b K [] 0 0 = some r /\ r ≠ [] /\ r.length <= 1048575 /\ DigB 10 r /\ valB 10 r = numT a - numT b := by
  refine zd3 (S := List Int × Int) a.size (fun k s i => z1a K a b k s.1 s.2 i) (fun s i => s.1.length = i /\ DigB 10 s.1 /\ (0 <= s.2 /\ s.2 <= 1) /\ valB 10 s.1 + valB 10 ((z5v b).take i) = valB 10 ((z5v a).take i) + 10 ^ i * s.2) _ ?_ ?_ K ([], 0) (by omega) ⟨rfl, DigB.nil 10, ⟨by omega, by omega⟩, by simp [valB]⟩
  ·rintro k ⟨out, c⟩ i hi ⟨h1, h2, h3, h4⟩
   simp only at h1 h2 h3 h4
   right
   have ex := zhf (by omega) dx i
   have ey := zhf (by omega) dy i
   show ∃ s', _ /\ z1a K a b (k + 1) out c i = _
   rw [z1a, zeg hi, if_pos rfl, zaz (by omega) da i (by omega), zaz (by omega) db i (by omega)]
   have tx := zdb 10 (z5v a) i
   have ty := zdb 10 (z5v b) i
   generalize (z5v a).getD i 0 = x at ex tx
   generalize (z5v b).getD i 0 = y at ey ty
   have e1 : z03 .i64 (x - y) = x - y := kw (by omega) (by omega)
   have e2 : z03 .i64 (x - y - c) = x - y - c := kw (by omega) (by omega)
   have e3 : z03 .i64 (x - y - c + 10) = x - y - c + 10 := kw (by omega) (by omega)
   simp only [Option.bind_some, e1, e2, e3, lt, tu2, List.length_cons, List.length_nil, kw1 hi (by omega)]
   have h9 : out.length + (0 + 1) <= 16777216 := by omega
   by_cases hn : x - y - c < 0
   ·refine ⟨(out ++ [x - y - c + 10], 1), ⟨by simp [h1], h2.app (fun d hd => by simp at hd; omega), ⟨by omega, by omega⟩, ?_⟩, ?_⟩
    ·simp only
     rw [z3u, h1, tx, ty, Int.pow_succ]
     simp only [valB, Int.mul_zero, Int.add_zero, Int.mul_one]
     generalize valB 10 ((z5v a).take i) = A at h4
     generalize valB 10 ((z5v b).take i) = B at h4
     generalize valB 10 out = C at h4
     generalize (10 : Int) ^ i = p at h4
     rw [Int.mul_add, Int.mul_sub, Int.mul_sub]
     omega
    ·rw [decide_eq_true hn]
     simp only [if_true, Option.bind_some, if_pos h9, tu2]
   ·refine ⟨(out ++ [x - y - c], 0), ⟨by simp [h1], h2.app (fun d hd => by simp at hd; omega), ⟨by omega, by omega⟩, ?_⟩, ?_⟩
    ·simp only
     rw [z3u, h1, tx, ty, Int.pow_succ]
     simp only [valB, Int.mul_zero, Int.add_zero]
     generalize valB 10 ((z5v a).take i) = A at h4
     generalize valB 10 ((z5v b).take i) = B at h4
     generalize valB 10 out = C at h4
     generalize (10 : Int) ^ i = p at h4
     rw [Int.mul_sub, Int.mul_sub]
     omega
    ·rw [decide_eq_false hn]
     simp only [Bool.false_eq_true, if_false, Option.bind_some, if_pos h9, tu2]
  ·rintro k ⟨out, c⟩ i rfl ⟨h1, h2, h3, h4⟩
   simp only at h1 h2 h3 h4
   rw [List.take_of_length_le (by omega), List.take_of_length_le (by omega)] at h4
   have p3 := z40 (B := 10) (by omega) _ h2
   rw [h1] at p3
   have hle' : valB 10 (z5v b) <= valB 10 (z5v a) := hle
   have hc0 : c = 0 := by
    by_cases e : c = 0
    ·exact e
    ·have e1 : c = 1 := by omega
     rw [e1, Int.mul_one] at h4
     omega
   subst hc0
   refine ⟨out, ?_, ?_, by omega, h2, by unfold numT; omega⟩
   ·show z1a K a b (k + 1) out 0 _ = _
    rw [z1a, zar (Nat.le_refl _)]; simp
   ·intro e; rw [e] at h1; simp at h1; omega
 obtain ⟨r, h1, h2, h3, h4, h5⟩ := key
 obtain ⟨t, h6, h7, h8⟩ := zge (K := K) h3 h2 (by omega) h4
 refine ⟨t, ?_, h7, by rw [h8, h5]⟩
 unfold z4q
 rw [h1]
 simp only [Option.bind_some, tu1, h6]
end Go.Am.Tryd
/- Plain law: the reference's comparison, product, quotient and divisor of texts. -/
namespace Go.Am.Tryd
open Go Go.Am Go.Proofs
variable {K : Nat}
theorem z34 {s : zAd} (h : (z01 s).all digT = true) : 0 <= numT s := z4b h
theorem zb0 {s : zAd} (h : (z01 s).all digT = true) : numT s < 10 ^ s.size := by
 have := z87 h
 rwa [z00] at this
theorem zb1 {s : zAd} (h : CanT s) (h2 : 2 <= s.size) : (10 : Int) ^ (s.size - 1) <= numT s := by
 have hh : (z01 s).head? ≠ some 48 := fun e => by have := h.2.2 e; omega
 have h3 := zgc (B := 10) (by omega) (z92 h hh) (by intro e; have := z51 s; rw [e] at this; simp at this; omega)
 rwa [z51] at h3
theorem z7j {a b : zAd} (ha : (z01 a).all digT = true) (hb : CanT b) (h0 : a.size ≠ 0) (h : a.size < b.size) : numT a < numT b := by
 have h1 := zb0 ha
 have h2 := zb1 hb (by omega)
 have h3 : (10 : Int) ^ a.size <= 10 ^ (b.size - 1) := z7g (by omega) (by omega)
 omega
theorem z53 {a b : zAd} (ha : CanT a) (hb : CanT b) (h : numT b <= numT a) : b.size <= a.size := by
 refine Nat.not_lt.1 fun hl => ?_
 have := z7j ha.2.1 hb ha.1 hl
 omega
theorem zb2 : CanT ⟨#[48]⟩ := ⟨by decide, rfl, fun _ => rfl⟩
theorem z5x : numT ⟨#[48]⟩ = 0 := rfl
theorem zgf : CanT ⟨#[49]⟩ := ⟨by decide, rfl, fun h => by simp [z01] at h⟩
theorem zdc : numT ⟨#[49]⟩ = 1 := rfl
theorem zgg {s : zAd} (h : CanT s) : numT s = 0 ↔ s = ⟨#[48]⟩ := ⟨fun e => z66 h zb2 (by rw [e, z5x]), fun e => by rw [e, z5x]⟩
theorem z6f : ∀ (x y : List UInt8), x.length = y.length -> (x.map fun b => (b.toNat : Int)).all digT = true -> (y.map fun b => (b.toNat : Int)).all digT = true -> (Op.bytesLess x y = true ↔ numB (x.map fun b => (b.toNat : Int)) < numB (y.map fun b => (b.toNat : Int)))
 | [], [], _, _, _ => by simp [Op.bytesLess]
 | [], _ :: _, h, _, _ => by simp at h
 | _ :: _, [], h, _, _ => by simp at h
 | a :: x, b :: y, h, hx, hy => by
  simp only [List.map_cons, List.all_cons, Bool.and_eq_true] at hx hy
  simp only [List.length_cons, Nat.add_right_cancel_iff] at h
  have ih := z6f x y h hx.2 hy.2
  have dx := digT_iff.1 hx.1
  have dy := digT_iff.1 hy.1
  simp only [Op.bytesLess, List.map_cons, zaw, List.length_map, h]
  have lx0 := z4b hx.2
  have lx1 := z87 hx.2
  have ly0 := z4b hy.2
  have ly1 := z87 hy.2
  rw [List.length_map] at lx1 ly1
  rw [h] at lx1
  generalize numB (x.map fun b => (b.toNat : Int)) = X at *
  generalize numB (y.map fun b => (b.toNat : Int)) = Y at *
  have p0 : (0 : Int) < 10 ^ y.length := Int.pow_pos (by omega)
  generalize (10 : Int) ^ y.length = P at *
  rw [Bool.or_eq_true, Bool.and_eq_true, ih, decide_eq_true_eq, beq_iff_eq, UInt8.lt_iff_toNat_lt]
  rcases Nat.lt_trichotomy a.toNat b.toNat with h1 | h1 | h1
  ·have := z2a (Int.le_of_lt p0) (show ((a.toNat : Int) - 48) + 1 <= (b.toNat : Int) - 48 by omega)
   rw [Int.mul_add, Int.mul_one] at this
   exact ⟨fun _ => by omega, fun _ => .inl h1⟩
  ·have e : a = b := UInt8.toNat_inj.1 h1
   subst e
   exact ⟨fun h => by rcases h with h | h <;> omega, fun h => .inr ⟨rfl, by omega⟩⟩
  ·have := z2a (Int.le_of_lt p0) (show ((b.toNat : Int) - 48) + 1 <= (a.toNat : Int) - 48 by omega)
   rw [Int.mul_add, Int.mul_one] at this
   refine ⟨fun h => ?_, fun h => by omega⟩
   rcases h with h | ⟨h, _⟩
   ·omega
   ·subst h; omega
theorem zhh {a b : zAd} (h : a.size = b.size) (ha : (z01 a).all digT = true) (hb : (z01 b).all digT = true) : sLt a b = decide (numT a < numT b) := by
 have := z6f a.data.toList b.data.toList (by simpa using h) ha hb
 unfold sLt
 rw [ByteArray.toList_eq, ByteArray.toList_eq]
 by_cases c : numT a < numT b
 ·rw [decide_eq_true c]; exact this.2 c
 ·rw [decide_eq_false c]
  cases e : Op.bytesLess a.data.toList b.data.toList with
  | false => rfl
  | true => exact absurd (this.1 e) c
theorem zhi {a b : zAd} (ha : CanT a) (hb : CanT b) : z4p K a b = some (if numT a < numT b then -1 else if numT a = numT b then 0 else 1) := by
 unfold z4p
 by_cases h1 : a.size < b.size
 ·have := z7j ha.2.1 hb ha.1 h1
  simp (discharger := omega) only [runL]
 ·by_cases h2 : a.size > b.size
  ·have := z7j hb.2.1 ha hb.1 h2
   simp (discharger := omega) only [runL]
  ·have he : a.size = b.size := by omega
   rw [if_neg (by simp; omega), if_neg (by simp; omega), zhh he ha.2.1 hb.2.1]
   by_cases c : numT a < numT b
   ·simp (discharger := omega) only [runL]
   ·by_cases d : numT a = numT b
    ·have : a = b := z66 ha hb d
     subst this
     have e : sEq a a = true := sEq_iff.2 rfl
     simp [e]
    ·have e : sEq a b = false := by
      cases e : sEq a b with
      | false => rfl
      | true => rw [sEq_iff] at e; subst e; exact absurd rfl d
     simp [e, c, d]
end Go.Am.Tryd
/- Plain law: long division of the program's numbers. -/
namespace Go.Am.Tryd
open Go Go.Am Go.Proofs
variable {K : Nat}
theorem zdd (u : List Int) (i n : Nat) (h : i + n <= u.length) : valB 1000000000 u = valB 1000000000 (u.take i) + 1000000000 ^ i * (valB 1000000000 ((u.drop i).take n) + 1000000000 ^ n * valB 1000000000 (u.drop (i + n))) := by
 have h1 := z5w 1000000000 u i (by omega)
 have h2 := z5w 1000000000 (u.drop i) n (by rw [List.length_drop]; omega)
 rw [h1, h2, List.drop_drop]
theorem zfg {l : List Int} {i : Nat} (h : l.length <= i) : l.getD i 0 = 0 := by rw [zAb, List.getElem?_eq_none h]; rfl
theorem zgh {u v : List Int} {k : Nat} {q : Int} (hk : k + v.length + 1 <= u.length) (hl : u.length <= 8000000) (hK : 2000000000 < K) (hq : 0 <= q /\ q < 1000000000) (du : DigB 1000000000 u) (dv : DigB 1000000000 v) :
  ∃ (b : Int) (u' : List Int), z23 K u v k q = some (decide (b > 0), u') /\ (b = 0 \/ b = 1) /\ u'.length = u.length /\ DigB 1000000000 u' /\ u'.take k = u.take k /\ u'.drop (k + (v.length + 1)) = u.drop (k + (v.length + 1)) ∧
   valB 1000000000 u' = valB 1000000000 u - 1000000000 ^ k * (q * valB 1000000000 v) + 1000000000 ^ (k + (v.length + 1)) * b := by
 have key : ∃ r : List Int × Int, z0s K v k q K u 0 0 0 = some r /\ (r.2 = 0 \/ r.2 = 1) /\ r.1.length = u.length /\ DigB 1000000000 r.1 /\ r.1.take k = u.take k /\ r.1.drop (k + (v.length + 1)) = u.drop (k + (v.length + 1)) ∧
   valB 1000000000 r.1 = valB 1000000000 u - 1000000000 ^ k * (q * valB 1000000000 v) + 1000000000 ^ (k + (v.length + 1)) * r.2 := by
  refine za8 (fun m (s : List Int × Int × Int × Int) => z0s K v k q m s.1 s.2.1 s.2.2.1 s.2.2.2) (fun s => ∃ i : Nat, s.2.2.2 = i /\ i <= v.length + 1 /\ s.1.length = u.length /\ DigB 1000000000 s.1 /\ (s.2.1 = 0 \/ s.2.1 = 1) /\ (0 <= s.2.2.1 /\ s.2.2.1 < 1000000000) /\ (i = v.length + 1 -> s.2.2.1 = 0) /\ s.1.take k = u.take k /\ s.1.drop (k + (v.length + 1)) = u.drop (k + (v.length + 1)) ∧
   valB 1000000000 s.1 = valB 1000000000 u - 1000000000 ^ k * (q * valB 1000000000 (v.take i)) + 1000000000 ^ (k + i) * (s.2.1 + s.2.2.1)) (fun s => (v.length + 1 - s.2.2.2 : Int).toNat) _ ?_ ((u, 0, 0, 0) : List Int × Int × Int × Int) (by simp; omega) ⟨0, rfl, by omega, rfl, du, .inl rfl, by simp, by simp, rfl, rfl, by simp [valB]⟩
  rintro m ⟨o, b, c, _⟩ ⟨i, rfl, h0, h1, h2, h3, h4, h5, h6, h7, h8⟩
  dsimp only at h1 h2 h3 h4 h5 h6 h7 h8 ⊢
  by_cases hi : i < v.length + 1
  ·right
   have ev := z25 (by omega) dv i
   have eo := z25 (by omega) h2 (k + i)
   have hm := zfe hq ev
   have tv := z3j 1000000000 v i
   have e1 : ((k : Int) + (i : Int)) = ((k + i : Nat) : Int) := by omega
   have e2 : (1000000000 : Int) ^ (k + (i + 1)) = 1000000000 ^ k * 1000000000 ^ i * 1000000000 := by rw [<- Nat.add_assoc, Int.pow_succ, Int.pow_add]
   have hset := fun d => z67 1000000000 o (k + i) d (by omega)
   have hz : ¬ i < v.length -> q * v.getD i 0 = 0 := fun h => by rw [zfg (by omega)]; simp
   generalize hw : q * v.getD i 0 = w at hm hz
   generalize ho : o.getD (k + i) 0 = z at eo hset
   have hdm := Int.emod_add_mul_ediv (c + w) 1000000000
   have htk : ∀ d, (o.set (k + i) d).take k = u.take k := fun d => by rw [List.take_set_of_le (by omega), h6]
   have hdr : ∀ d, (o.set (k + i) d).drop (k + (v.length + 1)) = u.drop (k + (v.length + 1)) := fun d => by rw [List.drop_set_of_lt (by omega), h7]
   have hc0 : i + 1 = v.length + 1 -> (c + w) / 1000000000 = 0 := fun h => by rw [hz (by omega)]; omega
   have hb2 : 0 <= b /\ b <= 1 := by rcases h3 with rfl | rfl <;> omega
   by_cases hn : z - (c + w) % 1000000000 - b < 0
   ·refine ⟨(o.set (k + i) (z - (c + w) % 1000000000 - b + 1000000000), 1, (c + w) / 1000000000, (i : Int) + 1), ?_, by dsimp only; omega, i + 1, rfl, by omega, by simp [h1], h2.set _ (by omega), .inr rfl, by dsimp only; omega, hc0, htk _, hdr _, ?_⟩
    ·rw [z0s]
     by_cases h : i < v.length
     ·simp (discharger := omega) only [runL, e1, hw, ho]
     ·have e := hz h
      subst e
      simp only [Int.add_zero] at hn ⊢
      simp (discharger := omega) only [runL, e1, ho]
    ·dsimp only
     rw [hset, tv, e2]
     rw [Int.pow_add] at h8 ⊢
     subst hw
     generalize (c + q * v.getD i 0) / 1000000000 = Q at *
     generalize (c + q * v.getD i 0) % 1000000000 = R at *
     grind
   ·refine ⟨(o.set (k + i) (z - (c + w) % 1000000000 - b), 0, (c + w) / 1000000000, (i : Int) + 1), ?_, by dsimp only; omega, i + 1, rfl, by omega, by simp [h1], h2.set _ (by omega), .inl rfl, by dsimp only; omega, hc0, htk _, hdr _, ?_⟩
    ·rw [z0s]
     by_cases h : i < v.length
     ·simp (discharger := omega) only [runL, e1, hw, ho]
     ·have e := hz h
      subst e
      simp only [Int.add_zero] at hn ⊢
      simp (discharger := omega) only [runL, e1, ho]
    ·dsimp only
     rw [hset, tv, e2]
     rw [Int.pow_add] at h8 ⊢
     subst hw
     generalize (c + q * v.getD i 0) / 1000000000 = Q at *
     generalize (c + q * v.getD i 0) % 1000000000 = R at *
     grind
  ·left
   have : i = v.length + 1 := by omega
   subst this
   have hc := h5 rfl
   subst hc
   rw [List.take_of_length_le (by omega), Int.add_zero] at h8
   exact ⟨(o, b), by rw [z0s]; simp (discharger := omega) only [runL], h3, h1, h2, h6, h7, h8⟩
 obtain ⟨⟨u', b⟩, h1, h2⟩ := key
 exact ⟨b, u', by unfold z23; rw [h1]; rfl, h2⟩
theorem zhj {u v : List Int} {k : Nat} (hk : k + v.length + 1 <= u.length) (hl : u.length <= 8000000) (hK : 2000000000 < K) (du : DigB 1000000000 u) (dv : DigB 1000000000 v) :
  ∃ (u' : List Int) (b : Int), z2f K u v k = some u' /\ (b = 0 \/ b = 1) /\ u'.length = u.length /\ DigB 1000000000 u' /\ u'.take k = u.take k /\ u'.drop (k + (v.length + 1)) = u.drop (k + (v.length + 1)) ∧
   valB 1000000000 u' + 1000000000 ^ (k + (v.length + 1)) * b = valB 1000000000 u + 1000000000 ^ k * valB 1000000000 v := by
 have key : ∃ r : List Int, z1b K v k K u 0 0 = some r /\ ∃ b : Int, (b = 0 \/ b = 1) /\ r.length = u.length /\ DigB 1000000000 r /\ r.take k = u.take k /\ r.drop (k + (v.length + 1)) = u.drop (k + (v.length + 1)) ∧
   valB 1000000000 r + 1000000000 ^ (k + (v.length + 1)) * b = valB 1000000000 u + 1000000000 ^ k * valB 1000000000 v := by
  refine za8 (fun m (s : List Int × Int × Int) => z1b K v k m s.1 s.2.1 s.2.2) (fun s => ∃ i : Nat, s.2.2 = i /\ i <= v.length + 1 /\ s.1.length = u.length /\ DigB 1000000000 s.1 /\ (s.2.1 = 0 \/ s.2.1 = 1) /\ s.1.take k = u.take k /\ s.1.drop (k + (v.length + 1)) = u.drop (k + (v.length + 1)) ∧
   valB 1000000000 s.1 + 1000000000 ^ (k + i) * s.2.1 = valB 1000000000 u + 1000000000 ^ k * valB 1000000000 (v.take i)) (fun s => (v.length + 1 - s.2.2 : Int).toNat) _ ?_ ((u, 0, 0) : List Int × Int × Int) (by simp; omega) ⟨0, rfl, by omega, rfl, du, .inl rfl, rfl, rfl, by simp [valB]⟩
  rintro m ⟨o, b, _⟩ ⟨i, rfl, h0, h1, h2, h3, h6, h7, h8⟩
  dsimp only at h1 h2 h3 h6 h7 h8 ⊢
  by_cases hi : i < v.length + 1
  ·right
   have ev := z25 (by omega) dv i
   have eo := z25 (by omega) h2 (k + i)
   have tv := z3j 1000000000 v i
   have e1 : ((k : Int) + (i : Int)) = ((k + i : Nat) : Int) := by omega
   have e2 : (1000000000 : Int) ^ (k + (i + 1)) = 1000000000 ^ k * 1000000000 ^ i * 1000000000 := by rw [<- Nat.add_assoc, Int.pow_succ, Int.pow_add]
   have hset := fun d => z67 1000000000 o (k + i) d (by omega)
   have hz : ¬ i < v.length -> v.getD i 0 = 0 := fun h => zfg (by omega)
   generalize hw : v.getD i 0 = w at ev hz tv
   generalize ho : o.getD (k + i) 0 = z at eo hset
   have hdm := Int.emod_add_mul_ediv (z + b + w) 1000000000
   have htk : ∀ d, (o.set (k + i) d).take k = u.take k := fun d => by rw [List.take_set_of_le (by omega), h6]
   have hdr : ∀ d, (o.set (k + i) d).drop (k + (v.length + 1)) = u.drop (k + (v.length + 1)) := fun d => by rw [List.drop_set_of_lt (by omega), h7]
   have hb2 : 0 <= b /\ b <= 1 := by rcases h3 with rfl | rfl <;> omega
   refine ⟨(o.set (k + i) ((z + b + w) % 1000000000), (z + b + w) / 1000000000, (i : Int) + 1), ?_, by dsimp only; omega, i + 1, rfl, by omega, by simp [h1], h2.set _ (by omega), by dsimp only; omega, htk _, hdr _, ?_⟩
   ·rw [z1b]
    by_cases h : i < v.length
    ·simp (discharger := omega) only [runL, e1, hw, ho]
    ·have e := hz h
     subst e
     simp only [Int.add_zero] at hdm ⊢
     simp (discharger := omega) only [runL, e1, ho]
   ·dsimp only
    rw [hset, tv, e2]
    rw [Int.pow_add] at h8
    generalize (z + b + w) / 1000000000 = Q at *
    generalize (z + b + w) % 1000000000 = R at *
    grind
  ·left
   have : i = v.length + 1 := by omega
   subst this
   rw [List.take_of_length_le (by omega)] at h8
   exact ⟨o, by rw [z1b]; simp (discharger := omega) only [runL], b, h3, h1, h2, h6, h7, h8⟩
 obtain ⟨u', h1, b, h2⟩ := key
 exact ⟨u', b, by unfold z2f; rw [h1]; rfl, h2⟩
theorem zgi {u v : List Int} {k : Nat} {P vl top ul q g r : Int} (hn : 2 <= v.length) (hk : k + v.length + 1 <= u.length) (hl : u.length <= 8000000) (hK : 2000000000 < K)
  (h : Kn 1000000000 P (v.getD (v.length - 1) 0) (v.getD (v.length - 2) 0) vl top (u.getD (k + v.length - 2) 0) ul q) (hv : v.getD (v.length - 1) 0 < 1000000000) (ht : top < 1000000000 * v.getD (v.length - 1) 0 + 1000000000) (hr : top = g * v.getD (v.length - 1) 0 + r) (hg : q <= g) (hg2 : g < 2000000000) (hr0 : 0 <= r /\ r < 1000000000) :
  ∃ g', z19 K v u k K g r = some g' /\ q <= g' /\ g' <= q + 1 /\ g' < 1000000000 := by
 generalize hv1 : v.getD (v.length - 1) 0 = v1 at *
 generalize hv2 : v.getD (v.length - 2) 0 = v2 at *
 generalize hu3 : u.getD (k + v.length - 2) 0 = u3 at *
 have a1 := h.v1p
 have a2 := h.v2p
 have a3 := h.v2b
 have a4 := h.u3p
 have a5 := h.u3b
 have a6 := h.q0
 have a7 := h.qB
 refine za8 (fun m (s : Int × Int) => z19 K v u k m s.1 s.2) (fun s => top = s.1 * v1 + s.2 /\ q <= s.1 /\ s.1 < 2000000000 /\ 0 <= s.2 /\ s.2 < 1000000000) (fun s => (1000000000 - s.2).toNat) _ ?_ ((g, r) : Int × Int) ?_ ⟨hr, hg, hg2, hr0.1, hr0.2⟩
 ·rintro m ⟨g, r⟩ ⟨b1, b2, b3, b4, b5⟩
  dsimp only at b1 b2 b3 b4 b5 ⊢
  have f1 : idx v (z03 .i64 ((v.length : Int) - 1)) = some v1 := by
   rw [k64 (by omega) (by omega), idxI (by omega) (by omega), <- hv1]; congr 2; omega
  have f2 : idx v (z03 .i64 ((v.length : Int) - 2)) = some v2 := by
   rw [k64 (by omega) (by omega), idxI (by omega) (by omega), <- hv2]; congr 2; omega
  have f3 : idx u (z03 .i64 (z03 .i64 ((k : Int) + (v.length : Int)) - 2)) = some u3 := by
   rw [k64 (a := (k : Int) + (v.length : Int)) (by omega) (by omega), k64 (by omega) (by omega), idxI (by omega) (by omega), <- hu3]; congr 2; omega
  have m1 : 0 <= g * v2 := z5d (by omega) a2
  have m2 := z2a (show 0 <= g by omega) (show v2 <= 999999999 by omega)
  rw [z19, f1, f2]
  generalize hw : g * v2 = w at m1 m2
  by_cases c : g >= 1000000000 \/ w > r * 1000000000 + u3
  ·have hqg : q < g := by
    rcases c with c | c
    ·omega
    ·exact h.down b1 (by omega) (by omega)
   have hc : (if (decide (g >= 1000000000)) = true then some true else ((some v2).bind fun x235 => (lt (z03 .i64 ((z03 .i64 ((k : Int) + (v.length : Int))) - 2)) fun x239 => ((idx u x239).bind fun x242 => (lt (z03 .u64 ((z03 .u64 (r * 1000000000)) + (IntKind.wrap .u64 x242))) fun x246 => (lt (decide ((z03 .u64 (g * (IntKind.wrap .u64 x235))) > x246)) fun x249 => some x249)))))) = some true := by
    by_cases c1 : g >= 1000000000
    ·rw [decide_eq_true c1]; rfl
    ·rw [decide_eq_false c1]
     simp only [z0z, lta, Bool.false_eq_true, if_false, f3]
     rw [u64w (a := v2) (by omega) (by omega), hw, u64w (a := u3) (by omega) (by omega), ku64 (a := w) (by omega) (by omega), ku64 (a := r * 1000000000) (by omega) (by omega), ku64 (a := r * 1000000000 + u3) (by omega) (by omega), decide_eq_true (by omega)]
   rw [hc]
   by_cases c2 : r + v1 >= 1000000000
   ·left
    have hgB : g <= 1000000000 := by
     refine Int.not_lt.1 fun hlt => ?_
     have := z2a (show 0 <= v1 by omega) (show 1000000001 <= g by omega)
     rw [Int.mul_comm v1 g] at this
     omega
    have hx := h.exitB (g := g - 1) (r := r + v1) (by rw [Int.sub_mul]; omega) (by omega) (by omega) c2
    refine ⟨g - 1, ?_, by omega, by omega, by omega⟩
    simp (discharger := omega) only [runL]
   ·right
    refine ⟨(g - 1, r + v1), ?_, by dsimp only; omega, by dsimp only; rw [Int.sub_mul]; omega, by dsimp only; omega, by dsimp only; omega, by dsimp only; omega, by dsimp only; omega⟩
    have e : decide (r + v1 >= 1000000000) = false := decide_eq_false c2
    simp (discharger := omega) only [runL, e, Bool.false_eq_true]
  ·left
   have c1 : ¬ g >= 1000000000 := fun x => c (.inl x)
   have c3 : ¬ w > r * 1000000000 + u3 := fun x => c (.inr x)
   have hx := h.exitA b1 (by omega) (by omega) (by omega)
   refine ⟨g, ?_, b2, hx, by omega⟩
   rw [decide_eq_false c1]
   simp only [z0z, lta, Bool.false_eq_true, if_false, f3]
   rw [u64w (a := v2) (by omega) (by omega), hw, u64w (a := u3) (by omega) (by omega), ku64 (a := w) (by omega) (by omega), ku64 (a := r * 1000000000) (by omega) (by omega), ku64 (a := r * 1000000000 + u3) (by omega) (by omega), decide_eq_false c3]
   simp only [z0z, tu1a, Bool.false_eq_true, if_false]
 ·dsimp only; omega
end Go.Am.Tryd
/- Plain law: quotient and remainder, greatest common divisor of the program's numbers. -/
namespace Go.Am.Tryd
open Go Go.Am Go.Proofs
variable {K : Nat}
theorem zde (u : List Int) (i j : Nat) : (u.drop i).getD j 0 = u.getD (i + j) 0 := by
 rw [zAb, List.getElem?_drop, zAb]
section
variable {p X Y V M HI LO U g q b c rr M1 M2 U1 U2 P v1 v2 vl t1 t2 t3 ul top : Int}
theorem kd1 : vl + P * v2 + P * 1000000000 * v1 = P * (1000000000 * v1 + v2) + vl := by grind
theorem kd2 : ul + P * t3 + P * 1000000000 * t2 + P * 1000000000 * 1000000000 * t1 = P * (1000000000 * (t1 * 1000000000 + t2) + t3) + ul := by grind
theorem kd3 (hu : U < p * 1000000000 * V) (hm : U = LO + p * (M + Y * 1000000000 * HI)) (h0 : 0 <= LO) (p0 : 0 < p) (Y0 : 0 < Y) (hV : V < Y) (hM : 0 <= M) (hH : 0 <= HI) : HI = 0 := by
 refine Int.le_antisymm (Int.not_lt.1 fun hlt => ?_) hH
 have a1 := z2a (Int.le_of_lt Y0) (show 1 <= HI by omega)
 have a2 := z2a (Int.le_of_lt p0) (show V + 1 <= Y by omega)
 have a3 := z2a (Int.le_of_lt p0) (show Y * 1000000000 <= M + Y * 1000000000 * HI by grind)
 grind
theorem kd4 (hu : U < p * 1000000000 * V) (hm : U = LO + p * (M + X * 0)) (h0 : 0 <= LO) (p0 : 0 < p) : M < 1000000000 * V := by
 refine Int.not_le.1 fun hle => ?_
 have a1 := z2a (Int.le_of_lt p0) hle
 grind
theorem kd5 (h : rr + V * q = M) (h0 : 0 <= rr) : q * V <= M := by grind
theorem kd5' (h : rr + V * q = M) (h0 : rr < V) : M < (q + 1) * V := by grind
theorem kd6 (hM : M = P * (1000000000 * top + t3) + ul) (hV : V = P * (1000000000 * v1 + v2) + vl) (h : M < 1000000000 * V) (P0 : 0 < P) (b2 : v2 < 1000000000) (b3 : 0 <= t3) (u0 : 0 <= ul) (vb : vl < P) : top < 1000000000 * v1 + 1000000000 := by
 refine Int.not_le.1 fun hle => ?_
 have a1 := z2a (Int.le_of_lt P0) (z2a (show (0:Int) <= 1000000000 by omega) hle)
 have a2 := z2a (Int.le_of_lt P0) (show v2 <= 999999999 by omega)
 have a3 := z5d (Int.le_of_lt P0) b3
 subst hM hV
 grind
theorem kd7 (p0 : 0 < p) (h1 : U1 = LO + p * (M1 + X * 0)) (h2 : U1 = U - p * (g * V) + p * X * b) (h3 : U = LO + p * (M + X * 0)) : M1 = M - g * V + X * b := by
 have : p * M1 = p * (M - g * V + X * b) := by grind
 exact Int.eq_of_mul_eq_mul_left (by omega) this
theorem kd8 (h : rr + V * q = M) (h1 : rr < V) (hV : 0 < V) (hm : M1 = M - g * V + X * 0) (h0 : 0 <= M1) (hq : q <= g) : g = q := by
 refine Int.le_antisymm (Int.not_lt.1 fun hlt => ?_) hq
 have a1 := z2a (Int.le_of_lt hV) (show q + 1 <= g by omega)
 grind
theorem kd9 (h : rr + V * q = M) (h0 : 0 <= rr) (hm : M1 = M - g * V + X * 1) (h1 : M1 < X) (hq : q <= g) (hq1 : g <= q + 1) : g = q + 1 := by
 refine Int.le_antisymm hq1 (Int.not_lt.1 fun hlt => ?_)
 have : g = q := by omega
 subst this
 grind
theorem kd10 (p0 : 0 < p) (h1 : U2 = LO + p * (M2 + X * 0)) (h2 : U2 + p * X * c = U1 + p * V) (h3 : U1 = LO + p * (M1 + X * 0)) (h4 : M1 = M - (q + 1) * V + X * 1) : M2 = M - q * V + X * (1 - c) := by
 have : p * M2 = p * (M - q * V + X * (1 - c)) := by grind
 exact Int.eq_of_mul_eq_mul_left (by omega) this
theorem kd11 (h : rr + V * q = M) (h0 : 0 <= rr) (hm : M2 = M - q * V + X * (1 - c)) (h1 : M2 < X) (hc : c = 0 \/ c = 1) : c = 1 := by
 rcases hc with rfl | rfl
 ·grind
 ·rfl
theorem kd12 (h1 : U1 = LO + p * (M1 + X * 0)) (hm : M1 = M - q * V) (h3 : U = LO + p * (M + X * 0)) : U1 + p * (q * V) = U := by grind
theorem kd13 (p0 : 0 < p) (h1 : U1 = LO + p * (M1 + X * 0)) (hm : M1 = M - q * V) (h : rr + V * q = M) (hr : rr < V) (hl : LO < p) : U1 < p * V := by
 have a1 := z2a (Int.le_of_lt p0) (show M1 + 1 <= V by grind)
 grind
end
theorem zdf {u v : List Int} {i : Nat} (hn : 2 <= v.length) (hk : i + v.length + 1 <= u.length) (hl : u.length <= 8000000) (hK : 2000000000 < K) (du : DigB 1000000000 u) (cv : CanB 1000000000 v) (hu : valB 1000000000 u < 1000000000 ^ (i + 1) * valB 1000000000 v) :
  ∃ g b u1 u2 q, z19 K v u i K ((u.getD (i + v.length) 0 * 1000000000 + u.getD (i + v.length - 1) 0) / v.getD (v.length - 1) 0) ((u.getD (i + v.length) 0 * 1000000000 + u.getD (i + v.length - 1) 0) % v.getD (v.length - 1) 0) = some g /\ 0 <= g /\ g < 1000000000 ∧
   z23 K u v i g = some (b, u1) /\ (b = true -> z2f K u1 v i = some u2 /\ q = g - 1) /\ (b = false -> u2 = u1 /\ q = g) /\ 0 <= q /\ q < 1000000000 /\ u2.length = u.length /\ DigB 1000000000 u2 ∧
   valB 1000000000 u2 + 1000000000 ^ i * (q * valB 1000000000 v) = valB 1000000000 u /\ valB 1000000000 u2 < 1000000000 ^ i * valB 1000000000 v /\ 1 <= v.getD (v.length - 1) 0 /\ v.getD (v.length - 1) 0 < 1000000000 := by
 obtain ⟨n, hnv⟩ : ∃ n, v.length = n + 2 := ⟨v.length - 2, by omega⟩
 have dv := cv.1
 have ev1 := z25 (by omega) dv (n + 1)
 have ev2 := z25 (by omega) dv n
 have et1 := z25 (by omega) du (i + n + 2)
 have et2 := z25 (by omega) du (i + n + 1)
 have et3 := z25 (by omega) du (i + n)
 -- the divisor's leading digits
 have hv1 : 1 <= v.getD (n + 1) 0 := by
  have : v.getD (n + 1) 0 ≠ 0 := fun e => cv.2 (by
   rw [List.getLast?_eq_getElem?, hnv]
   have hi : n + 2 - 1 < v.length := by omega
   rw [zAb, zAh (by omega)] at e
   rw [zAh hi]
   simp at e ⊢
   exact e)
  omega
 have hV : valB 1000000000 v = 1000000000 ^ n * (1000000000 * v.getD (n + 1) 0 + v.getD n 0) + valB 1000000000 (v.take n) := by
  have h1 := z3j 1000000000 v n
  have h2 := z3j 1000000000 v (n + 1)
  rw [List.take_of_length_le (by omega)] at h2
  rw [h2, h1, Int.pow_succ, kd1]
 have hVn : valB 1000000000 v < 1000000000 ^ (n + 2) := by rw [<- hnv]; exact z40 (by omega) v dv
 -- the middle of what is divided
 have hmid := zdd u i (n + 3) (by omega)
 have hM : valB 1000000000 ((u.drop i).take (n + 3)) = 1000000000 ^ n * (1000000000 * (u.getD (i + n + 2) 0 * 1000000000 + u.getD (i + n + 1) 0) + u.getD (i + n) 0) + valB 1000000000 ((u.drop i).take n) := by
  have h1 := z3j 1000000000 (u.drop i) n
  have h2 := z3j 1000000000 (u.drop i) (n + 1)
  have h3 := z3j 1000000000 (u.drop i) (n + 2)
  rw [zde] at h1 h2 h3
  rw [h3, h2, h1, Int.pow_succ 1000000000 (n + 1), Int.pow_succ 1000000000 n, <- Nat.add_assoc, <- Nat.add_assoc, kd2]
 have dlo := du.take i
 have lo0 := z0y (B := 1000000000) (by omega) _ dlo
 have lo1 := z40 (B := 1000000000) (by omega) _ dlo
 rw [List.length_take, Nat.min_eq_left (by omega)] at lo1
 have dmi := (du.drop i).take (n + 3)
 have mi0 := z0y (B := 1000000000) (by omega) _ dmi
 have dhi := du.drop (i + (n + 3))
 have hi0 := z0y (B := 1000000000) (by omega) _ dhi
 have p0 : 0 < (1000000000 : Int) ^ i := Int.pow_pos (by omega)
 have pn0 : 0 < (1000000000 : Int) ^ n := Int.pow_pos (by omega)
 have pn3 : 0 < (1000000000 : Int) ^ (n + 3) := Int.pow_pos (by omega)
 have ep1 : (1000000000 : Int) ^ (i + 1) = 1000000000 ^ i * 1000000000 := Int.pow_succ _ _
 have ep3 : (1000000000 : Int) ^ (n + 3) = 1000000000 ^ (n + 2) * 1000000000 := Int.pow_succ _ _
 have dul := (du.drop i).take n
 have ul0 := z0y (B := 1000000000) (by omega) _ dul
 have ul1 := z40 (B := 1000000000) (by omega) _ dul
 rw [List.length_take, List.length_drop, Nat.min_eq_left (by omega)] at ul1
 have dvl := dv.take n
 have vl0 := z0y (B := 1000000000) (by omega) _ dvl
 have vl1 := z40 (B := 1000000000) (by omega) _ dvl
 rw [List.length_take, Nat.min_eq_left (by omega)] at vl1
 have hmin := fun (g : Int) (hg : 0 <= g /\ g < 1000000000) => zgh (K := K) (u := u) (v := v) (k := i) (q := g) hk hl hK hg du dv
 have hplu := fun (u1 : List Int) (h1 : u1.length = u.length) (d1 : DigB 1000000000 u1) => zhj (K := K) (u := u1) (v := v) (k := i) (by omega) (by omega) hK d1 dv
 rw [show i + v.length = i + n + 2 by omega, show i + n + 2 - 1 = i + n + 1 by omega, show v.length - 1 = n + 1 by omega]
 generalize hVV : valB 1000000000 v = V at *
 generalize hMM : valB 1000000000 ((u.drop i).take (n + 3)) = M at *
 generalize hLL : valB 1000000000 (u.take i) = LO at *
 generalize hHH : valB 1000000000 (u.drop (i + (n + 3))) = HI at *
 have hV0 : 0 < V := by
  have := z2a (Int.le_of_lt pn0) (show 1 <= 1000000000 * v.getD (n + 1) 0 + v.getD n 0 by omega)
  omega
 have hHI : HI = 0 := by
  rw [ep3] at hmid
  rw [ep1] at hu
  exact kd3 hu hmid lo0 p0 (Int.pow_pos (by omega)) hVn mi0 hi0
 rw [hHI] at hmid
 have hMV : M < 1000000000 * V := by
  rw [ep1] at hu
  exact kd4 hu hmid lo0 p0
 -- the true digit
 have q0 : 0 <= M / V := Int.ediv_nonneg mi0 (by omega)
 have qB : M / V < 1000000000 := Int.ediv_lt_of_lt_mul hV0 hMV
 have hdm := Int.emod_add_mul_ediv M V
 have r0 := Int.emod_nonneg M (show V ≠ 0 by omega)
 have r1 := Int.emod_lt_of_pos M hV0
 generalize hq : M / V = q at *
 generalize M % V = rr at *
 have hkn : Kn 1000000000 (1000000000 ^ n) (v.getD (n + 1) 0) (v.getD n 0) (valB 1000000000 (v.take n)) (u.getD (i + n + 2) 0 * 1000000000 + u.getD (i + n + 1) 0) (u.getD (i + n) 0) (valB 1000000000 ((u.drop i).take n)) q := by
  refine ⟨by omega, pn0, hv1, ev2.1, ev2.2, vl0, vl1, by omega, et3.1, et3.2, ul0, ul1, q0, qB, ?_, ?_⟩
  ·rw [<- hM, <- hV]; exact kd5 hdm r0
  ·rw [<- hM, <- hV]; exact kd5' hdm r1
 have ht : u.getD (i + n + 2) 0 * 1000000000 + u.getD (i + n + 1) 0 < 1000000000 * v.getD (n + 1) 0 + 1000000000 := kd6 hM hV hMV pn0 ev2.2 et3.1 ul0 vl1
 generalize htop : u.getD (i + n + 2) 0 * 1000000000 + u.getD (i + n + 1) 0 = top at *
 have htd := Int.emod_add_mul_ediv top (v.getD (n + 1) 0)
 have hfirst := hkn.first
 have g2 : top / v.getD (n + 1) 0 < 2000000000 := Int.ediv_lt_of_lt_mul (by omega) (by omega)
 have rt0 := Int.emod_nonneg top (show v.getD (n + 1) 0 ≠ 0 by omega)
 have rt1 := Int.emod_lt_of_pos top (show 0 < v.getD (n + 1) 0 by omega)
 obtain ⟨g, w1, w2, w3, w4⟩ := zgi (K := K) (u := u) (v := v) (k := i) (P := 1000000000 ^ n) (vl := valB 1000000000 (v.take n)) (top := top) (ul := valB 1000000000 ((u.drop i).take n)) (q := q) (g := top / v.getD (n + 1) 0) (r := top % v.getD (n + 1) 0) hn hk hl hK
  (by rw [hnv, show n + 2 - 1 = n + 1 by omega, show n + 2 - 2 = n by omega, show i + (n + 2) - 2 = i + n by omega]; exact hkn) (by rw [hnv, show n + 2 - 1 = n + 1 by omega]; omega) (by rw [hnv, show n + 2 - 1 = n + 1 by omega]; omega) (by rw [hnv, show n + 2 - 1 = n + 1 by omega, Int.mul_comm]; omega) hfirst g2 (by omega)
 obtain ⟨b, u1, m1, m2, m3, m4, m5, m6, m7⟩ := hmin g (by omega)
 have hmid1 := zdd u1 i (n + 3) (by omega)
 have dm1 := (m4.drop i).take (n + 3)
 have m10 := z0y (B := 1000000000) (by omega) _ dm1
 have m11 := z40 (B := 1000000000) (by omega) _ dm1
 rw [List.length_take, List.length_drop, Nat.min_eq_left (by omega)] at m11
 rw [show i + (n + 3) = i + (v.length + 1) by omega, m6, show i + (v.length + 1) = i + (n + 3) by omega, hHH, hHI, m5, hLL] at hmid1
 rw [show i + (v.length + 1) = i + (n + 3) by omega, Int.pow_add] at m7
 generalize hM1 : valB 1000000000 ((u1.drop i).take (n + 3)) = M1 at *
 have hM1e : M1 = M - g * V + 1000000000 ^ (n + 3) * b := kd7 p0 hmid1 m7 hmid
 rcases m2 with rfl | rfl
 ·-- no borrow: the guess was right
  have hgq : g = q := kd8 hdm r1 hV0 hM1e m10 w2
  subst hgq
  have hM1f : M1 = M - g * V := by rw [hM1e]; omega
  exact ⟨g, false, u1, u1, g, w1, q0, w4, by simpa using m1, by simp, by simp, q0, qB, m3, m4, kd12 hmid1 hM1f hmid, kd13 p0 hmid1 hM1f hdm r1 lo1, hv1, ev1.2⟩
 ·have hgq : g = q + 1 := kd9 hdm r0 hM1e m11 w2 w3
  subst hgq
  obtain ⟨u2, c, s1, s2, s3, s4, s5, s6, s7⟩ := hplu u1 m3 m4
  have hmid2 := zdd u2 i (n + 3) (by omega)
  have dm2 := (s4.drop i).take (n + 3)
  have m20 := z0y (B := 1000000000) (by omega) _ dm2
  have m21 := z40 (B := 1000000000) (by omega) _ dm2
  rw [List.length_take, List.length_drop, Nat.min_eq_left (by omega)] at m21
  rw [show i + (n + 3) = i + (v.length + 1) by omega, s6, m6, show i + (v.length + 1) = i + (n + 3) by omega, hHH, hHI, s5, m5, hLL] at hmid2
  rw [show i + (v.length + 1) = i + (n + 3) by omega, Int.pow_add] at s7
  generalize hM2 : valB 1000000000 ((u2.drop i).take (n + 3)) = M2 at *
  have hM2e : M2 = M - q * V + 1000000000 ^ (n + 3) * (1 - c) := kd10 p0 hmid2 s7 hmid1 hM1e
  have hc : c = 1 := kd11 hdm r0 hM2e m21 s2
  subst hc
  have hM2f : M2 = M - q * V := by rw [hM2e]; omega
  exact ⟨q + 1, true, u1, u2, q, w1, by omega, w4, by simpa using m1, fun _ => ⟨s1, by omega⟩, by simp, q0, qB, by omega, s4, kd12 hmid2 hM2f hmid, kd13 p0 hmid2 hM2f hdm r1 lo1, hv1, ev1.2⟩
end Go.Am.Tryd
/- Plain law: Div and Gcd of the program's numbers. -/
namespace Go.Am.Tryd
open Go Go.Am Go.Proofs
variable {K : Nat}
theorem kf1 {Y p Z V U U2 O q : Int} (h : U + O * V = Z) (h2 : U2 + p * (q * V) = U) : U2 + (O + p * (q - 0)) * V = Z := by grind
theorem zbk {o w v u1 u2 : List Int} {i m : Nat} {g q a1 a2 v1 : Int} {b : Bool} (hn : 2 <= v.length) (hk : i + v.length + 1 <= w.length) (hl : w.length <= 8000000) (ho : i < o.length) (h1 : w.getD (i + v.length) 0 = a1) (h2 : w.getD (i + v.length - 1) 0 = a2) (h3 : v.getD (v.length - 1) 0 = v1)
  (b1 : 0 <= a1 /\ a1 < 1000000000) (b2 : 0 <= a2 /\ a2 < 1000000000) (b3 : 1 <= v1 /\ v1 < 1000000000) (hg : 0 <= g /\ g < 1000000000) (hq : 0 <= q /\ q < 1000000000) (d1 : z19 K v w i K ((a1 * 1000000000 + a2) / v1) ((a1 * 1000000000 + a2) % v1) = some g) (d4 : z23 K w v i g = some (b, u1)) (d5 : b = true -> z2f K u1 v i = some u2 /\ q = g - 1) (d6 : b = false -> u2 = u1 /\ q = g) :
  z12 K v (m + 1) o w i = z12 K v m (o.set i q) u2 ((i : Int) - 1) := by
 have t1 : ((i : Int) + (v.length : Int)).toNat = i + v.length := by omega
 have t2 : ((i : Int) + (v.length : Int) - 1).toNat = i + v.length - 1 := by omega
 have t3 : ((v.length : Int) - 1).toNat = v.length - 1 := by omega
 have hq1 : 0 <= (a1 * 1000000000 + a2) / v1 := Int.ediv_nonneg (by omega) (by omega)
 have hq2 : (a1 * 1000000000 + a2) / v1 <= a1 * 1000000000 + a2 := Int.ediv_le_self _ (by omega)
 rw [z12]
 cases b with
 | true =>
  obtain ⟨p1, p2⟩ := d5 rfl
  subst p2
  clear d5 d6
  simp (discharger := omega) only [runL, t1, t2, t3, h1, h2, h3, d1, d4, p1]
 | false =>
  obtain ⟨p1, p2⟩ := d6 rfl
  subst p1 p2
  clear d5 d6
  simp (discharger := omega) only [runL, t1, t2, t3, h1, h2, h3, d1, d4, Bool.false_eq_true]
theorem zgj {u v : List Int} {J : Nat} (hn : 2 <= v.length) (hJ : J + v.length = u.length) (hJ1 : 1 <= J) (hl : u.length <= 8000000) (hK : 2000000000 < K) (du : DigB 1000000000 u) (cv : CanB 1000000000 v) (hu : valB 1000000000 u < 1000000000 ^ J * valB 1000000000 v) :
  ∃ r : List Int × List Int, z12 K v K (List.replicate J 0) u ((J : Int) - 1) = some r /\ r.1.length = J /\ r.2.length = u.length /\ DigB 1000000000 r.1 /\ DigB 1000000000 r.2 /\ valB 1000000000 r.2 + valB 1000000000 r.1 * valB 1000000000 v = valB 1000000000 u /\ valB 1000000000 r.2 < valB 1000000000 v := by
 refine za8 (fun m (s : List Int × List Int × Int) => z12 K v m s.1 s.2.1 s.2.2) (fun s => ∃ j : Nat, s.2.2 = (j : Int) - 1 /\ j <= J /\ s.1.length = J /\ s.2.1.length = u.length /\ DigB 1000000000 s.1 /\ DigB 1000000000 s.2.1 /\ (∀ i < j, s.1.getD i 0 = 0) /\ valB 1000000000 s.2.1 + valB 1000000000 s.1 * valB 1000000000 v = valB 1000000000 u /\ valB 1000000000 s.2.1 < 1000000000 ^ j * valB 1000000000 v) (fun s => (s.2.2 + 1).toNat) _ ?_ ((List.replicate J 0, u, (J : Int) - 1) : List Int × List Int × Int) (by dsimp only; omega) ⟨J, rfl, Nat.le_refl _, by simp, rfl, .zeros (by omega) _, du, fun i hi => by simp [zAb, hi], by simp [z9o], hu⟩
 rintro m ⟨o, w, _⟩ ⟨j, rfl, hj, h1, h2, h3, h4, h5, h6, h7⟩
 dsimp only at h1 h2 h3 h4 h5 h6 h7 ⊢
 by_cases h0 : j = 0
 ·subst h0
  left
  rw [Int.pow_zero, Int.one_mul] at h7
  exact ⟨(o, w), by rw [z12]; simp (discharger := omega) only [runL], h1, h2, h3, h4, h6, h7⟩
 ·right
  obtain ⟨i, rfl⟩ : ∃ i, j = i + 1 := ⟨j - 1, by omega⟩
  have e1 : ((i + 1 : Nat) : Int) - 1 = i := by omega
  rw [e1]
  obtain ⟨g, b, u1, u2, q, d1, d2, d3, d4, d5, d6, d7, d8, d9, d10, d11, d12, d13, d14⟩ := zdf (K := K) (u := w) (v := v) (i := i) hn (by omega) (by omega) hK h4 cv h7
  have hz := h5 i (by omega)
  have hset := z67 1000000000 o i q (by omega)
  rw [hz] at hset
  have et1 := z25 (by omega) h4 (i + v.length)
  have et2 := z25 (by omega) h4 (i + v.length - 1)
  have hrun := zbk (m := m) (o := o) (a1 := w.getD (i + v.length) 0) (a2 := w.getD (i + v.length - 1) 0) (v1 := v.getD (v.length - 1) 0) hn (show i + v.length + 1 <= w.length by omega) (by omega) (by omega) rfl rfl rfl et1 et2 ⟨d13, d14⟩ ⟨d2, d3⟩ ⟨d7, d8⟩ d1 d4 d5 d6
  refine ⟨(o.set i q, u2, (i : Int) - 1), hrun, by dsimp only; omega, i, rfl, by omega, by simp [h1], by dsimp only; omega, h3.set _ ⟨d7, d8⟩, d10, fun k hk => by dsimp only; rw [z7e (by omega), if_neg (by omega)]; exact h5 k (by omega), ?_, d12⟩
  dsimp only
  rw [hset]
  exact kf1 (Y := 0) h6 d11
theorem z68 {m n : Int} {x y : List Int} (hx : NumN m x) (hy : NumN n y) (h : m <= n) : x.length <= y.length := zd6 (B := 1000000000) (by omega) hx.1 hy.1.1 (by rw [hx.2, hy.2]; exact h)
theorem kf2 {a b c : Int} (hc : 0 < c) (hb : 0 < b) : (a * c) / (b * c) = a / b /\ (a * c) % (b * c) = (a % b) * c := by
 refine ⟨Int.mul_ediv_mul_of_pos_left a b hc, ?_⟩
 rw [Int.mul_comm a c, Int.mul_comm b c, Int.mul_emod_mul_of_pos a b hc, Int.mul_comm]
theorem zfh {x y : List Int} {a b : Int} (hx : x.length <= 3000000) (hy : y.length <= 3000000) (hK : 2000000000 < K) (nx : NumN a x) (ny : NumN b y) (hb : 0 < b) :
  ∃ q r, z3p K x y = some (q, r) /\ NumN (a / b) q /\ NumN (a % b) r /\ q.length <= x.length /\ r.length <= y.length := by
 have a0 := nx.nonneg
 suffices h : ∃ q r, z3p K x y = some (q, r) /\ NumN (a / b) q /\ NumN (a % b) r by
  obtain ⟨q, r, h1, h2, h3⟩ := h
  have e1 := Int.emod_lt_of_pos a hb
  exact ⟨q, r, h1, h2, h3, z68 h2 nx (Int.ediv_le_self _ a0), z68 h3 ny (by omega)⟩
 have hcmp := zfd (K := K) (by omega) (by omega) hK nx ny
 unfold z3p
 rw [hcmp, z0z]
 by_cases hab : a < b
 ·refine ⟨[], x, ?_, by rw [Int.ediv_eq_zero_of_lt a0 hab]; exact .nil, by rw [Int.emod_eq_of_lt a0 hab]; exact nx⟩
  simp (discharger := omega) only [runL]
 ·have hcond : decide ((if a < b then (-1 : Int) else if a = b then 0 else 1) < 0) = false := by
   rw [if_neg hab]; split <;> rfl
  rw [hcond]
  simp only [Bool.false_eq_true, if_false]
  have hy0 : y.length ≠ 0 := fun e => by have := ny.len0.1 e; omega
  by_cases h1 : y.length = 1
  ·obtain ⟨d, rfl⟩ := List.length_eq_one_iff.1 h1
   have hd := ny.1.1 d (by simp)
   have hbd : b = d := by rw [<- ny.2]; simp [valB]
   subst hbd
   obtain ⟨q, r, s1, s2, s3, s4, s5⟩ := zav (K := K) (x := x) (a := a) (d := b) (by omega) hK nx (by omega)
   refine ⟨q, r, ?_, s2, s3⟩
   have e0 : idx [b] 0 = some b := rfl
   rw [if_pos (by simp), e0, z0z, s1, z0z]
  ·rw [if_neg (by simp; omega)]
   obtain ⟨yr, d, hyd⟩ := z7f y (by rintro rfl; exact hy0 rfl)
   have hd := ny.1.1 d (by rw [hyd]; simp)
   have hidx : idx y (z03 .i64 ((y.length : Int) - 1)) = some d := by
    rw [k64 (by omega) (by omega), idxI (by omega) (by omega)]
    congr 1
    subst hyd
    rw [show ((((yr ++ [d]).length : Nat) : Int) - 1).toNat = yr.length by simp, zAb]
    simp
   have hby1 : 1 <= 1000000000 / (d + 1) := by
    rw [Int.le_ediv_iff_mul_le (by omega)]; omega
   have hby2 : 1000000000 / (d + 1) <= 1000000000 := Int.ediv_le_self _ (by omega)
   have hd1 : d ≠ 0 := fun e => ny.1.2 (by rw [hyd, e]; simp)
   have hby3 : 1000000000 / (d + 1) < 1000000000 := Int.ediv_lt_of_lt_mul (by omega) (by omega)
   rw [hidx, z0z, u64w (a := d) (by omega) (by omega), ku64 (a := d + 1) (by omega) (by omega), if_pos (by omega), zio (by omega), ku64 (by omega) (by omega), lta]
   rw [u32w (by omega) (by omega)]
   generalize 1000000000 / (d + 1) = c at hby1 hby2 hby3
   have nc : NumN c [c] := .one (by omega) hby3
   obtain ⟨u0, m1, m2, m3⟩ := zff (K := K) (x := x) (y := [c]) (by simp; omega) hK nx nc
   obtain ⟨v, w1, w2, w3⟩ := zff (K := K) (x := y) (y := [c]) (by simp; omega) hK ny nc
   simp only [List.length_singleton] at m3 w3
   have ac : a <= a * c := by have := z2a a0 hby1; omega
   have bc : b <= b * c := by have := z2a (show 0 <= b by omega) hby1; omega
   have abc : b * c <= a * c := Int.mul_le_mul_of_nonneg_right (by omega) (by omega)
   have lx := z68 nx m2 ac
   have ly := z68 ny w2 bc
   have hy2 : 2 <= y.length := by omega
   have hv2 : 2 <= v.length := by omega
   have lv := z68 w2 m2 abc
   have hl0 : z28 K x K (u0 ++ [0]) = some (u0 ++ [0]) := by
    obtain ⟨k, rfl⟩ : ∃ k, K = k + 1 := ⟨K - 1, by omega⟩
    rw [z28]
    have e : decide (((u0 ++ [0]).length : Int) <= (x.length : Int)) = false := decide_eq_false (by simp; omega)
    rw [e]; rfl
   have du : DigB 1000000000 (u0 ++ [0]) := m2.1.1.snoc (by omega)
   have hvu : valB 1000000000 (u0 ++ [0]) = a * c := by rw [z93, m2.2]; omega
   have hlen : (u0 ++ [(0 : Int)]).length = u0.length + 1 := by simp
   obtain ⟨J, hJ⟩ : ∃ J, J + v.length = u0.length + 1 := ⟨u0.length + 1 - v.length, by omega⟩
   have hbound : a * c < 1000000000 ^ J * (b * c) := by
    have b1 := z40 (B := 1000000000) (by omega) u0 m2.1.1
    have b2 := zgc (B := 1000000000) (by omega) w2.1 (by intro e; rw [e] at hv2; simp at hv2)
    rw [m2.2] at b1
    rw [w2.2] at b2
    have pJ : (0 : Int) < 1000000000 ^ J := Int.pow_pos (by omega)
    have b3 := z2a (Int.le_of_lt pJ) b2
    rw [<- Int.pow_add, show J + (v.length - 1) = u0.length by omega] at b3
    omega
   obtain ⟨⟨o, w⟩, l1, l2, l3, l4, l5, l6, l7⟩ := zgj (K := K) (u := u0 ++ [0]) (v := v) (J := J) (by omega) (by omega) (by omega) (by omega) hK du w2.1 (by rw [hvu, w2.2]; exact hbound)
   dsimp only at l2 l3 l4 l5 l6 l7
   rw [hvu, w2.2] at l6
   rw [w2.2] at l7
   have o0 := z0y (B := 1000000000) (by omega) o l4
   have w0 := z0y (B := 1000000000) (by omega) w l5
   have hbc0 : 0 < b * c := Int.mul_pos hb (by omega)
   obtain ⟨q1, q2⟩ := z7h (n := a * c) (d := b * c) (q := valB 1000000000 o) (r := valB 1000000000 w) hbc0 (by rw [Int.mul_comm (b * c)]; omega) w0 l7
   obtain ⟨k1, k2⟩ := kf2 (a := a) (b := b) (c := c) (by omega) hb
   rw [k1] at q1
   rw [k2] at q2
   obtain ⟨t, t1, t2, t3, t4⟩ := z86 (K := K) (B := 1000000000) (l := w) (by omega) hK l5
   obtain ⟨z, z1, z2, z3, z4⟩ := z86 (K := K) (B := 1000000000) (l := o) (by omega) hK l4
   obtain ⟨rq, rr, s1, s2, s3, s4, s5⟩ := zav (K := K) (x := t) (a := a % b * c) (d := c) (by omega) hK ⟨t2, by rw [t3]; exact q2⟩ (by omega)
   rw [Int.mul_ediv_cancel _ (by omega)] at s2
   refine ⟨z, rq, ?_, ⟨z2, by rw [z3]; exact q1⟩, s2⟩
   rw [m1, z0z, if_pos (by simp; omega), w1, z0z, hl0, z0z, tu1a, lta, hlen]
   have e1 : (((u0.length + 1 : Nat) : Int) - (v.length : Int)) = (J : Int) := by omega
   rw [e1, k64 (by omega) (by omega), if_pos (by omega), lta, k64 (by omega) (by omega), Int.toNat_natCast, l1, z0z, tu2a, t1, z0z, s1, z0z, z1, z0z]
theorem zdg (a b : Nat) (hb : 0 < b) : Nat.gcd b (a % b) = Nat.gcd a b := by
 rw [Nat.gcd_comm a b, Nat.gcd_rec b a, Nat.gcd_comm]
theorem zb3 : ∀ (n k : Nat) {x y : List Int} {a b : Nat}, a * b < 2 ^ n -> b <= a -> n + 2 < k -> x.length <= 3000000 -> y.length <= 3000000 -> 2000000000 < K -> NumN a x -> NumN b y -> ∃ z, z0j K k x y = some z /\ NumN (Nat.gcd a b : Nat) z := by
 intro n
 induction n with
 | zero =>
  intro k x y a b hab hba hk hx hy hK nx ny
  have hb : b = 0 := by
   rcases Nat.eq_zero_or_pos b with h | h
   ·exact h
   ·have := Nat.mul_pos (show 0 < a by omega) h; omega
  subst hb
  obtain ⟨k, rfl⟩ : ∃ m, k = m + 1 := ⟨k - 1, by omega⟩
  have : y = [] := ny.nil_iff.2 rfl
  subst this
  exact ⟨x, by rw [z0j]; rfl, by rw [Nat.gcd_zero_right]; exact nx⟩
 | succ n ih =>
  intro k x y a b hab hba hk hx hy hK nx ny
  obtain ⟨k, rfl⟩ : ∃ m, k = m + 1 := ⟨k - 1, by omega⟩
  by_cases hb : b = 0
  ·subst hb
   have : y = [] := ny.nil_iff.2 rfl
   subst this
   exact ⟨x, by rw [z0j]; rfl, by rw [Nat.gcd_zero_right]; exact nx⟩
  ·obtain ⟨q, r, d1, d2, d3, d4, d5⟩ := zfh (K := K) hx hy hK nx ny (by omega)
   have e : ((a : Int) % (b : Int)) = ((a % b : Nat) : Int) := by simp
   rw [e] at d3
   have hr := Nat.mod_lt a (show 0 < b by omega)
   have hprod : b * (a % b) < 2 ^ n := by
    have h1 : b + a % b <= a := by
     have h2 := Nat.div_add_mod a b
     have h3 : 1 <= a / b := (Nat.le_div_iff_mul_le (by omega)).2 (by omega)
     have h4 := Nat.mul_le_mul_left b h3
     omega
    have h5 := Nat.mul_le_mul_left b (show 2 * (a % b) <= a by omega)
    rw [Nat.pow_succ] at hab
    have h6 : b * (2 * (a % b)) = 2 * (b * (a % b)) := by grind
    rw [Nat.mul_comm a b] at hab
    omega
   obtain ⟨z, z1, z2⟩ := ih k hprod (by omega) (by omega) hy (by omega) hK ny d3
   refine ⟨z, ?_, by rw [<- zdg a b (by omega)]; exact z2⟩
   have hy0 : y.length ≠ 0 := fun e => by have := ny.len0.1 e; omega
   rw [z0j, if_pos (decide_eq_true (by omega)), d1, z0z, z1]
theorem z9p {n : Nat} {x : List Int} (h : NumN n x) : n < 2 ^ (30 * x.length) := by
 have h1 := z40 (B := 1000000000) (by omega) x h.1.1
 rw [h.2] at h1
 have h2 : ((1000000000 : Nat) : Int) ^ x.length = ((1000000000 ^ x.length : Nat) : Int) := by simp
 have h3 : n < 1000000000 ^ x.length := by
  have h4 : (1000000000 : Int) = ((1000000000 : Nat) : Int) := rfl
  rw [h4, h2] at h1
  omega
 have h5 : (1000000000 : Nat) ^ x.length <= (2 ^ 30) ^ x.length := Nat.pow_le_pow_left (by decide) _
 rw [<- Nat.pow_mul] at h5
 omega
theorem zhk {x y : List Int} {a b : Nat} (hx : x.length <= 3000000) (hy : y.length <= 3000000) (hK : 2000000000 < K) (nx : NumN a x) (ny : NumN b y) : ∃ z, z4a K x y = some z /\ NumN (Nat.gcd a b : Nat) z := by
 have hp : a * b < 2 ^ (30 * x.length + 30 * y.length) := by
  rw [Nat.pow_add]
  have h1 := z9p nx
  have h2 := z9p ny
  exact Nat.mul_lt_mul_of_lt_of_le h1 (Nat.le_of_lt h2) (Nat.pow_pos (by omega))
 have key : ∃ z, z0j K K x y = some z /\ NumN (Nat.gcd a b : Nat) z := by
  by_cases hba : b <= a
  ·exact zb3 _ K hp hba (by omega) hx hy hK nx ny
  ·obtain ⟨k, hk⟩ : ∃ k, K = k + 1 := ⟨K - 1, by omega⟩
   obtain ⟨q, r, d1, d2, d3, d4, d5⟩ := zfh (K := K) hx hy hK nx ny (by omega)
   rw [Int.emod_eq_of_lt (by omega) (by omega)] at d3
   have hrx : r = x := d3.inj nx
   subst hrx
   obtain ⟨z, z1, z2⟩ := zb3 (K := K) _ k (by rw [Nat.mul_comm]; exact hp) (by omega) (by omega) hy hx hK ny nx
   refine ⟨z, ?_, by rw [Nat.gcd_comm]; exact z2⟩
   have hy0 : y.length ≠ 0 := fun e => by have := ny.len0.1 e; omega
   have : z0j K K r y = z0j K (k + 1) r y := by rw [<- hk]
   rw [this, z0j, if_pos (decide_eq_true (by omega)), d1, z0z, z1]
 obtain ⟨z, z1, z2⟩ := key
 exact ⟨z, by unfold z4a; rw [z1]; rfl, z2⟩
end Go.Am.Tryd
/- Plain law: the reference's quotient and divisor of texts. -/
namespace Go.Am.Tryd
open Go Go.Am Go.Proofs
variable {K : Nat}
theorem zdh {c : Int} (h : 48 <= c /\ c <= 57) : z01 (Utf8.encode c) = [c] /\ (Utf8.encode c).size = 1 := by
 obtain ⟨n, rfl⟩ : ∃ n : Nat, c = n := ⟨c.toNat, by omega⟩
 have hn : n = 48 \/ n = 49 \/ n = 50 \/ n = 51 \/ n = 52 \/ n = 53 \/ n = 54 \/ n = 55 \/ n = 56 \/ n = 57 := by omega
 rcases hn with rfl | rfl | rfl | rfl | rfl | rfl | rfl | rfl | rfl | rfl <;> exact ⟨by decide +kernel, by decide +kernel⟩
theorem ks1 {R b d R0 : Int} (h : R + (d - 48) * b = R0) : R - b + (d + 1 - 48) * b = R0 := by grind
theorem zhl {b : zAd} {r0 : zAd} (hb : b.size <= 500000) (hr : r0.size <= 1000000) (hK : 2000000000 < K) (cb : CanT b) (c0 : CanT r0) (hb0 : 0 < numT b) (hlt : numT r0 < 10 * numT b) :
  ∃ r : zAd × Int, z1t K b K r0 48 = some r /\ CanT r.1 /\ (48 <= r.2 /\ r.2 <= 57) /\ numT r.1 + (r.2 - 48) * numT b = numT r0 /\ numT r.1 < numT b := by
 refine za8 (fun k (s : zAd × Int) => z1t K b k s.1 s.2) (fun s => CanT s.1 /\ s.1.size <= 1000000 /\ (48 <= s.2 /\ s.2 <= 57) /\ numT s.1 + (s.2 - 48) * numT b = numT r0) (fun s => (57 - s.2).toNat) _ ?_ ((r0, 48) : zAd × Int) (by dsimp only; omega) ⟨c0, hr, by dsimp only; omega, by dsimp only; omega⟩
 rintro k ⟨r, d⟩ ⟨h1, h2, h3, h4⟩
 dsimp only at h1 h2 h3 h4 ⊢
 have hcmp := zhi (K := K) h1 cb
 have r0' := z34 h1.2.1
 by_cases hge : numT b <= numT r
 ·right
  obtain ⟨t, t1, t2, t3⟩ := zhg (K := K) (a := r) (b := b) h2 (z53 h1 cb hge) (by have := h1.1; omega) (by omega) h1.2.1 cb.2.1 hge
  have hd : d <= 56 := by
   refine Int.not_lt.1 fun hlt2 => ?_
   have : d = 57 := by omega
   subst this
   omega
  refine ⟨(t, d + 1), ?_, by dsimp only; omega, t2, ?_, by dsimp only; omega, by dsimp only; rw [t3]; exact ks1 h4⟩
  ·rw [z1t, hcmp, z0z]
   rw [if_pos (decide_eq_true (by rw [if_neg (by omega)]; split <;> omega)), t1, z0z, ku8 (by omega) (by omega)]
  ·dsimp only
   have := z53 h1 t2 (by rw [t3]; omega)
   omega
 ·left
  refine ⟨(r, d), ?_, h1, h3, h4, by dsimp only; omega⟩
  rw [z1t, hcmp, z0z]
  have e : decide ((if numT r < numT b then (-1 : Int) else if numT r = numT b then 0 else 1) >= 0) = false := by
   rw [if_pos (by omega)]; rfl
  rw [e]; rfl
theorem ks3 {Q b R R2 A c d : Int} (h : Q * b + R = A) (h2 : R2 + d * b = R * 10 + c) : (Q * 10 + d) * b + R2 = A * 10 + c := by grind
theorem zev {a b r0 : zAd} {f : Nat} (ha : a.size <= 500000) (hb : b.size <= 500000) (hK : 2000000000 < K) (da : (z01 a).all digT = true) (cb : CanT b) (hb0 : 0 < numT b) (hf : f <= a.size) (c0 : CanT r0) (hs0 : r0.size <= 500000) (h0 : numT r0 = numB ((z01 a).take f)) (hlt : numT r0 < numT b) :
  ∃ r : zAd × zAd, z1u K a b K ⟨#[48]⟩ r0 f = some r /\ r.1.size <= a.size + 1 /\ 0 < r.1.size /\ (z01 r.1).all digT = true /\ CanT r.2 /\ numT r.1 * numT b + numT r.2 = numT a /\ numT r.2 < numT b := by
 have hn := z00 a
 refine za8 (fun k (s : zAd × zAd × Int) => z1u K a b k s.1 s.2.1 s.2.2) (fun s => ∃ i : Nat, s.2.2 = i /\ i <= a.size /\ 0 < s.1.size /\ s.1.size <= i + 1 /\ (z01 s.1).all digT = true /\ CanT s.2.1 /\ numT s.1 * numT b + numT s.2.1 = numB ((z01 a).take i) /\ numT s.2.1 < numT b /\ s.2.1.size <= 500000) (fun s => (a.size - s.2.2 : Int).toNat) _ ?_ ((⟨#[48]⟩, r0, (f : Int)) : zAd × zAd × Int) (by dsimp only; omega) ⟨f, rfl, hf, by show 0 < 1; omega, by show 1 <= f + 1; omega, rfl, c0, by rw [<- h0]; show numT ⟨#[48]⟩ * numT b + numT r0 = numT r0; rw [z5x]; omega, hlt, hs0⟩
 rintro k ⟨q, r, _⟩ ⟨i, rfl, h1, h2, h3, h4, h5, h6, h7, h8⟩
 dsimp only at h2 h3 h4 h5 h6 h7 h8 ⊢
 by_cases hi : i < a.size
 ·right
  have hc := zay da (i := i) (by omega)
  have hsn := zax (l := z01 a) (i := i) (by omega)
  generalize hcc : (z01 a).getD i 0 = c at hc hsn
  obtain ⟨e, he1, he2, he3⟩ : ∃ e, ssl a i ((i : Int) + 1) = some e /\ z01 e = [c] /\ e.size = 1 := by
   refine ⟨_, sslI (by omega) (by omega) (by omega), ?_, ?_⟩
   ·rw [z1n, Int.toNat_natCast, show ((i : Int) + 1).toNat - i = 1 by omega, List.drop_eq_getElem_cons (by omega), List.take_succ_cons, List.take_zero]
    rw [zAb, zAh (by omega)] at hcc
    simpa using hcc
   ·rw [<- z00, z1n, List.length_take, List.length_drop]; omega
  have hbr : z01 (r ++ e) = z01 r ++ [c] := by rw [z3i, he2]
  have hdr : (z01 (r ++ e)).all digT = true := by rw [hbr, List.all_append, h5.2.1]; simpa using digT_iff.2 hc
  have hsr : (r ++ e).size = r.size + 1 := by rw [<- z00, hbr, List.length_append, z00]; rfl
  obtain ⟨t, t1, t2, t3⟩ := z6t (K := K) (s := r ++ e) (by omega) (by omega) (by omega) hdr
  have hnr : numT (r ++ e) = numT r * 10 + (c - 48) := by rw [zeq, hbr, z6s]; rfl
  have htl : numT t < 10 * numT b := by rw [t3, hnr]; omega
  have hts : t.size <= 1000000 := by
   have := z53 (b := t) (a := t) t2 t2 (Int.le_refl _)
   refine Nat.not_lt.1 fun hlt2 => ?_
   have g1 := zb1 t2 (by omega)
   have g2 := zb0 hdr
   have g3 : (10 : Int) ^ (r ++ e).size <= 10 ^ (t.size - 1) := z7g (by omega) (by omega)
   omega
  obtain ⟨⟨r2, d⟩, s1, s2, s3, s4, s5⟩ := zhl (K := K) (b := b) (r0 := t) hb hts hK cb t2 hb0 htl
  dsimp only at s2 s3 s4 s5
  obtain ⟨n1, n2⟩ := zdh s3
  have hbq : z01 (q ++ Utf8.encode d) = z01 q ++ [d] := by rw [z3i, n1]
  have hsq : (q ++ Utf8.encode d).size = q.size + 1 := by rw [<- z00, hbq, List.length_append, z00]; rfl
  have hr2s : r2.size <= 500000 := by
   have := z53 cb s2 (by omega)
   omega
  refine ⟨(q ++ Utf8.encode d, r2, (i : Int) + 1), ?_, by dsimp only; omega, i + 1, rfl, by omega, by dsimp only; omega, by dsimp only; omega, ?_, s2, ?_, s5, hr2s⟩
  ·rw [z1u, if_pos (decide_eq_true (by omega)), k64 (by omega) (by omega), he1, z0z, if_pos (by omega), t1, z0z, s1, z0z, tu2a, if_pos (by dsimp only; omega)]
  ·dsimp only; rw [hbq, List.all_append, h4]; simpa using digT_iff.2 s3
  ·dsimp only
   rw [hsn, z6s, zeq (q ++ Utf8.encode d), hbq, z6s]
   refine ks3 h6 ?_
   rw [s4, t3, hnr]
 ·left
  have : i = a.size := by omega
  subst this
  rw [List.take_of_length_le (by omega)] at h6
  exact ⟨(q, r), by rw [z1u]; simp (discharger := omega) only [runL], h3, h2, h4, h5, h6, h7⟩
theorem zfi {a b : zAd} (ha : a.size <= 400000) (hb : b.size <= 400000) (hK : 2000000000 < K) (ca : CanT a) (cb : CanT b) (hb0 : 0 < numT b) :
  ∃ q r, z4r K a b = some (q, r) /\ CanT q /\ CanT r /\ numT q = numT a / numT b /\ numT r = numT a % numT b := by
 have hn := z00 a
 have hcb := cb.1
 obtain ⟨f, hf1, hf2, hf3⟩ : ∃ f : Nat, imin (a.size : Int) (z03 .i64 ((b.size : Int) - 1)) = f /\ f <= a.size /\ f <= b.size - 1 := by
  rw [k64 (by omega) (by omega)]
  unfold imin
  by_cases h : (b.size : Int) - 1 < a.size
  ·exact ⟨b.size - 1, by rw [if_pos h]; omega, by omega, by omega⟩
  ·exact ⟨a.size, by rw [if_neg h], by omega, by omega⟩
 have hx : ssl a 0 (f : Int) = some (a.extract 0 f) := by rw [sslI (by omega) (by omega) (by omega)]; rfl
 have hxb : z01 (a.extract 0 f) = (z01 a).take f := by rw [z1n]; simp
 have hxs : (a.extract 0 f).size = f := by rw [<- z00, hxb, List.length_take]; omega
 have hzb : z01 ((⟨#[48]⟩ : zAd) ++ a.extract 0 f) = 48 :: (z01 a).take f := by rw [z3i, hxb]; rfl
 have hzs : ((⟨#[48]⟩ : zAd) ++ a.extract 0 f).size = f + 1 := by rw [<- z00, hzb, List.length_cons, List.length_take]; omega
 have hzd : (z01 ((⟨#[48]⟩ : zAd) ++ a.extract 0 f)).all digT = true := by rw [hzb, List.all_cons, z7i ca.2.1]; rfl
 obtain ⟨t, t1, t2, t3⟩ := z6t (K := K) (s := (⟨#[48]⟩ : zAd) ++ a.extract 0 f) (by omega) (by omega) (by omega) hzd
 have hv : numT t = numB ((z01 a).take f) := by rw [t3, zeq, hzb, zaw]; simp
 have hlt : numT t < numT b := by
  have d1 := z87 (z7i ca.2.1 f)
  rw [List.length_take, Nat.min_eq_left (by omega)] at d1
  rw [hv]
  by_cases h2 : 2 <= b.size
  ·have d2 := zb1 cb h2
   have d3 : (10 : Int) ^ f <= 10 ^ (b.size - 1) := z7g (by omega) hf3
   omega
  ·have : f = 0 := by omega
   subst this
   rw [List.take_zero, z94]; exact hb0
 have hts : t.size <= 500000 := by
  have := z53 cb t2 (by omega)
  omega
 obtain ⟨⟨q, r⟩, s1, s2, s3, s4, s5, s6, s7⟩ := zev (K := K) (a := a) (b := b) (r0 := t) (f := f) (by omega) (by omega) hK ca.2.1 cb hb0 hf2 t2 hts hv hlt
 dsimp only at s2 s3 s4 s5 s6 s7
 obtain ⟨u, u1, u2, u3⟩ := z6t (K := K) (s := q) (by omega) s3 (by omega) s4
 obtain ⟨e1, e2⟩ := z7h (n := numT a) (d := numT b) (q := numT q) (r := numT r) hb0 (by rw [Int.mul_comm]; omega) (z34 s5.2.1) s7
 refine ⟨u, r, ?_, u2, s5, by rw [u3, e1], e2⟩
 unfold z4r
 rw [hf1, hx, z0z, if_pos (by rw [hxs]; show 1 + f <= _; omega), t1, z0z, s1, z0z, tu2a, u1, z0z]
theorem zb4 : ∀ (n k : Nat) {x y : zAd} {a b : Nat}, a * b < 2 ^ n -> b <= a -> n + 2 < k -> x.size <= 400000 -> y.size <= 400000 -> 2000000000 < K -> CanT x -> CanT y -> numT x = a -> numT y = b -> ∃ z, z0t K k x y = some z /\ CanT z /\ numT z = (Nat.gcd a b : Nat) := by
 intro n
 have hend : ∀ (k : Nat) {x y : zAd} {a : Nat}, 0 < k -> CanT x -> CanT y -> numT x = a -> numT y = (0 : Nat) -> ∃ z, z0t K k x y = some z /\ CanT z /\ numT z = (Nat.gcd a 0 : Nat) := by
  intro k x y a hk cx cy nx ny
  obtain ⟨k, rfl⟩ : ∃ m, k = m + 1 := ⟨k - 1, by omega⟩
  have : y = ⟨#[48]⟩ := (zgg cy).1 (by simpa using ny)
  subst this
  have e : sEq (⟨#[48]⟩ : zAd) ⟨#[48]⟩ = true := sEq_iff.2 rfl
  exact ⟨x, by rw [z0t, e]; rfl, cx, by rw [Nat.gcd_zero_right]; exact nx⟩
 induction n with
 | zero =>
  intro k x y a b hab hba hk hx hy hK cx cy nx ny
  have hb : b = 0 := by
   rcases Nat.eq_zero_or_pos b with h | h
   ·exact h
   ·have := Nat.mul_pos (show 0 < a by omega) h; omega
  subst hb
  exact hend k (by omega) cx cy nx ny
 | succ n ih =>
  intro k x y a b hab hba hk hx hy hK cx cy nx ny
  by_cases hb : b = 0
  ·subst hb; exact hend k (by omega) cx cy nx ny
  ·obtain ⟨k, rfl⟩ : ∃ m, k = m + 1 := ⟨k - 1, by omega⟩
   obtain ⟨q, r, d1, d2, d3, d4, d5⟩ := zfi (K := K) hx hy hK cx cy (by omega)
   rw [nx, ny] at d5
   have e : ((a : Int) % (b : Int)) = ((a % b : Nat) : Int) := by simp
   rw [e] at d5
   have hr := Nat.mod_lt a (show 0 < b by omega)
   have hprod : b * (a % b) < 2 ^ n := by
    have h1 : b + a % b <= a := by
     have h2 := Nat.div_add_mod a b
     have h3 : 1 <= a / b := (Nat.le_div_iff_mul_le (by omega)).2 (by omega)
     have h4 := Nat.mul_le_mul_left b h3
     omega
    have h5 := Nat.mul_le_mul_left b (show 2 * (a % b) <= a by omega)
    rw [Nat.pow_succ] at hab
    have h6 : b * (2 * (a % b)) = 2 * (b * (a % b)) := by grind
    rw [Nat.mul_comm a b] at hab
    omega
   have hrs := z53 cy d3 (by rw [ny, d5]; omega)
   obtain ⟨z, z1, z2, z3⟩ := ih k hprod (by omega) (by omega) hy (by omega) hK cy d3 ny d5
   refine ⟨z, ?_, z2, by rw [<- zdg a b (by omega)]; exact z3⟩
   have e0 : sEq y ⟨#[48]⟩ = false := by
    cases e : sEq y ⟨#[48]⟩ with
    | false => rfl
    | true => rw [sEq_iff] at e; subst e; rw [z5x] at ny; omega
   rw [z0t, e0]
   simp only [Bool.not_false, if_true]
   rw [d1, z0z, z1]
theorem z88 {n : Nat} {x : zAd} (h : (z01 x).all digT = true) (hn : numT x = n) : n < 2 ^ (4 * x.size) := by
 have h1 := zb0 h
 rw [hn] at h1
 have h2 : ((10 : Nat) : Int) ^ x.size = ((10 ^ x.size : Nat) : Int) := by simp
 have h3 : n < 10 ^ x.size := by
  have h4 : (10 : Int) = ((10 : Nat) : Int) := rfl
  rw [h4, h2] at h1
  omega
 have h5 : (10 : Nat) ^ x.size <= (2 ^ 4) ^ x.size := Nat.pow_le_pow_left (by decide) _
 rw [<- Nat.pow_mul] at h5
 omega
theorem zhm {x y : zAd} {a b : Nat} (hx : x.size <= 400000) (hy : y.size <= 400000) (hK : 2000000000 < K) (cx : CanT x) (cy : CanT y) (nx : numT x = a) (ny : numT y = b) : ∃ z, z4s K x y = some z /\ CanT z /\ numT z = (Nat.gcd a b : Nat) := by
 have hp : a * b < 2 ^ (4 * x.size + 4 * y.size) := by
  rw [Nat.pow_add]
  exact Nat.mul_lt_mul_of_lt_of_le (z88 cx.2.1 nx) (Nat.le_of_lt (z88 cy.2.1 ny)) (Nat.pow_pos (by omega))
 have key : ∃ z, z0t K K x y = some z /\ CanT z /\ numT z = (Nat.gcd a b : Nat) := by
  by_cases hba : b <= a
  ·exact zb4 _ K hp hba (by omega) hx hy hK cx cy nx ny
  ·obtain ⟨k, hk⟩ : ∃ k, K = k + 1 := ⟨K - 1, by omega⟩
   obtain ⟨q, r, d1, d2, d3, d4, d5⟩ := zfi (K := K) hx hy hK cx cy (by omega)
   rw [Int.emod_eq_of_lt (z34 cx.2.1) (by omega)] at d5
   have hrx : r = x := z66 d3 cx d5
   subst hrx
   obtain ⟨z, z1, z2, z3⟩ := zb4 (K := K) _ k (by rw [Nat.mul_comm]; exact hp) (by omega) (by omega) hy hx hK cy cx ny nx
   refine ⟨z, ?_, z2, by rw [Nat.gcd_comm]; exact z3⟩
   have e0 : sEq y ⟨#[48]⟩ = false := by
    cases e : sEq y ⟨#[48]⟩ with
    | false => rfl
    | true => rw [sEq_iff] at e; subst e; rw [z5x] at ny; omega
   have : z0t K K r y = z0t K (k + 1) r y := by rw [<- hk]
   rw [this, z0t, e0]
   simp only [Bool.not_false, if_true]
   rw [d1, z0z, z1]
 obtain ⟨z, z1, z2⟩ := key
 exact ⟨z, by unfold z4s; rw [z1]; rfl, z2⟩
end Go.Am.Tryd
/- Plain law: a number's error. -/
namespace Go.Am.Tryd
open Go Go.Am Go.Proofs
variable {K : Nat} {s : zAd}
def digB (c : Int) : Bool := decide (48 <= c) && decide (c <= 57)
theorem za9 : ∀ (l : List Int), runS (fun c (_ : Unit) => if digB c then .inr () else .inl (5 : Int)) l () = if l.all digB then .inr () else .inl 5
 | [] => rfl
 | x :: l => by
  simp only [runS, List.all_cons]
  by_cases hp : digB x = true
  ·simp only [hp, if_true, Bool.true_and, Sum.elim_inr]; exact za9 l
  ·simp [hp]
theorem zhn {α : Type} (c : Int) (A B : Option α) : Option.bind (if (decide (c < 48)) = true then some true else some (decide (c > 57))) (tu1 fun x => if x = true then A else B) = if digB c = true then B else A := by
 unfold digB
 by_cases h1 : c < 48 <;> by_cases h2 : c > 57 <;> simp [h1, h2, tu1, show ¬ (48 : Int) <= c ↔ c < 48 by omega] <;> (try split) <;> (try omega) <;> rfl
theorem zbl (hs : s.size <= 1048576) (hK : s.size < K) : z0r K s K 0 = some (if (z01 s).all digB then .inr () else .inl 5) := by
 have hn := z00 s
 have h : z0r K s K 0 = _ := zas (z01 s) (fun k (_ : Unit) i => z0r K s k i) (fun c (_ : Unit) => if digB c then .inr () else .inl (5 : Int)) (fun _ _ => True)
  (fun k _ i x hx _ => by
   have hi := (zAi hx).1
   show z0r K s (k + 1) i = _
   rw [z0r, zeg hi, if_pos rfl, z4i hx]
   simp only [Option.bind_some, zhn, kw1 hi (by omega)]
   cases digB x <;> simp)
  (fun _ _ _ _ _ _ _ => trivial)
  (fun k _ i hi => by
   show z0r K s (k + 1) i = _
   rw [z0r, zar hi]; simp) K () (by omega) trivial
 rw [h, za9]
theorem zdi (hs : s.size <= 1048576) (hK : s.size < K) : z0h K s K 0 = some (if (z01 s).all digB then .inr () else .inl 5) := by
 have hn := z00 s
 have h : z0h K s K 0 = _ := zas (z01 s) (fun k (_ : Unit) i => z0h K s k i) (fun c (_ : Unit) => if digB c then .inr () else .inl (5 : Int)) (fun _ _ => True)
  (fun k _ i x hx _ => by
   have hi := (zAi hx).1
   show z0h K s (k + 1) i = _
   rw [z0h, <- hn, zeg hi, if_pos rfl, z76, z4i hx]
   simp only [Option.bind_some, zhn, kw1 hi (by omega)]
   cases digB x <;> simp)
  (fun _ _ _ _ _ _ _ => trivial)
  (fun k _ i hi => by
   show z0h K s (k + 1) i = _
   rw [z0h, <- hn, zar hi]; simp) K () (by omega) trivial
 rw [h, za9]
def natE (s : zAd) : Int := if s.size = 0 then 5 else if (z01 s).head? = some 48 /\ s.size > 1 then 5 else if !(z01 s).all digB then 5 else if s.size > 2000 then 2 else 0
theorem zho : sEq s ⟨#[]⟩ = (s.size == 0) := by
 cases hq : sEq s ⟨#[]⟩ with
 | true => rw [sEq_iff] at hq; subst hq; rfl
 | false =>
  have : s.size ≠ 0 := fun h => by
   have : s = ⟨#[]⟩ := by
    cases s with
    | mk d => congr 1; exact Array.eq_empty_of_size_eq_zero h
   rw [sEq_iff.2 this] at hq; cases hq
  simp [this]
theorem zdj (h : s.size ≠ 0) : ∃ c, bidx s 0 = some c /\ (z01 s).head? = some c := by
 have hn := z00 s
 cases hb : z01 s with
 | nil => rw [hb] at hn; simp at hn; omega
 | cons c l => exact ⟨c, by rw [z76, hb]; rfl, rfl⟩
theorem z9q (hs : s.size <= 1048576) (hK : s.size < K) : z3m K s = some (natE s) := by
 unfold z3m natE
 rw [zbl hs hK, zho]
 by_cases h0 : s.size = 0
 ·simp [h0, tu1]
 ·obtain ⟨c, h1, h2⟩ := zdj h0
  rw [h1, h2]
  have h0' : (s.size == 0) = false := by simpa using h0
  by_cases hc : c = 48 <;> by_cases h3 : s.size > 1 <;> by_cases h4 : s.size > 2000 <;> cases h5 : (z01 s).all digB <;>
   simp [h0, h0', hc, h3, h4, h5, tu1, tu0, zap, show ((s.size : Int) > 1) ↔ s.size > 1 by omega, show ((s.size : Int) > 2000) ↔ s.size > 2000 by omega] <;> omega
theorem z6u (hs : s.size <= 1048576) (hK : s.size < K) : z30 K s = some (natE s) := by
 unfold z30 natE
 rw [zdi hs hK]
 by_cases h0 : s.size = 0
 ·simp [h0, tu1]
 ·obtain ⟨c, h1, h2⟩ := zdj h0
  rw [h1, h2]
  have h0' : ((s.size : Int) == 0) = false := by rw [beq_eq_false_iff_ne]; omega
  by_cases hc : c = 48 <;> by_cases h3 : s.size > 1 <;> by_cases h4 : s.size > 2000 <;> cases h5 : (z01 s).all digB <;>
   simp [h0, h0', hc, h3, h4, h5, tu1, tu0, zap, show ((s.size : Int) > 1) ↔ s.size > 1 by omega, show ((s.size : Int) > 2000) ↔ s.size > 2000 by omega] <;> omega
theorem zhp : digB = digT := rfl
theorem z89 (s : zAd) : natE s = 0 ↔ CanT s /\ s.size <= 2000 := by
 unfold natE CanT
 rw [zhp]
 by_cases h0 : s.size = 0
 ·simp [h0]
 ·by_cases h1 : (z01 s).head? = some 48 /\ s.size > 1
  ·rw [if_neg h0, if_pos h1]
   constructor
   ·intro h; cases h
   ·rintro ⟨⟨_, _, h⟩, _⟩; have := h h1.1; omega
  ·rw [if_neg h0, if_neg h1]
   cases h2 : (z01 s).all digT with
   | false => simp
   | true =>
    simp only [Bool.not_true, Bool.false_eq_true, if_false]
    by_cases h3 : s.size > 2000
    ·rw [if_pos h3]; constructor
     ·intro h; cases h
     ·rintro ⟨_, h⟩; omega
    ·rw [if_neg h3]
     exact ⟨fun _ => ⟨⟨h0, trivial, fun e => by
      refine Nat.le_antisymm (Nat.not_lt.1 fun h => h1 ⟨e, h⟩) (by omega)⟩, by omega⟩, fun _ => rfl⟩
theorem zgk (s : zAd) : sEq s s = true := sEq_iff.2 rfl
end Go.Am.Tryd
/- Plain law: lists of texts; one. -/
namespace Go.Am.Tryd
open Go Go.Am Go.Proofs
variable {K : Nat}
theorem zip {s t : zAd} (h : s ≠ t) : sEq s t = false := by
 cases e : sEq s t with
 | false => rfl
 | true => exact absurd (sEq_iff.1 e) h
theorem zhq (hK : 2000000000 < K) : z7c K 1 = some [1] := by
 obtain ⟨k, rfl⟩ : ∃ k, K = k + 2 := ⟨K - 2, by omega⟩
 unfold z7c
 have e1 : decide ((1 : Int) > 0) = true := rfl
 have e2 : IntKind.wrap .u32 (Int.tmod 1 1000000000) = 1 := rfl
 have e3 : z03 .i64 (Int.tdiv 1 1000000000) = 0 := rfl
 have e4 : decide ((0 : Int) > 0) = false := rfl
 rw [z3q, e1, if_pos rfl, e2, e3, if_pos (by decide), z3q, e4]
 rfl
end Go.Am.Tryd
