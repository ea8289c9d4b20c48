/- Typed functions with the same answers as the program's, and the walks that show it. -/
import Derived.Test.YtdogeclnbdldaaaGreatDoorG2Z8
import Derived.Test.YtdogeclnbdldaaaGreatDoorG18Z8
set_option maxRecDepth 100000
set_option maxHeartbeats 8000000
set_option linter.unusedVariables false
set_option linter.unusedSimpArgs false
namespace Go.Am.Tryz
open Go Go.Am Go.Proofs
def z1t (K : Nat) (p0 : List (List zAd)) : Option Int := ((z44 K p0).bind fun x1 => (if (x1 != 0) = true then some x1 else ((z45 K p0).bind fun x15 => (if ((p0.length : Int) != x15) = true then some 3 else some 0))))
theorem z9q (K : Nat) {G : GM} {H : AH} {L : List Pc} (v0 : Value) (p0 : List (List zAd)) (hp0 : (rSl (rSl rS)).rep G [v0] p0) (O : Ow G H (L)) (r : Int) (h : z1t K p0 = some r) :
    CR Tryz.prog 107 [v0] G H (L) (fun v G' _ => v = .int .i64 r) := by
 unfold z1t at h
 refine CR.og (n := 14) (fn := Tryz.f107) (by kernel_rfl) rfl rfl fun R kr => (.seq (.region (W.p1 (.int .i64 0) (.nil (.seq (.seq ?_))))))
 refine .region (W.p2 v0 ?_)
 obtain ⟨x1, i2, h3⟩ := z01 h
 refine W.ln (Lo.cP rfl (fn := Tryz.f78) (by kernel_rfl) rfl (mc rfl mn) O (fun L' O' => z9o K v0 p0 hp0 O' _ i2)) ?_
 rintro v10 H11 ⟨G4, O5, s6, sm9, rfl⟩
 refine W.p1 (.int .i64 x1) (.nil (.seq (.region (W.p2 (.int .i64 x1) (W.p3 (.bool (x1 != 0)) (.nil ?_))))))
 refine .cond (b := (x1 != 0)) rfl rfl (fun g12 => ?_) (fun g12 => ?_)
 .have h13 := z05 g12 h3
  refine .seq (.region (W.p2 (.int .i64 x1) (W.p1 (.int .i64 x1) (.nil (.ret ?_)))))
  obtain rfl := zAa h13
  exact z1b kr (v1 := (.int .i64 x1)) (by rfl) rt O5 s6 rfl
 have h14 := z0h g12 h3
 refine .skip (.seq (.seq (.region (W.p2 v0 (W.pv (.int .i64 (p0.length : Int)) (z0k ov (z0d (RT.mono _ s6 hp0)) (z04 el44)) (W.p2 v0 ?_))))))
 obtain ⟨x15, i16, h17⟩ := z01 h14
 refine W.ln (Lo.cP rfl (fn := Tryz.f80) (by kernel_rfl) rfl (mc rfl mn) O5 (fun L' O' => z9p K v0 p0 (RT.mono _ s6 hp0) O' _ i16)) ?_
 rintro v24 H25 ⟨G18, O19, s20, sm23, rfl⟩
 refine W.p3 (.bool ((p0.length : Int) != x15)) (.nil (.cond (b := ((p0.length : Int) != x15)) rfl rfl (fun g26 => ?_) (fun g26 => ?_)))
 .have h27 := z05 g26 h17
  refine .seq (.region (W.p1 (.int .i64 3) (.nil (.ret ?_))))
  obtain rfl := zAa h27
  exact z1b kr (v1 := (.int .i64 3)) (by rfl) rt O19 (zAe s6 s20) rfl
 have h28 := z0h g26 h17
 refine .skip (.seq (.region (W.p1 (.int .i64 0) (.nil (.ret ?_)))))
 obtain rfl := zAa h28
 exact z1b kr (v1 := (.int .i64 0)) (by rfl) rt O19 (zAe s6 s20) rfl
theorem zlv {G : GM} (v1 : Value) {x1 : List Int} (v2 : Value) {x2 : List Int} (h1 : (rSl (rI .u32)).rep G v1.cells.toList x1) (h2 : (rSl (rI .u32)).rep G v2.cells.toList x2) : ∃ cs : List Value, (∀ {s : List Value} {d : Tmp} {ty : TypeId} {pos : String} {af : Array Edge} {g : Option (Nat × Bool)} {ps : Array (Nat × Operand)}, ze9 s ps.toList = some [(1, v1), (2, v2)] -> z1l Tryz.prog s ⟨some d, .build 96 ps, ty, pos, af, g⟩ = some (.agg cs.toArray)) /\ T_Q.rep G cs (Q.mk false x1 x2) := by
  have k1 := (zkr G _ _ _ _ (z_Q G) h1).1
  have k2 := (zhj G _ _ _ _ (k1) h2).1
  refine ⟨_, fun {s d ty pos af g ps} hps => zdp pl96 ze96 zo96 hps ?_, k2⟩
  refine (z7b (off := 1) (sz := 1) (cs := _) rfl (RT.len _ h1) (Nat.le_trans (Nat.le_of_ble_eq_true (m := 3) rfl) (Nat.le_of_eq (RT.len _ (z_Q G)).symm))).trans ?_
  refine (z7b (off := 2) (sz := 1) (cs := _) rfl (RT.len _ h2) (Nat.le_trans (Nat.le_of_ble_eq_true (m := 3) rfl) (Nat.le_of_eq (RT.len _ (k1)).symm))).trans ?_
  rfl
def z8r (K : Nat) (p0 : Int) : Option Q := (if (decide (p0 < 0)) = true then ((z42 K (z03 .i64 (-p0))).bind fun x8 => ((z42 K 1).bind fun x21 => some (Q.mk true x8 x21))) else ((z42 K p0).bind fun x54 => ((z42 K 1).bind fun x67 => some (Q.mk false x54 x67))))
theorem zdt (K : Nat) {G : GM} {H : AH} {L : List Pc} (p0 : Int) (O : Ow G H (L)) (r : Q) (h : z8r K p0 = some r) :
    CR Tryz.prog 72 [(.int .i64 p0)] G H (L) (fun v G' _ => ∃ (w0 : List Value), v = .agg w0.toArray /\ T_Q.rep G' w0 r) := by
 unfold z8r at h
 refine CR.og (n := 14) (fn := Tryz.f72) (by kernel_rfl) rfl rfl fun R kr => (.seq (.region (W.ln (Lo.alloc (r := T_Q) (x0 := (Q.mk false [] [])) ze96 (by kernel_rfl) z_Q O) ?_)))
 rintro v4 H5 ⟨b2, rfl, O1, sm3⟩
 refine .nil (.seq (.seq (.region (W.p2 (.int .i64 p0) (W.p3 (.bool (decide (p0 < 0))) (.nil ?_))))))
 refine .cond (b := decide (p0 < 0)) rfl rfl (fun g6 => ?_) (fun g6 => ?_)
 rotate_left
 .have h53 := z0h g6 h
  refine .skip (.seq (.region (W.p2 (.int .i64 p0) ?_)))
  obtain ⟨x54, i55, h56⟩ := z01 h53
  refine W.ln (Lo.callPF (ps := []) (pw := fun w => [eSl w 181 (rI .u32) x54]) rfl (fn := Tryz.f136) (by kernel_rfl) rfl (mc rfl mn) O1 (fun L' O' => z3v K p0 O' _ i55)) ?_
  rintro v65 H66 ⟨w62, G57, O58, s59, sm64, rfl⟩
  obtain ⟨x67, i68, h69⟩ := z01 h56
  refine W.ln (Lo.callPF (ps := []) (pw := fun w => [eSl w 181 (rI .u32) x67]) rfl (fn := Tryz.f136) (by kernel_rfl) rfl (mc rfl mn) O58 (fun L' O' => z3v K 1 O' _ i68)) ?_
  rintro v78 H79 ⟨w75, G70, O71, s72, sm77, rfl⟩
  obtain ⟨G80, O81, s82, f83⟩ := O71.frzSl (j := 1) rfl
  obtain ⟨G84, O85, s86, f87⟩ := O81.frzSl (j := 0) rfl
  obtain ⟨c88, e90, f89⟩ := zlv (w62) (w75) ((z4c (RT.mono _ s86 f83))) ((z4c f87))
  refine W.pv (.agg c88.toArray) (e90 (z5z rfl (qc' rfl (qc' rfl qn')))) (W.ln (Lo.storeVar (j := 0) (s := T_Q) (y0 := (Q.mk false x54 x67)) (v := (.agg c88.toArray)) (o := 0) rfl ((Put.at (Put.self _) _ _)) rfl sz96 rfl (by omega) rfl f89 O85) ?_)
  rintro v93 H94 ⟨O91, sm92⟩
  refine .nil (.ret ?_)
  obtain ⟨c95, p96, f97⟩ := (O91.atVar (j := 0) rfl)
  have O98 := O91.drop 0
  obtain rfl := zAa h69
  exact z1b kr (v1 := (.agg c95.toArray)) (by rfl) (z32 (p := (.pointer (some ⟨b2, 0, none⟩))) (by rfl) ag96 sz96 (by exact rfl) p96 (RT.len _ f97)) O98 (zAe s59 (zAe s72 (zAe s82 s86))) ⟨c95, rfl, f97⟩
 have h7 := z05 g6 h
 refine .seq (.region (W.p2 (.int .i64 p0) (W.pv (.int .i64 (z03 .i64 (-p0))) (zq0 ov) ?_)))
 obtain ⟨x8, i9, h10⟩ := z01 h7
 refine W.ln (Lo.callPF (ps := []) (pw := fun w => [eSl w 181 (rI .u32) x8]) rfl (fn := Tryz.f136) (by kernel_rfl) rfl (mc rfl mn) O1 (fun L' O' => z3v K (z03 .i64 (-p0)) O' _ i9)) ?_
 rintro v19 H20 ⟨w16, G11, O12, s13, sm18, rfl⟩
 obtain ⟨x21, i22, h23⟩ := z01 h10
 refine W.ln (Lo.callPF (ps := []) (pw := fun w => [eSl w 181 (rI .u32) x21]) rfl (fn := Tryz.f136) (by kernel_rfl) rfl (mc rfl mn) O12 (fun L' O' => z3v K 1 O' _ i22)) ?_
 rintro v32 H33 ⟨w29, G24, O25, s26, sm31, rfl⟩
 obtain ⟨G34, O35, s36, f37⟩ := O25.frzSl (j := 1) rfl
 obtain ⟨G38, O39, s40, f41⟩ := O35.frzSl (j := 0) rfl
 obtain ⟨c42, e44, f43⟩ := z8m ((.bool true)) (w16) (w29) (rfl) ((z4c (RT.mono _ s40 f37))) ((z4c f41))
 refine W.pv (.agg c42.toArray) (e44 (z5z rfl (qc' rfl (qc' rfl (qc' rfl qn'))))) (W.ln (Lo.storeVar (j := 0) (s := T_Q) (y0 := (Q.mk true x8 x21)) (v := (.agg c42.toArray)) (o := 0) rfl ((Put.at (Put.self _) _ _)) rfl sz96 rfl (by omega) rfl f43 O39) ?_)
 rintro v47 H48 ⟨O45, sm46⟩
 refine .nil (.ret ?_)
 obtain ⟨c49, p50, f51⟩ := (O45.atVar (j := 0) rfl)
 have O52 := O45.drop 0
 obtain rfl := zAa h23
 exact z1b kr (v1 := (.agg c49.toArray)) (by rfl) (z32 (p := (.pointer (some ⟨b2, 0, none⟩))) (by rfl) ag96 sz96 (by exact rfl) p50 (RT.len _ f51)) O52 (zAe s13 (zAe s26 (zAe s36 s40))) ⟨c49, rfl, f51⟩
def z38 (K : Nat) (x55 : List (List Q)) (x56 : Int) : Nat -> Int -> Option (Int)
  | 0, _ => none
  | k + 1, x72 => (Option.bind ((if (decide (x72 < (x55.length : Int))) = true then ((idx x55 x72).bind fun x87 => ((idx x87 x56).bind fun x96 => ((z3m K x96).bind fun x103 => some (x103 == 0)))) else some false)) (tu1 fun x116 => (if x116 = true then z38 K x55 x56 k (z03 .i64 (x72 + 1)) else some x72)))
def z2r (K : Nat) (x56 : Int) (x268 : Int) (x318 : Q) : Nat -> List (List Q) -> Int -> Option (List (List Q))
  | 0, _, _ => none
  | k + 1, x348, x349 => (if (decide (x349 < (x348.length : Int))) = true then ((idx x348 x268).bind fun x365 => ((idx x348 x268).bind fun x373 => ((idx x373 x349).bind fun x382 => ((idx x348 x56).bind fun x393 => ((idx x393 x349).bind fun x402 => ((z4d K x318 x402).bind fun x410 => ((z6d K x382 x410).bind fun x423 => ((idx x365 x349).bind fun x437 => z2r K x56 x268 x318 k (List.set x348 (x268.toNat) (List.set x365 (x349.toNat) x423)) (z03 .i64 (x349 + 1)))))))))) else some x348)
def z1u (K : Nat) (x56 : Int) : Nat -> List (List Q) -> Int -> Option (List (List Q))
  | 0, _, _ => none
  | k + 1, x267, x268 => (if (decide (x268 < (x267.length : Int))) = true then ((idx x267 x268).bind fun x284 => ((idx x284 x56).bind fun x293 => ((idx x267 x56).bind fun x301 => ((idx x301 x56).bind fun x310 => ((z6a K x293 x310).bind fun x318 => (Option.bind (z2r K x56 x268 x318 K x267 x56) (tu1 fun x447 => z1u K x56 k x447 (z03 .i64 (x268 + 1))))))))) else some x267)
def z0m (K : Nat) (x15 : List (List Q)) : Nat -> Q -> List (List Q) -> Int -> Option ((zAd × Int) ⊕ (Q × List (List Q)))
  | 0, _, _, _ => none
  | k + 1, x54, x55, x56 => (if (decide (x56 < (x15.length : Int))) = true then (Option.bind (z38 K x55 x56 K x56) (tu1 fun x129 => (if (x129 == (x55.length : Int)) = true then some (.inl ((⟨#[48]⟩ : zAd), 0)) else (Option.bind ((if (x129 != x56) = true then ((idx x55 x56).bind fun x155 => ((idx x55 x129).bind fun x163 => ((idx x55 x129).bind fun x171 => ((idx x55 x56).bind fun x181 => ((z5c K x54).bind fun x192 => some (x192, (List.set (List.set x55 (x129.toNat) x155) (x56.toNat) x163))))))) else some (x54, x55))) (tu2 fun x210 x211 => ((idx x211 x56).bind fun x229 => ((idx x229 x56).bind fun x238 => ((z4d K x210 x238).bind fun x245 => (Option.bind (z1u K x56 K x211 (z03 .i64 (x56 + 1))) (tu1 fun x458 => z0m K x15 k x245 x458 (z03 .i64 (x56 + 1)))))))))))) else some (.inr (x54, x55)))
def z4i (K : Nat) (p0 : List (List zAd)) : Option (zAd × Int) := ((z1t K p0).bind fun x1 => (if (x1 != 0) = true then some ((⟨#[]⟩ : zAd), x1) else ((z69 K p0).bind fun x15 => ((z8r K 1).bind fun x28 => (zbs (z0m K x15 K x28 x15 0) (tu2 fun a514 a515 => some (a514, a515)) (tu2 fun x468 x469 => ((z6f K x468).bind fun x482 => (if (x482 != 0) = true then some ((⟨#[]⟩ : zAd), x482) else ((z6g K x468).bind fun x501 => some (x501, 0))))))))))
theorem zc2 (K : Nat) {G : GM} {H : AH} {L : List Pc} (v0 : Value) (p0 : List (List zAd)) (hp0 : (rSl (rSl rS)).rep G [v0] p0) (O : Ow G H (L)) (r : zAd × Int) (h : z4i K p0 = some r) :
    CR Tryz.prog 46 [v0] G H (L) (fun v G' _ => v = .tuple #[.string r.1, .int .i64 r.2]) := by
 unfold z4i at h
 refine CR.og (n := 137) (fn := Tryz.f46) (by kernel_rfl) rfl rfl fun R kr => (.seq (.region (W.p1 (.string (⟨#[]⟩ : zAd)) (W.p1 (.int .i64 0) (.nil (.seq ?_))))))
 refine .seq (.region (W.p2 v0 ?_))
 obtain ⟨x1, i2, h3⟩ := z01 h
 refine W.ln (Lo.cP rfl (fn := Tryz.f107) (by kernel_rfl) rfl (mc rfl mn) O (fun L' O' => z9q K v0 p0 hp0 O' _ i2)) ?_
 rintro v10 H11 ⟨G4, O5, s6, sm9, rfl⟩
 refine W.p1 (.int .i64 x1) (.nil (.seq (.region (W.p2 (.int .i64 x1) (W.p3 (.bool (x1 != 0)) (.nil ?_))))))
 refine .cond (b := (x1 != 0)) rfl rfl (fun g12 => ?_) (fun g12 => ?_)
 .have h13 := z05 g12 h3
  refine .seq (.region (W.p2 (.int .i64 x1) (W.p1 (.string (⟨#[]⟩ : zAd)) (W.p1 (.int .i64 x1) (.nil (.ret ?_))))))
  obtain rfl := zAa h13
  exact zg1 kr (v1 := (.string (⟨#[]⟩ : zAd))) (v2 := (.int .i64 x1)) (by rfl) rt rt O5 s6 rfl
 have h14 := z0h g12 h3
 refine .skip (.seq (.region (W.p2 v0 ?_)))
 obtain ⟨x15, i16, h17⟩ := z01 h14
 refine W.ln (Lo.callPF (ps := []) (pw := fun w => [z3d (hdT w) 111 (tlT w) [] 96 T_Q x15]) rfl (fn := Tryz.f82) (by kernel_rfl) rfl (mc rfl mn) O5 (fun L' O' => zbw K v0 p0 (RT.mono _ s6 hp0) O' _ i16)) ?_
 rintro v26 H27 ⟨w23, G18, O19, s20, sm25, rfl⟩
 refine W.p1 (hdT w23) (.nil (.seq (.region ?_)))
 obtain ⟨x28, i29, h30⟩ := z01 h17
 refine W.ln (Lo.cP rfl (fn := Tryz.f72) (by kernel_rfl) rfl (mc rfl mn) O19 (fun L' O' => zdt K 1 O' _ i29)) ?_
 rintro v39 H40 ⟨G31, O32, s33, sm38, ⟨c35, rfl, f36⟩⟩
 refine W.ln (Lo.alloc (r := T_Q) (x0 := (Q.mk false [] [])) ze96 (by kernel_rfl) z_Q O32) ?_
 rintro v44 H45 ⟨b42, rfl, O41, sm43⟩
 refine W.ln (Lo.storeVar (j := 0) (s := T_Q) (y0 := x28) (v := (.agg c35.toArray)) (o := 0) rfl ((Put.at (Put.self _) _ _)) rfl sz96 rfl (by omega) rfl f36 O41) ?_
 rintro v48 H49 ⟨O46, sm47⟩
 refine .nil (.seq (.seq (.region (W.p2 (hdT w23) (W.pv (.int .i64 (x15.length : Int)) (z0k ov (O46.rowsLen (j := 1) rfl) (z04 zcg)) (W.p2 (.int .i64 0) ?_))))))
 refine .nil ?_
 obtain ⟨q50, h51, h52⟩ := z3j h30
 refine AW.midT (fun σ' H' => ∃ (y1 : Q) (y2 : List (List Q)) (ws_r19_0 : List Value) (G' : GM), (.inr (y1, y2)) = q50 /\ Ow G' H' (eVar b42 96 T_Q y1 :: z3d (hdT w23) 111 ws_r19_0 [] 96 T_Q y2 :: L) /\ GM.le G31 G') ?_ ?_
 rotate_left
 .rintro σ470 H471 fr472 ⟨x468, x469, ws477, G473, rfl, O474, s475⟩
  have h478 := z4s (z9l h52)
  refine .seq (.seq (.region ?_))
  obtain ⟨c479, p480, f481⟩ := (O474.atVar (j := 0) rfl)
  refine W.loadA (cs := c479) rfl rfl ag96 sz96 (z0z ((fr472 6 rfl).trans rfl) p480) (RT.len _ f481) ?_
  obtain ⟨x482, i483, h484⟩ := z01 h478
  refine W.ln (Lo.cP rfl (fn := Tryz.f89) (by kernel_rfl) rfl (mc rfl mn) O474 (fun L' O' => zcx K c479 x468 f481 O' _ i483)) ?_
  rintro v491 H492 ⟨G485, O486, s487, sm490, rfl⟩
  refine W.p1 (.int .i64 x482) (.nil (.seq (.region (W.p2 (.int .i64 x482) (W.p3 (.bool (x482 != 0)) (.nil ?_))))))
  refine .cond (b := (x482 != 0)) rfl rfl (fun g493 => ?_) (fun g493 => ?_)
  .have h494 := z05 g493 h484
   refine .seq (.region (W.p2 (.int .i64 x482) (W.p1 (.string (⟨#[]⟩ : zAd)) (W.p1 (.int .i64 x482) (.nil (.ret ?_))))))
   have O496 := (O486.drop 0).drop 0
   obtain rfl := zAa h494
   exact zg1 kr (v1 := (.string (⟨#[]⟩ : zAd))) (v2 := (.int .i64 x482)) (by rfl) rt rt O496 (zAe s6 (zAe s20 (zAe s33 (zAe s475 s487)))) rfl
  have h497 := z0h g493 h484
  refine .skip (.seq (.region ?_))
  obtain ⟨c498, p499, f500⟩ := (O486.atVar (j := 0) rfl)
  refine W.loadA (cs := c498) rfl rfl ag96 sz96 (z0z ((fr472 6 rfl).trans rfl) p499) (RT.len _ f500) ?_
  obtain ⟨x501, i502, h503⟩ := z01 h497
  refine W.ln (Lo.cP rfl (fn := Tryz.f90) (by kernel_rfl) rfl (mc rfl mn) O486 (fun L' O' => zc1 K c498 x468 f500 O' _ i502)) ?_
  rintro v510 H511 ⟨G504, O505, s506, sm509, rfl⟩
  refine W.p1 (.string x501) (W.p1 (.int .i64 0) (.nil (.ret ?_)))
  have O513 := (O505.drop 0).drop 0
  obtain rfl := zAa h503
  exact zg1 kr (v1 := (.string x501)) (v2 := (.int .i64 0)) (by rfl) rt rt O513 (zAe s6 (zAe s20 (zAe s33 (zAe s475 (zAe s487 s506))))) rfl
 refine .block (AW.loop (α := Nat) (fun k' σ' H' => ∃ (y1 : Q) (y2 : List (List Q)) (y3 : Int) (ws_r19_0 : List Value) (G' : GM), z0m K x15 k' y1 y2 y3 = some q50 /\ Ow G' H' (eVar b42 96 T_Q y1 :: z3d (hdT w23) 111 ws_r19_0 [] 96 T_Q y2 :: L) /\ GM.le G31 G' /\ σ' 23 = .int .i64 y3) (fun k' => k') K ⟨x28, x15, 0, (tlT w23), _, h51, O46, (zAf _), rfl⟩ ?_)
 rintro k53
 rintro σ57 H58 fr59 ⟨x54, x55, x56, ws64, G60, h63, O61, s62, t65⟩
 rcases k53 with _ | k53
 .exact z07 h63
 rw [z0m] at h63
 refine .seq (.region (W.q3 (.bool (decide (x56 < (x15.length : Int)))) t65 ((fr59 22 rfl).trans rfl) (.nil (.seq (.cond (b := decide (x56 < (x15.length : Int))) rfl rfl (fun g66 => ?_) (fun g66 => ?_))))))
 rotate_left
 .have h467 := z0h g66 h63
  refine .exit ?_
  obtain rfl := zAa h467
  exact ⟨x54, x55, ws64, _, rfl, O61, s62⟩
 have h67 := z05 g66 h63
 refine .skip (.seq (.block (.seq (.region (W.q2 _ t65 (W.p1 (.int .i64 x56) ?_))))))
 refine .nil (.seq (.region (W.p2 (.int .i64 x56) (W.p1 (.int .i64 x56) (.nil (.seq ?_))))))
 obtain ⟨q68, h69, h70⟩ := z01 h67
 refine AW.midT (fun σ' H' => ∃ (y1 : Int) (G' : GM), y1 = q68 /\ Ow G' H' (eVar b42 96 T_Q x54 :: z3d (hdT w23) 111 ws64 [] 96 T_Q x55 :: L) /\ GM.le G60 G' /\ σ' 8 = .int .i64 y1) ?_ ?_
 .refine .block (AW.loop (α := Nat) (fun k' σ' H' => ∃ (y1 : Int) (G' : GM), z38 K x55 x56 k' y1 = some q68 /\ Ow G' H' (eVar b42 96 T_Q x54 :: z3d (hdT w23) 111 ws64 [] 96 T_Q x55 :: L) /\ GM.le G60 G' /\ σ' 8 = .int .i64 y1) (fun k' => k') K ⟨x56, _, h69, O61, (zAf _), rfl⟩ ?_)
  rintro k71
  rintro σ73 H74 fr75 ⟨x72, G76, h79, O77, s78, t80⟩
  rcases k71 with _ | k71
  .exact z07 h79
  rw [z38] at h79
  refine .seq (.seq ?_)
  obtain ⟨q81, h82, h83⟩ := z01 h79
  refine AW.midT (fun σ' H' => ∃ (y1 : Bool) (G' : GM), y1 = q81 /\ Ow G' H' (eVar b42 96 T_Q x54 :: z3d (hdT w23) 111 ws64 [] 96 T_Q x55 :: L) /\ GM.le G76 G' /\ σ' 41 = .bool y1) ?_ ?_
  rotate_left
  .rintro σ117 H118 fr119 ⟨x116, G120, rfl, O121, s122, t124⟩
   have h125 := z09 h83
   refine .cond (b := x116) rfl t124 (fun g126 => ?_) (fun g126 => ?_)
   rotate_left
   .have h128 := z0h g126 h125
    refine .exit ?_
    obtain rfl := zAa h128
    exact ⟨x72, _, rfl, O121, (zAe s78 s122), ((fr119 8 rfl).trans t80)⟩
   have h127 := z05 g126 h125
   refine .skip (.block (.region (W.q2 _ ((fr119 8 rfl).trans t80) (W.p3 (.int .i64 (z03 .i64 (x72 + 1))) (W.p1 (.int .i64 (z03 .i64 (x72 + 1))) (.nil ?_))))))
   exact ⟨k71, zAg _, ⟨z03 .i64 (x72 + 1), _, h127, O121, (zAe s78 s122), rfl⟩⟩
  refine .region (W.q2 _ t80 (W.q2 (hdT w23) ((fr75 5 rfl).trans ((fr59 5 rfl).trans rfl)) (W.pv (.int .i64 (x55.length : Int)) (z0k ov (O77.rowsLen (j := 1) rfl) (z04 zcg)) (W.p3 (.bool (decide (x72 < (x55.length : Int)))) (W.p2 (.bool (decide (x72 < (x55.length : Int)))) (W.splitAt (t := 31) (b := decide (x72 < (x55.length : Int))) rfl (fun g84 gv85 => ?_) (fun g84 gv85 => ?_)))))))
  rotate_left
  .have h115 := z0h g84 h82
   refine W.q6 rfl gv85 (W.q6 rfl gv85 (W.q6 rfl gv85 (W.q6 rfl gv85 (W.q6 rfl gv85 (W.q6 rfl gv85 (W.q6 rfl gv85 ?_))))))
   refine W.q6 rfl gv85 (W.q6 rfl gv85 (W.q5 (.bool false) gv85 rfl (.nil ?_)))
   obtain rfl := zAa h115
   exact ⟨false, _, rfl, O77, (zAf _), rfl⟩
  have h86 := z05 g84 h82
  refine W.q2 (hg := gk rfl rfl gv85 rfl) (hdT w23) ((fr75 5 rfl).trans ((fr59 5 rfl).trans rfl)) (W.q2 (hg := gk rfl rfl gv85 rfl) _ t80 ?_)
  obtain ⟨x87, i88, h89⟩ := z01 h86
  have j90 := z0a i88
  refine W.pure (v := (z1o (hdT w23) (x72.toNat * 1))) (gk rfl rfl gv85 rfl) rfl (z2f zcg zdr ov ov (O77.rowsLen (j := 1) rfl) j90.1 j90.2.1) ?_
  obtain ⟨w91, e92, p93, k94⟩ := O77.rowVal (j := 1) rfl j90.2.2
  refine W.load1 (v := w91) (r := []) (gk rfl rfl gv85 rfl) rfl zjj (z0z rfl p93) (W.q2 (hg := gk rfl rfl gv85 rfl) (.int .i64 x56) ((fr75 7 rfl).trans rfl) ?_)
  have O95 := O77.takeRow (j := 1) rfl e92 j90.2.2 List.not_mem_nil
  obtain ⟨x96, i97, h98⟩ := z01 h89
  have j99 := z0a i97
  refine W.pure (v := (z1o w91 (x56.toNat * 3))) (gk rfl rfl gv85 rfl) rfl (z2f zjk sz96 ov ov (O95.slLen (j := 0) rfl) j99.1 j99.2.1) ?_
  obtain ⟨c100, p101, f102⟩ := (O95.atSl (j := 0) rfl j99.2.2)
  refine W.loadA (cs := c100) (gk rfl rfl gv85 rfl) rfl ag96 sz96 (z0z rfl p101) (RT.len _ f102) ?_
  obtain ⟨x103, i104, h105⟩ := z01 h98
  refine W.lo (gk rfl rfl gv85 rfl) rfl (Lo.cP rfl (fn := Tryz.f108) (by kernel_rfl) rfl (mc rfl mn) O95 (fun L' O' => zar K c100 x96 f102 O' _ i104)) ?_
  rintro v112 H113 ⟨G106, O107, s108, sm111, rfl⟩
  refine W.q3 (hg := gk rfl rfl gv85 rfl) (.bool (x103 == 0)) rfl rfl (W.q4 (.bool (x103 == 0)) gv85 rfl (.nil ?_))
  have O114 := O107.putRow0 (j := 1) rfl e92 j90.2.2
  obtain rfl := zAa h105
  exact ⟨(x103 == 0), _, rfl, O114, s108, rfl⟩
 rintro σ130 H131 fr132 ⟨x129, G133, rfl, O134, s135, t137⟩
 have h138 := z09 h70
 refine .seq (.seq (.region (W.q2 _ t137 (W.q2 (hdT w23) ((fr132 5 rfl).trans ((fr59 5 rfl).trans rfl)) (W.pv (.int .i64 (x55.length : Int)) (z0k ov (O134.rowsLen (j := 1) rfl) (z04 zcg)) (W.p3 (.bool (x129 == (x55.length : Int))) ?_))))))
 refine .nil (.cond (b := (x129 == (x55.length : Int))) rfl rfl (fun g139 => ?_) (fun g139 => ?_))
 .have h140 := z05 g139 h138
  refine .seq (.region (W.p1 (.string (⟨#[48]⟩ : zAd)) (W.p1 (.int .i64 0) (.nil (.ret ?_)))))
  have O142 := (O134.drop 0).drop 0
  obtain rfl := zAa h140
  have h143 := z4s (z7t h52)
  obtain rfl := zAa h143
  exact zg1 kr (v1 := (.string (⟨#[48]⟩ : zAd))) (v2 := (.int .i64 0)) (by rfl) rt rt O142 (zAe s6 (zAe s20 (zAe s33 (zAe s62 s135)))) rfl
 have h144 := z0h g139 h138
 refine .skip (.seq (.seq (.region (W.q2 _ t137 (W.q2 (.int .i64 x56) ((fr132 7 rfl).trans rfl) (W.p3 (.bool (x129 != x56)) ?_))))))
 refine .nil ?_
 obtain ⟨q145, h146, h147⟩ := z01 h144
 refine AW.midT (fun σ' H' => ∃ (y1 : Q) (y2 : List (List Q)) (ws_r19_0 : List Value) (G' : GM), (y1, y2) = q145 /\ Ow G' H' (eVar b42 96 T_Q y1 :: z3d (hdT w23) 111 ws_r19_0 [] 96 T_Q y2 :: L) /\ GM.le G133 G') ?_ ?_
 .refine .cond (b := (x129 != x56)) rfl rfl (fun g148 => ?_) (fun g148 => ?_)
  rotate_left
  .have h209 := z0h g148 h146
   refine .skip ?_
   obtain rfl := zAa h209
   exact ⟨x54, x55, ws64, _, rfl, O134, (zAf _)⟩
  have h149 := z05 g148 h146
  refine .seq (.draw2 (M := [0, 0, 0, 0, 0, 0, 48, 112, 0, 0, 768, 1792, 4083, 8179, 16383, 32767]) mixed (by kernel_rfl) (by kernel_rfl) fun H150 N154 x151 F153 => ?_)
  have O152 := O134.ext x151
  refine D2.q2 (hdT w23) ((fr132 5 rfl).trans ((fr59 5 rfl).trans rfl)) (D2.q2 _ t137 (D2.q2 (hdT w23) ((fr132 5 rfl).trans ((fr59 5 rfl).trans rfl)) (D2.q2 (.int .i64 x56) ((fr132 7 rfl).trans rfl) (D2.q2 (hdT w23) ((fr132 5 rfl).trans ((fr59 5 rfl).trans rfl)) (D2.q2 (.int .i64 x56) ((fr132 7 rfl).trans rfl) ?_)))))
  obtain ⟨x155, i156, h157⟩ := z01 h149
  have j158 := z0a i156
  refine D2.pv (z1o (hdT w23) (x56.toNat * 1)) (z2f zcg zdr ov ov (O152.rowsLen (j := 1) rfl) j158.1 j158.2.1) ?_
  obtain ⟨w159, e160, p161, k162⟩ := O152.rowVal (j := 1) rfl j158.2.2
  refine D2.load1' (v := w159) (r := []) rfl rfl zjj (z0z rfl p161) z06 (D2.q2 (hdT w23) ((fr132 5 rfl).trans ((fr59 5 rfl).trans rfl)) (D2.q2 _ t137 ?_))
  obtain ⟨x163, i164, h165⟩ := z01 h157
  have j166 := z0a i164
  refine D2.pv (z1o (hdT w23) (x129.toNat * 1)) (z2f zcg zdr ov ov (O152.rowsLen (j := 1) rfl) j166.1 j166.2.1) ?_
  obtain ⟨w167, e168, p169, k170⟩ := O152.rowVal (j := 1) rfl j166.2.2
  refine D2.load1' (v := w167) (r := []) rfl rfl zjj (z0z rfl p169) z06 ?_
  obtain ⟨x171, i172, h173⟩ := z01 h165
  have j174 := z0a i172
  refine D2.pv (z1o (hdT w23) (x129.toNat * 1)) (z2f zcg zdr ov ov (O152.rowsLen (j := 1) rfl) j174.1 j174.2.1) ?_
  have e175 := O152.rowCells (j := 1) rfl e160 List.not_mem_nil
  have O176 := O152.takeRow (j := 1) rfl e168 j166.2.2 List.not_mem_nil
  refine D2.lo rfl rfl (Lo.storeRow (j := 2) (i := x129.toNat) rfl (zAi j174.2.2).1 rfl zdr rfl rfl e175.1 e175.2 O176) ?_ z06 ?_ ?_
  .rintro v179 H180 ⟨O177, sm178⟩; exact (faR1 (.inl (by decide)) (faR1 (.inl (by decide)) z06))
  .rintro v179 H180 ⟨O177, sm178⟩; exact z06
  rintro v179 H180 ⟨O177, sm178⟩
  obtain ⟨x181, i182, h183⟩ := z01 h173
  have j184 := z0a i182
  refine D2.pv (z1o (hdT w23) (x56.toNat * 1)) (z2f zcg zdr ov ov (O177.rowsLen (j := 2) rfl) j184.1 j184.2.1) (D2.lo rfl rfl (Lo.swapRow (j := 1) (a := x129.toNat) (b := x56.toNat) (xb := x155) rfl (zlp e168) (zls e160) j158.2.2 (fun e => by have q := e160; rw [<- e, e168] at q; exact (zAa q).symm) rfl zdr rfl rfl O177) ?_ (z0j (by decide) z06) ?_ ?_)
  .rintro v187 H188 ⟨O185, sm186⟩; exact (faR1 (.inl (by decide)) (faR1 (.inl (by decide)) z06))
  .rintro v187 H188 ⟨O185, sm186⟩; exact z06
  rintro v187 H188 ⟨O185, sm186⟩
  refine .nil (.region ?_)
  obtain ⟨c189, p190, f191⟩ := (O185.atVar (j := 0) rfl)
  refine W.loadA (cs := c189) rfl rfl ag96 sz96 (z0z ((fr132 6 rfl).trans ((fr59 6 rfl).trans rfl)) p190) (RT.len _ f191) ?_
  obtain ⟨x192, i193, h194⟩ := z01 h183
  refine W.ln (Lo.cP rfl (fn := Tryz.f109) (by kernel_rfl) rfl (mc rfl mn) O185 (fun L' O' => z8o K c189 x54 f191 O' _ i193)) ?_
  rintro v203 H204 ⟨G195, O196, s197, sm202, ⟨c199, rfl, f200⟩⟩
  refine W.ln (Lo.storeVar (j := 0) (s := T_Q) (y0 := x192) (v := (.agg c199.toArray)) (o := 0) rfl ((Put.at (Put.self _) _ _)) rfl sz96 ((fr132 6 rfl).trans ((fr59 6 rfl).trans rfl)) (by omega) rfl f200 O196) ?_
  rintro v207 H208 ⟨O205, sm206⟩
  refine .nil ?_
  obtain rfl := zAa h194
  exact ⟨x192, (List.set (List.set x55 (x129.toNat) x155) (x56.toNat) x163), (List.set (List.set ws64 (x129.toNat) w159) (x56.toNat) w167), _, rfl, O205, s197⟩
 rintro σ212 H213 fr214 ⟨x210, x211, ws219, G215, rfl, O216, s217⟩
 have h220 := z4s h147
 refine .seq (.draw2 (M := [0, 0, 0, 6, 14, 0, 62, 126, 255, 511]) mixed (by kernel_rfl) (by kernel_rfl) fun H221 N225 x222 F224 => ?_)
 have O223 := O216.ext x222
 obtain ⟨c226, p227, f228⟩ := (O223.atVar (j := 0) rfl)
 refine D2.loadA' (cs := c226) rfl rfl ag96 sz96 (z0z ((fr214 6 rfl).trans ((fr132 6 rfl).trans ((fr59 6 rfl).trans rfl))) p227) (RT.len _ f228) z06 (D2.q2 (hdT w23) ((fr214 5 rfl).trans ((fr132 5 rfl).trans ((fr59 5 rfl).trans rfl))) (D2.q2 (.int .i64 x56) ((fr214 7 rfl).trans ((fr132 7 rfl).trans rfl)) ?_))
 obtain ⟨x229, i230, h231⟩ := z01 h220
 have j232 := z0a i230
 refine D2.pv (z1o (hdT w23) (x56.toNat * 1)) (z2f zcg zdr ov ov (O223.rowsLen (j := 1) rfl) j232.1 j232.2.1) ?_
 obtain ⟨w233, e234, p235, k236⟩ := O223.rowVal (j := 1) rfl j232.2.2
 refine D2.load1' (v := w233) (r := []) rfl rfl zjj (z0z rfl p235) z06 (D2.q2 (.int .i64 x56) ((fr214 7 rfl).trans ((fr132 7 rfl).trans rfl)) ?_)
 have O237 := O223.takeRow (j := 1) rfl e234 j232.2.2 List.not_mem_nil
 obtain ⟨x238, i239, h240⟩ := z01 h231
 have j241 := z0a i239
 refine D2.pv (z1o w233 (x56.toNat * 3)) (z2f zjk sz96 ov ov (O237.slLen (j := 0) rfl) j241.1 j241.2.1) ?_
 obtain ⟨c242, p243, f244⟩ := (O237.atSl (j := 0) rfl j241.2.2)
 refine D2.loadA' (cs := c242) rfl rfl ag96 sz96 (z0z rfl p243) (RT.len _ f244) z06 ?_
 obtain ⟨x245, i246, h247⟩ := z01 h240
 refine D2.lo rfl rfl (Lo.cP rfl (fn := Tryz.f92) (by kernel_rfl) rfl (mc rfl (mc rfl mn)) O237 (fun L' O' => z8n K c226 x210 f228 c242 x238 f244 O' _ i246)) ?_ z06 ?_ ?_
 .rintro v256 H257 ⟨G248, O249, s250, sm255, ⟨c252, rfl, f253⟩⟩; exact (faR1 (.inl (by decide)) (faR1 (.inl (by decide)) (faR1 (.inl (by decide)) z06)))
 .rintro v256 H257 ⟨G248, O249, s250, sm255, ⟨c252, rfl, f253⟩⟩; exact z06
 rintro v256 H257 ⟨G248, O249, s250, sm255, ⟨c252, rfl, f253⟩⟩
 refine D2.lo rfl rfl (Lo.storeVar (j := 1) (s := T_Q) (y0 := x245) (v := (.agg c252.toArray)) (o := 0) rfl ((Put.at (Put.self _) _ _)) rfl sz96 ((fr214 6 rfl).trans ((fr132 6 rfl).trans ((fr59 6 rfl).trans rfl))) (by omega) rfl f253 O249) ?_ (z0j (by decide) z06) ?_ ?_
 .rintro v260 H261 ⟨O258, sm259⟩; exact (faR1 (.inl (by decide)) (faR1 (.inl (by decide)) (faR1 (.inl (by decide)) z06)))
 .rintro v260 H261 ⟨O258, sm259⟩; exact z06
 rintro v260 H261 ⟨O258, sm259⟩
 refine .nil (.seq (.region (W.q2 (.int .i64 x56) ((fr214 7 rfl).trans ((fr132 7 rfl).trans rfl)) (W.p3 (.int .i64 (z03 .i64 (x56 + 1))) (W.p1 (.int .i64 (z03 .i64 (x56 + 1))) (.nil ?_))))))
 have O262 := O258.putRow0 (j := 1) rfl e234 j232.2.2
 obtain ⟨q263, h264, h265⟩ := z01 h247
 refine AW.midT (fun σ' H' => ∃ (y1 : List (List Q)) (G' : GM), y1 = q263 /\ Ow G' H' (eVar b42 96 T_Q x245 :: z3d (hdT w23) 111 ws219 [] 96 T_Q y1 :: L) /\ GM.le G248 G') ?_ ?_
 rotate_left
 .rintro σ459 H460 fr461 ⟨x458, G462, rfl, O463, s464⟩
  have h466 := z09 h265
  refine .region (W.q3 (.int .i64 (z03 .i64 (x56 + 1))) ((fr461 23 rfl).trans ((fr214 23 rfl).trans ((fr132 23 rfl).trans t65))) rfl (W.p2 (.int .i64 (z03 .i64 (x56 + 1))) (.nil ?_)))
  exact ⟨k53, zAg _, ⟨x245, x458, z03 .i64 (x56 + 1), ws219, _, h466, O463, (zAe s62 (zAe s135 (zAe s217 (zAe s250 s464)))), rfl⟩⟩
 refine .block (AW.loop (α := Nat) (fun k' σ' H' => ∃ (y1 : List (List Q)) (y2 : Int) (G' : GM), z1u K x56 k' y1 y2 = some q263 /\ Ow G' H' (eVar b42 96 T_Q x245 :: z3d (hdT w23) 111 ws219 [] 96 T_Q y1 :: L) /\ GM.le G248 G' /\ σ' 9 = .int .i64 y2) (fun k' => k') K ⟨x211, z03 .i64 (x56 + 1), _, h264, O262, (zAf _), rfl⟩ ?_)
 rintro k266
 rintro σ269 H270 fr271 ⟨x267, x268, G272, h275, O273, s274, t276⟩
 rcases k266 with _ | k266
 .exact z07 h275
 rw [z1u] at h275
 refine .seq (.seq (.region (W.q2 _ t276 (W.q2 (hdT w23) ((fr271 5 rfl).trans ((fr214 5 rfl).trans ((fr132 5 rfl).trans ((fr59 5 rfl).trans rfl)))) (W.pv (.int .i64 (x267.length : Int)) (z0k ov (O273.rowsLen (j := 1) rfl) (z04 zcg)) (W.p3 (.bool (decide (x268 < (x267.length : Int)))) ?_))))))
 refine .nil (.cond (b := decide (x268 < (x267.length : Int))) rfl rfl (fun g277 => ?_) (fun g277 => ?_))
 rotate_left
 .have h457 := z0h g277 h275
  refine .exit ?_
  obtain rfl := zAa h457
  exact ⟨x267, _, rfl, O273, s274⟩
 have h278 := z05 g277 h275
 refine .skip (.seq (.block (.seq (.draw2 (M := [0, 0, 3, 7, 0, 31, 63, 0, 0, 384, 896, 0, 3968, 8064, 16383, 0, 65535]) mixed (by kernel_rfl) (by kernel_rfl) fun H279 N283 x280 F282 => ?_))))
 have O281 := O273.ext x280
 refine D2.q2 (hdT w23) ((fr271 5 rfl).trans ((fr214 5 rfl).trans ((fr132 5 rfl).trans ((fr59 5 rfl).trans rfl)))) (D2.q2 _ t276 ?_)
 obtain ⟨x284, i285, h286⟩ := z01 h278
 have j287 := z0a i285
 refine D2.pv (z1o (hdT w23) (x268.toNat * 1)) (z2f zcg zdr ov ov (O281.rowsLen (j := 1) rfl) j287.1 j287.2.1) ?_
 obtain ⟨w288, e289, p290, k291⟩ := O281.rowVal (j := 1) rfl j287.2.2
 refine D2.load1' (v := w288) (r := []) rfl rfl zjj (z0z rfl p290) z06 (D2.q2 (.int .i64 x56) ((fr271 7 rfl).trans ((fr214 7 rfl).trans ((fr132 7 rfl).trans rfl))) ?_)
 have O292 := O281.takeRow (j := 1) rfl e289 j287.2.2 List.not_mem_nil
 obtain ⟨x293, i294, h295⟩ := z01 h286
 have j296 := z0a i294
 refine D2.pv (z1o w288 (x56.toNat * 3)) (z2f zjk sz96 ov ov (O292.slLen (j := 0) rfl) j296.1 j296.2.1) ?_
 obtain ⟨c297, p298, f299⟩ := (O292.atSl (j := 0) rfl j296.2.2)
 refine D2.loadA' (cs := c297) rfl rfl ag96 sz96 (z0z rfl p298) (RT.len _ f299) z06 (D2.q2 (hdT w23) ((fr271 5 rfl).trans ((fr214 5 rfl).trans ((fr132 5 rfl).trans ((fr59 5 rfl).trans rfl)))) (D2.q2 (.int .i64 x56) ((fr271 7 rfl).trans ((fr214 7 rfl).trans ((fr132 7 rfl).trans rfl))) ?_))
 have O300 := O292.putRow0 (j := 1) rfl e289 j287.2.2
 obtain ⟨x301, i302, h303⟩ := z01 h295
 have j304 := z0a i302
 refine D2.pv (z1o (hdT w23) (x56.toNat * 1)) (z2f zcg zdr ov ov (O300.rowsLen (j := 1) rfl) j304.1 j304.2.1) ?_
 obtain ⟨w305, e306, p307, k308⟩ := O300.rowVal (j := 1) rfl j304.2.2
 refine D2.load1' (v := w305) (r := []) rfl rfl zjj (z0z rfl p307) z06 (D2.q2 (.int .i64 x56) ((fr271 7 rfl).trans ((fr214 7 rfl).trans ((fr132 7 rfl).trans rfl))) ?_)
 have O309 := O300.takeRow (j := 1) rfl e306 j304.2.2 List.not_mem_nil
 obtain ⟨x310, i311, h312⟩ := z01 h303
 have j313 := z0a i311
 refine D2.pv (z1o w305 (x56.toNat * 3)) (z2f zjk sz96 ov ov (O309.slLen (j := 0) rfl) j313.1 j313.2.1) ?_
 obtain ⟨c314, p315, f316⟩ := (O309.atSl (j := 0) rfl j313.2.2)
 refine D2.loadA' (cs := c314) rfl rfl ag96 sz96 (z0z rfl p315) (RT.len _ f316) z06 ?_
 have O317 := O309.putRow0 (j := 1) rfl e306 j304.2.2
 obtain ⟨x318, i319, h320⟩ := z01 h312
 refine D2.loN rfl rfl (Lo.cP rfl (fn := Tryz.f71) (by kernel_rfl) rfl (mc rfl (mc rfl mn)) O317 (fun L' O' => zbx K c297 x293 f299 c314 x310 f316 O' _ i319)) ?_ z06 ?_ ?_
 .rintro v329 H330 ⟨G321, O322, s323, sm328, ⟨c325, rfl, f326⟩⟩; exact (faR1 (.inl (by decide)) (faR1 (.inl (by decide)) (faR1 (.inl (by decide)) (faR1 (.inl (by decide)) z06))))
 .rintro v329 H330 ⟨G321, O322, s323, sm328, ⟨c325, rfl, f326⟩⟩; exact z06
 rintro v329 H330 ⟨G321, O322, s323, sm328, ⟨c325, rfl, f326⟩⟩ nx331
 have F332 := Free.nx F282 nx331
 refine D2.alloc (m := 17) rfl rfl (Al.alloc (r := T_Q) (x0 := (Q.mk false [] [])) ze96 (by kernel_rfl) z_Q) (Free.up (by decide) F332) (by decide) O322 ?_
 rintro b335 H336 ⟨O337, sm338, F339⟩
 refine D2.lo rfl rfl (Lo.storeVar (j := 0) (s := T_Q) (y0 := x318) (v := (.agg c325.toArray)) (o := 0) rfl ((Put.at (Put.self _) _ _)) rfl sz96 rfl (by omega) rfl f326 O337) ?_ (z0j (by decide) z06) ?_ ?_
 .rintro v342 H343 ⟨O340, sm341⟩; exact (faR1 (.inl (by decide)) (faR1 (.inl (by decide)) (faR1 (.inl (by decide)) (faR1 (.inl (by decide)) z06))))
 .rintro v342 H343 ⟨O340, sm341⟩; exact (faR1 (.inl (by decide)) z06)
 rintro v342 H343 ⟨O340, sm341⟩
 refine .nil (.seq (.region (W.q2 (.int .i64 x56) ((fr271 7 rfl).trans ((fr214 7 rfl).trans ((fr132 7 rfl).trans rfl))) (W.p1 (.int .i64 x56) (.nil ?_)))))
 obtain ⟨q344, h345, h346⟩ := z01 h320
 refine AW.midT (fun σ' H' => ∃ (y1 : List (List Q)) (G' : GM), y1 = q344 /\ Ow G' H' (eVar b335 96 T_Q x318 :: eVar b42 96 T_Q x245 :: z3d (hdT w23) 111 ws219 [] 96 T_Q y1 :: L) /\ GM.le G321 G') ?_ ?_
 rotate_left
 .rintro σ448 H449 fr450 ⟨x447, G451, rfl, O452, s453⟩
  have h455 := z09 h346
  refine .region (W.q2 _ ((fr450 9 rfl).trans t276) (W.p3 (.int .i64 (z03 .i64 (x268 + 1))) (W.p1 (.int .i64 (z03 .i64 (x268 + 1))) (.nil ?_))))
  have O456 := O452.drop 0
  exact ⟨k266, zAg _, ⟨x447, z03 .i64 (x268 + 1), _, h455, O456, (zAe s274 (zAe s323 s453)), rfl⟩⟩
 refine .block (AW.loop (α := Nat) (fun k' σ' H' => ∃ (y1 : List (List Q)) (y2 : Int) (G' : GM), z2r K x56 x268 x318 k' y1 y2 = some q344 /\ Ow G' H' (eVar b335 96 T_Q x318 :: eVar b42 96 T_Q x245 :: z3d (hdT w23) 111 ws219 [] 96 T_Q y1 :: L) /\ GM.le G321 G' /\ σ' 11 = .int .i64 y2) (fun k' => k') K ⟨x267, x56, _, h345, O340, (zAf _), rfl⟩ ?_)
 rintro k347
 rintro σ350 H351 fr352 ⟨x348, x349, G353, h356, O354, s355, t357⟩
 rcases k347 with _ | k347
 .exact z07 h356
 rw [z2r] at h356
 refine .seq (.seq (.region (W.q2 _ t357 (W.q2 (hdT w23) ((fr352 5 rfl).trans ((fr271 5 rfl).trans ((fr214 5 rfl).trans ((fr132 5 rfl).trans ((fr59 5 rfl).trans rfl))))) (W.pv (.int .i64 (x348.length : Int)) (z0k ov (O354.rowsLen (j := 2) rfl) (z04 zcg)) (W.p3 (.bool (decide (x349 < (x348.length : Int)))) ?_))))))
 refine .nil (.cond (b := decide (x349 < (x348.length : Int))) rfl rfl (fun g358 => ?_) (fun g358 => ?_))
 rotate_left
 .have h446 := z0h g358 h356
  refine .exit ?_
  obtain rfl := zAa h446
  exact ⟨x348, _, rfl, O354, s355⟩
 have h359 := z05 g358 h356
 refine .skip (.seq (.block (.draw2 (M := [0, 0, 3, 7, 0, 0, 0, 96, 224, 0, 992, 2016, 0, 0, 0, 24576, 57344, 0, 253952, 516096, 1044480, 2097120, 4194303, 8388607]) mixed (by kernel_rfl) (by kernel_rfl) fun H360 N364 x361 F363 => ?_)))
 have O362 := O354.ext x361
 refine D2.q2 (hdT w23) ((fr352 5 rfl).trans ((fr271 5 rfl).trans ((fr214 5 rfl).trans ((fr132 5 rfl).trans ((fr59 5 rfl).trans rfl))))) (D2.q2 _ ((fr352 9 rfl).trans t276) ?_)
 obtain ⟨x365, i366, h367⟩ := z01 h359
 have j368 := z0a i366
 refine D2.pv (z1o (hdT w23) (x268.toNat * 1)) (z2f zcg zdr ov ov (O362.rowsLen (j := 2) rfl) j368.1 j368.2.1) ?_
 obtain ⟨w369, e370, p371, k372⟩ := O362.rowVal (j := 2) rfl j368.2.2
 refine D2.load1' (v := w369) (r := []) rfl rfl zjj (z0z rfl p371) z06 (D2.q2 _ t357 (D2.q2 (hdT w23) ((fr352 5 rfl).trans ((fr271 5 rfl).trans ((fr214 5 rfl).trans ((fr132 5 rfl).trans ((fr59 5 rfl).trans rfl))))) (D2.q2 _ ((fr352 9 rfl).trans t276) ?_)))
 obtain ⟨x373, i374, h375⟩ := z01 h367
 have j376 := z0a i374
 refine D2.pv (z1o (hdT w23) (x268.toNat * 1)) (z2f zcg zdr ov ov (O362.rowsLen (j := 2) rfl) j376.1 j376.2.1) ?_
 obtain ⟨w377, e378, p379, k380⟩ := O362.rowVal (j := 2) rfl j376.2.2
 refine D2.load1' (v := w377) (r := []) rfl rfl zjj (z0z rfl p379) z06 (D2.q2 _ t357 ?_)
 have O381 := O362.takeRow (j := 2) rfl e378 j376.2.2 List.not_mem_nil
 obtain ⟨x382, i383, h384⟩ := z01 h375
 have j385 := z0a i383
 refine D2.pv (z1o w377 (x349.toNat * 3)) (z2f zjk sz96 ov ov (O381.slLen (j := 0) rfl) j385.1 j385.2.1) ?_
 obtain ⟨c386, p387, f388⟩ := (O381.atSl (j := 0) rfl j385.2.2)
 refine D2.loadA' (cs := c386) rfl rfl ag96 sz96 (z0z rfl p387) (RT.len _ f388) z06 ?_
 obtain ⟨c389, p390, f391⟩ := (O381.atVar (j := 1) rfl)
 refine D2.loadA' (cs := c389) rfl rfl ag96 sz96 (z0z ((fr352 10 rfl).trans rfl) p390) (RT.len _ f391) z06 (D2.q2 (hdT w23) ((fr352 5 rfl).trans ((fr271 5 rfl).trans ((fr214 5 rfl).trans ((fr132 5 rfl).trans ((fr59 5 rfl).trans rfl))))) (D2.q2 (.int .i64 x56) ((fr352 7 rfl).trans ((fr271 7 rfl).trans ((fr214 7 rfl).trans ((fr132 7 rfl).trans rfl)))) ?_))
 have O392 := O381.putRow0 (j := 2) rfl e378 j376.2.2
 obtain ⟨x393, i394, h395⟩ := z01 h384
 have j396 := z0a i394
 refine D2.pv (z1o (hdT w23) (x56.toNat * 1)) (z2f zcg zdr ov ov (O392.rowsLen (j := 2) rfl) j396.1 j396.2.1) ?_
 obtain ⟨w397, e398, p399, k400⟩ := O392.rowVal (j := 2) rfl j396.2.2
 refine D2.load1' (v := w397) (r := []) rfl rfl zjj (z0z rfl p399) z06 (D2.q2 _ t357 ?_)
 have O401 := O392.takeRow (j := 2) rfl e398 j396.2.2 List.not_mem_nil
 obtain ⟨x402, i403, h404⟩ := z01 h395
 have j405 := z0a i403
 refine D2.pv (z1o w397 (x349.toNat * 3)) (z2f zjk sz96 ov ov (O401.slLen (j := 0) rfl) j405.1 j405.2.1) ?_
 obtain ⟨c406, p407, f408⟩ := (O401.atSl (j := 0) rfl j405.2.2)
 refine D2.loadA' (cs := c406) rfl rfl ag96 sz96 (z0z rfl p407) (RT.len _ f408) z06 ?_
 have O409 := O401.putRow0 (j := 2) rfl e398 j396.2.2
 obtain ⟨x410, i411, h412⟩ := z01 h404
 refine D2.lo rfl rfl (Lo.cP rfl (fn := Tryz.f92) (by kernel_rfl) rfl (mc rfl (mc rfl mn)) O409 (fun L' O' => z8n K c389 x318 f391 c406 x402 f408 O' _ i411)) ?_ z06 ?_ ?_
 .rintro v421 H422 ⟨G413, O414, s415, sm420, ⟨c417, rfl, f418⟩⟩; exact (faR1 (.inl (by decide)) (faR1 (.inl (by decide)) (faR1 (.inl (by decide)) (faR1 (.inr (sm420 _ (Or.inr ⟨2, _, rfl, (O409.footRowEl (j := 2) rfl e378 j376.2.2 j385.2.2)⟩))) (faR1 (.inr (sm420 _ (Or.inr ⟨2, _, rfl, (O409.footRows (j := 2) rfl j376.2.2)⟩))) (faR1 (.inr (sm420 _ (Or.inr ⟨2, _, rfl, (O409.footRows (j := 2) rfl j368.2.2)⟩))) z06))))))
 .rintro v421 H422 ⟨G413, O414, s415, sm420, ⟨c417, rfl, f418⟩⟩; exact z06
 rintro v421 H422 ⟨G413, O414, s415, sm420, ⟨c417, rfl, f418⟩⟩
 obtain ⟨x423, i424, h425⟩ := z01 h412
 refine D2.lo rfl rfl (Lo.cP rfl (fn := Tryz.f69) (by kernel_rfl) rfl (mc rfl (mc rfl mn)) O414 (fun L' O' => zc0 K c386 x382 (RT.mono _ s415 f388) c417 x410 f418 O' _ i424)) ?_ (z0j (by decide) z06) ?_ ?_
 .rintro v434 H435 ⟨G426, O427, s428, sm433, ⟨c430, rfl, f431⟩⟩; exact (faR1 (.inl (by decide)) (faR1 (.inl (by decide)) (faR1 (.inl (by decide)) (faR1 (.inl (by decide)) (faR1 (.inl (by decide)) (faR1 (.inr (sm433 _ (Or.inr ⟨2, _, rfl, (O414.footRows (j := 2) rfl j368.2.2)⟩))) z06))))))
 .rintro v434 H435 ⟨G426, O427, s428, sm433, ⟨c430, rfl, f431⟩⟩; exact z06
 rintro v434 H435 ⟨G426, O427, s428, sm433, ⟨c430, rfl, f431⟩⟩
 have O436 := O427.takeRow (j := 2) rfl e370 j368.2.2 List.not_mem_nil
 obtain ⟨x437, i438, h439⟩ := z01 h425
 have j440 := z0a i438
 refine D2.pv (z1o w369 (x349.toNat * 3)) (z2f zjk sz96 ov ov (O436.slLen (j := 0) rfl) j440.1 j440.2.1) (D2.lo rfl rfl (Lo.storeSl0 (j := 0) (y0 := x423) (v := (.agg c430.toArray)) rfl j440.2.2  rfl sz96 rfl rfl f431 O436) ?_ (z0j (by decide) (z0j (by decide) z06)) ?_ ?_)
 .rintro v443 H444 ⟨O441, sm442⟩; exact (faR1 (.inl (by decide)) (faR1 (.inl (by decide)) (faR1 (.inl (by decide)) (faR1 (.inl (by decide)) (faR1 (.inl (by decide)) (faR1 (.inl (by decide)) z06))))))
 .rintro v443 H444 ⟨O441, sm442⟩; exact z06
 rintro v443 H444 ⟨O441, sm442⟩
 refine .nil (.region (W.q2 _ t357 (W.p3 (.int .i64 (z03 .i64 (x349 + 1))) (W.p1 (.int .i64 (z03 .i64 (x349 + 1))) (.nil ?_)))))
 have O445 := O441.putRow (j := 2) rfl e370
 exact ⟨k347, zAg _, ⟨(List.set x348 (x268.toNat) (List.set x365 (x349.toNat) x423)), z03 .i64 (x349 + 1), _, h439, O445, (zAe s355 (zAe s415 s428)), rfl⟩⟩
def z2s (K : Nat) (p0 : List (List zAd)) (p1 : Int) (p2 : Int) : Nat -> List (List zAd) -> Int -> Option (List (List zAd))
  | 0, _, _ => none
  | k + 1, x6, x7 => (if (decide (x7 < (p0.length : Int))) = true then (Option.bind (((idx p0 x7).bind fun x21 => (if (x7 != p1) = true then ((lsl x21 0 p2).bind fun x41 => (if List.length ([] : List zAd) + x41.length <= 16777216 then ((lsl x21 (z03 .i64 (p2 + 1)) (x21.length : Int)).bind fun x58 => (if List.length (([] : List zAd) ++ x41) + x58.length <= 16777216 then (if x6.length + List.length [((([] : List zAd) ++ x41) ++ x58)] <= 16777216 then some (x6 ++ [((([] : List zAd) ++ x41) ++ x58)]) else none) else none)) else none)) else some x6))) (tu1 fun x96 => z2s K p0 p1 p2 k x96 (z03 .i64 (x7 + 1)))) else some x6)
def z8s (K : Nat) (p0 : List (List zAd)) (p1 : Int) (p2 : Int) : Option (List (List zAd)) := (Option.bind (z2s K p0 p1 p2 K [] 0) (tu1 fun x106 => some x106))
theorem zdu (K : Nat) {G : GM} {H : AH} {L : List Pc} (v0 : Value) (p0 : List (List zAd)) (hp0 : (rSl (rSl rS)).rep G [v0] p0) (p1 : Int) (p2 : Int) (O : Ow G H (L)) (r : List (List zAd)) (h : z8s K p0 p1 p2 = some r) :
    CRF Tryz.prog 110 [v0, (.int .i64 p1), (.int .i64 p2)] G H (fun w0 => (eSl w0 45 (rSl rS) r :: L)) (fun w0 v G' => w0 = v) := by
 unfold z8s at h
 refine CRF.og (n := 35) (fn := Tryz.f110) (by kernel_rfl) rfl rfl fun R kr => (.seq (.region (W.p1 (.slice none 0 0) (.nil (.seq (.region ?_))))))
 refine W.p1 (.slice none 0 0) (.nil (.seq (.seq (.region (W.p2 v0 (W.pv (.int .i64 (p0.length : Int)) (z0k ov (z0d hp0) (z04 el44)) ?_))))))
 refine W.p2 (.int .i64 0) (.nil ?_)
 obtain ⟨q1, h2, h3⟩ := z01 h
 refine AW.midT (fun σ' H' => ∃ (y1 : List (List zAd)) (G' : GM), y1 = q1 /\ Ow G' H' (eSl (σ' 7) 45 (rSl rS) y1 :: L) /\ GM.le G G') ?_ ?_
 rotate_left
 .rintro σ107 H108 fr109 ⟨x106, G110, rfl, O111, s112⟩
  have h114 := z09 h3
  refine .seq (.region (W.p2 (σ107 7) (W.p1 (σ107 7) (.nil (.ret ?_)))))
  obtain rfl := zAa h114
  exact zbu kr (σ107 7) (v1 := (σ107 7)) (by rfl) rt O111 s112 rfl
 refine .block ?_
 have O4 := O.nilSl 45 (rSl rS)
 refine AW.loop (α := Nat) (fun k' σ' H' => ∃ (y1 : List (List zAd)) (y2 : Int) (G' : GM), z2s K p0 p1 p2 k' y1 y2 = some q1 /\ Ow G' H' (eSl (σ' 7) 45 (rSl rS) y1 :: L) /\ GM.le G G' /\ σ' 12 = .int .i64 y2) (fun k' => k') K ⟨[], 0, _, h2, O4, (zAf _), rfl⟩ ?_
 rintro k5
 rintro σ8 H9 fr10 ⟨x6, x7, G11, h14, O12, s13, t15⟩
 rcases k5 with _ | k5
 .exact z07 h14
 rw [z2s] at h14
 refine .seq (.region (W.q3 (.bool (decide (x7 < (p0.length : Int)))) t15 ((fr10 11 rfl).trans rfl) (.nil (.seq (.cond (b := decide (x7 < (p0.length : Int))) rfl rfl (fun g16 => ?_) (fun g16 => ?_))))))
 rotate_left
 .have h105 := z0h g16 h14
  refine .exit ?_
  obtain rfl := zAa h105
  exact ⟨x6, _, rfl, O12, s13⟩
 have h17 := z05 g16 h14
 refine .skip (.seq ?_)
 obtain ⟨q18, h19, h20⟩ := z01 h17
 refine AW.midT (fun σ' H' => ∃ (y1 : List (List zAd)) (G' : GM), y1 = q18 /\ Ow G' H' (eSl (σ' 7) 45 (rSl rS) y1 :: L) /\ GM.le G11 G') ?_ ?_
 rotate_left
 .rintro σ97 H98 fr99 ⟨x96, G100, rfl, O101, s102⟩
  have h104 := z09 h20
  refine .region (W.q3 (.int .i64 (z03 .i64 (x7 + 1))) ((fr99 12 rfl).trans t15) rfl (W.p2 (.int .i64 (z03 .i64 (x7 + 1))) (.nil ?_)))
  exact ⟨k5, zAg _, ⟨x96, z03 .i64 (x7 + 1), _, h104, O101, (zAe s13 s102), rfl⟩⟩
 refine .block (.seq (.region (W.q2 _ t15 ?_)))
 obtain ⟨x21, i22, h23⟩ := z01 h19
 have j24 := z0a i22
 refine W.pv (z1o v0 (x7.toNat * 1)) (z2f el44 sz45 (ou ((fr10 10 rfl).trans rfl)) (ou t15) (z0d (RT.mono _ s13 hp0)) j24.1 j24.2.1) ?_
 obtain ⟨w25, p26, f27⟩ := At.sl (At.le (z2g hp0 j24.2.2) s13 s13)
 replace p26 := PtG.le p26 O12.fro
 refine W.load1 (v := w25) (r := []) rfl rfl ag45 (z0z rfl p26) (W.p1 (.int .i64 x7) (W.p1 w25 (.nil (.seq (.region (W.p2 (.int .i64 x7) ?_))))))
 refine W.q2 (.int .i64 p1) ((fr10 1 rfl).trans rfl) (W.p3 (.bool (x7 != p1)) (.nil (.cond (b := (x7 != p1)) rfl rfl (fun g28 => ?_) (fun g28 => ?_))))
 rotate_left
 .have h95 := z0h g28 h23
  refine .skip ?_
  obtain rfl := zAa h95
  exact ⟨x6, _, rfl, O12, (zAf _)⟩
 have h29 := z05 g28 h23
 refine .draw2 (M := [0, 0, 0, 0, 12, 30, 0, 0, 128, 448, 1022, 2046, 4095, 8191]) mixed (by kernel_rfl) (by kernel_rfl) fun H30 N34 x31 F33 => ?_
 have O32 := O12.ext x31
 refine D2.p2 (σ8 7) (D2.alloc (m := 14) rfl rfl (Al.buildSlice (r := rS) (vs := []) (xs := ([] : List zAd)) el45 ze22 sz22 (by kernel_rfl) rfl qn rfl .nil) (Free.up (by decide) F33) (by decide) O32 ?_)
 rintro b36 H37 ⟨O38, sm39, F40⟩
 refine D2.p2 w25 (D2.q2 (.int .i64 p2) ((fr10 2 rfl).trans rfl) ?_)
 obtain ⟨x41, i42, h43⟩ := z01 h29
 obtain ⟨w44, e45, f46⟩ := zn0 (P := Tryz.prog) (R := rS) f27 el45 sz22 i42
 refine D2.pv w44 (e45 ov ov) ?_
 obtain ⟨es48, e49, e50⟩ := zh3 f46 O38
 obtain ⟨g51, h52⟩ := z2n h43
 refine D2.loN rfl rfl (Lo.append (j := 0) (v := (.slice (some ⟨b36, 0, some 0⟩) 0 0)) rfl rfl el45 ni45 ze22 sz22 by22 (by decide) (by decide) rfl e49 e50 g51 O38) ?_ z06 ?_ ?_
 .rintro v54 H55 ⟨O47, sm53⟩; exact z06
 .rintro v54 H55 ⟨O47, sm53⟩; exact (faR1 (.inl (by decide)) z06)
 rintro v54 H55 ⟨O47, sm53⟩ nx56
 have F57 := Free.nx F40 nx56
 refine D2.p2 w25 (D2.q2 (.int .i64 p2) ((fr10 2 rfl).trans rfl) (D2.p3 (.int .i64 (z03 .i64 (p2 + 1))) ?_))
 obtain ⟨x58, i59, h60⟩ := z01 h52
 obtain ⟨w61, e62, f63⟩ := zmz (P := Tryz.prog) (R := rS) f27 el45 sz22 i59
 refine D2.pv w61 (e62 ov ov) ?_
 obtain ⟨es65, e66, e67⟩ := zh3 f63 O47
 obtain ⟨g68, h69⟩ := z2n h60
 refine D2.loN rfl rfl (Lo.append (j := 0) (v := v54) rfl rfl el45 ni45 ze22 sz22 by22 (by decide) (by decide) rfl e66 e67 g68 O47) ?_ (z0j (by decide) z06) ?_ ?_
 .rintro v71 H72 ⟨O64, sm70⟩; exact z06
 .rintro v71 H72 ⟨O64, sm70⟩; exact (faR1 (.inl (by decide)) z06)
 rintro v71 H72 ⟨O64, sm70⟩ nx73
 have F74 := Free.nx F57 nx73
 obtain ⟨G76, O77, s78, f79⟩ := O64.frzSl (j := 0) rfl
 refine D2.alloc (m := 14) rfl rfl (Al.buildSlice (r := (rSl rS)) (vs := [v71]) (xs := [((([] : List zAd) ++ x41) ++ x58)]) el44 ze45 sz45 (by kernel_rfl) rfl (qc rfl qn) rfl (.cons (z4c f79) .nil)) (Free.up (by decide) F74) (by decide) O77 ?_
 rintro b80 H81 ⟨O82, sm83, F84⟩
 obtain ⟨es86, e87, e88⟩ := z68 (j := 0) rfl O82
 obtain ⟨g89, h90⟩ := z2n h69
 refine D2.lo rfl rfl (Lo.append (j := 1) (v := (σ8 7)) rfl rfl el44 ni44 ze45 sz45 by45 (by decide) (by decide) rfl e87 e88 g89 O82) ?_ (z0j (by decide) (z0j (by decide) z06)) ?_ ?_
 .rintro v92 H93 ⟨O85, sm91⟩; exact z06
 .rintro v92 H93 ⟨O85, sm91⟩; exact (faR1 (.inl (by decide)) (faR1 (.inl (by decide)) z06))
 rintro v92 H93 ⟨O85, sm91⟩
 refine D2.p1 v92 (.nil ?_)
 have O94 := O85.drop 0
 obtain rfl := zAa h90
 exact ⟨(x6 ++ [((([] : List zAd) ++ x41) ++ x58)]), _, rfl, O94, s78⟩
def z47 (K : Nat) (rec : List (List zAd) -> Option zAd) (p0 : List (List zAd)) (x4 : List zAd) : Nat -> zAd -> Int -> Option (zAd)
  | 0, _, _ => none
  | k + 1, x15, x16 => (if (decide (x16 < (x4.length : Int))) = true then (Option.bind (((idx x4 x16).bind fun x31 => (if (sEq x31 (⟨#[48]⟩ : zAd)) = true then some x15 else ((z8s K p0 0 x16).bind fun x38 => ((rec x38).bind fun x51 => ((z7g K x31 x51).bind fun x62 => (Option.bind ((if ((Int.tmod x16 2) == 1) = true then ((z5n K x62).bind fun x78 => some x78) else some x62)) (tu1 fun x90 => ((z5o K x15 x90).bind fun x100 => some x100))))))))) (tu1 fun x112 => z47 K rec p0 x4 k x112 (z03 .i64 (x16 + 1)))) else some x15)
def z7z (K : Nat) : Nat -> List (List zAd) -> Option zAd
  | 0, _ => none
  | D + 1, p0 => (if ((p0.length : Int) == 0) = true then some (⟨#[49]⟩ : zAd) else ((idx p0 0).bind fun x4 => (Option.bind (z47 K (z7z K D) p0 x4 K (⟨#[48]⟩ : zAd) 0) (tu1 fun x123 => some x123))))
theorem zhk (K D : Nat) : ∀ {G : GM} {H : AH} {L : List Pc} (v0 : Value) (p0 : List (List zAd)) (hp0 : (rSl (rSl rS)).rep G [v0] p0) (O : Ow G H (L)) (r : zAd) (h : z7z K D p0 = some r),
    CR Tryz.prog 47 [v0] G H (L) (fun v G' _ => v = .string r) := by
 induction D with
 | zero => intro G H L v0 p0 hp0 O r h; exact z07 h
 | succ D ih =>
 intro G H L v0 p0 hp0 O r h
 rw [z7z] at h
 refine CR.og (n := 37) (fn := Tryz.f47) (by kernel_rfl) rfl rfl fun R kr => (.seq (.region (W.p1 (.string (⟨#[]⟩ : zAd)) (.nil (.seq (.seq ?_))))))
 refine .region (W.p2 v0 (W.pv (.int .i64 (p0.length : Int)) (z0k ov (z0d hp0) (z04 el44)) (W.p3 (.bool ((p0.length : Int) == 0)) (.nil (.cond (b := ((p0.length : Int) == 0)) rfl rfl (fun g1 => ?_) (fun g1 => ?_))))))
 .have h2 := z05 g1 h
  refine .seq (.region (W.p1 (.string (⟨#[49]⟩ : zAd)) (.nil (.ret ?_))))
  obtain rfl := zAa h2
  exact z1b kr (v1 := (.string (⟨#[49]⟩ : zAd))) (by rfl) rt O (zAf _) rfl
 have h3 := z0h g1 h
 refine .skip (.seq (.region (W.p1 (.string (⟨#[48]⟩ : zAd)) (.nil (.seq (.seq ?_))))))
 refine .region (W.p2 v0 ?_)
 obtain ⟨x4, i5, h6⟩ := z01 h3
 have j7 := z0a i5
 refine W.pv (z1o v0 (Int.toNat 0 * 1)) (z2f el44 sz45 ov ov (z0d hp0) j7.1 j7.2.1) ?_
 obtain ⟨w8, p9, f10⟩ := At.sl (z2g hp0 j7.2.2)
 replace p9 := PtG.le p9 O.fro
 refine W.load1 (v := w8) (r := []) rfl rfl ag45 (z0z rfl p9) (W.pv (.int .i64 (x4.length : Int)) (z0k ov (z0d f10) (z04 el45)) (W.p2 (.int .i64 0) (.nil ?_)))
 obtain ⟨q11, h12, h13⟩ := z01 h6
 refine AW.midT (fun σ' H' => ∃ (y1 : zAd) (G' : GM), y1 = q11 /\ Ow G' H' (L) /\ GM.le G G' /\ σ' 3 = .string y1) ?_ ?_
 rotate_left
 .rintro σ124 H125 fr126 ⟨x123, G127, rfl, O128, s129, t131⟩
  have h132 := z09 h13
  refine .seq (.region (W.q2 _ t131 (W.p1 (.string x123) (.nil (.ret ?_)))))
  obtain rfl := zAa h132
  exact z1b kr (v1 := (.string x123)) (by rfl) rt O128 s129 rfl
 refine .block (AW.loop (α := Nat) (fun k' σ' H' => ∃ (y1 : zAd) (y2 : Int) (G' : GM), z47 K (z7z K D) p0 x4 k' y1 y2 = some q11 /\ Ow G' H' (L) /\ GM.le G G' /\ σ' 3 = .string y1 /\ σ' 14 = .int .i64 y2) (fun k' => k') K ⟨(⟨#[48]⟩ : zAd), 0, _, h12, O, (zAf _), rfl, rfl⟩ ?_)
 rintro k14
 rintro σ17 H18 fr19 ⟨x15, x16, G20, h23, O21, s22, t24, t25⟩
 rcases k14 with _ | k14
 .exact z07 h23
 rw [z47] at h23
 refine .seq (.region (W.q3 (.bool (decide (x16 < (x4.length : Int)))) t25 ((fr19 13 rfl).trans rfl) (.nil (.seq (.cond (b := decide (x16 < (x4.length : Int))) rfl rfl (fun g26 => ?_) (fun g26 => ?_))))))
 rotate_left
 .have h122 := z0h g26 h23
  refine .exit ?_
  obtain rfl := zAa h122
  exact ⟨x15, _, rfl, O21, s22, t24⟩
 have h27 := z05 g26 h23
 refine .skip (.seq ?_)
 obtain ⟨q28, h29, h30⟩ := z01 h27
 refine AW.midT (fun σ' H' => ∃ (y1 : zAd) (G' : GM), y1 = q28 /\ Ow G' H' (L) /\ GM.le G20 G' /\ σ' 3 = .string y1) ?_ ?_
 rotate_left
 .rintro σ113 H114 fr115 ⟨x112, G116, rfl, O117, s118, t120⟩
  have h121 := z09 h30
  refine .region (W.q3 (.int .i64 (z03 .i64 (x16 + 1))) ((fr115 14 rfl).trans t25) rfl (W.p2 (.int .i64 (z03 .i64 (x16 + 1))) (.nil ?_)))
  exact ⟨k14, zAg _, ⟨x112, z03 .i64 (x16 + 1), _, h121, O117, (zAe s22 s118), t120, rfl⟩⟩
 refine .block (.seq (.region (W.q2 _ t25 ?_)))
 obtain ⟨x31, i32, h33⟩ := z01 h29
 have j34 := z0a i32
 refine W.pv (z1o w8 (x16.toNat * 1)) (z2f el45 sz22 (ou ((fr19 12 rfl).trans rfl)) (ou t25) (z0d (RT.mono _ s22 f10)) j34.1 j34.2.1) (W.load1 (v := (.string x31)) (r := []) rfl rfl ag22 (z0z rfl (At.str (At.le (At.le (z2g f10 j34.2.2) s22 s22) (zAf _) O21.fro))) (W.p1 (.int .i64 x16) (W.p1 (.string x31) (.nil (.seq (.seq ?_))))))
 refine .region (W.p2 (.string x31) (W.pv (.bool (sEq x31 (⟨#[48]⟩ : zAd))) (z7u ov ov) (.nil (.cond (b := sEq x31 (⟨#[48]⟩ : zAd)) rfl rfl (fun g35 => ?_) (fun g35 => ?_)))))
 .have h36 := z05 g35 h33
  refine .exit ?_
  obtain rfl := zAa h36
  exact ⟨x15, _, rfl, O21, (zAf _), t24⟩
 have h37 := z0h g35 h33
 refine .skip (.seq (.region (W.p2 (.string x31) (W.q2 v0 ((fr19 0 rfl).trans rfl) (W.p2 (.int .i64 x16) ?_)))))
 obtain ⟨x38, i39, h40⟩ := z01 h37
 refine W.ln (Lo.callPF (ps := []) (pw := fun w => [eSl w 45 (rSl rS) x38]) rfl (fn := Tryz.f110) (by kernel_rfl) rfl (mc rfl (mc rfl (mc rfl mn))) O21 (fun L' O' => zdu K v0 p0 (RT.mono _ s22 hp0) 0 x16 O' _ i39)) ?_
 rintro v49 H50 ⟨w46, G41, O42, s43, sm48, rfl⟩
 obtain ⟨x51, i52, h53⟩ := z01 h40
 refine W.ln (Lo.callB (j := 0) rfl rfl (fn := Tryz.f47) (by kernel_rfl) rfl (mc rfl mn) O42 (fun G' L' hG O' hB => ih w46 x38 hB O' _ i52)) ?_
 rintro v60 H61 ⟨G54, O55, s56, sm59, rfl⟩
 obtain ⟨x62, i63, h64⟩ := z01 h53
 refine W.ln (Lo.cP rfl (fn := Tryz.f42) (by kernel_rfl) rfl (mc rfl (mc rfl mn)) O55 (fun L' O' => zcz K x31 x51 O' _ i63)) ?_
 rintro v71 H72 ⟨G65, O66, s67, sm70, rfl⟩
 refine W.p1 (.string x62) (.nil (.seq (.seq (.region (W.p2 (.int .i64 x16) (W.pv (.int .i64 (Int.tmod x16 2)) (zh5 (by decide) ov ov) ?_))))))
 refine W.p3 (.bool ((Int.tmod x16 2) == 1)) (.nil ?_)
 obtain ⟨q73, h74, h75⟩ := z01 h64
 refine AW.midT (fun σ' H' => ∃ (y1 : zAd) (G' : GM), y1 = q73 /\ Ow G' H' (eSl w46 45 (rSl rS) x38 :: L) /\ GM.le G65 G' /\ σ' 6 = .string y1) ?_ ?_
 .refine .cond (b := ((Int.tmod x16 2) == 1)) rfl rfl (fun g76 => ?_) (fun g76 => ?_)
  rotate_left
  .have h89 := z0h g76 h74
   refine .skip ?_
   obtain rfl := zAa h89
   exact ⟨x62, _, rfl, O66, (zAf _), rfl⟩
  have h77 := z05 g76 h74
  refine .region (W.p2 (.string x62) ?_)
  obtain ⟨x78, i79, h80⟩ := z01 h77
  refine W.ln (Lo.cP rfl (fn := Tryz.f111) (by kernel_rfl) rfl (mc rfl mn) O66 (fun L' O' => zd0 K x62 O' _ i79)) ?_
  rintro v87 H88 ⟨G81, O82, s83, sm86, rfl⟩
  refine W.p1 (.string x78) (.nil ?_)
  obtain rfl := zAa h80
  exact ⟨x78, _, rfl, O82, s83, rfl⟩
 rintro σ91 H92 fr93 ⟨x90, G94, rfl, O95, s96, t98⟩
 have h99 := z09 h75
 refine .region (W.q2 _ ((fr93 3 rfl).trans t24) (W.q2 _ t98 ?_))
 obtain ⟨x100, i101, h102⟩ := z01 h99
 refine W.ln (Lo.cP rfl (fn := Tryz.f41) (by kernel_rfl) rfl (mc rfl (mc rfl mn)) O95 (fun L' O' => zd2 K x15 x90 O' _ i101)) ?_
 rintro v109 H110 ⟨G103, O104, s105, sm108, rfl⟩
 refine W.p1 (.string x100) (.nil ?_)
 have O111 := O104.drop 0
 obtain rfl := zAa h102
 exact ⟨x100, _, rfl, O111, (zAe s43 (zAe s56 (zAe s67 (zAe s96 s105)))), rfl⟩
def z4n (K : Nat) (p0 : List (List zAd)) : Option Bool := ((z61 K ).bind fun x1 => (if (!x1) = true then some false else ((z4i K p0).bind fun x15 => ((z3g K p0).bind fun x26 => (Option.bind ((if (x26 == 0) = true then ((z8q K p0).bind fun x43 => some ((p0.length : Int) != x43)) else some false)) (tu1 fun x55 => (Option.bind ((if x55 = true then some 3 else some x26)) (tu1 fun x71 => (if (x71 != 0) = true then (Option.bind ((if (x15.2 == x71) = true then some (sEq x15.1 (⟨#[]⟩ : zAd)) else some false)) (tu1 fun x90 => some x90)) else (Option.bind (((z6k K 5 [p0]).bind fun x108 => (if x108 = true then some true else (if (x15.2 == 0) = true then ((z7z K K p0).bind fun x127 => some (sEq x15.1 x127)) else some false)))) (tu1 fun x141 => some x141)))))))))))
theorem z9a (K : Nat) {G : GM} {H : AH} {L : List Pc} (v0 : Value) (p0 : List (List zAd)) (hp0 : (rSl (rSl rS)).rep G [v0] p0) (O : Ow G H (L)) (r : Bool) (h : z4n K p0 = some r) :
    CR Tryz.prog 8 [v0] G H (L) (fun v G' _ => v = .bool r) := by
 unfold z4n at h
 refine CR.og (n := 46) (fn := Tryz.f8) (by kernel_rfl) rfl rfl fun R kr => (.seq (.region (W.p1 (.bool false) (.nil (.seq (.seq ?_))))))
 refine .region ?_
 obtain ⟨x1, i2, h3⟩ := z01 h
 refine W.ln (Lo.cP rfl (fn := Tryz.f43) (by kernel_rfl) rfl mn O (fun L' O' => z97 K  O' _ i2)) ?_
 rintro v10 H11 ⟨G4, O5, s6, sm9, rfl⟩
 refine W.pv (.bool (!x1)) (zbq (a := x1) ov) (.nil (.cond (b := (!x1)) rfl rfl (fun g12 => ?_) (fun g12 => ?_)))
 .have h13 := z05 g12 h3
  refine .seq (.region (W.p1 (.bool false) (.nil (.ret ?_))))
  obtain rfl := zAa h13
  exact z1b kr (v1 := (.bool false)) (by rfl) rt O5 s6 rfl
 have h14 := z0h g12 h3
 refine .skip (.seq (.region (W.p2 v0 ?_)))
 obtain ⟨x15, i16, h17⟩ := z01 h14
 refine W.ln (Lo.cP rfl (fn := Tryz.f46) (by kernel_rfl) rfl (mc rfl mn) O5 (fun L' O' => zc2 K v0 p0 (RT.mono _ s6 hp0) O' _ i16)) ?_
 rintro v24 H25 ⟨G18, O19, s20, sm23, rfl⟩
 refine W.p2 (.tuple #[(.string x15.1), (.int .i64 x15.2)]) (W.pv (.string x15.1) (z0b ov rfl) (W.pv (.int .i64 x15.2) (z0b ov rfl) (W.p1 (.string x15.1) (W.p1 (.int .i64 x15.2) (.nil (.seq ?_))))))
 refine .region (W.p2 v0 ?_)
 obtain ⟨x26, i27, h28⟩ := z01 h17
 refine W.ln (Lo.cP rfl (fn := Tryz.f30) (by kernel_rfl) rfl (mc rfl mn) O19 (fun L' O' => z99 K v0 p0 (RT.mono _ (zAe s6 s20) hp0) O' _ i27)) ?_
 rintro v35 H36 ⟨G29, O30, s31, sm34, rfl⟩
 refine W.p1 (.int .i64 x26) (.nil (.seq (.seq ?_)))
 obtain ⟨q37, h38, h39⟩ := z01 h28
 refine AW.midT (fun σ' H' => ∃ (y1 : Bool) (G' : GM), y1 = q37 /\ Ow G' H' (L) /\ GM.le G29 G' /\ σ' 23 = .bool y1) ?_ ?_
 .refine .region (W.p2 (.int .i64 x26) (W.p3 (.bool (x26 == 0)) (W.p2 (.bool (x26 == 0)) (W.splitAt (t := 17) (b := (x26 == 0)) rfl (fun g40 gv41 => ?_) (fun g40 gv41 => ?_)))))
  rotate_left
  .have h54 := z0h g40 h38
   refine W.q6 rfl gv41 (W.q6 rfl gv41 (W.q6 rfl gv41 (W.q6 rfl gv41 (W.q6 rfl gv41 (W.q5 (.bool false) gv41 rfl (.nil ?_))))))
   obtain rfl := zAa h54
   exact ⟨false, _, rfl, O30, (zAf _), rfl⟩
  have h42 := z05 g40 h38
  refine W.q2 (hg := gk rfl rfl gv41 rfl) v0 rfl (W.pure (v := (.int .i64 (p0.length : Int))) (gk rfl rfl gv41 rfl) rfl (z0k ov (z0d (RT.mono _ (zAe s6 (zAe s20 s31)) hp0)) (z04 el44)) (W.q2 (hg := gk rfl rfl gv41 rfl) v0 rfl ?_))
  obtain ⟨x43, i44, h45⟩ := z01 h42
  refine W.lo (gk rfl rfl gv41 rfl) rfl (Lo.cP rfl (fn := Tryz.f31) (by kernel_rfl) rfl (mc rfl mn) O30 (fun L' O' => zds K v0 p0 (RT.mono _ (zAe s6 (zAe s20 s31)) hp0) O' _ i44)) ?_
  rintro v52 H53 ⟨G46, O47, s48, sm51, rfl⟩
  refine W.q3 (hg := gk rfl rfl gv41 rfl) (.bool ((p0.length : Int) != x43)) rfl rfl (W.q4 (.bool ((p0.length : Int) != x43)) gv41 rfl (.nil ?_))
  obtain rfl := zAa h45
  exact ⟨((p0.length : Int) != x43), _, rfl, O47, s48, rfl⟩
 rintro σ56 H57 fr58 ⟨x55, G59, rfl, O60, s61, t63⟩
 have h64 := z09 h39
 obtain ⟨q65, h66, h67⟩ := z01 h64
 refine AW.midT (fun σ' H' => ∃ (y1 : Int) (G' : GM), y1 = q65 /\ Ow G' H' (L) /\ GM.le G59 G' /\ σ' 5 = .int .i64 y1) ?_ ?_
 .refine .cond (b := x55) rfl t63 (fun g68 => ?_) (fun g68 => ?_)
  rotate_left
  .have h70 := z0h g68 h66
   refine .skip ?_
   obtain rfl := zAa h70
   exact ⟨x26, _, rfl, O60, (zAf _), ((fr58 5 rfl).trans rfl)⟩
  have h69 := z05 g68 h66
  refine .region (W.p1 (.int .i64 3) (.nil ?_))
  obtain rfl := zAa h69
  exact ⟨3, _, rfl, O60, (zAf _), rfl⟩
 rintro σ72 H73 fr74 ⟨x71, G75, rfl, O76, s77, t79⟩
 have h80 := z09 h67
 refine .seq (.seq (.region (W.q2 _ t79 (W.p3 (.bool (x71 != 0)) (.nil (.cond (b := (x71 != 0)) rfl rfl (fun g81 => ?_) (fun g81 => ?_)))))))
 .have h82 := z05 g81 h80
  refine .seq ?_
  obtain ⟨q83, h84, h85⟩ := z01 h82
  refine AW.midT (fun σ' H' => ∃ (y1 : Bool) (G' : GM), y1 = q83 /\ Ow G' H' (L) /\ GM.le G75 G' /\ σ' 2 = .bool y1) ?_ ?_
  rotate_left
  .rintro σ91 H92 fr93 ⟨x90, G94, rfl, O95, s96, t98⟩
   have h99 := z09 h85
   refine .ret ?_
   obtain rfl := zAa h99
   exact z1b kr (v1 := (.bool x90)) (by rfl) (zji (by rfl) (by exact t98)) O95 (zAe s6 (zAe s20 (zAe s31 (zAe s61 (zAe s77 s96))))) rfl
  refine .region (W.q2 (.int .i64 x15.2) ((fr74 4 rfl).trans ((fr58 4 rfl).trans rfl)) (W.q2 _ t79 (W.p3 (.bool (x15.2 == x71)) (W.p2 (.bool (x15.2 == x71)) (W.splitAt (t := 29) (b := (x15.2 == x71)) rfl (fun g86 gv87 => ?_) (fun g86 gv87 => ?_))))))
  rotate_left
  .have h89 := z0h g86 h84
   refine W.q6 rfl gv87 (W.q6 rfl gv87 (W.q5 (.bool false) gv87 rfl (W.p1 (.bool false) (.nil ?_))))
   obtain rfl := zAa h89
   exact ⟨false, _, rfl, O76, (zAf _), rfl⟩
  have h88 := z05 g86 h84
  refine W.q2 (hg := gk rfl rfl gv87 rfl) (.string x15.1) ((fr74 3 rfl).trans ((fr58 3 rfl).trans rfl)) (W.pure (v := (.bool (sEq x15.1 (⟨#[]⟩ : zAd)))) (gk rfl rfl gv87 rfl) rfl (z7u ov ov) (W.q4 (.bool (sEq x15.1 (⟨#[]⟩ : zAd))) gv87 rfl (W.p1 (.bool (sEq x15.1 (⟨#[]⟩ : zAd))) (.nil ?_))))
  obtain rfl := zAa h88
  exact ⟨sEq x15.1 (⟨#[]⟩ : zAd), _, rfl, O76, (zAf _), rfl⟩
 have h100 := z0h g81 h80
 refine .skip (.seq ?_)
 obtain ⟨q101, h102, h103⟩ := z01 h100
 refine AW.midT (fun σ' H' => ∃ (y1 : Bool) (G' : GM), y1 = q101 /\ Ow G' H' (L) /\ GM.le G75 G' /\ σ' 2 = .bool y1) ?_ ?_
 rotate_left
 .rintro σ142 H143 fr144 ⟨x141, G145, rfl, O146, s147, t149⟩
  have h150 := z09 h103
  refine .ret ?_
  obtain rfl := zAa h150
  exact z1b kr (v1 := (.bool x141)) (by rfl) (zji (by rfl) (by exact t149)) O146 (zAe s6 (zAe s20 (zAe s31 (zAe s61 (zAe s77 s147))))) rfl
 refine .region (W.q2 v0 ((fr74 0 rfl).trans ((fr58 0 rfl).trans rfl)) (W.ln (Lo.buildSlice (r := (rSl (rSl rS))) (vs := [v0]) (xs := [p0]) zoy ze44 sz44 (by kernel_rfl) rfl (qc rfl qn) rfl (.cons (z4c (RT.mono _ (zAe s6 (zAe s20 (zAe s31 (zAe s61 s77)))) hp0)) .nil) O76) ?_))
 rintro v106 H107 ⟨O104, sm105⟩
 obtain ⟨x108, i109, h110⟩ := z01 h102
 refine W.ln (Lo.callB (j := 0) rfl rfl (fn := Tryz.f32) (by kernel_rfl) rfl (mc rfl (mc rfl mn)) O104 (fun G' L' hG O' hB => zcy K 5 v106 [p0] hB O' _ i109)) ?_
 rintro v117 H118 ⟨G111, O112, s113, sm116, rfl⟩
 refine W.p2 (.bool x108) (W.splitAt (t := 36) (b := x108) rfl (fun g119 gv120 => ?_) (fun g119 gv120 => ?_))
 .have h121 := z05 g119 h110
  refine W.q6 rfl gv120 (W.q6 rfl gv120 (W.q6 rfl gv120 (W.skipU rfl rfl rfl rfl (W.skipU rfl rfl rfl rfl (W.skipU rfl rfl rfl rfl (W.skipU rfl rfl rfl rfl ?_))))))
  refine W.q6 rfl gv120 (W.q4 (.bool true) gv120 rfl (W.p1 (.bool true) (.nil ?_)))
  have O122 := O112.drop 0
  obtain rfl := zAa h121
  exact ⟨true, _, rfl, O122, s113, rfl⟩
 have h123 := z0h g119 h110
 refine W.q2 (hg := gk rfl rfl gv120 rfl) (.int .i64 x15.2) ((fr74 4 rfl).trans ((fr58 4 rfl).trans rfl)) (W.q3 (hg := gk rfl rfl gv120 rfl) (.bool (x15.2 == 0)) rfl rfl (W.q2 (hg := gk rfl rfl gv120 rfl) (.bool (x15.2 == 0)) rfl (W.splitAt (t := 39) (b := (x15.2 == 0)) rfl (fun g124 gv125 => ?_) (fun g124 gv125 => ?_))))
 rotate_left
 .have h139 := z0h g124 h123
  refine W.q6 rfl gv125 (W.q6 rfl gv125 (W.q6 rfl gv125 (W.q6 rfl gv125 (W.q5 (hg := gk rfl rfl gv120 rfl) (.bool false) gv125 rfl (W.q5 (.bool false) gv120 rfl (W.p1 (.bool false) ?_))))))
  refine .nil ?_
  have O140 := O112.drop 0
  obtain rfl := zAa h139
  exact ⟨false, _, rfl, O140, s113, rfl⟩
 have h126 := z05 g124 h123
 refine W.q2 (hg := gk rfl rfl gv125 rfl) (.string x15.1) ((fr74 3 rfl).trans ((fr58 3 rfl).trans rfl)) (W.q2 (hg := gk rfl rfl gv125 rfl) v0 ((fr74 0 rfl).trans ((fr58 0 rfl).trans rfl)) ?_)
 obtain ⟨x127, i128, h129⟩ := z01 h126
 refine W.lo (gk rfl rfl gv125 rfl) rfl (Lo.cP rfl (fn := Tryz.f47) (by kernel_rfl) rfl (mc rfl mn) O112 (fun L' O' => zhk K K v0 p0 (RT.mono _ (zAe s6 (zAe s20 (zAe s31 (zAe s61 (zAe s77 s113))))) hp0) O' _ i128)) ?_
 rintro v136 H137 ⟨G130, O131, s132, sm135, rfl⟩
 refine W.pure (v := (.bool (sEq x15.1 x127))) (gk rfl rfl gv125 rfl) rfl (z7u ov ov) (W.q4 (hg := gk rfl rfl gv120 rfl) (.bool (sEq x15.1 x127)) gv125 rfl (W.q5 (.bool (sEq x15.1 x127)) gv120 rfl (W.p1 (.bool (sEq x15.1 x127)) (.nil ?_))))
 have O138 := O131.drop 0
 obtain rfl := zAa h129
 exact ⟨sEq x15.1 x127, _, rfl, O138, (zAe s113 s132), rfl⟩
end Go.Am.Tryz
/- Numbers: digits in a base, the least one first; decimal texts. Plain, no program. -/
namespace Go.Am
open Go
def valB (B : Int) : List Int -> Int
 | [] => 0
 | d :: l => d + B * valB B l
def DigB (B : Int) (l : List Int) : Prop := ∀ d ∈ l, 0 <= d /\ d < B
theorem DigB.nil (B : Int) : DigB B [] := fun d h => by simp at h
theorem DigB.cons {B d : Int} {l : List Int} (h : DigB B (d :: l)) : (0 <= d /\ d < B) /\ DigB B l := ⟨h d (by simp), fun x hx => h x (by simp [hx])⟩
theorem DigB.app {B : Int} {l m : List Int} (h : DigB B l) (k : DigB B m) : DigB B (l ++ m) := fun d hd => by
 rcases List.mem_append.1 hd with hd | hd
 ·exact h d hd
 ·exact k d hd
theorem z50 (B : Int) : ∀ (l m : List Int), valB B (l ++ m) = valB B l + B ^ l.length * valB B m
 | [], m => by simp [valB]
 | d :: l, m => by
  simp only [List.cons_append, valB, z50 B l m, List.length_cons, Int.pow_succ]
  rw [Int.mul_add, <- Int.mul_assoc, Int.mul_comm B (B ^ l.length), Int.add_assoc]
theorem z0s {B : Int} (hB : 0 < B) : ∀ (l : List Int), DigB B l -> 0 <= valB B l
 | [], _ => Int.le_refl _
 | d :: l, h => by
  have h1 := (h.cons).1
  have h2 := z0s hB l h.cons.2
  have := Int.mul_nonneg (Int.le_of_lt hB) h2
  simp only [valB]; omega
theorem z48 {B : Int} (hB : 0 < B) : ∀ (l : List Int), DigB B l -> valB B l < B ^ l.length
 | [], _ => by simp [valB]
 | d :: l, h => by
  have h1 := (h.cons).1
  have h2 := z48 hB l h.cons.2
  have h3 : B * (valB B l + 1) <= B * B ^ l.length := Int.mul_le_mul_of_nonneg_left (by omega) (Int.le_of_lt hB)
  rw [Int.mul_add, Int.mul_one] at h3
  simp only [valB, List.length_cons, Int.pow_succ]
  rw [Int.mul_comm (B ^ l.length) B]
  omega
def CanB (B : Int) (l : List Int) : Prop := DigB B l /\ l.getLast? ≠ some 0
theorem CanB.tail {B d : Int} {l : List Int} (h : CanB B (d :: l)) : CanB B l := by
 refine ⟨h.1.cons.2, fun e => h.2 ?_⟩
 cases l with
 | nil => simp at e
 | cons x l => rw [List.getLast?_cons_cons]; exact e
theorem zad {B : Int} (hB : 1 < B) : ∀ (l : List Int), CanB B l -> l ≠ [] -> 0 < valB B l
 | [], _, h => absurd rfl h
 | d :: l, h, _ => by
  have h1 := h.1.cons.1
  cases l with
  | nil =>
   have : d ≠ 0 := fun e => h.2 (by simp [e])
   simp only [valB]; omega
  | cons x l =>
   have h2 := zad hB (x :: l) h.tail (by simp)
   have h3 : B * 1 <= B * valB B (x :: l) := Int.mul_le_mul_of_nonneg_left (by omega) (by omega)
   simp only [valB] at h2 h3 ⊢; omega
theorem zlw {B d e x y : Int} (hd : 0 <= d /\ d < B) (he : 0 <= e /\ e < B) (h : d + B * x = e + B * y) : d = e /\ x = y := by
 have h1 : x = y := by
  rcases Int.lt_trichotomy x y with h2 | h2 | h2
  ·have : B * (x + 1) <= B * y := Int.mul_le_mul_of_nonneg_left (by omega) (by omega)
   rw [Int.mul_add, Int.mul_one] at this; omega
  ·exact h2
  ·have : B * (y + 1) <= B * x := Int.mul_le_mul_of_nonneg_left (by omega) (by omega)
   rw [Int.mul_add, Int.mul_one] at this; omega
 subst h1
 exact ⟨by omega, rfl⟩
theorem zlx {B : Int} (hB : 1 < B) : ∀ (l m : List Int), CanB B l -> CanB B m -> valB B l = valB B m -> l = m
 | [], [], _, _, _ => rfl
 | [], e :: m, _, h2, h => by
  have := zad hB (e :: m) h2 (by simp)
  rw [<- h] at this; simp [valB] at this
 | d :: l, [], h1, _, h => by
  have := zad hB (d :: l) h1 (by simp)
  rw [h] at this; simp [valB] at this
 | d :: l, e :: m, h1, h2, h => by
  obtain ⟨rfl, h3⟩ := zlw h1.1.cons.1 h2.1.cons.1 h
  rw [zlx hB l m h1.tail h2.tail h3]
def digT (c : Int) : Bool := decide (48 <= c) && decide (c <= 57)
def z51 (s : zAd) : List Int := ((z02 s).map (· - 48)).reverse
def numT (s : zAd) : Int := valB 10 (z51 s)
def CanT (s : zAd) : Prop := s.size ≠ 0 /\ (z02 s).all digT = true /\ ((z02 s).head? = some 48 -> s.size = 1)
theorem z39 {a b : zAd} (h : z02 a = z02 b) : a = b := by
 unfold z02 at h
 have h1 : a.data.toList = b.data.toList := by
  have : Function.Injective fun b : UInt8 => (b.toNat : Int) := fun x y h => by
   have : x.toNat = y.toNat := by have h' : (x.toNat : Int) = (y.toNat : Int) := h; omega
   exact UInt8.toNat_inj.1 this
  exact List.map_inj_right (fun x y h => this h) |>.1 h
 cases a; cases b
 congr 1
 exact Array.toList_inj.1 h1
theorem z6v {s : zAd} (h : (z02 s).all digT = true) : DigB 10 (z51 s) := by
 intro d hd
 unfold z51 at hd
 rw [List.mem_reverse, List.mem_map] at hd
 obtain ⟨c, hc, rfl⟩ := hd
 have := List.all_eq_true.1 h c hc
 simp only [digT, Bool.and_eq_true, decide_eq_true_eq] at this
 omega
theorem z4o (s : zAd) : (z51 s).length = s.size := by
 unfold z51
 rw [List.length_reverse, List.length_map, z00]
theorem zev {a b : zAd} (h : z51 a = z51 b) : a = b := by
 unfold z51 at h
 have h1 := List.reverse_inj.1 h
 exact z39 (List.map_inj_right (fun x y h => by omega) |>.1 h1)
theorem z7o {s : zAd} (h : CanT s) (h0 : (z02 s).head? = some 48) : z51 s = [0] := by
 have h1 := h.2.2 h0
 have hl := z00 s
 rw [h1] at hl
 match hb : z02 s, hl with
 | [c], _ => rw [hb] at h0; simp at h0; subst h0; simp [z51, hb]
theorem zc3 {s : zAd} (h : CanT s) (h0 : (z02 s).head? ≠ some 48) : CanB 10 (z51 s) := by
 refine ⟨z6v h.2.1, fun e => h0 ?_⟩
 unfold z51 at e
 rw [List.getLast?_reverse, List.head?_map] at e
 cases hb : (z02 s).head? with
 | none => rw [hb] at e; cases e
 | some c => rw [hb] at e; simp at e; congr 1; omega
theorem z85 {a b : zAd} (ha : CanT a) (hb : CanT b) (h : numT a = numT b) : a = b := by
 have pos : ∀ s : zAd, CanT s -> (z02 s).head? ≠ some 48 -> 0 < numT s := fun s hs h0 => zad (by omega) _ (zc3 hs h0) (fun e => by
  have := z4o s
  rw [e] at this
  exact hs.1 this.symm)
 by_cases h1 : (z02 a).head? = some 48 <;> by_cases h2 : (z02 b).head? = some 48
 ·exact zev (by rw [z7o ha h1, z7o hb h2])
 ·have := pos b hb h2
  unfold numT at h this
  rw [z7o ha h1] at h
  simp [valB] at h; omega
 ·have := pos a ha h1
  unfold numT at h this
  rw [z7o hb h2] at h
  simp [valB] at h; omega
 ·exact zev (zlx (by omega) _ _ (zc3 ha h1) (zc3 hb h2) h)
theorem z2b (a : zAd) (i j : Nat) : z02 (a.extract i j) = ((z02 a).drop i).take (j - i) := by
 unfold z02
 rw [ByteArray.data_extract, Array.toList_extract]
 simp [List.extract, List.map_drop, List.map_take]
theorem z0n (a b : zAd) : z02 (a ++ b) = z02 a ++ z02 b := by
 unfold z02
 rw [ByteArray.data_append, Array.toList_append, List.map_append]
theorem zb3 (xs : List Int) (h : ∀ x ∈ xs, 0 <= x /\ x <= 255) : z02 (strOfNums xs) = xs := by
 unfold z02
 rw [strOfNums_data, List.map_map]
 conv => rhs; rw [<- List.map_id xs]
 apply List.map_congr_left
 intro x hx
 have := h x hx
 show ((UInt8.ofNat x.toNat).toNat : Int) = x
 rw [UInt8.toNat_ofNat']
 omega
theorem zae {s : zAd} {c : Int} {l : List Int} (h : z02 s = c :: l) : ∃ t, ssl s 1 (s.size : Int) = some t /\ z02 t = l /\ t.size = l.length := by
 have hn := z00 s
 rw [h] at hn
 simp at hn
 refine ⟨s.extract 1 s.size, ?_, ?_, ?_⟩
 ·unfold ssl
  rw [if_pos (by omega)]
  simp
 ·rw [z2b, h]
  simp
  exact List.take_of_length_le (by omega)
 ·rw [<- z00, z2b, h]
  simp
  omega
theorem zjn {s t : zAd} {c : Int} (h : z02 s = c :: z02 t) : numT s = numT t + 10 ^ t.size * (c - 48) := by
 unfold numT z51
 rw [h, List.map_cons, List.reverse_cons, z50]
 simp [valB, z00]
end Go.Am
/- Graphs: connected parts, their numbers, closure of a matrix, ways. Plain, no program. -/
namespace Go.Am
open Go
def Edg (l : List (Int × Int)) (U : Nat -> Bool) (a b : Nat) : Prop := ∃ k, k < l.length /\ U k = true /\ (l.getD k (0, 0) = ((a : Int), (b : Int)) \/ l.getD k (0, 0) = ((b : Int), (a : Int)))
inductive Con (l : List (Int × Int)) (U : Nat -> Bool) : Nat -> Nat -> Prop
 | refl (a : Nat) : Con l U a a
 | tail {a b c : Nat} : Con l U a b -> Edg l U b c -> Con l U a c
structure Outer (l : List (Int × Int)) (U : Nat -> Bool) (n : Nat) (cs : List Int) (m s : Nat) : Prop where
 len : cs.length = n
 rng : ∀ i < n, -1 <= cs.getD i 0 /\ cs.getD i 0 < m
 done : ∀ i < s, i < n -> 0 <= cs.getD i 0
 cls : ∀ i j, i < n -> j < n -> 0 <= cs.getD i 0 -> (cs.getD i 0 = cs.getD j 0 ↔ Con l U i j)
 last : 0 < m -> ∃ j < s, j < n /\ cs.getD j 0 = (m : Int) - 1
 rgs : ∀ i < n, 0 < cs.getD i 0 -> ∃ j < i, cs.getD j 0 = cs.getD i 0 - 1
 few : m <= s
structure Mid (l : List (Int × Int)) (U : Nat -> Bool) (n : Nat) (base : List Int) (m s : Nat) (cs : List Int) : Prop where
 len : cs.length = n
 own : ∀ i < n, (cs.getD i 0 = m /\ base.getD i 0 = -1 /\ Con l U s i) \/ cs.getD i 0 = base.getD i 0
 start : cs.getD s 0 = m
theorem z6w {cs : List Int} {i j : Nat} {v : Int} (hi : i < cs.length) : (cs.set i v).getD j 0 = if j = i then v else cs.getD j 0 := by
 rw [zAb, List.getElem?_set]
 by_cases h : i = j
 ·subst h; simp [hi]
 ·rw [if_neg h, if_neg (fun e => h e.symm), zAb]
theorem Edg.symm {l : List (Int × Int)} {U : Nat -> Bool} {a b : Nat} (h : Edg l U a b) : Edg l U b a := by
 obtain ⟨k, h1, h2, h3⟩ := h
 exact ⟨k, h1, h2, h3.symm⟩
theorem Con.trans {l : List (Int × Int)} {U : Nat -> Bool} {a b c : Nat} (h : Con l U a b) (k : Con l U b c) : Con l U a c := by
 induction k with
 | refl => exact h
 | tail _ e ih => exact .tail ih e
theorem Con.symm {l : List (Int × Int)} {U : Nat -> Bool} {a b : Nat} (h : Con l U a b) : Con l U b a := by
 induction h with
 | refl => exact .refl _
 | tail _ e ih => exact (Con.tail (.refl _) e.symm).trans ih
structure EqvOn (M : Nat -> Nat -> Bool) (n : Nat) : Prop where
 refl : ∀ a < n, M a a = true
 symm : ∀ a b, a < n -> b < n -> M a b = true -> M b a = true
 trans : ∀ a b c, a < n -> b < n -> c < n -> M a b = true -> M b c = true -> M a c = true
structure NumOk (M : Nat -> Nat -> Bool) (cs : List Int) (m i : Nat) : Prop where
 len : cs.length = i
 rng : ∀ a < i, 0 <= cs.getD a 0 /\ cs.getD a 0 < m
 cls : ∀ a b, a < i -> b < i -> (cs.getD a 0 = cs.getD b 0 ↔ M a b = true)
 last : 0 < m -> ∃ a < i, cs.getD a 0 = (m : Int) - 1
 rgs : ∀ a < i, 0 < cs.getD a 0 -> ∃ b < a, cs.getD b 0 = cs.getD a 0 - 1
 few : m <= i
structure WOk (l : List (Int × Int)) (U : Nat -> Bool) (n : Nat) (M : Nat -> Nat -> Bool) (m : Nat) : Prop where
 sound : ∀ a b, a < n -> b < n -> M a b = true -> Con l U a b
 refl : ∀ a < n, M a a = true
 edge : ∀ a b, a < n -> b < n -> Edg l U a b -> M a b = true
 tr : ∀ c < m, ∀ a b, a < n -> b < n -> M a c = true -> M c b = true -> M a b = true
def Wk (l : List (Int × Int)) (U : Nat -> Bool) (to : Nat) : Nat -> Nat -> Prop
 | 0, v => v = to
 | k + 1, v => ∃ w, Edg l U v w /\ Wk l U to k w
structure FarOk (l : List (Int × Int)) (U : Nat -> Bool) (n to : Nat) (fs : List Int) (d : Nat) : Prop where
 len : fs.length = n
 rng : ∀ v < n, -1 <= fs.getD v 0
 fnd : ∀ v < n, ∀ k : Nat, fs.getD v 0 = k -> k <= d /\ Wk l U to k v /\ ∀ j < k, ¬ Wk l U to j v
 nof : ∀ v < n, fs.getD v 0 = -1 -> ∀ j ≤ d, ¬ Wk l U to j v
structure Rnd (l : List (Int × Int)) (U : Nat -> Bool) (n to : Nat) (fs gs : List Int) (d : Nat) : Prop where
 len : gs.length = n
 old : ∀ v < n, gs.getD v 0 = fs.getD v 0 \/ (fs.getD v 0 = -1 /\ gs.getD v 0 = (d : Int) + 1 /\ Wk l U to (d + 1) v)
def neg (n : Nat) (fs : List Int) : Nat := ((List.range n).filter fun v => fs.getD v 0 == -1).length
theorem zdv {S R : Type} (n : Nat) (l : Nat -> S -> Int -> Option R) (I : S -> Nat -> Prop) (Q : R -> Prop)
  (h : ∀ k s (i : Nat), i < n -> I s i -> (∃ r, l (k + 1) s (i : Int) = some r /\ Q r) \/ ∃ s', I s' (i + 1) /\ l (k + 1) s (i : Int) = l k s' ((i + 1 : Nat) : Int))
  (h0 : ∀ k s (i : Nat), i = n -> I s i -> ∃ r, l (k + 1) s (i : Int) = some r /\ Q r) : ∀ k s, n < k -> I s 0 -> ∃ r, l k s 0 = some r /\ Q r := by
 have key : ∀ d k s (i : Nat), n - i = d -> i <= n -> d < k -> I s i -> ∃ r, l k s (i : Int) = some r /\ Q r := by
  intro d
  induction d with
  | zero =>
   intro k s i hd hi hk hI
   obtain ⟨k, rfl⟩ : ∃ m, k = m + 1 := ⟨k - 1, by omega⟩
   exact h0 k s i (by omega) hI
  | succ d ih =>
   intro k s i hd hi hk hI
   obtain ⟨k, rfl⟩ : ∃ m, k = m + 1 := ⟨k - 1, by omega⟩
   rcases h k s i (by omega) hI with h1 | ⟨s', h1, h2⟩
   ·exact h1
   ·rw [h2]; exact ih k s' (i + 1) (by omega) (by omega) (by omega) h1
 intro k s hk hI
 exact key n k s 0 (by omega) (Nat.zero_le _) hk hI
theorem zna {S R : Type} (l : Nat -> S -> Option R) (I : S -> Prop) (mu : S -> Nat) (Q : R -> Prop)
  (h : ∀ k s, I s -> (∃ r, l (k + 1) s = some r /\ Q r) \/ ∃ s', I s' /\ mu s' < mu s /\ l (k + 1) s = l k s') : ∀ k s, mu s < k -> I s -> ∃ r, l k s = some r /\ Q r := by
 intro k
 induction k with
 | zero => intro s h1; omega
 | succ k ih =>
  intro s h1 hI
  rcases h k s hI with h2 | ⟨s', h2, h3, h4⟩
  ·exact h2
  ·rw [h4]; exact ih s' (by omega) h2
def two (p : Int × Int) : List Int := [p.1, p.2]
theorem zhl {cs : List Int} {a : Nat} (h : a < cs.length) : idx cs (a : Int) = some (cs.getD a 0) := by
 apply z53
 simp [h, zAb]
end Go.Am
/- Plain lemmas: rules for typed functions over whole numbers; digits set in place; the guess of a digit of a quotient. -/
namespace Go.Am
open Go
theorem z0e {α β : Type} (a : α) (f : α -> Option β) : Option.bind (some a) f = f a := (rfl)
theorem tu0a {β : Type} (g : Option β) (u : Unit) : tu0 g u = g := (rfl)
theorem tu1a {α β : Type} (g : α -> Option β) (a : α) : tu1 g a = g a := (rfl)
theorem tu2a {α1 α2 β : Type} (g : α1 -> α2 -> Option β) (p : α1 × α2) : tu2 g p = g p.1 p.2 := (rfl)
theorem tu3a {α1 α2 α3 β : Type} (g : α1 -> α2 -> α3 -> Option β) (p : α1 × α2 × α3) : tu3 g p = g p.1 p.2.1 p.2.2 := (rfl)
theorem tu4a {α1 α2 α3 α4 β : Type} (g : α1 -> α2 -> α3 -> α4 -> Option β) (p : α1 × α2 × α3 × α4) : tu4 g p = g p.1 p.2.1 p.2.2.1 p.2.2.2 := (rfl)
theorem tu5a {α1 α2 α3 α4 α5 β : Type} (g : α1 -> α2 -> α3 -> α4 -> α5 -> Option β) (p : α1 × α2 × α3 × α4 × α5) : tu5 g p = g p.1 p.2.1 p.2.2.1 p.2.2.2.1 p.2.2.2.2 := (rfl)
theorem lta {α β : Type} (x : α) (f : α -> Option β) : lt x f = f x := (rfl)
theorem zhm {α β γ : Type} (a : α) (f : α -> Option γ) (g : β -> Option γ) : zbs (some (.inl a)) f g = f a := (rfl)
theorem zhn {α β γ : Type} (b : β) (f : α -> Option γ) (g : β -> Option γ) : zbs (some (.inr b)) f g = g b := (rfl)
theorem zq8 {α β γ : Type} (a : α) (f : α -> Option γ) (g : β -> Option γ) : outS (.inl a) f g = f a := (rfl)
theorem zq9 {α β γ : Type} (b : β) (f : α -> Option γ) (g : β -> Option γ) : outS (.inr b) f g = g b := (rfl)
theorem znb {α : Type} [BEq α] [LawfulBEq α] {a b : α} : ((a == b) = true) = (a = b) := propext beq_iff_eq
theorem znc {a b : Int} : ((a != b) = true) = (a ≠ b) := by simp
theorem k64 {a : Int} (h1 : -9223372036854775808 <= a) (h2 : a <= 9223372036854775807) : z03 .i64 a = a := kw h1 h2
theorem ku64 {a : Int} (h1 : 0 <= a) (h2 : a <= 18446744073709551615) : z03 .u64 a = a := z6p (by simp [z8c]; omega)
theorem ku32 {a : Int} (h1 : 0 <= a) (h2 : a <= 4294967295) : z03 .u32 a = a := z6p (by simp [z8c]; omega)
theorem ku8 {a : Int} (h1 : 0 <= a) (h2 : a <= 255) : z03 .u8 a = a := z6p (by simp [z8c]; omega)
theorem i64w {a : Int} (h1 : -9223372036854775808 <= a) (h2 : a <= 9223372036854775807) : IntKind.wrap .i64 a = a := by rw [<- z6m]; exact k64 h1 h2
theorem u64w {a : Int} (h1 : 0 <= a) (h2 : a <= 18446744073709551615) : IntKind.wrap .u64 a = a := by rw [<- z6m]; exact ku64 h1 h2
theorem u32w {a : Int} (h1 : 0 <= a) (h2 : a <= 4294967295) : IntKind.wrap .u32 a = a := by rw [<- z6m]; exact ku32 h1 h2
theorem u8w {a : Int} (h1 : 0 <= a) (h2 : a <= 255) : IntKind.wrap .u8 a = a := by rw [<- z6m]; exact ku8 h1 h2
theorem idxI {xs : List Int} {j : Int} (h1 : 0 <= j) (h2 : j < (xs.length : Int)) : idx xs j = some (xs.getD j.toNat 0) := by
 unfold idx
 rw [if_neg (by omega), zAb, zAh (by omega)]
 rfl
theorem zop {s : zAd} {j : Int} (h1 : 0 <= j) (h2 : j < (s.size : Int)) : bidx s j = some ((z02 s).getD j.toNat 0) := by
 rw [z8j]; exact idxI h1 (by rw [z00]; exact h2)
theorem lslI {α : Type} {xs : List α} {l h : Int} (h1 : 0 <= l) (h2 : l <= h) (h3 : h <= (xs.length : Int)) : lsl xs l h = some ((xs.drop l.toNat).take (h.toNat - l.toNat)) := by unfold lsl; rw [if_pos ⟨h1, h2, h3⟩]
theorem sslI {s : zAd} {l h : Int} (h1 : 0 <= l) (h2 : l <= h) (h3 : h <= (s.size : Int)) : ssl s l h = some (s.extract l.toNat h.toNat) := by unfold ssl; rw [if_pos ⟨h1, h2, h3⟩]
theorem zpo {a b : Int} (h : 0 <= a) : Int.tdiv a b = a / b := Int.tdiv_eq_ediv_of_nonneg h
theorem zqa {a b : Int} (h : 0 <= a) : Int.tmod a b = a % b := Int.tmod_eq_emod_of_nonneg h
theorem z86 {S R : Type} (l : Nat -> S -> Option R) (I : S -> Prop) (mu : S -> Nat) (Q : R -> Prop)
  (h : ∀ k s, I s -> (∃ r, l (k + 1) s = some r /\ Q r) \/ ∃ s', l (k + 1) s = l k s' /\ mu s' < mu s /\ I s') {k : Nat} (s : S) (hk : mu s < k) (hI : I s) : ∃ r, l k s = some r /\ Q r :=
 zna l I mu Q (fun k s hs => (h k s hs).imp id fun ⟨s', a, b, c⟩ => ⟨s', c, b, a⟩) k s hk hI
theorem z1i {B : Int} (hB : 0 < B) {x : List Int} (h : DigB B x) (k : Nat) : 0 <= x.getD k 0 /\ x.getD k 0 < B := by
 by_cases hk : k < x.length
 ·rw [zAb, zAh hk]; exact h _ (List.getElem_mem hk)
 ·rw [zAb, List.getElem?_eq_none (by omega)]; exact ⟨Int.le_refl _, hB⟩
theorem z63 (B : Int) : ∀ (l : List Int) (p : Nat) (d : Int), p < l.length -> valB B (l.set p d) = valB B l + B ^ p * (d - l.getD p 0)
 | [], p, d, h => by simp at h
 | x :: l, 0, d, _ => by simp [valB]; omega
 | x :: l, p + 1, d, h => by
  have := z63 B l p d (by simpa using h)
  simp only [List.set_cons_succ, valB, this, List.getD_cons_succ, Int.pow_succ]
  grind
theorem DigB.set {B d : Int} {l : List Int} (h : DigB B l) (p : Nat) (hd : 0 <= d /\ d < B) : DigB B (l.set p d) := fun x hx => by
 rcases List.mem_or_eq_of_mem_set hx with h1 | h1
 ·exact h x h1
 ·subst h1; exact hd
theorem DigB.take {B : Int} {l : List Int} (h : DigB B l) (k : Nat) : DigB B (l.take k) := fun x hx => h x (List.mem_of_mem_take hx)
theorem DigB.drop {B : Int} {l : List Int} (h : DigB B l) (k : Nat) : DigB B (l.drop k) := fun x hx => h x (List.mem_of_mem_drop hx)
theorem DigB.snoc {B d : Int} {l : List Int} (h : DigB B l) (hd : 0 <= d /\ d < B) : DigB B (l ++ [d]) := h.app fun x hx => by simp at hx; omega
theorem z7i (B : Int) (l : List Int) (k : Nat) (hk : k <= l.length) : valB B l = valB B (l.take k) + B ^ k * valB B (l.drop k) := by
 conv => lhs; rw [<- List.take_append_drop k l]
 rw [z50, List.length_take, Nat.min_eq_left hk]
theorem z8t (B : Int) (n : Nat) : valB B (List.replicate n 0) = 0 := by
 induction n with
 | zero => rfl
 | succ n ih => simp [List.replicate_succ, valB, ih]
theorem DigB.zeros {B : Int} (hB : 0 < B) (n : Nat) : DigB B (List.replicate n 0) := fun x hx => by
 rw [List.mem_replicate] at hx; omega
theorem z2t (B : Int) (x : List Int) (k : Nat) : valB B (x.take (k + 1)) = valB B (x.take k) + B ^ k * x.getD k 0 := by
 by_cases h : k < x.length
 ·have hx : x[k]? = some x[k] := zAh h
  rw [List.take_add_one, hx, z50, List.length_take, Nat.min_eq_left (by omega), zAb, hx]
  simp [valB]
 ·rw [List.take_of_length_le (by omega), List.take_of_length_le (by omega), zAb, List.getElem?_eq_none (by omega)]
  simp
theorem z6x (B : Int) (x : List Int) (d : Int) : valB B (x ++ [d]) = valB B x + B ^ x.length * d := by rw [z50]; simp [valB]
theorem z8u (l : List Int) (h : l ≠ []) : ∃ r d, l = r ++ [d] := by
 rcases List.eq_nil_or_concat l with rfl | ⟨r, d, rfl⟩
 ·exact absurd rfl h
 ·exact ⟨r, d, by simp⟩
theorem zho {B : Int} (hB : 1 < B) {l : List Int} (h : CanB B l) (h0 : l ≠ []) : B ^ (l.length - 1) <= valB B l := by
 obtain ⟨r, d, rfl⟩ := z8u l h0
 have hd : d ≠ 0 := fun e => h.2 (by simp [e])
 have hd2 := h.1 d (by simp)
 have hr := z0s (B := B) (by omega) r (fun x hx => h.1 x (by simp [hx]))
 have e : (r ++ [d]).length - 1 = r.length := by simp
 rw [z6x, e]
 have h1 : B ^ r.length * 1 <= B ^ r.length * d := Int.mul_le_mul_of_nonneg_left (by omega) (Int.le_of_lt (Int.pow_pos (by omega)))
 omega
theorem zp3 {B : Int} (hB : 1 < B) {l : List Int} (h : DigB B l) (h0 : l ≠ []) (hv : B ^ (l.length - 1) <= valB B l) : CanB B l := by
 refine ⟨h, fun e => ?_⟩
 obtain ⟨r, d, rfl⟩ := z8u l h0
 have hd : d = 0 := by simpa using e
 have hr := z48 (B := B) (by omega) r (fun x hx => h x (by simp [hx]))
 have e : (r ++ [(0 : Int)]).length - 1 = r.length := by simp
 rw [z6x, hd, e] at hv
 omega
theorem z6l {B : Int} (hB : 0 < B) {i j : Nat} (h : i <= j) : B ^ i <= B ^ j := by
 obtain ⟨m, rfl⟩ : ∃ m, j = i + m := ⟨j - i, by omega⟩
 rw [Int.pow_add]
 have p1 : 0 < B ^ m := Int.pow_pos hB
 have p2 : 0 < B ^ i := Int.pow_pos hB
 have := Int.mul_le_mul_of_nonneg_left (show 1 <= B ^ m by omega) (Int.le_of_lt p2)
 omega
theorem zhp {B : Int} (hB : 1 < B) {l m : List Int} (h : DigB B l) (hm : CanB B m) (hl : l.length < m.length) : valB B l < valB B m := by
 have h1 := z48 (B := B) (by omega) l h
 have h2 := zho hB hm (by intro e; subst e; simp at hl)
 have h3 : B ^ l.length <= B ^ (m.length - 1) := by
  obtain ⟨j, hj⟩ : ∃ j, m.length - 1 = l.length + j := ⟨m.length - 1 - l.length, by omega⟩
  rw [hj, Int.pow_add]
  have p1 : 0 < B ^ j := Int.pow_pos (by omega)
  have p2 : 0 < B ^ l.length := Int.pow_pos (by omega)
  have := Int.mul_le_mul_of_nonneg_left (show 1 <= B ^ j by omega) (Int.le_of_lt p2)
  omega
 omega
theorem zd3 {B : Int} (hB : 1 < B) {l m : List Int} (h : CanB B l) (hm : DigB B m) (hv : valB B l <= valB B m) : l.length <= m.length := by
 refine Nat.not_lt.1 fun hl => ?_
 have := zhp hB hm h hl
 omega
theorem z2z {a b c : Int} (hc : 0 <= c) (h : a <= b) : c * a <= c * b := Int.mul_le_mul_of_nonneg_left h hc
theorem z7w {a b : Int} (ha : 0 <= a) (hb : 0 <= b) : 0 <= a * b := Int.mul_nonneg ha hb
structure Kn (B P v1 v2 vl top u3 ul q : Int) : Prop where
 B1 : 1 < B
 P0 : 0 < P
 v1p : 1 <= v1
 v2p : 0 <= v2
 v2b : v2 < B
 vlp : 0 <= vl
 vlb : vl < P
 tp : 0 <= top
 u3p : 0 <= u3
 u3b : u3 < B
 ulp : 0 <= ul
 ulb : ul < P
 q0 : 0 <= q
 qB : q < B
 lo : q * (P * (B * v1 + v2) + vl) <= P * (B * top + u3) + ul
 hi : P * (B * top + u3) + ul < (q + 1) * (P * (B * v1 + v2) + vl)
section
variable {B P v1 v2 vl top u3 ul q g r : Int}
theorem Kn.first (h : Kn B P v1 v2 vl top u3 ul q) : q <= top / v1 := by
 obtain ⟨B1, P0, v1p, v2p, v2b, vlp, vlb, tp, u3p, u3b, ulp, ulb, q0, qB, lo, hi⟩ := h
 rw [Int.le_ediv_iff_mul_le (by omega)]
 refine Int.le_of_lt_add_one (Int.not_le.1 fun hc => ?_)
 have a1 := z2z (Int.le_of_lt (Int.mul_pos P0 (show 0 < B by omega))) hc
 have a2 := z7w (Int.le_of_lt P0) (z7w q0 v2p)
 have a3 := z7w q0 vlp
 have a4 := z2z (Int.le_of_lt P0) (show u3 <= B - 1 by omega)
 grind
theorem Kn.down (h : Kn B P v1 v2 vl top u3 ul q) (hr : top = g * v1 + r) (hg : 0 <= g) (hc : g * v2 > r * B + u3) : q < g := by
 obtain ⟨B1, P0, v1p, v2p, v2b, vlp, vlb, tp, u3p, u3b, ulp, ulb, q0, qB, lo, hi⟩ := h
 refine Int.not_le.1 fun hq => ?_
 have hV : 0 <= P * (B * v1 + v2) + vl := by
  have := z7w (Int.le_of_lt P0) (show 0 <= B * v1 + v2 from by have := z7w (show 0 <= B by omega) (show 0 <= v1 by omega); omega)
  omega
 have a1 := z2z hV hq
 have a2 := z2z (Int.le_of_lt P0) (show r * B + u3 + 1 <= g * v2 by omega)
 have a3 := z7w hg vlp
 subst hr
 grind
theorem Kn.exitA (h : Kn B P v1 v2 vl top u3 ul q) (hr : top = g * v1 + r) (hg : 0 <= g) (hB : g < B) (hc : g * v2 <= r * B + u3) : g <= q + 1 := by
 obtain ⟨B1, P0, v1p, v2p, v2b, vlp, vlb, tp, u3p, u3b, ulp, ulb, q0, qB, lo, hi⟩ := h
 refine Int.not_lt.1 fun hq => ?_
 have hV : 0 <= P * (B * v1 + v2) + vl := by
  have := z7w (Int.le_of_lt P0) (show 0 <= B * v1 + v2 from by have := z7w (show 0 <= B by omega) (show 0 <= v1 by omega); omega)
  omega
 have a1 := z2z hV (show q + 1 <= g - 1 by omega)
 have a2 := z2z (Int.le_of_lt P0) hc
 have a3 := z2z hg (show vl <= P - 1 by omega)
 have a4 := z2z (Int.le_of_lt P0) (show g <= B - 1 by omega)
 have a5 := z2z (Int.le_of_lt (Int.mul_pos P0 (show 0 < B by omega))) v1p
 have a6 := z7w (Int.le_of_lt P0) v2p
 subst hr
 grind
theorem Kn.exitB (h : Kn B P v1 v2 vl top u3 ul q) (hr : top = g * v1 + r) (hg : 0 <= g) (hB : g <= B) (hc : B <= r) : g <= q := by
 obtain ⟨B1, P0, v1p, v2p, v2b, vlp, vlb, tp, u3p, u3b, ulp, ulb, q0, qB, lo, hi⟩ := h
 refine Int.not_lt.1 fun hq => ?_
 have hV : 0 <= P * (B * v1 + v2) + vl := by
  have := z7w (Int.le_of_lt P0) (show 0 <= B * v1 + v2 from by have := z7w (show 0 <= B by omega) (show 0 <= v1 by omega); omega)
  omega
 have a1 := z2z hV (show q + 1 <= g by omega)
 have hPg := z7w (Int.le_of_lt P0) hg
 have a2 := z2z hPg (show v2 <= B - 1 by omega)
 have a3 := z2z hg (show vl <= P - 1 by omega)
 have a4 := z2z (Int.le_of_lt (Int.mul_pos P0 (show 0 < B by omega))) (show g <= r by omega)
 have a6 := z7w (Int.le_of_lt P0) u3p
 subst hr
 grind
end
set_option linter.defProp false in
def runL := And.intro @decide_eq_true_eq (And.intro @if_pos.{1} (And.intro @if_neg.{1} (And.intro @if_true.{1} (And.intro @if_false.{1} (And.intro @z0e (And.intro @znb (And.intro @znc (And.intro @idxI (And.intro @zop (And.intro @sslI (And.intro @lslI (And.intro @k64 (And.intro @ku64 (And.intro @ku32 (And.intro @ku8 (And.intro @i64w (And.intro @u64w (And.intro @u32w (And.intro @u8w (And.intro @zpo (And.intro @zqa (And.intro @tu0a (And.intro @tu1a (And.intro @tu2a (And.intro @tu3a (And.intro @tu4a (And.intro @tu5a (And.intro @lta (And.intro @zhm (And.intro @zhn (And.intro @zq8 (And.intro @zq9 (And.intro @Int.toNat_natCast (And.intro @List.length_cons.{0} (And.intro @List.length_nil.{0} (And.intro @List.length_set.{0} (And.intro @Int.toNat_zero (@List.replicate_zero.{0}))))))))))))))))))))))))))))))))))))))
end Go.Am
/- Plain law: the program's numbers: digits in the base 10^9. -/
namespace Go.Am.Tryz
open Go Go.Am Go.Proofs
variable {K : Nat}
def NumN (n : Int) (l : List Int) : Prop := CanB 1000000000 l /\ valB 1000000000 l = n
theorem NumN.inj {n : Int} {l m : List Int} (h : NumN n l) (k : NumN n m) : l = m := zlx (B := 1000000000) (by omega) l m h.1 k.1 (h.2.trans k.2.symm)
theorem NumN.nonneg {n : Int} {l : List Int} (h : NumN n l) : 0 <= n := by rw [<- h.2]; exact z0s (by omega) l h.1.1
theorem NumN.nil : NumN 0 [] := ⟨⟨DigB.nil _, by simp⟩, rfl⟩
theorem NumN.pos {n : Int} {l : List Int} (h : NumN n l) (h0 : l ≠ []) : 0 < n := by rw [<- h.2]; exact zad (by omega) l h.1 h0
theorem NumN.nil_iff {n : Int} {l : List Int} (h : NumN n l) : l = [] ↔ n = 0 := by
 constructor
 ·rintro rfl; exact h.2.symm
 ·intro e; by_cases h0 : l = []
  ·exact h0
  ·have := h.pos h0; omega
theorem NumN.len0 {n : Int} {l : List Int} (h : NumN n l) : l.length = 0 ↔ n = 0 := by rw [<- h.nil_iff, List.length_eq_zero_iff]
theorem NumN.one {n : Int} (h : 0 < n) (h2 : n < 1000000000) : NumN n [n] := ⟨⟨fun d hd => by simp at hd; omega, by simp; omega⟩, by simp [valB]⟩
theorem zjo {B : Int} : ∀ n k (l : List Int), l.length = n -> n <= 8000000 -> n < k -> DigB B l -> ∃ t, z28 K k l = some t /\ CanB B t /\ valB B t = valB B l /\ t.length <= l.length := by
 intro n
 induction n with
 | zero =>
  intro k l hl _ hk hd
  obtain ⟨k, rfl⟩ : ∃ m, k = m + 1 := ⟨k - 1, by omega⟩
  have : l = [] := List.length_eq_zero_iff.1 hl
  subst this
  exact ⟨[], by rw [z28]; simp [tu1], ⟨hd, by simp⟩, rfl, Nat.le_refl _⟩
 | succ n ih =>
  intro k l hl hb hk hd
  obtain ⟨k, rfl⟩ : ∃ m, k = m + 1 := ⟨k - 1, by omega⟩
  obtain ⟨r, d, rfl⟩ : ∃ r d, l = r ++ [d] := z8u l (by intro e; subst e; simp at hl)
  have hr : r.length = n := by simpa using hl
  have e1 : z03 .i64 (((r ++ [d]).length : Int) - 1) = (n : Int) := by rw [hl, kw (by omega) (by omega)]; omega
  have e2 : idx (r ++ [d]) (n : Int) = some d := z53 (by simp [<- hr])
  have e3 : lsl (r ++ [d]) 0 (n : Int) = some r := by
   unfold lsl
   rw [if_pos (by rw [hl]; omega)]
   simp [<- hr]
  have e4 : ((r ++ [d]).length : Int) > 0 := by rw [hl]; omega
  have dr : DigB B r := fun x hx => hd x (by simp [hx])
  rw [z28, e1, e2, e3, decide_eq_true e4]
  by_cases h0 : d = 0
  ·obtain ⟨t, h1, h2, h3, h4⟩ := ih k r hr (by omega) (by omega) dr
   refine ⟨t, by simp [h0, tu1, h1], h2, ?_, by simp; omega⟩
   rw [h3, z50, h0]; simp [valB]
  ·exact ⟨r ++ [d], by simp [h0, tu1], ⟨hd, by simpa using h0⟩, rfl, Nat.le_refl _⟩
theorem zaf {B : Int} {l : List Int} (hl : l.length <= 8000000) (hK : 2000000000 < K) (hd : DigB B l) : ∃ t, z1j K l = some t /\ CanB B t /\ valB B t = valB B l /\ t.length <= l.length := by
 obtain ⟨t, h1, h2⟩ := zjo (K := K) l.length K l rfl hl (by omega) hd
 exact ⟨t, by unfold z1j; rw [h1]; rfl, h2⟩
theorem zjp {x y : List Int} (hlen : y.length <= x.length) (hx : x.length <= 4000000) (hK : 2000000000 < K) (dx : DigB 1000000000 x) (dy : DigB 1000000000 y) :
  ∃ r : List Int × Int, z1r K x y K [] 0 0 = some r /\ r.1.length = x.length /\ DigB 1000000000 r.1 /\ (0 <= r.2 /\ r.2 <= 1) /\ valB 1000000000 r.1 + 1000000000 ^ x.length * r.2 = valB 1000000000 x + valB 1000000000 y := by
 refine z86 (fun k (s : List Int × Int × Int) => z1r K x y k s.1 s.2.1 s.2.2) (fun s => ∃ i : Nat, s.2.2 = i /\ i <= x.length /\ s.1.length = i /\ DigB 1000000000 s.1 /\ (0 <= s.2.1 /\ s.2.1 <= 1) /\ valB 1000000000 s.1 + 1000000000 ^ i * s.2.1 = valB 1000000000 (x.take i) + valB 1000000000 (y.take i)) (fun s => x.length - s.1.length) _ ?_ (([], 0, 0) : List Int × Int × Int) (by simp; omega) ⟨0, rfl, by omega, rfl, DigB.nil _, ⟨by simp, by simp⟩, by simp [valB]⟩
 rintro k ⟨out, c, _⟩ ⟨i, rfl, h0, h1, h2, h3, h4⟩
 dsimp only at h1 h2 h3 h4 ⊢
 by_cases hi : i < x.length
 ·right
  have ex := z1i (by omega) dx i
  have ey := z1i (by omega) dy i
  have tx := z2t 1000000000 x i
  have ty := z2t 1000000000 y i
  have hy : ¬ i < y.length -> y.getD i 0 = 0 := fun h => by rw [zAb, List.getElem?_eq_none (by omega)]; rfl
  refine ⟨(out ++ [(x.getD i 0 + c + y.getD i 0) % 1000000000], (x.getD i 0 + c + y.getD i 0) / 1000000000, (i : Int) + 1), ?_, by simp; omega, i + 1, rfl, by omega, by simp [h1], h2.snoc (by omega), by dsimp only; omega, ?_⟩
  ·rw [z1r]
   by_cases h : i < y.length
   ·simp (discharger := omega) only [runL]
   ·have e := hy h
    simp (discharger := omega) only [runL, e, Int.add_zero]
  ·have hm := Int.emod_add_mul_ediv (x.getD i 0 + c + y.getD i 0) 1000000000
   dsimp only
   rw [z6x, h1, tx, ty, Int.pow_succ]
   grind
 ·left
  refine ⟨(out, c), ?_, by dsimp only; omega, h2, h3, ?_⟩
  ·rw [z1r]; simp [hi]
  ·have : i = x.length := by omega
   subst this
   rwa [List.take_of_length_le (Nat.le_refl _), List.take_of_length_le hlen] at h4
theorem zhq {x y : List Int} {a b : Int} (hlen : y.length <= x.length) (hx : x.length <= 4000000) (hK : 2000000000 < K) (nx : NumN a x) (ny : NumN b y) :
  ∃ r : List Int × Int, z1r K x y K [] 0 0 = some r /\ r.1.length = x.length /\ NumN (a + b) (if r.2 > 0 then r.1 ++ [r.2] else r.1) := by
 obtain ⟨⟨r, c⟩, h1, h2, h3, h4, h5⟩ := zjp hlen hx hK nx.1.1 ny.1.1
 dsimp only at h2 h3 h4 h5
 rw [nx.2, ny.2] at h5
 refine ⟨_, h1, h2, ?_⟩
 dsimp only
 by_cases hc : c > 0
 ·rw [if_pos hc]
  have e : c = 1 := by omega
  subst e
  refine ⟨⟨h3.snoc (by omega), by simp⟩, ?_⟩
  rw [z6x, h2]
  exact h5
 ·rw [if_neg hc]
  have e : c = 0 := by omega
  subst e
  rw [Int.mul_zero, Int.add_zero] at h5
  refine ⟨?_, h5⟩
  by_cases h0 : r = []
  ·subst h0; exact ⟨h3, by simp⟩
  ·refine zp3 (by omega) h3 h0 ?_
   have h6 := zho (B := 1000000000) (by omega) nx.1 (by rintro rfl; exact h0 (List.length_eq_zero_iff.1 h2))
   have h7 := ny.nonneg
   rw [nx.2] at h6
   rw [h2, h5]
   omega
theorem znd {x y : List Int} {a b : Int} (hx : x.length <= 4000000) (hy : y.length <= 4000000) (hK : 2000000000 < K) (nx : NumN a x) (ny : NumN b y) : ∃ z, z6b K x y = some z /\ NumN (a + b) z /\ z.length <= max x.length y.length + 1 := by
 unfold z6b
 by_cases h : x.length < y.length
 ·obtain ⟨⟨r, c⟩, h1, h2, h3⟩ := zhq (K := K) (x := y) (y := x) (by omega) hy (by omega) ny nx
  dsimp only at h2 h3
  rw [Int.add_comm b a] at h3
  by_cases hc : c > 0
  ·rw [if_pos hc] at h3
   exact ⟨r ++ [c], by simp (discharger := omega) only [runL, h1], h3, by simp; omega⟩
  ·rw [if_neg hc] at h3
   exact ⟨r, by simp (discharger := omega) only [runL, h1], h3, by omega⟩
 ·obtain ⟨⟨r, c⟩, h1, h2, h3⟩ := zhq (K := K) (x := x) (y := y) (by omega) hx (by omega) nx ny
  dsimp only at h2 h3
  by_cases hc : c > 0
  ·rw [if_pos hc] at h3
   exact ⟨r ++ [c], by simp (discharger := omega) only [runL, h1], h3, by simp; omega⟩
  ·rw [if_neg hc] at h3
   exact ⟨r, by simp (discharger := omega) only [runL, h1], h3, by omega⟩
theorem zjq {x y : List Int} (hx : x.length <= 4000000) (hK : 2000000000 < K) (dx : DigB 1000000000 x) (dy : DigB 1000000000 y) :
  ∃ r : List Int, z1s K x y K (List.replicate x.length 0) 0 0 = some r /\ r.length = x.length /\ DigB 1000000000 r /\ ∃ c : Int, (0 <= c /\ c <= 1) /\ valB 1000000000 r + valB 1000000000 (y.take x.length) = valB 1000000000 x + 1000000000 ^ x.length * c := by
 refine z86 (fun k (s : List Int × Int × Int) => z1s K x y k s.1 s.2.1 s.2.2) (fun s => ∃ i : Nat, s.2.2 = i /\ i <= x.length /\ s.1.length = x.length /\ DigB 1000000000 s.1 /\ (∀ j, i <= j -> s.1.getD j 0 = 0) /\ (0 <= s.2.1 /\ s.2.1 <= 1) /\ valB 1000000000 s.1 + valB 1000000000 (y.take i) = valB 1000000000 (x.take i) + 1000000000 ^ i * s.2.1) (fun s => (x.length - s.2.2 : Int).toNat) _ ?_ ((List.replicate x.length 0, 0, 0) : List Int × Int × Int) (by simp; omega) ⟨0, rfl, by omega, by simp, .zeros (by omega) _, fun j _ => by simp [zAb, List.getElem?_replicate]; split <;> rfl, ⟨by simp, by simp⟩, by simp [valB, z8t]⟩
 rintro k ⟨out, c, _⟩ ⟨i, rfl, h0, h1, h2, hz, h3, h4⟩
 dsimp only at h1 h2 h3 h4 hz ⊢
 by_cases hi : i < x.length
 ·right
  have ex := z1i (by omega) dx i
  have ey := z1i (by omega) dy i
  have tx := z2t 1000000000 x i
  have ty := z2t 1000000000 y i
  have hy : ¬ i < y.length -> y.getD i 0 = 0 := fun h => by rw [zAb, List.getElem?_eq_none (by omega)]; rfl
  have hset := fun d => z63 1000000000 out i d (by omega)
  have hgs := fun d j => z6w (cs := out) (i := i) (j := j) (v := d) (by omega)
  have hz0 := hz i (Nat.le_refl _)
  by_cases hn : x.getD i 0 - c - y.getD i 0 < 0
  ·refine ⟨(out.set i (x.getD i 0 - c - y.getD i 0 + 1000000000), 1, (i : Int) + 1), ?_, by dsimp only; omega, i + 1, rfl, by omega, by simp [h1], h2.set _ (by omega), fun j hj => by rw [hgs, if_neg (by omega)]; exact hz j (by omega), by simp, ?_⟩
   ·rw [z1s]
    by_cases h : i < y.length
    ·simp (discharger := omega) only [runL]
    ·have e := hy h
     rw [e, Int.sub_zero] at hn
     simp (discharger := omega) only [runL, e, Int.sub_zero]
   ·dsimp only
    rw [hset, hz0, tx, ty, Int.pow_succ]
    grind
  ·refine ⟨(out.set i (x.getD i 0 - c - y.getD i 0), 0, (i : Int) + 1), ?_, by dsimp only; omega, i + 1, rfl, by omega, by simp [h1], h2.set _ (by omega), fun j hj => by rw [hgs, if_neg (by omega)]; exact hz j (by omega), by simp, ?_⟩
   ·rw [z1s]
    by_cases h : i < y.length
    ·simp (discharger := omega) only [runL]
    ·have e := hy h
     rw [e, Int.sub_zero] at hn
     simp (discharger := omega) only [runL, e, Int.sub_zero]
   ·dsimp only
    rw [hset, hz0, tx, ty, Int.pow_succ]
    grind
 ·left
  have : i = x.length := by omega
  subst this
  rw [List.take_of_length_le (i := x.length) (l := x) (Nat.le_refl _)] at h4
  exact ⟨out, by rw [z1s]; simp (discharger := omega) only [runL], h1, h2, c, h3, h4⟩
theorem zks {x y : List Int} {a b : Int} (hx : x.length <= 4000000) (hK : 2000000000 < K) (nx : NumN a x) (ny : NumN b y) (hab : b <= a) : ∃ z, z5d K x y = some z /\ NumN (a - b) z /\ z.length <= x.length := by
 obtain ⟨r, h1, h2, h3, c, h4, h5⟩ := zjq hx hK nx.1.1 ny.1.1
 have hl : y.length <= x.length := zd3 (B := 1000000000) (by omega) ny.1 nx.1.1 (by rw [nx.2, ny.2]; exact hab)
 rw [List.take_of_length_le hl, nx.2, ny.2] at h5
 have hv := z48 (B := 1000000000) (by omega) r h3
 rw [h2] at hv
 have hc : c = 0 := by
  by_cases e : c = 0
  ·exact e
  ·have : c = 1 := by omega
   subst this; omega
 subst hc
 obtain ⟨t, t1, t2, t3, t4⟩ := zaf (K := K) (B := 1000000000) (l := r) (by omega) hK h3
 refine ⟨t, ?_, ⟨t2, by rw [t3]; omega⟩, by omega⟩
 unfold z5d
 simp (discharger := omega) only [runL, h1, t1]
theorem zjr {x y : List Int} (hl : x.length = y.length) (hx : x.length <= 4000000) (hK : 2000000000 < K) (dx : DigB 1000000000 x) (dy : DigB 1000000000 y) :
  ∃ r : Int ⊕ Unit, z1f K x y K ((x.length : Int) - 1) = some r /\ r = (if valB 1000000000 x < valB 1000000000 y then .inl (-1) else if valB 1000000000 x = valB 1000000000 y then .inr () else .inl 1) := by
 have hdrop : ∀ (l : List Int) j, valB 1000000000 (l.drop j) = l.getD j 0 + 1000000000 * valB 1000000000 (l.drop (j + 1)) := fun l j => by
  by_cases h : j < l.length
  ·rw [List.drop_eq_getElem_cons h, zAb, zAh h]; rfl
  ·rw [List.drop_eq_nil_of_le (by omega), List.drop_eq_nil_of_le (by omega), zAb, List.getElem?_eq_none (by omega)]; rfl
 refine z86 (fun k (s : Int) => z1f K x y k s) (fun s => ∃ j : Nat, s = (j : Int) - 1 /\ j <= x.length /\ valB 1000000000 (x.drop j) = valB 1000000000 (y.drop j)) (fun s => (s + 1).toNat) _ ?_ ((x.length : Int) - 1) (by omega) ⟨x.length, rfl, Nat.le_refl _, by rw [List.drop_eq_nil_of_le (Nat.le_refl _), List.drop_eq_nil_of_le (by omega)]⟩
 rintro k _ ⟨j, rfl, hj, he⟩
 by_cases h0 : j = 0
 ·subst h0
  left
  rw [List.drop_zero, List.drop_zero] at he
  rw [z1f]
  refine ⟨.inr (), by simp (discharger := omega) only [runL], ?_⟩
  rw [if_neg (by omega), if_pos he]
 ·obtain ⟨i, rfl⟩ : ∃ i, j = i + 1 := ⟨j - 1, by omega⟩
  have e1 : ((i + 1 : Nat) : Int) - 1 = i := by omega
  rw [e1]
  have ex := z1i (by omega) dx i
  have ey := z1i (by omega) dy i
  have sx := z7i 1000000000 x i (by omega)
  have sy := z7i 1000000000 y i (by omega)
  have ax := hdrop x i
  have ay := hdrop y i
  have bx := z48 (B := 1000000000) (by omega) _ (dx.take i)
  have by' := z48 (B := 1000000000) (by omega) _ (dy.take i)
  have cx := z0s (B := 1000000000) (by omega) _ (dx.take i)
  have cy := z0s (B := 1000000000) (by omega) _ (dy.take i)
  rw [List.length_take, Nat.min_eq_left (by omega)] at bx by'
  have p0 : 0 < (1000000000 : Int) ^ i := Int.pow_pos (by omega)
  rw [ax, he] at sx
  rw [ay] at sy
  by_cases h1 : x.getD i 0 < y.getD i 0
  ·left
   refine ⟨.inl (-1), by rw [z1f]; simp (discharger := omega) only [runL], ?_⟩
   have := z2z (Int.le_of_lt p0) (show x.getD i 0 + 1 <= y.getD i 0 by omega)
   rw [if_pos (by grind)]
  ·by_cases h2 : x.getD i 0 > y.getD i 0
   ·left
    refine ⟨.inl 1, by rw [z1f]; simp (discharger := omega) only [runL], ?_⟩
    have := z2z (Int.le_of_lt p0) (show y.getD i 0 + 1 <= x.getD i 0 by omega)
    rw [if_neg (by grind), if_neg (by grind)]
   ·right
    refine ⟨(i : Int) - 1, by rw [z1f]; simp (discharger := omega) only [runL], by omega, i, rfl, by omega, ?_⟩
    rw [ax, ay, he]
    omega
theorem zew {x y : List Int} {a b : Int} (hx : x.length <= 4000000) (hy : y.length <= 4000000) (hK : 2000000000 < K) (nx : NumN a x) (ny : NumN b y) : z3s K x y = some (if a < b then -1 else if a = b then 0 else 1) := by
 unfold z3s
 by_cases h : x.length = y.length
 ·obtain ⟨r, h1, h2⟩ := zjr (K := K) h hx hK nx.1.1 ny.1.1
  rw [nx.2, ny.2] at h2
  have e : ((x.length : Int) != (y.length : Int)) = false := by simp; omega
  rw [e]
  rw [k64 (by omega) (by omega), h1, h2]
  simp only [Bool.false_eq_true, if_false, zbs, Option.bind_some]
  by_cases c1 : a < b
  ·simp [c1, tu1]
  ·by_cases c2 : a = b
   ·subst c2; simp [tu0]
   ·simp [c1, c2, tu1]
 ·have e : ((x.length : Int) != (y.length : Int)) = true := by simp; omega
  rw [e, if_pos rfl]
  by_cases h1 : x.length < y.length
  ·have := zhp (B := 1000000000) (by omega) nx.1.1 ny.1 h1
   rw [nx.2, ny.2] at this
   simp (discharger := omega) only [runL]
  ·have := zhp (B := 1000000000) (by omega) ny.1.1 nx.1 (by omega)
   rw [nx.2, ny.2] at this
   simp (discharger := omega) only [runL]
end Go.Am.Tryz
/- Plain law: products of the program's numbers; division by one digit. -/
namespace Go.Am.Tryz
open Go Go.Am Go.Proofs
variable {K : Nat}
theorem zkt {a b : Int} (ha : 0 <= a /\ a < 1000000000) (hb : 0 <= b /\ b < 1000000000) : 0 <= a * b /\ a * b <= 999999998000000001 := by
 refine ⟨Int.mul_nonneg ha.1 hb.1, ?_⟩
 have h1 := z2z ha.1 (show b <= 999999999 by omega)
 omega
theorem zne {y out : List Int} {u : Int} {i : Nat} (hl : i + y.length <= out.length) (ho : out.length <= 8000000) (hK : 2000000000 < K) (hu : 0 <= u /\ u < 1000000000) (dy : DigB 1000000000 y) (d0 : DigB 1000000000 out) :
  ∃ r : List Int × Int, z24 K y (i : Int) u K out 0 0 = some r /\ r.1.length = out.length /\ DigB 1000000000 r.1 /\ (0 <= r.2 /\ r.2 < 1000000000) /\ (∀ j, i + y.length <= j -> r.1.getD j 0 = out.getD j 0) ∧
   valB 1000000000 r.1 + 1000000000 ^ (i + y.length) * r.2 = valB 1000000000 out + 1000000000 ^ i * (u * valB 1000000000 y) := by
 refine z86 (fun k (s : List Int × Int × Int) => z24 K y (i : Int) u k s.1 s.2.1 s.2.2) (fun s => ∃ q : Nat, s.2.2 = q /\ q <= y.length /\ s.1.length = out.length /\ DigB 1000000000 s.1 /\ (0 <= s.2.1 /\ s.2.1 < 1000000000) /\ (∀ j, i + q <= j -> s.1.getD j 0 = out.getD j 0) ∧
   valB 1000000000 s.1 + 1000000000 ^ (i + q) * s.2.1 = valB 1000000000 out + 1000000000 ^ i * (u * valB 1000000000 (y.take q))) (fun s => (y.length - s.2.2 : Int).toNat) _ ?_ ((out, 0, 0) : List Int × Int × Int) (by simp; omega) ⟨0, rfl, by omega, rfl, d0, by simp, fun _ _ => rfl, by simp [valB]⟩
 rintro k ⟨o, c, _⟩ ⟨q, rfl, h0, h1, h2, h3, hz, h4⟩
 dsimp only at h1 h2 h3 h4 hz ⊢
 by_cases hq : q < y.length
 ·right
  have ey := z1i (by omega) dy q
  have eo := z1i (by omega) h2 (i + q)
  have ty := z2t 1000000000 y q
  have hm := zkt hu ey
  have hset := fun d => z63 1000000000 o (i + q) d (by omega)
  have hgs := fun d j => z6w (cs := o) (i := i + q) (j := j) (v := d) (by omega)
  have e1 : ((i : Int) + (q : Int)) = ((i + q : Nat) : Int) := by omega
  generalize hw : u * y.getD q 0 = w at hm
  generalize ho : o.getD (i + q) 0 = z at eo hset
  have hdm := Int.emod_add_mul_ediv (w + z + c) 1000000000
  refine ⟨(o.set (i + q) ((w + z + c) % 1000000000), (w + z + c) / 1000000000, (q : Int) + 1), ?_, by dsimp only; omega, q + 1, rfl, by omega, by simp [h1], h2.set _ (by omega), by dsimp only; omega, fun j hj => by rw [hgs, if_neg (by omega)]; exact hz j (by omega), ?_⟩
  ·rw [z24]
   simp (discharger := omega) only [runL, e1, hw, ho]
  ·dsimp only
   rw [hset, ty]
   have e2 : (1000000000 : Int) ^ (i + (q + 1)) = 1000000000 ^ i * 1000000000 ^ q * 1000000000 := by rw [<- Nat.add_assoc, Int.pow_succ, Int.pow_add]
   rw [e2]
   rw [Int.pow_add] at h4 ⊢
   subst hw
   generalize (u * y.getD q 0 + z + c) / 1000000000 = Q at *
   generalize (u * y.getD q 0 + z + c) % 1000000000 = R at *
   grind
 ·left
  have : q = y.length := by omega
  subst this
  rw [List.take_of_length_le (Nat.le_refl _)] at h4
  exact ⟨(o, c), by rw [z24]; simp (discharger := omega) only [runL], h1, h2, h3, hz, h4⟩
theorem zjs {x y : List Int} (hl : x.length + y.length <= 8000000) (hK : 2000000000 < K) (dx : DigB 1000000000 x) (dy : DigB 1000000000 y) :
  ∃ r : List Int, z25 K x y K (List.replicate (x.length + y.length) 0) 0 = some r /\ r.length = x.length + y.length /\ DigB 1000000000 r /\ valB 1000000000 r = valB 1000000000 x * valB 1000000000 y := by
 refine z86 (fun k (s : List Int × Int) => z25 K x y k s.1 s.2) (fun s => ∃ i : Nat, s.2 = i /\ i <= x.length /\ s.1.length = x.length + y.length /\ DigB 1000000000 s.1 /\ (∀ j, i + y.length <= j -> s.1.getD j 0 = 0) /\ valB 1000000000 s.1 = valB 1000000000 (x.take i) * valB 1000000000 y) (fun s => (x.length - s.2 : Int).toNat) _ ?_ ((List.replicate (x.length + y.length) 0, 0) : List Int × Int) (by simp; omega) ⟨0, rfl, by omega, by simp, .zeros (by omega) _, fun j _ => by simp [zAb, List.getElem?_replicate]; split <;> rfl, by simp [valB, z8t]⟩
 rintro k ⟨out, _⟩ ⟨i, rfl, h0, h1, h2, hz, h4⟩
 dsimp only at h1 h2 h4 hz ⊢
 by_cases hi : i < x.length
 ·right
  have ex := z1i (by omega) dx i
  have tx := z2t 1000000000 x i
  obtain ⟨⟨r, c⟩, r1, r2, r3, r4, r5, r6⟩ := zne (K := K) (y := y) (out := out) (u := x.getD i 0) (i := i) (by omega) (by omega) hK ex dy h2
  dsimp only at r2 r3 r4 r5 r6
  have hz0 := r5 (i + y.length) (Nat.le_refl _)
  rw [hz _ (Nat.le_refl _)] at hz0
  have hset := z63 1000000000 r (i + y.length) c (by omega)
  have hgs := fun d j => z6w (cs := r) (i := i + y.length) (j := j) (v := d) (by omega)
  have e1 : ((i : Int) + (y.length : Int)) = ((i + y.length : Nat) : Int) := by omega
  refine ⟨(r.set (i + y.length) c, (i : Int) + 1), ?_, by dsimp only; omega, i + 1, rfl, by omega, by simp [r2, h1], r3.set _ r4, fun j hj => by rw [hgs, if_neg (by omega), r5 j (by omega)]; exact hz j (by omega), ?_⟩
  ·rw [z25]
   simp (discharger := omega) only [runL, r1, e1]
  ·dsimp only
   rw [hset, hz0, tx]
   grind
 ·left
  have : i = x.length := by omega
  subst this
  rw [List.take_of_length_le (Nat.le_refl _)] at h4
  exact ⟨out, by rw [z25]; simp (discharger := omega) only [runL], h1, h2, h4⟩
theorem z8v {x y : List Int} {a b : Int} (hl : x.length + y.length <= 8000000) (hK : 2000000000 < K) (nx : NumN a x) (ny : NumN b y) : ∃ z, z20 K x y = some z /\ NumN (a * b) z /\ z.length <= x.length + y.length := by
 obtain ⟨r, h1, h2, h3, h4⟩ := zjs hl hK nx.1.1 ny.1.1
 rw [nx.2, ny.2] at h4
 obtain ⟨t, t1, t2, t3, t4⟩ := zaf (K := K) (B := 1000000000) (l := r) (by omega) hK h3
 refine ⟨t, ?_, ⟨t2, by rw [t3, h4]⟩, by omega⟩
 unfold z20
 have e1 : ((x.length : Int) + (y.length : Int)) = ((x.length + y.length : Nat) : Int) := by omega
 simp (discharger := omega) only [runL, h1, t1, e1]
theorem zdw (l : List Int) (j : Nat) : valB 1000000000 (l.drop j) = l.getD j 0 + 1000000000 * valB 1000000000 (l.drop (j + 1)) := by
 by_cases h : j < l.length
 ·rw [List.drop_eq_getElem_cons h, zAb, zAh h]; rfl
 ·rw [List.drop_eq_nil_of_le (by omega), List.drop_eq_nil_of_le (by omega), zAb, List.getElem?_eq_none (by omega)]; rfl
theorem zfo {x : List Int} {d : Int} (hl : x.length <= 8000000) (hK : 2000000000 < K) (dx : DigB 1000000000 x) (hd : 1 <= d /\ d <= 1000000000) :
  ∃ r : List Int × Int, z1h K x d K (List.replicate x.length 0) 0 ((x.length : Int) - 1) = some r /\ r.1.length = x.length /\ DigB 1000000000 r.1 /\ (0 <= r.2 /\ r.2 < d) /\ valB 1000000000 x = d * valB 1000000000 r.1 + r.2 := by
 refine z86 (fun k (s : List Int × Int × Int) => z1h K x d k s.1 s.2.1 s.2.2) (fun s => ∃ j : Nat, s.2.2 = (j : Int) - 1 /\ j <= x.length /\ s.1.length = x.length /\ DigB 1000000000 s.1 /\ (0 <= s.2.1 /\ s.2.1 < d) /\ valB 1000000000 (x.drop j) = d * valB 1000000000 (s.1.drop j) + s.2.1) (fun s => (s.2.2 + 1).toNat) _ ?_ ((List.replicate x.length 0, 0, (x.length : Int) - 1) : List Int × Int × Int) (by dsimp only; omega) ⟨x.length, rfl, Nat.le_refl _, by simp, .zeros (by omega) _, by dsimp only; omega, by simp [valB]⟩
 rintro k ⟨out, c, _⟩ ⟨j, rfl, hj, h1, h2, h3, h4⟩
 dsimp only at h1 h2 h3 h4 ⊢
 by_cases h0 : j = 0
 ·left
  subst h0
  rw [List.drop_zero, List.drop_zero] at h4
  exact ⟨(out, c), by rw [z1h]; simp (discharger := omega) only [runL], h1, h2, h3, h4⟩
 ·right
  obtain ⟨i, rfl⟩ : ∃ i, j = i + 1 := ⟨j - 1, by omega⟩
  have e1 : ((i + 1 : Nat) : Int) - 1 = i := by omega
  rw [e1]
  have ex := z1i (by omega) dx i
  have ax := zdw x i
  generalize hu : x.getD i 0 = u at ex ax
  have hq0 : 0 <= (c * 1000000000 + u) / d := Int.ediv_nonneg (by omega) (by omega)
  have hqB : (c * 1000000000 + u) / d < 1000000000 := Int.ediv_lt_of_lt_mul (by omega) (by omega)
  have hr0 : 0 <= (c * 1000000000 + u) % d := Int.emod_nonneg _ (by omega)
  have hrd : (c * 1000000000 + u) % d < d := Int.emod_lt_of_pos _ (by omega)
  have hdm := Int.emod_add_mul_ediv (c * 1000000000 + u) d
  refine ⟨(out.set i ((c * 1000000000 + u) / d), (c * 1000000000 + u) % d, (i : Int) - 1), ?_, by dsimp only; omega, i, rfl, by omega, by simp [h1], h2.set _ ⟨hq0, hqB⟩, ⟨hr0, hrd⟩, ?_⟩
  ·rw [z1h]
   have hd' : d ≠ 0 := by omega
   simp (discharger := omega) only [runL, hu]
  ·dsimp only
   rw [zdw (out.set i _) i, List.drop_set_of_lt (by omega), z6w (by omega), if_pos rfl, ax, h4]
   generalize (c * 1000000000 + u) / d = Q at *
   generalize (c * 1000000000 + u) % d = R at *
   grind
theorem zjt {d : Int} (hd : 0 <= d /\ d < 1000000000) (hK : 2000000000 < K) : ∃ z, z1j K [d] = some z /\ NumN d z /\ z.length <= 1 := by
 obtain ⟨t, t1, t2, t3, t4⟩ := zaf (K := K) (B := 1000000000) (l := [d]) (by simp) hK (fun x hx => by simp at hx; omega)
 exact ⟨t, t1, ⟨t2, by rw [t3]; simp [valB]⟩, by simpa using t4⟩
theorem zag {n d q r : Int} (hd : 0 < d) (h : n = d * q + r) (h0 : 0 <= r) (h1 : r < d) : q = n / d /\ r = n % d := by
 have e1 : n / d = q := by
  rw [h, Int.add_comm, Int.add_mul_ediv_left _ _ (by omega), Int.ediv_eq_zero_of_lt h0 h1]; omega
 refine ⟨e1.symm, ?_⟩
 have := Int.emod_add_mul_ediv n d
 rw [e1] at this
 omega
theorem zex {x : List Int} {a d : Int} (hl : x.length <= 8000000) (hK : 2000000000 < K) (nx : NumN a x) (hd : 1 <= d /\ d <= 1000000000) : ∃ q r, z3t K x d = some (q, r) /\ NumN (a / d) q /\ NumN (a % d) r /\ q.length <= x.length /\ r.length <= 1 := by
 obtain ⟨⟨o, c⟩, h1, h2, h3, h4, h5⟩ := zfo hl hK nx.1.1 hd
 dsimp only at h2 h3 h4 h5
 rw [nx.2] at h5
 obtain ⟨e1, e2⟩ := zag (by omega) h5 h4.1 h4.2
 obtain ⟨t, t1, t2, t3, t4⟩ := zaf (K := K) (B := 1000000000) (l := o) (by omega) hK h3
 obtain ⟨z, z1, z2, z3⟩ := zjt (K := K) (d := c) (by omega) hK
 refine ⟨t, z, ?_, ⟨t2, by rw [t3, e1]⟩, by rw [<- e2]; exact z2, by omega, z3⟩
 unfold z3t
 simp (discharger := omega) only [runL, h1, t1, z1]
end Go.Am.Tryz
/- Plain law: texts and the program's numbers: Read and Text. -/
namespace Go.Am.Tryz
open Go Go.Am Go.Proofs
variable {K : Nat}
def numB (l : List Int) : Int := valB 10 ((l.map (· - 48)).reverse)
theorem zc4 (s : zAd) : numT s = numB (z02 s) := rfl
theorem z87 : numB [] = 0 := rfl
theorem z9u (l : List Int) (c : Int) : numB (l ++ [c]) = numB l * 10 + (c - 48) := by
 unfold numB
 simp [valB]
 omega
theorem zdx (l m : List Int) : numB (l ++ m) = numB m + 10 ^ m.length * numB l := by
 unfold numB
 rw [List.map_append, List.reverse_append, z50]
 simp
theorem z9v (c : Int) (l : List Int) : numB (c :: l) = numB l + 10 ^ l.length * (c - 48) := by
 have := zdx [c] l
 simpa [numB, valB] using this
theorem zhr {l : List Int} (h : l.all digT = true) : DigB 10 ((l.map (· - 48)).reverse) := by
 intro d hd
 rw [List.mem_reverse, List.mem_map] at hd
 obtain ⟨c, hc, rfl⟩ := hd
 have := List.all_eq_true.1 h c hc
 simp only [digT, Bool.and_eq_true, decide_eq_true_eq] at this
 omega
theorem z5e {l : List Int} (h : l.all digT = true) : 0 <= numB l := z0s (by omega) _ (zhr h)
theorem zb4 {l : List Int} (h : l.all digT = true) : numB l < 10 ^ l.length := by
 have := z48 (B := 10) (by omega) _ (zhr h)
 simpa [numB] using this
theorem digT_iff {c : Int} : digT c = true ↔ 48 <= c /\ c <= 57 := by simp [digT]
theorem zah {l : List Int} (h : l.all digT = true) (k : Nat) : (l.take k).all digT = true := List.all_eq_true.2 fun x hx => List.all_eq_true.1 h x (List.mem_of_mem_take hx)
theorem zly {l : List Int} (h : l.all digT = true) (k : Nat) : (l.drop k).all digT = true := List.all_eq_true.2 fun x hx => List.all_eq_true.1 h x (List.mem_of_mem_drop hx)
theorem zey {l : List Int} {i : Nat} (h : i < l.length) : l.take (i + 1) = l.take i ++ [l.getD i 0] := by
 rw [List.take_add_one, zAh h, zAb, zAh h]; rfl
theorem zez {l : List Int} (h : l.all digT = true) {i : Nat} (hi : i < l.length) : 48 <= l.getD i 0 /\ l.getD i 0 <= 57 := by
 rw [zAb, zAh hi]
 exact digT_iff.1 (List.all_eq_true.1 h _ (List.getElem_mem hi))
theorem zju {t : zAd} (ht : t.size <= 9) (hK : 2000000000 < K) (hd : (z02 t).all digT = true) : z23 K t K 0 0 = some (numT t) := by
 suffices h : ∃ r, z23 K t K 0 0 = some r /\ r = numT t by obtain ⟨r, h1, rfl⟩ := h; exact h1
 have hn := z00 t
 refine z86 (fun k (s : Int × Int) => z23 K t k s.1 s.2) (fun s => ∃ i : Nat, s.2 = i /\ i <= t.size /\ s.1 = numB ((z02 t).take i)) (fun s => (t.size - s.2 : Int).toNat) _ ?_ ((0, 0) : Int × Int) (by simp; omega) ⟨0, rfl, by omega, by simp [z87]⟩
 rintro k ⟨_, _⟩ ⟨i, rfl, h0, rfl⟩
 dsimp only
 by_cases hi : i < t.size
 ·right
  have b1 := z5e (zah hd i)
  have b2 := zb4 (zah hd i)
  have b3 : (10 : Int) ^ (List.take i (z02 t)).length <= 10 ^ 8 := by
   rw [List.length_take, hn, Nat.min_eq_left (by omega)]
   exact z6l (by omega) (by omega)
  have hc := zez hd (i := i) (by omega)
  have hs := zey (l := z02 t) (i := i) (by omega)
  have b4 : (10 : Int) ^ 8 = 100000000 := by decide
  refine ⟨(numB ((z02 t).take (i + 1)), (i : Int) + 1), ?_, by dsimp only; omega, i + 1, rfl, by omega, rfl⟩
  rw [z23, hs, z9u]
  generalize numB ((z02 t).take i) = d at *
  rw [hn]
  have hi' : (i : Int) < ((z02 t).length : Int) := by omega
  simp (discharger := omega) only [runL]
 ·left
  have : i = t.size := by omega
  subst this
  refine ⟨numB ((z02 t).take t.size), by rw [z23, hn]; simp (discharger := omega) only [runL], ?_⟩
  rw [List.take_of_length_le (by omega)]
  rfl
theorem zjv {s : zAd} (hs : s.size <= 8000000) (hK : 2000000000 < K) (hd : (z02 s).all digT = true) :
  ∃ r : List Int, z2h K s K [] (s.size : Int) = some r /\ 9 * r.length < s.size + 9 /\ DigB 1000000000 r /\ valB 1000000000 r = numT s := by
 have hn := z00 s
 refine z86 (fun k (q : List Int × Int) => z2h K s k q.1 q.2) (fun q => q.2 = (s.size : Int) - 9 * q.1.length /\ 9 * q.1.length < s.size + 9 /\ DigB 1000000000 q.1 /\ valB 1000000000 q.1 + 1000000000 ^ q.1.length * numB ((z02 s).take q.2.toNat) = numT s) (fun q => (q.2 + 9).toNat) _ ?_ (([], (s.size : Int)) : List Int × Int) (by dsimp only; omega) ⟨by simp, by simp, .nil _, by simp [valB]; rw [List.take_of_length_le (by omega)]; rfl⟩
 rintro k ⟨out, e⟩ ⟨h1, h2, h3, h4⟩
 dsimp only at h1 h2 h3 h4 ⊢
 by_cases he : e > 0
 ·right
  obtain ⟨lo, hlo, hm⟩ : ∃ lo : Nat, imax 0 (z03 .i64 (e - 9)) = lo /\ ((lo : Int) = e - 9 \/ ((lo = 0) /\ e < 9)) := by
   rw [k64 (by omega) (by omega)]
   unfold imax
   by_cases h9 : e - 9 > 0
   ·exact ⟨(e - 9).toNat, by rw [if_pos h9]; omega, .inl (by omega)⟩
   ·exact ⟨0, by rw [if_neg h9]; rfl, by omega⟩
  have hb : z02 (s.extract lo e.toNat) = ((z02 s).drop lo).take (e.toNat - lo) := z2b _ _ _
  have hsz : (s.extract lo e.toNat).size = e.toNat - lo := by rw [<- z00, hb, List.length_take, List.length_drop]; omega
  have hdp : (z02 (s.extract lo e.toNat)).all digT = true := by rw [hb]; exact zah (zly hd _) _
  have hp := zju (K := K) (t := s.extract lo e.toNat) (by omega) hK hdp
  have hv0 := z5e hdp
  have hv1 := zb4 hdp
  have hsplit : (z02 s).take e.toNat = (z02 s).take lo ++ z02 (s.extract lo e.toNat) := by
   rw [hb, show e.toNat = lo + (e.toNat - lo) by omega, List.take_add]; simp
  have hlen : (z02 (s.extract lo e.toNat)).length = e.toNat - lo := by rw [z00]; exact hsz
  have hBv : numB (z02 (s.extract lo e.toNat)) < 1000000000 := by
   have : (10 : Int) ^ (z02 (s.extract lo e.toNat)).length <= 10 ^ 9 := z6l (by omega) (by omega)
   have e9 : (10 : Int) ^ 9 = 1000000000 := by decide
   omega
  refine ⟨(out ++ [numT (s.extract lo e.toNat)], e - 9), ?_, by dsimp only; omega, by simp; omega, by simp; omega, h3.snoc ⟨hv0, hBv⟩, ?_⟩
  ·rw [z2h, hlo]
   simp (discharger := omega) only [runL, hp]
  ·dsimp only
   rw [z6x, List.length_append, List.length_singleton, Int.pow_succ, zc4]
   rw [hsplit, zdx, hlen] at h4
   rcases hm with hm | ⟨hm, h9⟩
   ·have e9 : e.toNat - lo = 9 := by omega
    have e10 : (10 : Int) ^ 9 = 1000000000 := by decide
    have el : (e - 9).toNat = lo := by omega
    rw [e9, e10] at h4
    rw [el]
    grind
   ·subst hm
    have el : (e - 9).toNat = 0 := by omega
    rw [el, List.take_zero, z87] at *
    grind
 ·left
  have el : e.toNat = 0 := by omega
  rw [el, List.take_zero, z87] at h4
  exact ⟨out, by rw [z2h]; simp (discharger := omega) only [runL], h2, h3, by omega⟩
theorem z9d {s : zAd} (hs : s.size <= 8000000) (hK : 2000000000 < K) (hd : (z02 s).all digT = true) : ∃ z, z4v K s = some z /\ NumN (numT s) z /\ 9 * z.length < s.size + 9 := by
 obtain ⟨r, h1, h2, h3, h4⟩ := zjv hs hK hd
 obtain ⟨t, t1, t2, t3, t4⟩ := zaf (K := K) (B := 1000000000) (l := r) (by omega) hK h3
 exact ⟨t, by unfold z4v; simp (discharger := omega) only [runL, h1, t1], ⟨t2, by rw [t3, h4]⟩, by omega⟩
theorem zjw {d : Int} (hd : 0 <= d /\ d < 1000000000) (hK : 2000000000 < K) : ∃ p, z1w K K (List.replicate 9 0) d 8 = some p /\ p.length = 9 /\ p.all digT = true /\ numB p = d := by
 refine z86 (fun k (s : List Int × Int × Int) => z1w K k s.1 s.2.1 s.2.2) (fun s => ∃ j : Nat, s.2.2 = (j : Int) - 1 /\ j <= 9 /\ s.1.length = 9 /\ (s.1.drop j).all digT = true /\ (0 <= s.2.1 /\ s.2.1 <= d) /\ d = s.2.1 * 10 ^ (9 - j) + numB (s.1.drop j)) (fun s => (s.2.2 + 1).toNat) _ ?_ ((List.replicate 9 0, d, 8) : List Int × Int × Int) (by simp; omega) ⟨9, rfl, by omega, by simp, by simp, by dsimp only; omega, by simp [z87]⟩
 rintro k ⟨p, c, _⟩ ⟨j, rfl, hj, h1, h2, h3, h4⟩
 dsimp only at h1 h2 h3 h4 ⊢
 by_cases h0 : j = 0
 ·subst h0
  left
  rw [List.drop_zero] at h2 h4
  have e9 : (10 : Int) ^ (9 - 0) = 1000000000 := by decide
  have := z5e h2
  rw [e9] at h4
  exact ⟨p, by rw [z1w]; simp (discharger := omega) only [runL], h1, h2, by omega⟩
 ·right
  obtain ⟨i, rfl⟩ : ∃ i, j = i + 1 := ⟨j - 1, by omega⟩
  have e1 : ((i + 1 : Nat) : Int) - 1 = i := by omega
  rw [e1]
  have hx : (p.set i (48 + c % 10)).drop i = (48 + c % 10) :: p.drop (i + 1) := by
   rw [List.drop_eq_getElem_cons (by simp; omega), List.drop_set_of_lt (by omega)]
   simp
  have e2 : (10 : Int) ^ (9 - i) = 10 ^ (9 - (i + 1)) * 10 := by rw [<- Int.pow_succ]; congr 1; omega
  have e3 : (p.drop (i + 1)).length = 9 - (i + 1) := by rw [List.length_drop, h1]
  have hdm := Int.emod_add_mul_ediv c 10
  refine ⟨(p.set i (48 + c % 10), c / 10, (i : Int) - 1), ?_, by dsimp only; omega, i, rfl, by omega, by simp [h1], ?_, by dsimp only; omega, ?_⟩
  ·rw [z1w]
   simp (discharger := omega) only [runL]
  ·dsimp only
   rw [hx, List.all_cons, h2, Bool.and_true]
   exact digT_iff.2 (by omega)
  ·dsimp only
   rw [hx, z9v, e2, e3]
   generalize (10 : Int) ^ (9 - (i + 1)) = P at *
   grind
theorem zhs {x : List Int} (hx : x.length <= 1000000) (hK : 2000000000 < K) (dx : DigB 1000000000 x) : ∃ b, z1x K x K [] ((x.length : Int) - 1) = some b /\ b.length = 9 * x.length /\ b.all digT = true /\ numB b = valB 1000000000 x := by
 refine z86 (fun k (s : List Int × Int) => z1x K x k s.1 s.2) (fun s => ∃ j : Nat, s.2 = (j : Int) - 1 /\ j <= x.length /\ s.1.length = 9 * (x.length - j) /\ s.1.all digT = true /\ numB s.1 = valB 1000000000 (x.drop j)) (fun s => (s.2 + 1).toNat) _ ?_ (([], (x.length : Int) - 1) : List Int × Int) (by dsimp only; omega) ⟨x.length, rfl, Nat.le_refl _, by simp, by simp, by simp [valB, z87]⟩
 rintro k ⟨b, _⟩ ⟨j, rfl, hj, h1, h2, h4⟩
 dsimp only at h1 h2 h4 ⊢
 by_cases h0 : j = 0
 ·subst h0
  left
  exact ⟨b, by rw [z1x]; simp (discharger := omega) only [runL], h1, h2, h4⟩
 ·right
  obtain ⟨i, rfl⟩ : ∃ i, j = i + 1 := ⟨j - 1, by omega⟩
  have e1 : ((i + 1 : Nat) : Int) - 1 = i := by omega
  rw [e1]
  have ex := z1i (by omega) dx i
  obtain ⟨p, p1, p2, p3, p4⟩ := zjw (K := K) (d := x.getD i 0) ex hK
  have e9 : (10 : Int) ^ 9 = 1000000000 := by decide
  refine ⟨(b ++ p, (i : Int) - 1), ?_, by dsimp only; omega, i, rfl, by omega, by simp; omega, ?_, ?_⟩
  ·rw [z1x]
   simp (discharger := omega) only [runL, p1]
  ·dsimp only
   rw [List.all_append, h2, p3]; rfl
  ·dsimp only
   rw [zdx, p2, p4, h4, zdw x i, e9]
theorem zd4 {n : Int} : ∀ k (s : zAd), s.size < k -> s.size <= 16777216 -> (z02 s).all digT = true -> numT s = n -> ∃ t, z0i K 48 k s = some t /\ (z02 t).all digT = true /\ numT t = n /\ (z02 t).head? ≠ some 48 /\ t.size <= s.size := by
 intro k
 induction k with
 | zero => intro s h; omega
 | succ k ih =>
  intro s hk hb hd hn
  have hl := z00 s
  by_cases h0 : s.size > 0
  ·cases hc : z02 s with
   | nil => rw [hc] at hl; simp at hl; omega
   | cons c l =>
    obtain ⟨t, t1, t2, t3⟩ := zae hc
    rw [hc] at hd hl
    simp only [List.all_cons, Bool.and_eq_true, List.length_cons] at hd hl
    have hcc : bidx s 0 = some c := by rw [z8j, hc]; rfl
    by_cases h1 : c = 48
    ·subst h1
     obtain ⟨r, r1, r2, r3, r4, r5⟩ := ih t (by omega) (by omega) (by rw [t2]; exact hd.2) (by rw [<- hn, zc4, zc4, t2, hc, z9v]; simp)
     refine ⟨r, ?_, r2, r3, r4, by omega⟩
     rw [z0i, hcc, t1]
     simp (discharger := omega) only [runL, r1]
    ·refine ⟨s, ?_, by rw [hc]; simp [hd], hn, by rw [hc]; simp; omega, Nat.le_refl _⟩
     rw [z0i, hcc]
     simp (discharger := omega) only [runL]
  ·refine ⟨s, ?_, hd, hn, ?_, Nat.le_refl _⟩
   ·rw [z0i]
    have e : (decide ((s.size : Int) > 0)) = false := decide_eq_false (by omega)
    rw [e]
    simp (discharger := omega) only [runL, Bool.false_eq_true]
   ·have : z02 s = [] := List.length_eq_zero_iff.1 (by omega)
    rw [this]; simp
theorem znf {s t : zAd} (h : s.size ≠ t.size) : sEq s t = false := by
 cases e : sEq s t with
 | false => rfl
 | true => rw [sEq_iff] at e; subst e; exact absurd rfl h
theorem zfp {s : zAd} (hs : s.size <= 16777216) (hK : 2000000000 < K) (hp : 0 < numT s) (hd : (z02 s).all digT = true) : ∃ t, z2d K s ⟨#[48]⟩ = some t /\ CanT t /\ numT t = numT s /\ t.size <= s.size := by
 obtain ⟨t, t1, t2, t3, t4, t5⟩ := zd4 (K := K) K s (by omega) hs hd rfl
 have ne : ∀ u : zAd, 0 < numT u -> u.size ≠ 0 := fun u hu e => by
  have : z02 u = [] := List.length_eq_zero_iff.1 (by rw [z00]; exact e)
  rw [zc4, this, z87] at hu; omega
 refine ⟨t, ?_, ⟨ne t (by omega), t2, fun h => absurd h t4⟩, t3, t5⟩
 unfold z2d z26
 have e1 : sEq s ⟨#[]⟩ = false := znf (ne s hp)
 have e2 : sEq ⟨#[48]⟩ ⟨#[]⟩ = false := znf (by decide)
 have e3 : bidx (⟨#[48]⟩ : zAd) 0 = some 48 := rfl
 have e4 : (((⟨#[48]⟩ : zAd).size : Int) == 1) = true := rfl
 rw [e1, e2, e3, e4]
 simp (discharger := omega) only [runL, Bool.false_eq_true, t1]
theorem zht {x : List Int} {n : Int} (hx : x.length <= 1000000) (hK : 2000000000 < K) (nx : NumN n x) : ∃ t, z3n K x = some t /\ CanT t /\ numT t = n /\ t.size <= 9 * x.length + 1 := by
 unfold z3n
 by_cases h0 : x = []
 ·subst h0
  have e : n = 0 := nx.nil_iff.1 rfl
  subst e
  exact ⟨⟨#[48]⟩, rfl, ⟨by decide, rfl, fun _ => rfl⟩, rfl, by decide⟩
 ·have hl : x.length ≠ 0 := fun e => h0 (List.length_eq_zero_iff.1 e)
  obtain ⟨b, b1, b2, b3, b4⟩ := zhs hx hK nx.1.1
  rw [nx.2] at b4
  have hr : ∀ c ∈ b, 0 <= c /\ c <= 255 := fun c hc => by have := digT_iff.1 (List.all_eq_true.1 b3 c hc); omega
  have hb := zb3 b hr
  have hsz : (strOfNums b).size = b.length := by rw [<- z00, hb]
  obtain ⟨t, t1, t2, t3, t4⟩ := zfp (K := K) (s := strOfNums b) (by omega) hK (by rw [zc4, hb, b4]; exact nx.pos h0) (by rw [hb]; exact b3)
  refine ⟨t, ?_, t2, by rw [t3, zc4, hb, b4], by omega⟩
  have e : ((x.length : Int) == 0) = false := by simp; omega
  rw [e]
  simp (discharger := omega) only [runL, Bool.false_eq_true, b1, t1]
end Go.Am.Tryz
/- Plain law: the reference's texts of digits. -/
namespace Go.Am.Tryz
open Go Go.Am Go.Proofs
variable {K : Nat}
theorem zjx {s : zAd} {c : Int} {l : List Int} (h : z02 s = c :: l) : bidx s 0 = some c := by rw [z8j, h]; rfl
theorem zhu : ∀ n k (s : zAd), s.size = n -> n < k -> 0 < n -> (z02 s).all digT = true -> ∃ t, z4f K k s = some t /\ CanT t /\ numT t = numT s := by
 intro n
 induction n with
 | zero => intro k s _ _ h; omega
 | succ n ih =>
  intro k s hs hk _ hd
  obtain ⟨k, rfl⟩ : ∃ m, k = m + 1 := ⟨k - 1, by omega⟩
  have hn := z00 s
  cases hb : z02 s with
  | nil => rw [hb] at hn; simp at hn; omega
  | cons c l =>
   rw [z4f, zjx hb]
   by_cases h1 : (s.size : Int) > 1
   ·by_cases h2 : c = 48
    ·obtain ⟨t, h3, h4, h5⟩ := zae hb
     have hl : l.length = n := by rw [hb] at hn; simp at hn; omega
     obtain ⟨r, h6, h7, h8⟩ := ih k t (by omega) (by omega) (by omega) (by rw [h4]; rw [hb] at hd; simp only [List.all_cons, Bool.and_eq_true] at hd; exact hd.2)
     refine ⟨r, ?_, h7, ?_⟩
     ·simp [h1, h2, h3, h6, tu1]
     ·rw [h8, zjn (s := s) (t := t) (c := c) (by rw [hb, h4]), h2]; simp
    ·refine ⟨s, by simp [h1, h2, tu1], ⟨by omega, hd, fun e => ?_⟩, rfl⟩
     rw [hb] at e; simp at e; exact absurd e h2
   ·exact ⟨s, by simp [h1, tu1], ⟨by omega, hd, fun e => by omega⟩, rfl⟩
theorem z9w {s : zAd} (hs : s.size <= 1048576) (h0 : 0 < s.size) (hK : s.size < K) (hd : (z02 s).all digT = true) : ∃ t, z5s K s = some t /\ CanT t /\ numT t = numT s := by
 obtain ⟨t, h1, h2⟩ := zhu (K := K) s.size K s rfl hK h0 hd
 exact ⟨t, by unfold z5s; rw [h1]; rfl, h2⟩
theorem z7p {s : zAd} (hs : s.size <= 1048576) (hd : (z02 s).all digT = true) (k : Nat) (hk : k <= 1048577) : z4l K s k = some ((z51 s).getD k 0) := by
 have hn := z00 s
 unfold z4l
 by_cases h : k < s.size
 ·have h' : ((k : Int) < (s.size : Int)) := by omega
  have hi : s.size - 1 - k < (z02 s).length := by omega
  have e1 : z03 .i64 (z03 .i64 ((s.size : Int) - 1) - (k : Int)) = ((s.size - 1 - k : Nat) : Int) := by
   rw [kw (a := (s.size : Int) - 1) (by omega) (by omega), kw (by omega) (by omega)]; omega
  have hx : (z02 s)[s.size - 1 - k]? = some (z02 s)[s.size - 1 - k] := zAh hi
  have hc := List.all_eq_true.1 hd _ (List.getElem_mem hi)
  simp only [digT, Bool.and_eq_true, decide_eq_true_eq] at hc
  rw [decide_eq_true h', if_pos rfl, e1, z8j, z53 hx]
  have hg : (z51 s).getD k 0 = (z02 s)[s.size - 1 - k] - 48 := by
   unfold z51
   rw [zAb, List.getElem?_reverse (by simp; omega), List.length_map, hn, List.getElem?_map, hx]
   rfl
  rw [hg]
  generalize (z02 s)[s.size - 1 - k] = c at hc
  have e2 : z03 .u8 (c - 48) = c - 48 := z6p (by simp [z8c]; omega)
  have e3 : IntKind.wrap .i64 (c - 48) = c - 48 := by rw [<- z6m]; exact kw (by omega) (by omega)
  simp [e2, e3]
 ·have h' : ¬ ((k : Int) < (s.size : Int)) := by omega
  rw [decide_eq_false h', if_neg (by simp)]
  congr 1
  rw [zAb, List.getElem?_eq_none (by rw [z4o]; omega)]
  rfl
theorem zqb {x : Int} (h : 0 <= x) (h' : x <= 255) : z03 .u8 x = x := z6p (by simp [z8c]; omega)
theorem zjy {l : List Int} (hl : l.length <= 1048577) (hK : l.length < K) (hd : DigB 10 l) : z2e K l K (List.replicate l.length 0) 0 = some (l.map (48 + ·)).reverse := by
 suffices h : ∃ r, z2e K l K (List.replicate l.length 0) 0 = some r /\ r = (l.map (48 + ·)).reverse by
  obtain ⟨r, h1, rfl⟩ := h; exact h1
 refine zdv (S := List Int) l.length (fun k s i => z2e K l k s i) (fun b i => b.length = l.length /\ ∀ j < l.length, b.getD j 0 = if l.length - 1 - j < i then 48 + l.getD (l.length - 1 - j) 0 else 0) _ ?_ ?_ K _ hK ⟨by simp, fun j hj => by simp [zAb, hj]⟩
 ·rintro k b i hi ⟨hb, hj⟩
  right
  have hp : l.length - 1 - i < b.length := by omega
  have e1 : z03 .i64 (z03 .i64 ((l.length : Int) - 1) - (i : Int)) = ((l.length - 1 - i : Nat) : Int) := by
   rw [kw (a := (l.length : Int) - 1) (by omega) (by omega), kw (by omega) (by omega)]; omega
  have hx := hd (l.getD i 0) (by rw [zAb, zAh hi]; simp)
  have e2 : IntKind.wrap .u8 (z03 .i64 (48 + l.getD i 0)) = 48 + l.getD i 0 := by
   rw [kw (a := 48 + l.getD i 0) (by omega) (by omega), <- z6m]; exact zqb (by omega) (by omega)
  refine ⟨b.set (l.length - 1 - i) (48 + l.getD i 0), ⟨by simp [hb], fun j hjl => ?_⟩, ?_⟩
  ·have hg : (b.set (l.length - 1 - i) (48 + l.getD i 0)).getD j 0 = if j = l.length - 1 - i then 48 + l.getD i 0 else b.getD j 0 := z6w hp
   rw [hg, hj j hjl]
   by_cases e : j = l.length - 1 - i
   ·have e3 : l.length - 1 - j = i := by omega
    rw [if_pos e, e3, if_pos (zAg i)]
   ·rw [if_neg e]
    by_cases e3 : l.length - 1 - j < i
    ·rw [if_pos e3, if_pos (by omega)]
    ·rw [if_neg e3, if_neg (by omega)]
  ·show z2e K l (k + 1) b i = _
   rw [z2e, zjl hi, if_pos rfl, zhl hi]
   simp only [Option.bind_some, e1, zhl hp, e2, Int.toNat_natCast, kw1 hi (by omega)]
 ·rintro k b i rfl ⟨hb, hj⟩
  refine ⟨b, ?_, ?_⟩
  ·show z2e K l (k + 1) b l.length = _
   rw [z2e, zer (Nat.le_refl _)]; simp
  ·apply List.ext_getElem (by simp [hb])
   intro j h1 h2
   have h3 := hj j (by omega)
   rw [if_pos (by omega), zAb, zAh h1, zAb, zAh (show l.length - 1 - j < l.length by omega)] at h3
   simp at h3
   simp [h3]
theorem zdy {l : List Int} (hl : l.length <= 1048575) (h0 : l ≠ []) (hK : l.length + 1 < K) (hd : DigB 10 l) : ∃ t, z84 K l = some t /\ CanT t /\ numT t = valB 10 l := by
 have hlen : 0 < l.length := by cases l with | nil => exact absurd rfl h0 | cons _ _ => simp
 have hrange : ∀ x ∈ (l.map (48 + ·)).reverse, 0 <= x /\ x <= 255 := fun x hx => by
  rw [List.mem_reverse, List.mem_map] at hx
  obtain ⟨d, h1, rfl⟩ := hx
  have := hd d h1
  omega
 have hb := zb3 _ hrange
 have hz : z02 ((⟨#[48]⟩ : zAd) ++ strOfNums (l.map (48 + ·)).reverse) = 48 :: (l.map (48 + ·)).reverse := by
  rw [z0n, hb]; rfl
 have hsz : ((⟨#[48]⟩ : zAd) ++ strOfNums (l.map (48 + ·)).reverse).size = l.length + 1 := by
  rw [<- z00, hz]; simp
 have hdg : (z02 ((⟨#[48]⟩ : zAd) ++ strOfNums (l.map (48 + ·)).reverse)).all digT = true := by
  rw [hz, List.all_eq_true]
  intro x hx
  rcases List.mem_cons.1 hx with rfl | hx
  ·rfl
  ·rw [List.mem_reverse, List.mem_map] at hx
   obtain ⟨d, h1, rfl⟩ := hx
   have := hd d h1
   simp [digT]; omega
 obtain ⟨t, h1, h2, h3⟩ := z9w (K := K) (s := (⟨#[48]⟩ : zAd) ++ strOfNums (l.map (48 + ·)).reverse) (by omega) (by omega) (by omega) hdg
 refine ⟨t, ?_, h2, ?_⟩
 ·unfold z84
  rw [if_pos (by omega), Int.toNat_natCast, zjy (by omega) (by omega) hd]
  have e1 : (⟨#[48]⟩ : zAd).size = 1 := rfl
  simp only [Option.bind_some, tu1, List.length_reverse, List.length_map, strOfNums_size, e1]
  rw [if_pos hlen, if_pos (by omega), h1]
  rfl
 ·rw [h3]
  unfold numT z51
  rw [hz, List.map_cons, List.reverse_cons, z50, List.map_reverse, List.reverse_reverse, List.map_map]
  have : l.map ((fun x => x - 48) ∘ (fun x => 48 + x)) = l := by
   conv => rhs; rw [<- List.map_id l]
   apply List.map_congr_left
   intro x _
   show 48 + x - 48 = x
   omega
  rw [this]
  simp [valB]
end Go.Am.Tryz
/- Plain law: the reference's sum and difference of texts. -/
namespace Go.Am.Tryz
open Go Go.Am Go.Proofs
variable {K : Nat}
theorem zc5 (B : Int) (x : List Int) (k : Nat) : valB B (x.take (k + 1)) = valB B (x.take k) + B ^ k * x.getD k 0 := by
 by_cases h : k < x.length
 ·have hx : x[k]? = some x[k] := zAh h
  rw [List.take_add_one, hx, z50, List.length_take, Nat.min_eq_left (by omega), zAb, hx]
  simp [valB]
 ·rw [List.take_of_length_le (by omega), List.take_of_length_le (by omega), zAb, List.getElem?_eq_none (by omega)]
  simp
theorem zjz {B : Int} (hB : 0 < B) {x : List Int} (h : DigB B x) (k : Nat) : 0 <= x.getD k 0 /\ x.getD k 0 < B := by
 by_cases hk : k < x.length
 ·rw [zAb, zAh hk]
  exact h _ (List.getElem_mem hk)
 ·rw [zAb, List.getElem?_eq_none (by omega)]
  simp [hB]
theorem zhv {i j : Nat} (h : i <= j) : (10 : Int) ^ i <= 10 ^ j := by
 have h1 : (10 : Nat) ^ i <= 10 ^ j := Nat.pow_le_pow_right (by omega) h
 have h2 : ((10 ^ i : Nat) : Int) <= ((10 ^ j : Nat) : Int) := by omega
 simpa using h2
theorem zk0 (i : Nat) : 0 < (10 : Int) ^ i := by
 have h1 : 0 < (10 : Nat) ^ i := Nat.pow_pos (by omega)
 have h2 : (0 : Int) < ((10 ^ i : Nat) : Int) := by omega
 simpa using h2
theorem zng {a b : zAd} (ha : a.size <= 1000000) (hb : b.size <= 1000000) (h0 : 0 < a.size) (hK : 1048580 < K) (da : (z02 a).all digT = true) (db : (z02 b).all digT = true) : ∃ t, z7h K a b = some t /\ CanT t /\ numT t = numT a + numT b := by
 have dx := z6v da
 have dy := z6v db
 have lx := z4o a
 have ly := z4o b
 have vx := z48 (B := 10) (by omega) _ dx
 have vy := z48 (B := 10) (by omega) _ dy
 have key : ∃ r, z1z K a b K [] 0 0 = some r /\ r ≠ [] /\ r.length <= 1048575 /\ DigB 10 r /\ valB 10 r = numT a + numT b := by
  refine zdv (S := List Int × Int) (max a.size b.size + 1) (fun k s i => z1z K a b k s.1 s.2 i) (fun s i => s.1.length = i /\ DigB 10 s.1 /\ (0 <= s.2 /\ s.2 <= 1) /\ valB 10 s.1 + 10 ^ i * s.2 = valB 10 ((z51 a).take i) + valB 10 ((z51 b).take i)) _ ?_ ?_ K ([], 0) (by omega) ⟨rfl, DigB.nil 10, ⟨by omega, by omega⟩, by simp [valB]⟩
  ·rintro k ⟨out, c⟩ i hi ⟨h1, h2, h3, h4⟩
   simp only at h1 h2 h3 h4
   have hcond : (if (decide ((i : Int) < (a.size : Int))) = true then some true else (if (decide ((i : Int) < (b.size : Int))) = true then some true else some (decide (c > 0)))) = some (decide ((i < a.size \/ i < b.size) \/ c > 0)) := by
    by_cases e1 : i < a.size
    ·simp [e1]
    ·by_cases e2 : i < b.size
     ·simp [e1, e2]
     ·simp [e1, e2]
   show (∃ r, z1z K a b (k + 1) out c i = some r /\ _) \/ _
   rw [z1z, hcond]
   simp only [Option.bind_some, tu1]
   by_cases hc : (i < a.size \/ i < b.size) \/ c > 0
   ·right
    have ex := zjz (by omega) dx i
    have ey := zjz (by omega) dy i
    rw [decide_eq_true hc, if_pos rfl, z7p (by omega) da i (by omega), z7p (by omega) db i (by omega)]
    have tx := zc5 10 (z51 a) i
    have ty := zc5 10 (z51 b) i
    generalize (z51 a).getD i 0 = x at ex tx
    generalize (z51 b).getD i 0 = y at ey ty
    have e1 : z03 .i64 (x + y) = x + y := kw (by omega) (by omega)
    have e2 : z03 .i64 (x + y + c) = x + y + c := kw (by omega) (by omega)
    have e3 : Int.tmod (x + y + c) 10 = (x + y + c) % 10 := Int.tmod_eq_emod_of_nonneg (by omega)
    have e4 : Int.tdiv (x + y + c) 10 = (x + y + c) / 10 := Int.tdiv_eq_ediv_of_nonneg (by omega)
    have e5 : z03 .i64 ((x + y + c) / 10) = (x + y + c) / 10 := kw (by omega) (by omega)
    refine ⟨(out ++ [(x + y + c) % 10], (x + y + c) / 10), ⟨by simp [h1], h2.app (fun d hd => by simp at hd; omega), ⟨by omega, by omega⟩, ?_⟩, ?_⟩
    ·have hm := Int.emod_add_mul_ediv (x + y + c) 10
     generalize hq : (x + y + c) / 10 = q at hm
     generalize hr : (x + y + c) % 10 = r at hm
     simp only
     rw [z50, h1, tx, ty, Int.pow_succ]
     simp only [valB, Int.mul_zero, Int.add_zero]
     generalize valB 10 ((z51 a).take i) = A at h4
     generalize valB 10 ((z51 b).take i) = B at h4
     generalize valB 10 out = C at h4
     generalize (10 : Int) ^ i = p at h4
     have e6 : p * (r + 10 * q) = p * (x + y + c) := by rw [hm]
     rw [Int.mul_add, Int.mul_add, Int.mul_add, <- Int.mul_assoc] at e6
     omega
    ·simp only [Option.bind_some, e1, e2, e3, e4, e5, lt, List.length_cons, List.length_nil, kw1 hi (by omega)]
     rw [if_pos (by omega)]
   ·left
    rw [decide_eq_false hc]
    refine ⟨out, by simp, ?_, by omega, h2, ?_⟩
    ·intro e; rw [e] at h1; simp at h1; omega
    ·rw [List.take_of_length_le (by omega), List.take_of_length_le (by omega)] at h4
     have : c = 0 := by omega
     rw [this] at h4
     unfold numT
     omega
  ·rintro k ⟨out, c⟩ i rfl ⟨h1, h2, h3, h4⟩
   simp only at h1 h2 h3 h4
   rw [List.take_of_length_le (by omega), List.take_of_length_le (by omega)] at h4
   have p1 : (10 : Int) ^ (z51 a).length <= 10 ^ (max a.size b.size) := zhv (by omega)
   have p2 : (10 : Int) ^ (z51 b).length <= 10 ^ (max a.size b.size) := zhv (by omega)
   have p3 := z0s (B := 10) (by omega) _ h2
   have p4 := zk0 (max a.size b.size)
   have hc0 : c = 0 := by
    by_cases e : c = 0
    ·exact e
    ·have e1 : c = 1 := by omega
     rw [e1, Int.mul_one, Int.pow_succ] at h4
     omega
   subst hc0
   have hcond : (if (decide (((max a.size b.size + 1 : Nat) : Int) < (a.size : Int))) = true then some true else (if (decide (((max a.size b.size + 1 : Nat) : Int) < (b.size : Int))) = true then some true else some (decide ((0 : Int) > 0)))) = some false := by
    rw [decide_eq_false (by omega), decide_eq_false (by omega)]; rfl
   refine ⟨out, ?_, ?_, by omega, h2, by unfold numT; omega⟩
   ·show z1z K a b (k + 1) out 0 _ = _
    rw [z1z, hcond]; rfl
   ·intro e; rw [e] at h1; simp at h1
 obtain ⟨r, h1, h2, h3, h4, h5⟩ := key
 obtain ⟨t, h6, h7, h8⟩ := zdy (K := K) h3 h2 (by omega) h4
 refine ⟨t, ?_, h7, by rw [h8, h5]⟩
 unfold z7h
 rw [h1]
 simp only [Option.bind_some, tu1, h6]
theorem zhw {a b : zAd} (ha : a.size <= 1000000) (hb : b.size <= a.size) (h0 : 0 < a.size) (hK : 1048580 < K) (da : (z02 a).all digT = true) (db : (z02 b).all digT = true) (hle : numT b <= numT a) : ∃ t, z6i K a b = some t /\ CanT t /\ numT t = numT a - numT b := by
 have dx := z6v da
 have dy := z6v db
 have lx := z4o a
 have ly := z4o b
 have key : ∃ r, z1y K a b K [] 0 0 = some r /\ r ≠ [] /\ r.length <= 1048575 /\ DigB 10 r /\ valB 10 r = numT a - numT b := by
  refine zdv (S := List Int × Int) a.size (fun k s i => z1y K a b k s.1 s.2 i) (fun s i => s.1.length = i /\ DigB 10 s.1 /\ (0 <= s.2 /\ s.2 <= 1) /\ valB 10 s.1 + valB 10 ((z51 b).take i) = valB 10 ((z51 a).take i) + 10 ^ i * s.2) _ ?_ ?_ K ([], 0) (by omega) ⟨rfl, DigB.nil 10, ⟨by omega, by omega⟩, by simp [valB]⟩
  ·rintro k ⟨out, c⟩ i hi ⟨h1, h2, h3, h4⟩
   simp only at h1 h2 h3 h4
   right
   have ex := zjz (by omega) dx i
   have ey := zjz (by omega) dy i
   show ∃ s', _ /\ z1y K a b (k + 1) out c i = _
   rw [z1y, zjl hi, if_pos rfl, z7p (by omega) da i (by omega), z7p (by omega) db i (by omega)]
   have tx := zc5 10 (z51 a) i
   have ty := zc5 10 (z51 b) i
   generalize (z51 a).getD i 0 = x at ex tx
   generalize (z51 b).getD i 0 = y at ey ty
   have e1 : z03 .i64 (x - y) = x - y := kw (by omega) (by omega)
   have e2 : z03 .i64 (x - y - c) = x - y - c := kw (by omega) (by omega)
   have e3 : z03 .i64 (x - y - c + 10) = x - y - c + 10 := kw (by omega) (by omega)
   simp only [Option.bind_some, e1, e2, e3, lt, tu2, List.length_cons, List.length_nil, kw1 hi (by omega)]
   have h9 : out.length + (0 + 1) <= 16777216 := by omega
   by_cases hn : x - y - c < 0
   ·refine ⟨(out ++ [x - y - c + 10], 1), ⟨by simp [h1], h2.app (fun d hd => by simp at hd; omega), ⟨by omega, by omega⟩, ?_⟩, ?_⟩
    ·simp only
     rw [z50, h1, tx, ty, Int.pow_succ]
     simp only [valB, Int.mul_zero, Int.add_zero, Int.mul_one]
     generalize valB 10 ((z51 a).take i) = A at h4
     generalize valB 10 ((z51 b).take i) = B at h4
     generalize valB 10 out = C at h4
     generalize (10 : Int) ^ i = p at h4
     rw [Int.mul_add, Int.mul_sub, Int.mul_sub]
     omega
    ·rw [decide_eq_true hn]
     simp only [if_true, Option.bind_some, if_pos h9, tu2]
   ·refine ⟨(out ++ [x - y - c], 0), ⟨by simp [h1], h2.app (fun d hd => by simp at hd; omega), ⟨by omega, by omega⟩, ?_⟩, ?_⟩
    ·simp only
     rw [z50, h1, tx, ty, Int.pow_succ]
     simp only [valB, Int.mul_zero, Int.add_zero]
     generalize valB 10 ((z51 a).take i) = A at h4
     generalize valB 10 ((z51 b).take i) = B at h4
     generalize valB 10 out = C at h4
     generalize (10 : Int) ^ i = p at h4
     rw [Int.mul_sub, Int.mul_sub]
     omega
    ·rw [decide_eq_false hn]
     simp only [Bool.false_eq_true, if_false, Option.bind_some, if_pos h9, tu2]
  ·rintro k ⟨out, c⟩ i rfl ⟨h1, h2, h3, h4⟩
   simp only at h1 h2 h3 h4
   rw [List.take_of_length_le (by omega), List.take_of_length_le (by omega)] at h4
   have p3 := z48 (B := 10) (by omega) _ h2
   rw [h1] at p3
   have hle' : valB 10 (z51 b) <= valB 10 (z51 a) := hle
   have hc0 : c = 0 := by
    by_cases e : c = 0
    ·exact e
    ·have e1 : c = 1 := by omega
     rw [e1, Int.mul_one] at h4
     omega
   subst hc0
   refine ⟨out, ?_, ?_, by omega, h2, by unfold numT; omega⟩
   ·show z1y K a b (k + 1) out 0 _ = _
    rw [z1y, zer (Nat.le_refl _)]; simp
   ·intro e; rw [e] at h1; simp at h1; omega
 obtain ⟨r, h1, h2, h3, h4, h5⟩ := key
 obtain ⟨t, h6, h7, h8⟩ := zdy (K := K) h3 h2 (by omega) h4
 refine ⟨t, ?_, h7, by rw [h8, h5]⟩
 unfold z6i
 rw [h1]
 simp only [Option.bind_some, tu1, h6]
end Go.Am.Tryz
/- Plain law: the reference's comparison, product, quotient and divisor of texts. -/
namespace Go.Am.Tryz
open Go Go.Am Go.Proofs
variable {K : Nat}
theorem z2x {s : zAd} (h : (z02 s).all digT = true) : 0 <= numT s := z5e h
theorem zai {s : zAd} (h : (z02 s).all digT = true) : numT s < 10 ^ s.size := by
 have := zb4 h
 rwa [z00] at this
theorem zb5 {s : zAd} (h : CanT s) (h2 : 2 <= s.size) : (10 : Int) ^ (s.size - 1) <= numT s := by
 have hh : (z02 s).head? ≠ some 48 := fun e => by have := h.2.2 e; omega
 have h3 := zho (B := 10) (by omega) (zc3 h hh) (by intro e; have := z4o s; rw [e] at this; simp at this; omega)
 rwa [z4o] at h3
theorem zaj {a b : zAd} (ha : (z02 a).all digT = true) (hb : CanT b) (h0 : a.size ≠ 0) (h : a.size < b.size) : numT a < numT b := by
 have h1 := zai ha
 have h2 := zb5 hb (by omega)
 have h3 : (10 : Int) ^ a.size <= 10 ^ (b.size - 1) := z6l (by omega) (by omega)
 omega
theorem z3a {a b : zAd} (ha : CanT a) (hb : CanT b) (h : numT b <= numT a) : b.size <= a.size := by
 refine Nat.not_lt.1 fun hl => ?_
 have := zaj ha.2.1 hb ha.1 hl
 omega
theorem z7q : CanT ⟨#[48]⟩ := ⟨by decide, rfl, fun _ => rfl⟩
theorem z4p : numT ⟨#[48]⟩ = 0 := rfl
theorem z64 : CanT ⟨#[49]⟩ := ⟨by decide, rfl, fun h => by simp [z02] at h⟩
theorem z5p : numT ⟨#[49]⟩ = 1 := rfl
theorem zc6 {s : zAd} (h : CanT s) : numT s = 0 ↔ s = ⟨#[48]⟩ := ⟨fun e => z85 h z7q (by rw [e, z4p]), fun e => by rw [e, z4p]⟩
theorem z9h : ∀ (x y : List UInt8), x.length = y.length -> (x.map fun b => (b.toNat : Int)).all digT = true -> (y.map fun b => (b.toNat : Int)).all digT = true -> (Op.bytesLess x y = true ↔ numB (x.map fun b => (b.toNat : Int)) < numB (y.map fun b => (b.toNat : Int)))
 | [], [], _, _, _ => by simp [Op.bytesLess]
 | [], _ :: _, h, _, _ => by simp at h
 | _ :: _, [], h, _, _ => by simp at h
 | a :: x, b :: y, h, hx, hy => by
  simp only [List.map_cons, List.all_cons, Bool.and_eq_true] at hx hy
  simp only [List.length_cons, Nat.add_right_cancel_iff] at h
  have ih := z9h x y h hx.2 hy.2
  have dx := digT_iff.1 hx.1
  have dy := digT_iff.1 hy.1
  simp only [Op.bytesLess, List.map_cons, z9v, List.length_map, h]
  have lx0 := z5e hx.2
  have lx1 := zb4 hx.2
  have ly0 := z5e hy.2
  have ly1 := zb4 hy.2
  rw [List.length_map] at lx1 ly1
  rw [h] at lx1
  generalize numB (x.map fun b => (b.toNat : Int)) = X at *
  generalize numB (y.map fun b => (b.toNat : Int)) = Y at *
  have p0 : (0 : Int) < 10 ^ y.length := Int.pow_pos (by omega)
  generalize (10 : Int) ^ y.length = P at *
  rw [Bool.or_eq_true, Bool.and_eq_true, ih, decide_eq_true_eq, beq_iff_eq, UInt8.lt_iff_toNat_lt]
  rcases Nat.lt_trichotomy a.toNat b.toNat with h1 | h1 | h1
  ·have := z2z (Int.le_of_lt p0) (show ((a.toNat : Int) - 48) + 1 <= (b.toNat : Int) - 48 by omega)
   rw [Int.mul_add, Int.mul_one] at this
   exact ⟨fun _ => by omega, fun _ => .inl h1⟩
  ·have e : a = b := UInt8.toNat_inj.1 h1
   subst e
   exact ⟨fun h => by rcases h with h | h <;> omega, fun h => .inr ⟨rfl, by omega⟩⟩
  ·have := z2z (Int.le_of_lt p0) (show ((b.toNat : Int) - 48) + 1 <= (a.toNat : Int) - 48 by omega)
   rw [Int.mul_add, Int.mul_one] at this
   refine ⟨fun h => ?_, fun h => by omega⟩
   rcases h with h | ⟨h, _⟩
   ·omega
   ·subst h; omega
theorem znh {a b : zAd} (h : a.size = b.size) (ha : (z02 a).all digT = true) (hb : (z02 b).all digT = true) : sLt a b = decide (numT a < numT b) := by
 have := z9h a.data.toList b.data.toList (by simpa using h) ha hb
 unfold sLt
 rw [ByteArray.toList_eq, ByteArray.toList_eq]
 by_cases c : numT a < numT b
 ·rw [decide_eq_true c]; exact this.2 c
 ·rw [decide_eq_false c]
  cases e : Op.bytesLess a.data.toList b.data.toList with
  | false => rfl
  | true => exact absurd (this.1 e) c
theorem zku {a b : zAd} (ha : CanT a) (hb : CanT b) : z6h K a b = some (if numT a < numT b then -1 else if numT a = numT b then 0 else 1) := by
 unfold z6h
 by_cases h1 : a.size < b.size
 ·have := zaj ha.2.1 hb ha.1 h1
  simp (discharger := omega) only [runL]
 ·by_cases h2 : a.size > b.size
  ·have := zaj hb.2.1 ha hb.1 h2
   simp (discharger := omega) only [runL]
  ·have he : a.size = b.size := by omega
   rw [if_neg (by simp; omega), if_neg (by simp; omega), znh he ha.2.1 hb.2.1]
   by_cases c : numT a < numT b
   ·simp (discharger := omega) only [runL]
   ·by_cases d : numT a = numT b
    ·have : a = b := z85 ha hb d
     subst this
     have e : sEq a a = true := sEq_iff.2 rfl
     simp [e]
    ·have e : sEq a b = false := by
      cases e : sEq a b with
      | false => rfl
      | true => rw [sEq_iff] at e; subst e; exact absurd rfl d
     simp [e, c, d]
theorem zni {b : zAd} {out : List Int} {u : Int} {i : Nat} (hb : b.size <= 1000000) (hl : i + b.size < out.length) (ho : out.length <= 8000000) (hK : 2000000000 < K) (hu : 0 <= u /\ u <= 9) (db : (z02 b).all digT = true) (d0 : DigB 10 out) :
  ∃ r : List Int, z2l K b (i : Int) u K out 0 = some r /\ r.length = out.length /\ (∀ j, 0 <= r.getD j 0 /\ r.getD j 0 <= 90) /\ valB 10 r = valB 10 out + 10 ^ i * (u * numT b) := by
 have dx := z6v db
 have lx := z4o b
 refine z86 (fun k (s : List Int × Int) => z2l K b (i : Int) u k s.1 s.2) (fun s => ∃ q : Nat, s.2 = q /\ q <= b.size /\ s.1.length = out.length /\ (∀ j, 0 <= s.1.getD j 0 /\ s.1.getD j 0 <= 90) /\ (∀ j, i + q <= j -> s.1.getD j 0 <= 9) /\ valB 10 s.1 = valB 10 out + 10 ^ i * (u * valB 10 ((z51 b).take q))) (fun s => (b.size - s.2 : Int).toNat) _ ?_ ((out, 0) : List Int × Int) (by simp; omega) ⟨0, rfl, by omega, rfl, fun j => by have := z1i (by omega) d0 j; dsimp only; omega, fun j _ => by have := z1i (by omega) d0 j; dsimp only; omega, by simp [valB]⟩
 rintro k ⟨o, _⟩ ⟨q, rfl, h0, h1, h2, h3, h4⟩
 dsimp only at h1 h2 h3 h4 ⊢
 by_cases hq : q < b.size
 ·right
  have ey := z1i (by omega) dx q
  have eo := h2 (i + q)
  have eo9 := h3 (i + q) (Nat.le_refl _)
  have ty := z2t 10 (z51 b) q
  have hdg := z7p (K := K) (s := b) (by omega) db q (by omega)
  have hm : 0 <= u * (z51 b).getD q 0 /\ u * (z51 b).getD q 0 <= 81 := by
   have := z2z hu.1 (show (z51 b).getD q 0 <= 9 by omega)
   exact ⟨z7w hu.1 ey.1, by omega⟩
  have hset := fun d => z63 10 o (i + q) d (by omega)
  have hgs := fun d j => z6w (cs := o) (i := i + q) (j := j) (v := d) (by omega)
  have e1 : ((i : Int) + (q : Int)) = ((i + q : Nat) : Int) := by omega
  generalize hw : u * (z51 b).getD q 0 = w at hm
  generalize ho : o.getD (i + q) 0 = z at eo eo9 hset
  refine ⟨(o.set (i + q) (z + w), (q : Int) + 1), ?_, by dsimp only; omega, q + 1, rfl, by omega, by simp [h1], fun j => ?_, fun j hj => ?_, ?_⟩
  ·rw [z2l, hdg]
   simp (discharger := omega) only [runL, e1, hw, ho]
  ·dsimp only; rw [hgs]; split
   ·omega
   ·exact h2 j
  ·dsimp only; rw [hgs, if_neg (by omega)]; exact h3 j (by omega)
  ·dsimp only
   rw [hset, h4, ty, <- hw, Int.pow_add]
   grind
 ·left
  have : q = b.size := by omega
  subst this
  rw [List.take_of_length_le (by omega)] at h4
  exact ⟨o, by rw [z2l]; simp (discharger := omega) only [runL], h1, h2, h4⟩
theorem zhx {c v : List Int} (hv : v.length + 1 = c.length) (hl : c.length <= 8000000) (hK : 2000000000 < K) (hc : ∀ j, 0 <= c.getD j 0 /\ c.getD j 0 <= 90) :
  ∃ r : List Int, z27 K v K c 0 = some r /\ r.length = c.length /\ (∀ j, 0 <= r.getD j 0) /\ (∀ j < v.length, r.getD j 0 <= 9) /\ valB 10 r = valB 10 c := by
 refine z86 (fun k (s : List Int × Int) => z27 K v k s.1 s.2) (fun s => ∃ i : Nat, s.2 = i /\ i <= v.length /\ s.1.length = c.length /\ (∀ j, 0 <= s.1.getD j 0 /\ s.1.getD j 0 <= 100) /\ (∀ j, i < j -> s.1.getD j 0 <= 90) /\ (∀ j < i, s.1.getD j 0 <= 9) /\ valB 10 s.1 = valB 10 c) (fun s => (v.length - s.2 : Int).toNat) _ ?_ ((c, 0) : List Int × Int) (by simp; omega) ⟨0, rfl, by omega, rfl, fun j => by have := hc j; dsimp only; omega, fun j _ => by have := hc j; dsimp only; omega, fun j hj => by omega, rfl⟩
 rintro k ⟨o, _⟩ ⟨i, rfl, h0, h1, h2, h3, h4, h5⟩
 dsimp only at h1 h2 h3 h4 h5 ⊢
 by_cases hi : i < v.length
 ·right
  have e1 : ((i : Int) + 1).toNat = i + 1 := by omega
  have b1 := h2 i
  have b2 := h2 (i + 1)
  have b3 := h3 (i + 1) (by omega)
  by_cases h9 : o.getD i 0 > 9
  ·generalize hz : o.getD i 0 = z at *
   generalize hz1 : o.getD (i + 1) 0 = z1 at *
   have hdm := Int.emod_add_mul_ediv z 10
   have hset := fun d => z63 10 o (i + 1) d (by omega)
   have hset2 := fun d e => z63 10 (o.set (i + 1) d) i e (by simp; omega)
   have hgs := fun d j => z6w (cs := o) (i := i + 1) (j := j) (v := d) (by omega)
   have hgs2 := fun d e j => z6w (cs := o.set (i + 1) d) (i := i) (j := j) (v := e) (by simp; omega)
   have hgi := fun d => hgs d i
   simp only [show ¬ i = i + 1 by omega, if_false, hz] at hgi
   have hsi : ∀ d, idx (o.set (i + 1) d) (i : Int) = some z := fun d => by rw [idxI (by omega) (by simp; omega), Int.toNat_natCast, hgi]
   refine ⟨((o.set (i + 1) (z1 + z / 10)).set i (z % 10), (i : Int) + 1), ?_, by dsimp only; omega, i + 1, rfl, by omega, by simp [h1], fun j => ?_, fun j hj => ?_, fun j hj => ?_, ?_⟩
   ·rw [z27]
    simp (discharger := omega) only [runL, e1, hz, hz1, hsi]
   ·dsimp only; rw [hgs2, hgs]
    have := h2 j
    split
    ·omega
    ·split <;> omega
   ·dsimp only; rw [hgs2, hgs, if_neg (by omega), if_neg (by omega)]; exact h3 j (by omega)
   ·dsimp only; rw [hgs2]
    split
    ·omega
    ·rw [hgs, if_neg (by omega)]; exact h4 j (by omega)
   ·dsimp only
    rw [hset2, hset, hgi, hz1, h5, Int.pow_succ]
    grind
  ·refine ⟨(o, (i : Int) + 1), ?_, by dsimp only; omega, i + 1, rfl, by omega, h1, h2, fun j hj => h3 j (by omega), fun j hj => ?_, h5⟩
   ·have e : decide (o.getD i 0 > 9) = false := decide_eq_false h9
    rw [z27]
    simp (discharger := omega) only [runL, e, Bool.false_eq_true]
   ·by_cases hj2 : j = i
    ·subst hj2; dsimp only; omega
    ·exact h4 j (by omega)
 ·left
  have : i = v.length := by omega
  subst this
  exact ⟨o, by rw [z27]; simp (discharger := omega) only [runL], h1, fun j => (h2 j).1, h4, h5⟩
theorem kr1 {A B p q X : Int} : A * B + p * (q * B) = (A + p * q) * B := by grind
theorem zk1 {a b : zAd} (ha : a.size <= 500000) (hb : b.size <= 500000) (hK : 2000000000 < K) (da : (z02 a).all digT = true) (db : (z02 b).all digT = true) :
  ∃ r : List Int, z2m K a b K (List.replicate (a.size + b.size + 1) 0) 0 = some r /\ r.length = a.size + b.size + 1 /\ DigB 10 r /\ valB 10 r = numT a * numT b := by
 have dx := z6v da
 have lx := z4o a
 refine z86 (fun k (s : List Int × Int) => z2m K a b k s.1 s.2) (fun s => ∃ i : Nat, s.2 = i /\ i <= a.size /\ s.1.length = a.size + b.size + 1 /\ DigB 10 s.1 /\ valB 10 s.1 = valB 10 ((z51 a).take i) * numT b) (fun s => (a.size - s.2 : Int).toNat) _ ?_ ((List.replicate (a.size + b.size + 1) 0, 0) : List Int × Int) (by simp; omega) ⟨0, rfl, by omega, by simp, .zeros (by omega) _, by simp [valB, z8t]⟩
 rintro k ⟨o, _⟩ ⟨i, rfl, h0, h1, h2, h4⟩
 dsimp only at h1 h2 h4 ⊢
 by_cases hi : i < a.size
 ·right
  have ex := z1i (by omega) dx i
  have tx := z2t 10 (z51 a) i
  have hdg := z7p (K := K) (s := a) (by omega) da i (by omega)
  obtain ⟨c, c1, c2, c3, c4⟩ := zni (K := K) (b := b) (out := o) (u := (z51 a).getD i 0) (i := i) (by omega) (by omega) (by omega) hK ⟨ex.1, by omega⟩ db h2
  obtain ⟨v, hv⟩ : ∃ v, lsl c 0 ((c.length : Int) - 1) = some v := ⟨_, lslI (by omega) (by omega) (by omega)⟩
  have hvl : v.length + 1 = c.length := by
   rw [lslI (by omega) (by omega) (by omega)] at hv
   cases hv
   rw [List.length_take, List.length_drop]
   omega
  obtain ⟨r, r1, r2, r3, r4, r5⟩ := zhx (K := K) (c := c) (v := v) hvl (by omega) hK c3
  have hval : valB 10 r = valB 10 ((z51 a).take (i + 1)) * numT b := by
   rw [r5, c4, h4, tx, kr1 (X := 0)]
  -- no digit is left over
  have htop : r.getD v.length 0 = 0 := by
   have s1 := z7i 10 r v.length (by omega)
   have dlow : DigB 10 (r.take v.length) := fun d hd => by
    obtain ⟨j, hj, rfl⟩ := List.mem_iff_getElem.1 hd
    rw [List.length_take] at hj
    have q1 := r3 j
    have q2 := r4 j (by omega)
    rw [List.getElem_take]
    rw [zAb, zAh (by omega)] at q1 q2
    simp at q1 q2
    omega
   have s2 := z0s (B := 10) (by omega) _ dlow
   have s3 : r.drop v.length = [r.getD v.length 0] := by
    rw [List.drop_eq_getElem_cons (by omega), List.drop_eq_nil_of_le (by omega), zAb, zAh (by omega)]; rfl
   rw [s3] at s1
   simp only [valB, Int.mul_zero, Int.add_zero] at s1
   have t1 := z48 (B := 10) (by omega) _ (dx.take (i + 1))
   have t2 := zai db
   have t3 := z2x db
   have t4 := z0s (B := 10) (by omega) _ (dx.take (i + 1))
   have t5 : (10 : Int) ^ ((z51 a).take (i + 1)).length <= 10 ^ a.size := z6l (by omega) (by rw [List.length_take]; omega)
   have t6 : valB 10 r < 10 ^ v.length := by
    rw [hval, show v.length = a.size + b.size by omega, Int.pow_add]
    have p0 : (0 : Int) < 10 ^ b.size := Int.pow_pos (by omega)
    have m1 := z2z t4 (show numT b <= 10 ^ b.size by omega)
    have m2 := Int.mul_lt_mul_of_pos_right (show valB 10 ((z51 a).take (i + 1)) < 10 ^ a.size by omega) p0
    omega
   refine Int.le_antisymm (Int.not_lt.1 fun hlt => ?_) (r3 _)
   have p0 : (0 : Int) < 10 ^ v.length := Int.pow_pos (by omega)
   have := z2z (Int.le_of_lt p0) (show 1 <= r.getD v.length 0 by omega)
   omega
  have dr : DigB 10 r := fun d hd => by
   obtain ⟨j, hj, rfl⟩ := List.mem_iff_getElem.1 hd
   have q1 := r3 j
   have q2 : r.getD j 0 <= 9 := by
    by_cases hjv : j < v.length
    ·exact r4 j hjv
    ·have : j = v.length := by omega
     subst this; omega
   rw [zAb, zAh hj] at q1 q2
   simp at q1 q2
   omega
  refine ⟨(r, (i : Int) + 1), ?_, by dsimp only; omega, i + 1, rfl, by omega, by dsimp only; omega, dr, hval⟩
  have hcl : (c.length : Int) - 1 = c.length - 1 := rfl
  rw [z2m, hdg, if_pos (decide_eq_true (by omega)), z0e, c1, z0e, tu1a, k64 (by omega) (by omega), hv, z0e, r1, z0e, tu1a, k64 (by omega) (by omega)]
 ·left
  have : i = a.size := by omega
  subst this
  rw [List.take_of_length_le (by omega)] at h4
  exact ⟨o, by rw [z2m]; simp (discharger := omega) only [runL], h1, h2, h4⟩
theorem zd5 {a b : zAd} (ha : a.size <= 500000) (hb : b.size <= 500000) (hK : 2000000000 < K) (da : (z02 a).all digT = true) (db : (z02 b).all digT = true) : ∃ t, z46 K a b = some t /\ CanT t /\ numT t = numT a * numT b := by
 obtain ⟨r, h1, h2, h3, h4⟩ := zk1 ha hb hK da db
 obtain ⟨t, t1, t2, t3⟩ := zdy (K := K) (l := r) (by omega) (by intro e; rw [e] at h2; simp at h2) (by omega) h3
 refine ⟨t, ?_, t2, by rw [t3, h4]⟩
 unfold z46
 have e1 : ((a.size : Int) + (b.size : Int) + 1) = ((a.size + b.size + 1 : Nat) : Int) := by omega
 simp (discharger := omega) only [runL, e1, h1, t1]
end Go.Am.Tryz
/- Plain law: long division of the program's numbers. -/
namespace Go.Am.Tryz
open Go Go.Am Go.Proofs
variable {K : Nat}
theorem zhy (u : List Int) (i n : Nat) (h : i + n <= u.length) : valB 1000000000 u = valB 1000000000 (u.take i) + 1000000000 ^ i * (valB 1000000000 ((u.drop i).take n) + 1000000000 ^ n * valB 1000000000 (u.drop (i + n))) := by
 have h1 := z7i 1000000000 u i (by omega)
 have h2 := z7i 1000000000 (u.drop i) n (by rw [List.length_drop]; omega)
 rw [h1, h2, List.drop_drop]
theorem zkv {l : List Int} {i : Nat} (h : l.length <= i) : l.getD i 0 = 0 := by rw [zAb, List.getElem?_eq_none h]; rfl
theorem zlz {u v : List Int} {k : Nat} {q : Int} (hk : k + v.length + 1 <= u.length) (hl : u.length <= 8000000) (hK : 2000000000 < K) (hq : 0 <= q /\ q < 1000000000) (du : DigB 1000000000 u) (dv : DigB 1000000000 v) :
  ∃ (b : Int) (u' : List Int), z34 K u v k q = some (decide (b > 0), u') /\ (b = 0 \/ b = 1) /\ u'.length = u.length /\ DigB 1000000000 u' /\ u'.take k = u.take k /\ u'.drop (k + (v.length + 1)) = u.drop (k + (v.length + 1)) ∧
   valB 1000000000 u' = valB 1000000000 u - 1000000000 ^ k * (q * valB 1000000000 v) + 1000000000 ^ (k + (v.length + 1)) * b := by
 have key : ∃ r : List Int × Int, z14 K v k q K u 0 0 0 = some r /\ (r.2 = 0 \/ r.2 = 1) /\ r.1.length = u.length /\ DigB 1000000000 r.1 /\ r.1.take k = u.take k /\ r.1.drop (k + (v.length + 1)) = u.drop (k + (v.length + 1)) ∧
   valB 1000000000 r.1 = valB 1000000000 u - 1000000000 ^ k * (q * valB 1000000000 v) + 1000000000 ^ (k + (v.length + 1)) * r.2 := by
  refine z86 (fun m (s : List Int × Int × Int × Int) => z14 K v k q m s.1 s.2.1 s.2.2.1 s.2.2.2) (fun s => ∃ i : Nat, s.2.2.2 = i /\ i <= v.length + 1 /\ s.1.length = u.length /\ DigB 1000000000 s.1 /\ (s.2.1 = 0 \/ s.2.1 = 1) /\ (0 <= s.2.2.1 /\ s.2.2.1 < 1000000000) /\ (i = v.length + 1 -> s.2.2.1 = 0) /\ s.1.take k = u.take k /\ s.1.drop (k + (v.length + 1)) = u.drop (k + (v.length + 1)) ∧
   valB 1000000000 s.1 = valB 1000000000 u - 1000000000 ^ k * (q * valB 1000000000 (v.take i)) + 1000000000 ^ (k + i) * (s.2.1 + s.2.2.1)) (fun s => (v.length + 1 - s.2.2.2 : Int).toNat) _ ?_ ((u, 0, 0, 0) : List Int × Int × Int × Int) (by simp; omega) ⟨0, rfl, by omega, rfl, du, .inl rfl, by simp, by simp, rfl, rfl, by simp [valB]⟩
  rintro m ⟨o, b, c, _⟩ ⟨i, rfl, h0, h1, h2, h3, h4, h5, h6, h7, h8⟩
  dsimp only at h1 h2 h3 h4 h5 h6 h7 h8 ⊢
  by_cases hi : i < v.length + 1
  ·right
   have ev := z1i (by omega) dv i
   have eo := z1i (by omega) h2 (k + i)
   have hm := zkt hq ev
   have tv := z2t 1000000000 v i
   have e1 : ((k : Int) + (i : Int)) = ((k + i : Nat) : Int) := by omega
   have e2 : (1000000000 : Int) ^ (k + (i + 1)) = 1000000000 ^ k * 1000000000 ^ i * 1000000000 := by rw [<- Nat.add_assoc, Int.pow_succ, Int.pow_add]
   have hset := fun d => z63 1000000000 o (k + i) d (by omega)
   have hz : ¬ i < v.length -> q * v.getD i 0 = 0 := fun h => by rw [zkv (by omega)]; simp
   generalize hw : q * v.getD i 0 = w at hm hz
   generalize ho : o.getD (k + i) 0 = z at eo hset
   have hdm := Int.emod_add_mul_ediv (c + w) 1000000000
   have htk : ∀ d, (o.set (k + i) d).take k = u.take k := fun d => by rw [List.take_set_of_le (by omega), h6]
   have hdr : ∀ d, (o.set (k + i) d).drop (k + (v.length + 1)) = u.drop (k + (v.length + 1)) := fun d => by rw [List.drop_set_of_lt (by omega), h7]
   have hc0 : i + 1 = v.length + 1 -> (c + w) / 1000000000 = 0 := fun h => by rw [hz (by omega)]; omega
   have hb2 : 0 <= b /\ b <= 1 := by rcases h3 with rfl | rfl <;> omega
   by_cases hn : z - (c + w) % 1000000000 - b < 0
   ·refine ⟨(o.set (k + i) (z - (c + w) % 1000000000 - b + 1000000000), 1, (c + w) / 1000000000, (i : Int) + 1), ?_, by dsimp only; omega, i + 1, rfl, by omega, by simp [h1], h2.set _ (by omega), .inr rfl, by dsimp only; omega, hc0, htk _, hdr _, ?_⟩
    ·rw [z14]
     by_cases h : i < v.length
     ·simp (discharger := omega) only [runL, e1, hw, ho]
     ·have e := hz h
      subst e
      simp only [Int.add_zero] at hn ⊢
      simp (discharger := omega) only [runL, e1, ho]
    ·dsimp only
     rw [hset, tv, e2]
     rw [Int.pow_add] at h8 ⊢
     subst hw
     generalize (c + q * v.getD i 0) / 1000000000 = Q at *
     generalize (c + q * v.getD i 0) % 1000000000 = R at *
     grind
   ·refine ⟨(o.set (k + i) (z - (c + w) % 1000000000 - b), 0, (c + w) / 1000000000, (i : Int) + 1), ?_, by dsimp only; omega, i + 1, rfl, by omega, by simp [h1], h2.set _ (by omega), .inl rfl, by dsimp only; omega, hc0, htk _, hdr _, ?_⟩
    ·rw [z14]
     by_cases h : i < v.length
     ·simp (discharger := omega) only [runL, e1, hw, ho]
     ·have e := hz h
      subst e
      simp only [Int.add_zero] at hn ⊢
      simp (discharger := omega) only [runL, e1, ho]
    ·dsimp only
     rw [hset, tv, e2]
     rw [Int.pow_add] at h8 ⊢
     subst hw
     generalize (c + q * v.getD i 0) / 1000000000 = Q at *
     generalize (c + q * v.getD i 0) % 1000000000 = R at *
     grind
  ·left
   have : i = v.length + 1 := by omega
   subst this
   have hc := h5 rfl
   subst hc
   rw [List.take_of_length_le (by omega), Int.add_zero] at h8
   exact ⟨(o, b), by rw [z14]; simp (discharger := omega) only [runL], h3, h1, h2, h6, h7, h8⟩
 obtain ⟨⟨u', b⟩, h1, h2⟩ := key
 exact ⟨b, u', by unfold z34; rw [h1]; rfl, h2⟩
theorem znj {u v : List Int} {k : Nat} (hk : k + v.length + 1 <= u.length) (hl : u.length <= 8000000) (hK : 2000000000 < K) (du : DigB 1000000000 u) (dv : DigB 1000000000 v) :
  ∃ (u' : List Int) (b : Int), z3l K u v k = some u' /\ (b = 0 \/ b = 1) /\ u'.length = u.length /\ DigB 1000000000 u' /\ u'.take k = u.take k /\ u'.drop (k + (v.length + 1)) = u.drop (k + (v.length + 1)) ∧
   valB 1000000000 u' + 1000000000 ^ (k + (v.length + 1)) * b = valB 1000000000 u + 1000000000 ^ k * valB 1000000000 v := by
 have key : ∃ r : List Int, z1v K v k K u 0 0 = some r /\ ∃ b : Int, (b = 0 \/ b = 1) /\ r.length = u.length /\ DigB 1000000000 r /\ r.take k = u.take k /\ r.drop (k + (v.length + 1)) = u.drop (k + (v.length + 1)) ∧
   valB 1000000000 r + 1000000000 ^ (k + (v.length + 1)) * b = valB 1000000000 u + 1000000000 ^ k * valB 1000000000 v := by
  refine z86 (fun m (s : List Int × Int × Int) => z1v K v k m s.1 s.2.1 s.2.2) (fun s => ∃ i : Nat, s.2.2 = i /\ i <= v.length + 1 /\ s.1.length = u.length /\ DigB 1000000000 s.1 /\ (s.2.1 = 0 \/ s.2.1 = 1) /\ s.1.take k = u.take k /\ s.1.drop (k + (v.length + 1)) = u.drop (k + (v.length + 1)) ∧
   valB 1000000000 s.1 + 1000000000 ^ (k + i) * s.2.1 = valB 1000000000 u + 1000000000 ^ k * valB 1000000000 (v.take i)) (fun s => (v.length + 1 - s.2.2 : Int).toNat) _ ?_ ((u, 0, 0) : List Int × Int × Int) (by simp; omega) ⟨0, rfl, by omega, rfl, du, .inl rfl, rfl, rfl, by simp [valB]⟩
  rintro m ⟨o, b, _⟩ ⟨i, rfl, h0, h1, h2, h3, h6, h7, h8⟩
  dsimp only at h1 h2 h3 h6 h7 h8 ⊢
  by_cases hi : i < v.length + 1
  ·right
   have ev := z1i (by omega) dv i
   have eo := z1i (by omega) h2 (k + i)
   have tv := z2t 1000000000 v i
   have e1 : ((k : Int) + (i : Int)) = ((k + i : Nat) : Int) := by omega
   have e2 : (1000000000 : Int) ^ (k + (i + 1)) = 1000000000 ^ k * 1000000000 ^ i * 1000000000 := by rw [<- Nat.add_assoc, Int.pow_succ, Int.pow_add]
   have hset := fun d => z63 1000000000 o (k + i) d (by omega)
   have hz : ¬ i < v.length -> v.getD i 0 = 0 := fun h => zkv (by omega)
   generalize hw : v.getD i 0 = w at ev hz tv
   generalize ho : o.getD (k + i) 0 = z at eo hset
   have hdm := Int.emod_add_mul_ediv (z + b + w) 1000000000
   have htk : ∀ d, (o.set (k + i) d).take k = u.take k := fun d => by rw [List.take_set_of_le (by omega), h6]
   have hdr : ∀ d, (o.set (k + i) d).drop (k + (v.length + 1)) = u.drop (k + (v.length + 1)) := fun d => by rw [List.drop_set_of_lt (by omega), h7]
   have hb2 : 0 <= b /\ b <= 1 := by rcases h3 with rfl | rfl <;> omega
   refine ⟨(o.set (k + i) ((z + b + w) % 1000000000), (z + b + w) / 1000000000, (i : Int) + 1), ?_, by dsimp only; omega, i + 1, rfl, by omega, by simp [h1], h2.set _ (by omega), by dsimp only; omega, htk _, hdr _, ?_⟩
   ·rw [z1v]
    by_cases h : i < v.length
    ·simp (discharger := omega) only [runL, e1, hw, ho]
    ·have e := hz h
     subst e
     simp only [Int.add_zero] at hdm ⊢
     simp (discharger := omega) only [runL, e1, ho]
   ·dsimp only
    rw [hset, tv, e2]
    rw [Int.pow_add] at h8
    generalize (z + b + w) / 1000000000 = Q at *
    generalize (z + b + w) % 1000000000 = R at *
    grind
  ·left
   have : i = v.length + 1 := by omega
   subst this
   rw [List.take_of_length_le (by omega)] at h8
   exact ⟨o, by rw [z1v]; simp (discharger := omega) only [runL], b, h3, h1, h2, h6, h7, h8⟩
 obtain ⟨u', h1, b, h2⟩ := key
 exact ⟨u', b, by unfold z3l; rw [h1]; rfl, h2⟩
theorem zm0 {u v : List Int} {k : Nat} {P vl top ul q g r : Int} (hn : 2 <= v.length) (hk : k + v.length + 1 <= u.length) (hl : u.length <= 8000000) (hK : 2000000000 < K)
  (h : Kn 1000000000 P (v.getD (v.length - 1) 0) (v.getD (v.length - 2) 0) vl top (u.getD (k + v.length - 2) 0) ul q) (hv : v.getD (v.length - 1) 0 < 1000000000) (ht : top < 1000000000 * v.getD (v.length - 1) 0 + 1000000000) (hr : top = g * v.getD (v.length - 1) 0 + r) (hg : q <= g) (hg2 : g < 2000000000) (hr0 : 0 <= r /\ r < 1000000000) :
  ∃ g', z1q K v u k K g r = some g' /\ q <= g' /\ g' <= q + 1 /\ g' < 1000000000 := by
 generalize hv1 : v.getD (v.length - 1) 0 = v1 at *
 generalize hv2 : v.getD (v.length - 2) 0 = v2 at *
 generalize hu3 : u.getD (k + v.length - 2) 0 = u3 at *
 have a1 := h.v1p
 have a2 := h.v2p
 have a3 := h.v2b
 have a4 := h.u3p
 have a5 := h.u3b
 have a6 := h.q0
 have a7 := h.qB
 refine z86 (fun m (s : Int × Int) => z1q K v u k m s.1 s.2) (fun s => top = s.1 * v1 + s.2 /\ q <= s.1 /\ s.1 < 2000000000 /\ 0 <= s.2 /\ s.2 < 1000000000) (fun s => (1000000000 - s.2).toNat) _ ?_ ((g, r) : Int × Int) ?_ ⟨hr, hg, hg2, hr0.1, hr0.2⟩
 ·rintro m ⟨g, r⟩ ⟨b1, b2, b3, b4, b5⟩
  dsimp only at b1 b2 b3 b4 b5 ⊢
  have f1 : idx v (z03 .i64 ((v.length : Int) - 1)) = some v1 := by
   rw [k64 (by omega) (by omega), idxI (by omega) (by omega), <- hv1]; congr 2; omega
  have f2 : idx v (z03 .i64 ((v.length : Int) - 2)) = some v2 := by
   rw [k64 (by omega) (by omega), idxI (by omega) (by omega), <- hv2]; congr 2; omega
  have f3 : idx u (z03 .i64 (z03 .i64 ((k : Int) + (v.length : Int)) - 2)) = some u3 := by
   rw [k64 (a := (k : Int) + (v.length : Int)) (by omega) (by omega), k64 (by omega) (by omega), idxI (by omega) (by omega), <- hu3]; congr 2; omega
  have m1 : 0 <= g * v2 := z7w (by omega) a2
  have m2 := z2z (show 0 <= g by omega) (show v2 <= 999999999 by omega)
  rw [z1q, f1, f2]
  generalize hw : g * v2 = w at m1 m2
  by_cases c : g >= 1000000000 \/ w > r * 1000000000 + u3
  ·have hqg : q < g := by
    rcases c with c | c
    ·omega
    ·exact h.down b1 (by omega) (by omega)
   have hc : (if (decide (g >= 1000000000)) = true then some true else ((some v2).bind fun x235 => (lt (z03 .i64 ((z03 .i64 ((k : Int) + (v.length : Int))) - 2)) fun x239 => ((idx u x239).bind fun x242 => (lt (z03 .u64 ((z03 .u64 (r * 1000000000)) + (IntKind.wrap .u64 x242))) fun x246 => (lt (decide ((z03 .u64 (g * (IntKind.wrap .u64 x235))) > x246)) fun x249 => some x249)))))) = some true := by
    by_cases c1 : g >= 1000000000
    ·rw [decide_eq_true c1]; rfl
    ·rw [decide_eq_false c1]
     simp only [z0e, lta, Bool.false_eq_true, if_false, f3]
     rw [u64w (a := v2) (by omega) (by omega), hw, u64w (a := u3) (by omega) (by omega), ku64 (a := w) (by omega) (by omega), ku64 (a := r * 1000000000) (by omega) (by omega), ku64 (a := r * 1000000000 + u3) (by omega) (by omega), decide_eq_true (by omega)]
   rw [hc]
   by_cases c2 : r + v1 >= 1000000000
   ·left
    have hgB : g <= 1000000000 := by
     refine Int.not_lt.1 fun hlt => ?_
     have := z2z (show 0 <= v1 by omega) (show 1000000001 <= g by omega)
     rw [Int.mul_comm v1 g] at this
     omega
    have hx := h.exitB (g := g - 1) (r := r + v1) (by rw [Int.sub_mul]; omega) (by omega) (by omega) c2
    refine ⟨g - 1, ?_, by omega, by omega, by omega⟩
    simp (discharger := omega) only [runL]
   ·right
    refine ⟨(g - 1, r + v1), ?_, by dsimp only; omega, by dsimp only; rw [Int.sub_mul]; omega, by dsimp only; omega, by dsimp only; omega, by dsimp only; omega, by dsimp only; omega⟩
    have e : decide (r + v1 >= 1000000000) = false := decide_eq_false c2
    simp (discharger := omega) only [runL, e, Bool.false_eq_true]
  ·left
   have c1 : ¬ g >= 1000000000 := fun x => c (.inl x)
   have c3 : ¬ w > r * 1000000000 + u3 := fun x => c (.inr x)
   have hx := h.exitA b1 (by omega) (by omega) (by omega)
   refine ⟨g, ?_, b2, hx, by omega⟩
   rw [decide_eq_false c1]
   simp only [z0e, lta, Bool.false_eq_true, if_false, f3]
   rw [u64w (a := v2) (by omega) (by omega), hw, u64w (a := u3) (by omega) (by omega), ku64 (a := w) (by omega) (by omega), ku64 (a := r * 1000000000) (by omega) (by omega), ku64 (a := r * 1000000000 + u3) (by omega) (by omega), decide_eq_false c3]
   simp only [z0e, tu1a, Bool.false_eq_true, if_false]
 ·dsimp only; omega
end Go.Am.Tryz
/- Plain law: quotient and remainder, greatest common divisor of the program's numbers. -/
namespace Go.Am.Tryz
open Go Go.Am Go.Proofs
variable {K : Nat}
theorem zhz (u : List Int) (i j : Nat) : (u.drop i).getD j 0 = u.getD (i + j) 0 := by
 rw [zAb, List.getElem?_drop, zAb]
section
variable {p X Y V M HI LO U g q b c rr M1 M2 U1 U2 P v1 v2 vl t1 t2 t3 ul top : Int}
theorem kd1 : vl + P * v2 + P * 1000000000 * v1 = P * (1000000000 * v1 + v2) + vl := by grind
theorem kd2 : ul + P * t3 + P * 1000000000 * t2 + P * 1000000000 * 1000000000 * t1 = P * (1000000000 * (t1 * 1000000000 + t2) + t3) + ul := by grind
theorem kd3 (hu : U < p * 1000000000 * V) (hm : U = LO + p * (M + Y * 1000000000 * HI)) (h0 : 0 <= LO) (p0 : 0 < p) (Y0 : 0 < Y) (hV : V < Y) (hM : 0 <= M) (hH : 0 <= HI) : HI = 0 := by
 refine Int.le_antisymm (Int.not_lt.1 fun hlt => ?_) hH
 have a1 := z2z (Int.le_of_lt Y0) (show 1 <= HI by omega)
 have a2 := z2z (Int.le_of_lt p0) (show V + 1 <= Y by omega)
 have a3 := z2z (Int.le_of_lt p0) (show Y * 1000000000 <= M + Y * 1000000000 * HI by grind)
 grind
theorem kd4 (hu : U < p * 1000000000 * V) (hm : U = LO + p * (M + X * 0)) (h0 : 0 <= LO) (p0 : 0 < p) : M < 1000000000 * V := by
 refine Int.not_le.1 fun hle => ?_
 have a1 := z2z (Int.le_of_lt p0) hle
 grind
theorem kd5 (h : rr + V * q = M) (h0 : 0 <= rr) : q * V <= M := by grind
theorem kd5' (h : rr + V * q = M) (h0 : rr < V) : M < (q + 1) * V := by grind
theorem kd6 (hM : M = P * (1000000000 * top + t3) + ul) (hV : V = P * (1000000000 * v1 + v2) + vl) (h : M < 1000000000 * V) (P0 : 0 < P) (b2 : v2 < 1000000000) (b3 : 0 <= t3) (u0 : 0 <= ul) (vb : vl < P) : top < 1000000000 * v1 + 1000000000 := by
 refine Int.not_le.1 fun hle => ?_
 have a1 := z2z (Int.le_of_lt P0) (z2z (show (0:Int) <= 1000000000 by omega) hle)
 have a2 := z2z (Int.le_of_lt P0) (show v2 <= 999999999 by omega)
 have a3 := z7w (Int.le_of_lt P0) b3
 subst hM hV
 grind
theorem kd7 (p0 : 0 < p) (h1 : U1 = LO + p * (M1 + X * 0)) (h2 : U1 = U - p * (g * V) + p * X * b) (h3 : U = LO + p * (M + X * 0)) : M1 = M - g * V + X * b := by
 have : p * M1 = p * (M - g * V + X * b) := by grind
 exact Int.eq_of_mul_eq_mul_left (by omega) this
theorem kd8 (h : rr + V * q = M) (h1 : rr < V) (hV : 0 < V) (hm : M1 = M - g * V + X * 0) (h0 : 0 <= M1) (hq : q <= g) : g = q := by
 refine Int.le_antisymm (Int.not_lt.1 fun hlt => ?_) hq
 have a1 := z2z (Int.le_of_lt hV) (show q + 1 <= g by omega)
 grind
theorem kd9 (h : rr + V * q = M) (h0 : 0 <= rr) (hm : M1 = M - g * V + X * 1) (h1 : M1 < X) (hq : q <= g) (hq1 : g <= q + 1) : g = q + 1 := by
 refine Int.le_antisymm hq1 (Int.not_lt.1 fun hlt => ?_)
 have : g = q := by omega
 subst this
 grind
theorem kd10 (p0 : 0 < p) (h1 : U2 = LO + p * (M2 + X * 0)) (h2 : U2 + p * X * c = U1 + p * V) (h3 : U1 = LO + p * (M1 + X * 0)) (h4 : M1 = M - (q + 1) * V + X * 1) : M2 = M - q * V + X * (1 - c) := by
 have : p * M2 = p * (M - q * V + X * (1 - c)) := by grind
 exact Int.eq_of_mul_eq_mul_left (by omega) this
theorem kd11 (h : rr + V * q = M) (h0 : 0 <= rr) (hm : M2 = M - q * V + X * (1 - c)) (h1 : M2 < X) (hc : c = 0 \/ c = 1) : c = 1 := by
 rcases hc with rfl | rfl
 ·grind
 ·rfl
theorem kd12 (h1 : U1 = LO + p * (M1 + X * 0)) (hm : M1 = M - q * V) (h3 : U = LO + p * (M + X * 0)) : U1 + p * (q * V) = U := by grind
theorem kd13 (p0 : 0 < p) (h1 : U1 = LO + p * (M1 + X * 0)) (hm : M1 = M - q * V) (h : rr + V * q = M) (hr : rr < V) (hl : LO < p) : U1 < p * V := by
 have a1 := z2z (Int.le_of_lt p0) (show M1 + 1 <= V by grind)
 grind
end
theorem zi0 {u v : List Int} {i : Nat} (hn : 2 <= v.length) (hk : i + v.length + 1 <= u.length) (hl : u.length <= 8000000) (hK : 2000000000 < K) (du : DigB 1000000000 u) (cv : CanB 1000000000 v) (hu : valB 1000000000 u < 1000000000 ^ (i + 1) * valB 1000000000 v) :
  ∃ g b u1 u2 q, z1q K v u i K ((u.getD (i + v.length) 0 * 1000000000 + u.getD (i + v.length - 1) 0) / v.getD (v.length - 1) 0) ((u.getD (i + v.length) 0 * 1000000000 + u.getD (i + v.length - 1) 0) % v.getD (v.length - 1) 0) = some g /\ 0 <= g /\ g < 1000000000 ∧
   z34 K u v i g = some (b, u1) /\ (b = true -> z3l K u1 v i = some u2 /\ q = g - 1) /\ (b = false -> u2 = u1 /\ q = g) /\ 0 <= q /\ q < 1000000000 /\ u2.length = u.length /\ DigB 1000000000 u2 ∧
   valB 1000000000 u2 + 1000000000 ^ i * (q * valB 1000000000 v) = valB 1000000000 u /\ valB 1000000000 u2 < 1000000000 ^ i * valB 1000000000 v /\ 1 <= v.getD (v.length - 1) 0 /\ v.getD (v.length - 1) 0 < 1000000000 := by
 obtain ⟨n, hnv⟩ : ∃ n, v.length = n + 2 := ⟨v.length - 2, by omega⟩
 have dv := cv.1
 have ev1 := z1i (by omega) dv (n + 1)
 have ev2 := z1i (by omega) dv n
 have et1 := z1i (by omega) du (i + n + 2)
 have et2 := z1i (by omega) du (i + n + 1)
 have et3 := z1i (by omega) du (i + n)
 -- the divisor's leading digits
 have hv1 : 1 <= v.getD (n + 1) 0 := by
  have : v.getD (n + 1) 0 ≠ 0 := fun e => cv.2 (by
   rw [List.getLast?_eq_getElem?, hnv]
   have hi : n + 2 - 1 < v.length := by omega
   rw [zAb, zAh (by omega)] at e
   rw [zAh hi]
   simp at e ⊢
   exact e)
  omega
 have hV : valB 1000000000 v = 1000000000 ^ n * (1000000000 * v.getD (n + 1) 0 + v.getD n 0) + valB 1000000000 (v.take n) := by
  have h1 := z2t 1000000000 v n
  have h2 := z2t 1000000000 v (n + 1)
  rw [List.take_of_length_le (by omega)] at h2
  rw [h2, h1, Int.pow_succ, kd1]
 have hVn : valB 1000000000 v < 1000000000 ^ (n + 2) := by rw [<- hnv]; exact z48 (by omega) v dv
 -- the middle of what is divided
 have hmid := zhy u i (n + 3) (by omega)
 have hM : valB 1000000000 ((u.drop i).take (n + 3)) = 1000000000 ^ n * (1000000000 * (u.getD (i + n + 2) 0 * 1000000000 + u.getD (i + n + 1) 0) + u.getD (i + n) 0) + valB 1000000000 ((u.drop i).take n) := by
  have h1 := z2t 1000000000 (u.drop i) n
  have h2 := z2t 1000000000 (u.drop i) (n + 1)
  have h3 := z2t 1000000000 (u.drop i) (n + 2)
  rw [zhz] at h1 h2 h3
  rw [h3, h2, h1, Int.pow_succ 1000000000 (n + 1), Int.pow_succ 1000000000 n, <- Nat.add_assoc, <- Nat.add_assoc, kd2]
 have dlo := du.take i
 have lo0 := z0s (B := 1000000000) (by omega) _ dlo
 have lo1 := z48 (B := 1000000000) (by omega) _ dlo
 rw [List.length_take, Nat.min_eq_left (by omega)] at lo1
 have dmi := (du.drop i).take (n + 3)
 have mi0 := z0s (B := 1000000000) (by omega) _ dmi
 have dhi := du.drop (i + (n + 3))
 have hi0 := z0s (B := 1000000000) (by omega) _ dhi
 have p0 : 0 < (1000000000 : Int) ^ i := Int.pow_pos (by omega)
 have pn0 : 0 < (1000000000 : Int) ^ n := Int.pow_pos (by omega)
 have pn3 : 0 < (1000000000 : Int) ^ (n + 3) := Int.pow_pos (by omega)
 have ep1 : (1000000000 : Int) ^ (i + 1) = 1000000000 ^ i * 1000000000 := Int.pow_succ _ _
 have ep3 : (1000000000 : Int) ^ (n + 3) = 1000000000 ^ (n + 2) * 1000000000 := Int.pow_succ _ _
 have dul := (du.drop i).take n
 have ul0 := z0s (B := 1000000000) (by omega) _ dul
 have ul1 := z48 (B := 1000000000) (by omega) _ dul
 rw [List.length_take, List.length_drop, Nat.min_eq_left (by omega)] at ul1
 have dvl := dv.take n
 have vl0 := z0s (B := 1000000000) (by omega) _ dvl
 have vl1 := z48 (B := 1000000000) (by omega) _ dvl
 rw [List.length_take, Nat.min_eq_left (by omega)] at vl1
 have hmin := fun (g : Int) (hg : 0 <= g /\ g < 1000000000) => zlz (K := K) (u := u) (v := v) (k := i) (q := g) hk hl hK hg du dv
 have hplu := fun (u1 : List Int) (h1 : u1.length = u.length) (d1 : DigB 1000000000 u1) => znj (K := K) (u := u1) (v := v) (k := i) (by omega) (by omega) hK d1 dv
 rw [show i + v.length = i + n + 2 by omega, show i + n + 2 - 1 = i + n + 1 by omega, show v.length - 1 = n + 1 by omega]
 generalize hVV : valB 1000000000 v = V at *
 generalize hMM : valB 1000000000 ((u.drop i).take (n + 3)) = M at *
 generalize hLL : valB 1000000000 (u.take i) = LO at *
 generalize hHH : valB 1000000000 (u.drop (i + (n + 3))) = HI at *
 have hV0 : 0 < V := by
  have := z2z (Int.le_of_lt pn0) (show 1 <= 1000000000 * v.getD (n + 1) 0 + v.getD n 0 by omega)
  omega
 have hHI : HI = 0 := by
  rw [ep3] at hmid
  rw [ep1] at hu
  exact kd3 hu hmid lo0 p0 (Int.pow_pos (by omega)) hVn mi0 hi0
 rw [hHI] at hmid
 have hMV : M < 1000000000 * V := by
  rw [ep1] at hu
  exact kd4 hu hmid lo0 p0
 -- the true digit
 have q0 : 0 <= M / V := Int.ediv_nonneg mi0 (by omega)
 have qB : M / V < 1000000000 := Int.ediv_lt_of_lt_mul hV0 hMV
 have hdm := Int.emod_add_mul_ediv M V
 have r0 := Int.emod_nonneg M (show V ≠ 0 by omega)
 have r1 := Int.emod_lt_of_pos M hV0
 generalize hq : M / V = q at *
 generalize M % V = rr at *
 have hkn : Kn 1000000000 (1000000000 ^ n) (v.getD (n + 1) 0) (v.getD n 0) (valB 1000000000 (v.take n)) (u.getD (i + n + 2) 0 * 1000000000 + u.getD (i + n + 1) 0) (u.getD (i + n) 0) (valB 1000000000 ((u.drop i).take n)) q := by
  refine ⟨by omega, pn0, hv1, ev2.1, ev2.2, vl0, vl1, by omega, et3.1, et3.2, ul0, ul1, q0, qB, ?_, ?_⟩
  ·rw [<- hM, <- hV]; exact kd5 hdm r0
  ·rw [<- hM, <- hV]; exact kd5' hdm r1
 have ht : u.getD (i + n + 2) 0 * 1000000000 + u.getD (i + n + 1) 0 < 1000000000 * v.getD (n + 1) 0 + 1000000000 := kd6 hM hV hMV pn0 ev2.2 et3.1 ul0 vl1
 generalize htop : u.getD (i + n + 2) 0 * 1000000000 + u.getD (i + n + 1) 0 = top at *
 have htd := Int.emod_add_mul_ediv top (v.getD (n + 1) 0)
 have hfirst := hkn.first
 have g2 : top / v.getD (n + 1) 0 < 2000000000 := Int.ediv_lt_of_lt_mul (by omega) (by omega)
 have rt0 := Int.emod_nonneg top (show v.getD (n + 1) 0 ≠ 0 by omega)
 have rt1 := Int.emod_lt_of_pos top (show 0 < v.getD (n + 1) 0 by omega)
 obtain ⟨g, w1, w2, w3, w4⟩ := zm0 (K := K) (u := u) (v := v) (k := i) (P := 1000000000 ^ n) (vl := valB 1000000000 (v.take n)) (top := top) (ul := valB 1000000000 ((u.drop i).take n)) (q := q) (g := top / v.getD (n + 1) 0) (r := top % v.getD (n + 1) 0) hn hk hl hK
  (by rw [hnv, show n + 2 - 1 = n + 1 by omega, show n + 2 - 2 = n by omega, show i + (n + 2) - 2 = i + n by omega]; exact hkn) (by rw [hnv, show n + 2 - 1 = n + 1 by omega]; omega) (by rw [hnv, show n + 2 - 1 = n + 1 by omega]; omega) (by rw [hnv, show n + 2 - 1 = n + 1 by omega, Int.mul_comm]; omega) hfirst g2 (by omega)
 obtain ⟨b, u1, m1, m2, m3, m4, m5, m6, m7⟩ := hmin g (by omega)
 have hmid1 := zhy u1 i (n + 3) (by omega)
 have dm1 := (m4.drop i).take (n + 3)
 have m10 := z0s (B := 1000000000) (by omega) _ dm1
 have m11 := z48 (B := 1000000000) (by omega) _ dm1
 rw [List.length_take, List.length_drop, Nat.min_eq_left (by omega)] at m11
 rw [show i + (n + 3) = i + (v.length + 1) by omega, m6, show i + (v.length + 1) = i + (n + 3) by omega, hHH, hHI, m5, hLL] at hmid1
 rw [show i + (v.length + 1) = i + (n + 3) by omega, Int.pow_add] at m7
 generalize hM1 : valB 1000000000 ((u1.drop i).take (n + 3)) = M1 at *
 have hM1e : M1 = M - g * V + 1000000000 ^ (n + 3) * b := kd7 p0 hmid1 m7 hmid
 rcases m2 with rfl | rfl
 ·-- no borrow: the guess was right
  have hgq : g = q := kd8 hdm r1 hV0 hM1e m10 w2
  subst hgq
  have hM1f : M1 = M - g * V := by rw [hM1e]; omega
  exact ⟨g, false, u1, u1, g, w1, q0, w4, by simpa using m1, by simp, by simp, q0, qB, m3, m4, kd12 hmid1 hM1f hmid, kd13 p0 hmid1 hM1f hdm r1 lo1, hv1, ev1.2⟩
 ·have hgq : g = q + 1 := kd9 hdm r0 hM1e m11 w2 w3
  subst hgq
  obtain ⟨u2, c, s1, s2, s3, s4, s5, s6, s7⟩ := hplu u1 m3 m4
  have hmid2 := zhy u2 i (n + 3) (by omega)
  have dm2 := (s4.drop i).take (n + 3)
  have m20 := z0s (B := 1000000000) (by omega) _ dm2
  have m21 := z48 (B := 1000000000) (by omega) _ dm2
  rw [List.length_take, List.length_drop, Nat.min_eq_left (by omega)] at m21
  rw [show i + (n + 3) = i + (v.length + 1) by omega, s6, m6, show i + (v.length + 1) = i + (n + 3) by omega, hHH, hHI, s5, m5, hLL] at hmid2
  rw [show i + (v.length + 1) = i + (n + 3) by omega, Int.pow_add] at s7
  generalize hM2 : valB 1000000000 ((u2.drop i).take (n + 3)) = M2 at *
  have hM2e : M2 = M - q * V + 1000000000 ^ (n + 3) * (1 - c) := kd10 p0 hmid2 s7 hmid1 hM1e
  have hc : c = 1 := kd11 hdm r0 hM2e m21 s2
  subst hc
  have hM2f : M2 = M - q * V := by rw [hM2e]; omega
  exact ⟨q + 1, true, u1, u2, q, w1, by omega, w4, by simpa using m1, fun _ => ⟨s1, by omega⟩, by simp, q0, qB, by omega, s4, kd12 hmid2 hM2f hmid, kd13 p0 hmid2 hM2f hdm r1 lo1, hv1, ev1.2⟩
end Go.Am.Tryz
/- Plain law: Div and Gcd of the program's numbers. -/
namespace Go.Am.Tryz
open Go Go.Am Go.Proofs
variable {K : Nat}
theorem kf1 {Y p Z V U U2 O q : Int} (h : U + O * V = Z) (h2 : U2 + p * (q * V) = U) : U2 + (O + p * (q - 0)) * V = Z := by grind
theorem zfq {o w v u1 u2 : List Int} {i m : Nat} {g q a1 a2 v1 : Int} {b : Bool} (hn : 2 <= v.length) (hk : i + v.length + 1 <= w.length) (hl : w.length <= 8000000) (ho : i < o.length) (h1 : w.getD (i + v.length) 0 = a1) (h2 : w.getD (i + v.length - 1) 0 = a2) (h3 : v.getD (v.length - 1) 0 = v1)
  (b1 : 0 <= a1 /\ a1 < 1000000000) (b2 : 0 <= a2 /\ a2 < 1000000000) (b3 : 1 <= v1 /\ v1 < 1000000000) (hg : 0 <= g /\ g < 1000000000) (hq : 0 <= q /\ q < 1000000000) (d1 : z1q K v w i K ((a1 * 1000000000 + a2) / v1) ((a1 * 1000000000 + a2) % v1) = some g) (d4 : z34 K w v i g = some (b, u1)) (d5 : b = true -> z3l K u1 v i = some u2 /\ q = g - 1) (d6 : b = false -> u2 = u1 /\ q = g) :
  z1g K v (m + 1) o w i = z1g K v m (o.set i q) u2 ((i : Int) - 1) := by
 have t1 : ((i : Int) + (v.length : Int)).toNat = i + v.length := by omega
 have t2 : ((i : Int) + (v.length : Int) - 1).toNat = i + v.length - 1 := by omega
 have t3 : ((v.length : Int) - 1).toNat = v.length - 1 := by omega
 have hq1 : 0 <= (a1 * 1000000000 + a2) / v1 := Int.ediv_nonneg (by omega) (by omega)
 have hq2 : (a1 * 1000000000 + a2) / v1 <= a1 * 1000000000 + a2 := Int.ediv_le_self _ (by omega)
 rw [z1g]
 cases b with
 | true =>
  obtain ⟨p1, p2⟩ := d5 rfl
  subst p2
  clear d5 d6
  simp (discharger := omega) only [runL, t1, t2, t3, h1, h2, h3, d1, d4, p1]
 | false =>
  obtain ⟨p1, p2⟩ := d6 rfl
  subst p1 p2
  clear d5 d6
  simp (discharger := omega) only [runL, t1, t2, t3, h1, h2, h3, d1, d4, Bool.false_eq_true]
theorem zm1 {u v : List Int} {J : Nat} (hn : 2 <= v.length) (hJ : J + v.length = u.length) (hJ1 : 1 <= J) (hl : u.length <= 8000000) (hK : 2000000000 < K) (du : DigB 1000000000 u) (cv : CanB 1000000000 v) (hu : valB 1000000000 u < 1000000000 ^ J * valB 1000000000 v) :
  ∃ r : List Int × List Int, z1g K v K (List.replicate J 0) u ((J : Int) - 1) = some r /\ r.1.length = J /\ r.2.length = u.length /\ DigB 1000000000 r.1 /\ DigB 1000000000 r.2 /\ valB 1000000000 r.2 + valB 1000000000 r.1 * valB 1000000000 v = valB 1000000000 u /\ valB 1000000000 r.2 < valB 1000000000 v := by
 refine z86 (fun m (s : List Int × List Int × Int) => z1g K v m s.1 s.2.1 s.2.2) (fun s => ∃ j : Nat, s.2.2 = (j : Int) - 1 /\ j <= J /\ s.1.length = J /\ s.2.1.length = u.length /\ DigB 1000000000 s.1 /\ DigB 1000000000 s.2.1 /\ (∀ i < j, s.1.getD i 0 = 0) /\ valB 1000000000 s.2.1 + valB 1000000000 s.1 * valB 1000000000 v = valB 1000000000 u /\ valB 1000000000 s.2.1 < 1000000000 ^ j * valB 1000000000 v) (fun s => (s.2.2 + 1).toNat) _ ?_ ((List.replicate J 0, u, (J : Int) - 1) : List Int × List Int × Int) (by dsimp only; omega) ⟨J, rfl, Nat.le_refl _, by simp, rfl, .zeros (by omega) _, du, fun i hi => by simp [zAb, hi], by simp [z8t], hu⟩
 rintro m ⟨o, w, _⟩ ⟨j, rfl, hj, h1, h2, h3, h4, h5, h6, h7⟩
 dsimp only at h1 h2 h3 h4 h5 h6 h7 ⊢
 by_cases h0 : j = 0
 ·subst h0
  left
  rw [Int.pow_zero, Int.one_mul] at h7
  exact ⟨(o, w), by rw [z1g]; simp (discharger := omega) only [runL], h1, h2, h3, h4, h6, h7⟩
 ·right
  obtain ⟨i, rfl⟩ : ∃ i, j = i + 1 := ⟨j - 1, by omega⟩
  have e1 : ((i + 1 : Nat) : Int) - 1 = i := by omega
  rw [e1]
  obtain ⟨g, b, u1, u2, q, d1, d2, d3, d4, d5, d6, d7, d8, d9, d10, d11, d12, d13, d14⟩ := zi0 (K := K) (u := w) (v := v) (i := i) hn (by omega) (by omega) hK h4 cv h7
  have hz := h5 i (by omega)
  have hset := z63 1000000000 o i q (by omega)
  rw [hz] at hset
  have et1 := z1i (by omega) h4 (i + v.length)
  have et2 := z1i (by omega) h4 (i + v.length - 1)
  have hrun := zfq (m := m) (o := o) (a1 := w.getD (i + v.length) 0) (a2 := w.getD (i + v.length - 1) 0) (v1 := v.getD (v.length - 1) 0) hn (show i + v.length + 1 <= w.length by omega) (by omega) (by omega) rfl rfl rfl et1 et2 ⟨d13, d14⟩ ⟨d2, d3⟩ ⟨d7, d8⟩ d1 d4 d5 d6
  refine ⟨(o.set i q, u2, (i : Int) - 1), hrun, by dsimp only; omega, i, rfl, by omega, by simp [h1], by dsimp only; omega, h3.set _ ⟨d7, d8⟩, d10, fun k hk => by dsimp only; rw [z6w (by omega), if_neg (by omega)]; exact h5 k (by omega), ?_, d12⟩
  dsimp only
  rw [hset]
  exact kf1 (Y := 0) h6 d11
theorem z88 {m n : Int} {x y : List Int} (hx : NumN m x) (hy : NumN n y) (h : m <= n) : x.length <= y.length := zd3 (B := 1000000000) (by omega) hx.1 hy.1.1 (by rw [hx.2, hy.2]; exact h)
theorem kf2 {a b c : Int} (hc : 0 < c) (hb : 0 < b) : (a * c) / (b * c) = a / b /\ (a * c) % (b * c) = (a % b) * c := by
 refine ⟨Int.mul_ediv_mul_of_pos_left a b hc, ?_⟩
 rw [Int.mul_comm a c, Int.mul_comm b c, Int.mul_emod_mul_of_pos a b hc, Int.mul_comm]
theorem zf0 {x y : List Int} {a b : Int} (hx : x.length <= 3000000) (hy : y.length <= 3000000) (hK : 2000000000 < K) (nx : NumN a x) (ny : NumN b y) (hb : 0 < b) :
  ∃ q r, z3u K x y = some (q, r) /\ NumN (a / b) q /\ NumN (a % b) r /\ q.length <= x.length /\ r.length <= y.length := by
 have a0 := nx.nonneg
 suffices h : ∃ q r, z3u K x y = some (q, r) /\ NumN (a / b) q /\ NumN (a % b) r by
  obtain ⟨q, r, h1, h2, h3⟩ := h
  have e1 := Int.emod_lt_of_pos a hb
  exact ⟨q, r, h1, h2, h3, z88 h2 nx (Int.ediv_le_self _ a0), z88 h3 ny (by omega)⟩
 have hcmp := zew (K := K) (by omega) (by omega) hK nx ny
 unfold z3u
 rw [hcmp, z0e]
 by_cases hab : a < b
 ·refine ⟨[], x, ?_, by rw [Int.ediv_eq_zero_of_lt a0 hab]; exact .nil, by rw [Int.emod_eq_of_lt a0 hab]; exact nx⟩
  simp (discharger := omega) only [runL]
 ·have hcond : decide ((if a < b then (-1 : Int) else if a = b then 0 else 1) < 0) = false := by
   rw [if_neg hab]; split <;> rfl
  rw [hcond]
  simp only [Bool.false_eq_true, if_false]
  have hy0 : y.length ≠ 0 := fun e => by have := ny.len0.1 e; omega
  by_cases h1 : y.length = 1
  ·obtain ⟨d, rfl⟩ := List.length_eq_one_iff.1 h1
   have hd := ny.1.1 d (by simp)
   have hbd : b = d := by rw [<- ny.2]; simp [valB]
   subst hbd
   obtain ⟨q, r, s1, s2, s3, s4, s5⟩ := zex (K := K) (x := x) (a := a) (d := b) (by omega) hK nx (by omega)
   refine ⟨q, r, ?_, s2, s3⟩
   have e0 : idx [b] 0 = some b := rfl
   rw [if_pos (by simp), e0, z0e, s1, z0e]
  ·rw [if_neg (by simp; omega)]
   obtain ⟨yr, d, hyd⟩ := z8u y (by rintro rfl; exact hy0 rfl)
   have hd := ny.1.1 d (by rw [hyd]; simp)
   have hidx : idx y (z03 .i64 ((y.length : Int) - 1)) = some d := by
    rw [k64 (by omega) (by omega), idxI (by omega) (by omega)]
    congr 1
    subst hyd
    rw [show ((((yr ++ [d]).length : Nat) : Int) - 1).toNat = yr.length by simp, zAb]
    simp
   have hby1 : 1 <= 1000000000 / (d + 1) := by
    rw [Int.le_ediv_iff_mul_le (by omega)]; omega
   have hby2 : 1000000000 / (d + 1) <= 1000000000 := Int.ediv_le_self _ (by omega)
   have hd1 : d ≠ 0 := fun e => ny.1.2 (by rw [hyd, e]; simp)
   have hby3 : 1000000000 / (d + 1) < 1000000000 := Int.ediv_lt_of_lt_mul (by omega) (by omega)
   rw [hidx, z0e, u64w (a := d) (by omega) (by omega), ku64 (a := d + 1) (by omega) (by omega), if_pos (by omega), zpo (by omega), ku64 (by omega) (by omega), lta]
   rw [u32w (by omega) (by omega)]
   generalize 1000000000 / (d + 1) = c at hby1 hby2 hby3
   have nc : NumN c [c] := .one (by omega) hby3
   obtain ⟨u0, m1, m2, m3⟩ := z8v (K := K) (x := x) (y := [c]) (by simp; omega) hK nx nc
   obtain ⟨v, w1, w2, w3⟩ := z8v (K := K) (x := y) (y := [c]) (by simp; omega) hK ny nc
   simp only [List.length_singleton] at m3 w3
   have ac : a <= a * c := by have := z2z a0 hby1; omega
   have bc : b <= b * c := by have := z2z (show 0 <= b by omega) hby1; omega
   have abc : b * c <= a * c := Int.mul_le_mul_of_nonneg_right (by omega) (by omega)
   have lx := z88 nx m2 ac
   have ly := z88 ny w2 bc
   have hy2 : 2 <= y.length := by omega
   have hv2 : 2 <= v.length := by omega
   have lv := z88 w2 m2 abc
   have hl0 : z37 K x K (u0 ++ [0]) = some (u0 ++ [0]) := by
    obtain ⟨k, rfl⟩ : ∃ k, K = k + 1 := ⟨K - 1, by omega⟩
    rw [z37]
    have e : decide (((u0 ++ [0]).length : Int) <= (x.length : Int)) = false := decide_eq_false (by simp; omega)
    rw [e]; rfl
   have du : DigB 1000000000 (u0 ++ [0]) := m2.1.1.snoc (by omega)
   have hvu : valB 1000000000 (u0 ++ [0]) = a * c := by rw [z6x, m2.2]; omega
   have hlen : (u0 ++ [(0 : Int)]).length = u0.length + 1 := by simp
   obtain ⟨J, hJ⟩ : ∃ J, J + v.length = u0.length + 1 := ⟨u0.length + 1 - v.length, by omega⟩
   have hbound : a * c < 1000000000 ^ J * (b * c) := by
    have b1 := z48 (B := 1000000000) (by omega) u0 m2.1.1
    have b2 := zho (B := 1000000000) (by omega) w2.1 (by intro e; rw [e] at hv2; simp at hv2)
    rw [m2.2] at b1
    rw [w2.2] at b2
    have pJ : (0 : Int) < 1000000000 ^ J := Int.pow_pos (by omega)
    have b3 := z2z (Int.le_of_lt pJ) b2
    rw [<- Int.pow_add, show J + (v.length - 1) = u0.length by omega] at b3
    omega
   obtain ⟨⟨o, w⟩, l1, l2, l3, l4, l5, l6, l7⟩ := zm1 (K := K) (u := u0 ++ [0]) (v := v) (J := J) (by omega) (by omega) (by omega) (by omega) hK du w2.1 (by rw [hvu, w2.2]; exact hbound)
   dsimp only at l2 l3 l4 l5 l6 l7
   rw [hvu, w2.2] at l6
   rw [w2.2] at l7
   have o0 := z0s (B := 1000000000) (by omega) o l4
   have w0 := z0s (B := 1000000000) (by omega) w l5
   have hbc0 : 0 < b * c := Int.mul_pos hb (by omega)
   obtain ⟨q1, q2⟩ := zag (n := a * c) (d := b * c) (q := valB 1000000000 o) (r := valB 1000000000 w) hbc0 (by rw [Int.mul_comm (b * c)]; omega) w0 l7
   obtain ⟨k1, k2⟩ := kf2 (a := a) (b := b) (c := c) (by omega) hb
   rw [k1] at q1
   rw [k2] at q2
   obtain ⟨t, t1, t2, t3, t4⟩ := zaf (K := K) (B := 1000000000) (l := w) (by omega) hK l5
   obtain ⟨z, z1, z2, z3, z4⟩ := zaf (K := K) (B := 1000000000) (l := o) (by omega) hK l4
   obtain ⟨rq, rr, s1, s2, s3, s4, s5⟩ := zex (K := K) (x := t) (a := a % b * c) (d := c) (by omega) hK ⟨t2, by rw [t3]; exact q2⟩ (by omega)
   rw [Int.mul_ediv_cancel _ (by omega)] at s2
   refine ⟨z, rq, ?_, ⟨z2, by rw [z3]; exact q1⟩, s2⟩
   rw [m1, z0e, if_pos (by simp; omega), w1, z0e, hl0, z0e, tu1a, lta, hlen]
   have e1 : (((u0.length + 1 : Nat) : Int) - (v.length : Int)) = (J : Int) := by omega
   rw [e1, k64 (by omega) (by omega), if_pos (by omega), lta, k64 (by omega) (by omega), Int.toNat_natCast, l1, z0e, tu2a, t1, z0e, s1, z0e, z1, z0e]
theorem zi1 (a b : Nat) (hb : 0 < b) : Nat.gcd b (a % b) = Nat.gcd a b := by
 rw [Nat.gcd_comm a b, Nat.gcd_rec b a, Nat.gcd_comm]
theorem zf1 : ∀ (n k : Nat) {x y : List Int} {a b : Nat}, a * b < 2 ^ n -> b <= a -> n + 2 < k -> x.length <= 3000000 -> y.length <= 3000000 -> 2000000000 < K -> NumN a x -> NumN b y -> ∃ z, z0w K k x y = some z /\ NumN (Nat.gcd a b : Nat) z := by
 intro n
 induction n with
 | zero =>
  intro k x y a b hab hba hk hx hy hK nx ny
  have hb : b = 0 := by
   rcases Nat.eq_zero_or_pos b with h | h
   ·exact h
   ·have := Nat.mul_pos (show 0 < a by omega) h; omega
  subst hb
  obtain ⟨k, rfl⟩ : ∃ m, k = m + 1 := ⟨k - 1, by omega⟩
  have : y = [] := ny.nil_iff.2 rfl
  subst this
  exact ⟨x, by rw [z0w]; rfl, by rw [Nat.gcd_zero_right]; exact nx⟩
 | succ n ih =>
  intro k x y a b hab hba hk hx hy hK nx ny
  obtain ⟨k, rfl⟩ : ∃ m, k = m + 1 := ⟨k - 1, by omega⟩
  by_cases hb : b = 0
  ·subst hb
   have : y = [] := ny.nil_iff.2 rfl
   subst this
   exact ⟨x, by rw [z0w]; rfl, by rw [Nat.gcd_zero_right]; exact nx⟩
  ·obtain ⟨q, r, d1, d2, d3, d4, d5⟩ := zf0 (K := K) hx hy hK nx ny (by omega)
   have e : ((a : Int) % (b : Int)) = ((a % b : Nat) : Int) := by simp
   rw [e] at d3
   have hr := Nat.mod_lt a (show 0 < b by omega)
   have hprod : b * (a % b) < 2 ^ n := by
    have h1 : b + a % b <= a := by
     have h2 := Nat.div_add_mod a b
     have h3 : 1 <= a / b := (Nat.le_div_iff_mul_le (by omega)).2 (by omega)
     have h4 := Nat.mul_le_mul_left b h3
     omega
    have h5 := Nat.mul_le_mul_left b (show 2 * (a % b) <= a by omega)
    rw [Nat.pow_succ] at hab
    have h6 : b * (2 * (a % b)) = 2 * (b * (a % b)) := by grind
    rw [Nat.mul_comm a b] at hab
    omega
   obtain ⟨z, z1, z2⟩ := ih k hprod (by omega) (by omega) hy (by omega) hK ny d3
   refine ⟨z, ?_, by rw [<- zi1 a b (by omega)]; exact z2⟩
   have hy0 : y.length ≠ 0 := fun e => by have := ny.len0.1 e; omega
   rw [z0w, if_pos (decide_eq_true (by omega)), d1, z0e, z1]
theorem zd6 {n : Nat} {x : List Int} (h : NumN n x) : n < 2 ^ (30 * x.length) := by
 have h1 := z48 (B := 1000000000) (by omega) x h.1.1
 rw [h.2] at h1
 have h2 : ((1000000000 : Nat) : Int) ^ x.length = ((1000000000 ^ x.length : Nat) : Int) := by simp
 have h3 : n < 1000000000 ^ x.length := by
  have h4 : (1000000000 : Int) = ((1000000000 : Nat) : Int) := rfl
  rw [h4, h2] at h1
  omega
 have h5 : (1000000000 : Nat) ^ x.length <= (2 ^ 30) ^ x.length := Nat.pow_le_pow_left (by decide) _
 rw [<- Nat.pow_mul] at h5
 omega
theorem zkw {x y : List Int} {a b : Nat} (hx : x.length <= 3000000) (hy : y.length <= 3000000) (hK : 2000000000 < K) (nx : NumN a x) (ny : NumN b y) : ∃ z, z5a K x y = some z /\ NumN (Nat.gcd a b : Nat) z := by
 have hp : a * b < 2 ^ (30 * x.length + 30 * y.length) := by
  rw [Nat.pow_add]
  have h1 := zd6 nx
  have h2 := zd6 ny
  exact Nat.mul_lt_mul_of_lt_of_le h1 (Nat.le_of_lt h2) (Nat.pow_pos (by omega))
 have key : ∃ z, z0w K K x y = some z /\ NumN (Nat.gcd a b : Nat) z := by
  by_cases hba : b <= a
  ·exact zf1 _ K hp hba (by omega) hx hy hK nx ny
  ·obtain ⟨k, hk⟩ : ∃ k, K = k + 1 := ⟨K - 1, by omega⟩
   obtain ⟨q, r, d1, d2, d3, d4, d5⟩ := zf0 (K := K) hx hy hK nx ny (by omega)
   rw [Int.emod_eq_of_lt (by omega) (by omega)] at d3
   have hrx : r = x := d3.inj nx
   subst hrx
   obtain ⟨z, z1, z2⟩ := zf1 (K := K) _ k (by rw [Nat.mul_comm]; exact hp) (by omega) (by omega) hy hx hK ny nx
   refine ⟨z, ?_, by rw [Nat.gcd_comm]; exact z2⟩
   have hy0 : y.length ≠ 0 := fun e => by have := ny.len0.1 e; omega
   have : z0w K K r y = z0w K (k + 1) r y := by rw [<- hk]
   rw [this, z0w, if_pos (decide_eq_true (by omega)), d1, z0e, z1]
 obtain ⟨z, z1, z2⟩ := key
 exact ⟨z, by unfold z5a; rw [z1]; rfl, z2⟩
end Go.Am.Tryz
/- Plain law: the reference's quotient and divisor of texts. -/
namespace Go.Am.Tryz
open Go Go.Am Go.Proofs
variable {K : Nat}
theorem zi2 {c : Int} (h : 48 <= c /\ c <= 57) : z02 (Utf8.encode c) = [c] /\ (Utf8.encode c).size = 1 := by
 obtain ⟨n, rfl⟩ : ∃ n : Nat, c = n := ⟨c.toNat, by omega⟩
 have hn : n = 48 \/ n = 49 \/ n = 50 \/ n = 51 \/ n = 52 \/ n = 53 \/ n = 54 \/ n = 55 \/ n = 56 \/ n = 57 := by omega
 rcases hn with rfl | rfl | rfl | rfl | rfl | rfl | rfl | rfl | rfl | rfl <;> exact ⟨by decide +kernel, by decide +kernel⟩
theorem ks1 {R b d R0 : Int} (h : R + (d - 48) * b = R0) : R - b + (d + 1 - 48) * b = R0 := by grind
theorem znk {b : zAd} {r0 : zAd} (hb : b.size <= 500000) (hr : r0.size <= 1000000) (hK : 2000000000 < K) (cb : CanT b) (c0 : CanT r0) (hb0 : 0 < numT b) (hlt : numT r0 < 10 * numT b) :
  ∃ r : zAd × Int, z2i K b K r0 48 = some r /\ CanT r.1 /\ (48 <= r.2 /\ r.2 <= 57) /\ numT r.1 + (r.2 - 48) * numT b = numT r0 /\ numT r.1 < numT b := by
 refine z86 (fun k (s : zAd × Int) => z2i K b k s.1 s.2) (fun s => CanT s.1 /\ s.1.size <= 1000000 /\ (48 <= s.2 /\ s.2 <= 57) /\ numT s.1 + (s.2 - 48) * numT b = numT r0) (fun s => (57 - s.2).toNat) _ ?_ ((r0, 48) : zAd × Int) (by dsimp only; omega) ⟨c0, hr, by dsimp only; omega, by dsimp only; omega⟩
 rintro k ⟨r, d⟩ ⟨h1, h2, h3, h4⟩
 dsimp only at h1 h2 h3 h4 ⊢
 have hcmp := zku (K := K) h1 cb
 have r0' := z2x h1.2.1
 by_cases hge : numT b <= numT r
 ·right
  obtain ⟨t, t1, t2, t3⟩ := zhw (K := K) (a := r) (b := b) h2 (z3a h1 cb hge) (by have := h1.1; omega) (by omega) h1.2.1 cb.2.1 hge
  have hd : d <= 56 := by
   refine Int.not_lt.1 fun hlt2 => ?_
   have : d = 57 := by omega
   subst this
   omega
  refine ⟨(t, d + 1), ?_, by dsimp only; omega, t2, ?_, by dsimp only; omega, by dsimp only; rw [t3]; exact ks1 h4⟩
  ·rw [z2i, hcmp, z0e]
   rw [if_pos (decide_eq_true (by rw [if_neg (by omega)]; split <;> omega)), t1, z0e, ku8 (by omega) (by omega)]
  ·dsimp only
   have := z3a h1 t2 (by rw [t3]; omega)
   omega
 ·left
  refine ⟨(r, d), ?_, h1, h3, h4, by dsimp only; omega⟩
  rw [z2i, hcmp, z0e]
  have e : decide ((if numT r < numT b then (-1 : Int) else if numT r = numT b then 0 else 1) >= 0) = false := by
   rw [if_pos (by omega)]; rfl
  rw [e]; rfl
theorem ks3 {Q b R R2 A c d : Int} (h : Q * b + R = A) (h2 : R2 + d * b = R * 10 + c) : (Q * 10 + d) * b + R2 = A * 10 + c := by grind
theorem zk2 {a b r0 : zAd} {f : Nat} (ha : a.size <= 500000) (hb : b.size <= 500000) (hK : 2000000000 < K) (da : (z02 a).all digT = true) (cb : CanT b) (hb0 : 0 < numT b) (hf : f <= a.size) (c0 : CanT r0) (hs0 : r0.size <= 500000) (h0 : numT r0 = numB ((z02 a).take f)) (hlt : numT r0 < numT b) :
  ∃ r : zAd × zAd, z2j K a b K ⟨#[48]⟩ r0 f = some r /\ r.1.size <= a.size + 1 /\ 0 < r.1.size /\ (z02 r.1).all digT = true /\ CanT r.2 /\ numT r.1 * numT b + numT r.2 = numT a /\ numT r.2 < numT b := by
 have hn := z00 a
 refine z86 (fun k (s : zAd × zAd × Int) => z2j K a b k s.1 s.2.1 s.2.2) (fun s => ∃ i : Nat, s.2.2 = i /\ i <= a.size /\ 0 < s.1.size /\ s.1.size <= i + 1 /\ (z02 s.1).all digT = true /\ CanT s.2.1 /\ numT s.1 * numT b + numT s.2.1 = numB ((z02 a).take i) /\ numT s.2.1 < numT b /\ s.2.1.size <= 500000) (fun s => (a.size - s.2.2 : Int).toNat) _ ?_ ((⟨#[48]⟩, r0, (f : Int)) : zAd × zAd × Int) (by dsimp only; omega) ⟨f, rfl, hf, by show 0 < 1; omega, by show 1 <= f + 1; omega, rfl, c0, by rw [<- h0]; show numT ⟨#[48]⟩ * numT b + numT r0 = numT r0; rw [z4p]; omega, hlt, hs0⟩
 rintro k ⟨q, r, _⟩ ⟨i, rfl, h1, h2, h3, h4, h5, h6, h7, h8⟩
 dsimp only at h2 h3 h4 h5 h6 h7 h8 ⊢
 by_cases hi : i < a.size
 ·right
  have hc := zez da (i := i) (by omega)
  have hsn := zey (l := z02 a) (i := i) (by omega)
  generalize hcc : (z02 a).getD i 0 = c at hc hsn
  obtain ⟨e, he1, he2, he3⟩ : ∃ e, ssl a i ((i : Int) + 1) = some e /\ z02 e = [c] /\ e.size = 1 := by
   refine ⟨_, sslI (by omega) (by omega) (by omega), ?_, ?_⟩
   ·rw [z2b, Int.toNat_natCast, show ((i : Int) + 1).toNat - i = 1 by omega, List.drop_eq_getElem_cons (by omega), List.take_succ_cons, List.take_zero]
    rw [zAb, zAh (by omega)] at hcc
    simpa using hcc
   ·rw [<- z00, z2b, List.length_take, List.length_drop]; omega
  have hbr : z02 (r ++ e) = z02 r ++ [c] := by rw [z0n, he2]
  have hdr : (z02 (r ++ e)).all digT = true := by rw [hbr, List.all_append, h5.2.1]; simpa using digT_iff.2 hc
  have hsr : (r ++ e).size = r.size + 1 := by rw [<- z00, hbr, List.length_append, z00]; rfl
  obtain ⟨t, t1, t2, t3⟩ := z9w (K := K) (s := r ++ e) (by omega) (by omega) (by omega) hdr
  have hnr : numT (r ++ e) = numT r * 10 + (c - 48) := by rw [zc4, hbr, z9u]; rfl
  have htl : numT t < 10 * numT b := by rw [t3, hnr]; omega
  have hts : t.size <= 1000000 := by
   have := z3a (b := t) (a := t) t2 t2 (Int.le_refl _)
   refine Nat.not_lt.1 fun hlt2 => ?_
   have g1 := zb5 t2 (by omega)
   have g2 := zai hdr
   have g3 : (10 : Int) ^ (r ++ e).size <= 10 ^ (t.size - 1) := z6l (by omega) (by omega)
   omega
  obtain ⟨⟨r2, d⟩, s1, s2, s3, s4, s5⟩ := znk (K := K) (b := b) (r0 := t) hb hts hK cb t2 hb0 htl
  dsimp only at s2 s3 s4 s5
  obtain ⟨n1, n2⟩ := zi2 s3
  have hbq : z02 (q ++ Utf8.encode d) = z02 q ++ [d] := by rw [z0n, n1]
  have hsq : (q ++ Utf8.encode d).size = q.size + 1 := by rw [<- z00, hbq, List.length_append, z00]; rfl
  have hr2s : r2.size <= 500000 := by
   have := z3a cb s2 (by omega)
   omega
  refine ⟨(q ++ Utf8.encode d, r2, (i : Int) + 1), ?_, by dsimp only; omega, i + 1, rfl, by omega, by dsimp only; omega, by dsimp only; omega, ?_, s2, ?_, s5, hr2s⟩
  ·rw [z2j, if_pos (decide_eq_true (by omega)), k64 (by omega) (by omega), he1, z0e, if_pos (by omega), t1, z0e, s1, z0e, tu2a, if_pos (by dsimp only; omega)]
  ·dsimp only; rw [hbq, List.all_append, h4]; simpa using digT_iff.2 s3
  ·dsimp only
   rw [hsn, z9u, zc4 (q ++ Utf8.encode d), hbq, z9u]
   refine ks3 h6 ?_
   rw [s4, t3, hnr]
 ·left
  have : i = a.size := by omega
  subst this
  rw [List.take_of_length_le (by omega)] at h6
  exact ⟨(q, r), by rw [z2j]; simp (discharger := omega) only [runL], h3, h2, h4, h5, h6, h7⟩
theorem zf2 {a b : zAd} (ha : a.size <= 400000) (hb : b.size <= 400000) (hK : 2000000000 < K) (ca : CanT a) (cb : CanT b) (hb0 : 0 < numT b) :
  ∃ q r, z5j K a b = some (q, r) /\ CanT q /\ CanT r /\ numT q = numT a / numT b /\ numT r = numT a % numT b := by
 have hn := z00 a
 have hcb := cb.1
 obtain ⟨f, hf1, hf2, hf3⟩ : ∃ f : Nat, imin (a.size : Int) (z03 .i64 ((b.size : Int) - 1)) = f /\ f <= a.size /\ f <= b.size - 1 := by
  rw [k64 (by omega) (by omega)]
  unfold imin
  by_cases h : (b.size : Int) - 1 < a.size
  ·exact ⟨b.size - 1, by rw [if_pos h]; omega, by omega, by omega⟩
  ·exact ⟨a.size, by rw [if_neg h], by omega, by omega⟩
 have hx : ssl a 0 (f : Int) = some (a.extract 0 f) := by rw [sslI (by omega) (by omega) (by omega)]; rfl
 have hxb : z02 (a.extract 0 f) = (z02 a).take f := by rw [z2b]; simp
 have hxs : (a.extract 0 f).size = f := by rw [<- z00, hxb, List.length_take]; omega
 have hzb : z02 ((⟨#[48]⟩ : zAd) ++ a.extract 0 f) = 48 :: (z02 a).take f := by rw [z0n, hxb]; rfl
 have hzs : ((⟨#[48]⟩ : zAd) ++ a.extract 0 f).size = f + 1 := by rw [<- z00, hzb, List.length_cons, List.length_take]; omega
 have hzd : (z02 ((⟨#[48]⟩ : zAd) ++ a.extract 0 f)).all digT = true := by rw [hzb, List.all_cons, zah ca.2.1]; rfl
 obtain ⟨t, t1, t2, t3⟩ := z9w (K := K) (s := (⟨#[48]⟩ : zAd) ++ a.extract 0 f) (by omega) (by omega) (by omega) hzd
 have hv : numT t = numB ((z02 a).take f) := by rw [t3, zc4, hzb, z9v]; simp
 have hlt : numT t < numT b := by
  have d1 := zb4 (zah ca.2.1 f)
  rw [List.length_take, Nat.min_eq_left (by omega)] at d1
  rw [hv]
  by_cases h2 : 2 <= b.size
  ·have d2 := zb5 cb h2
   have d3 : (10 : Int) ^ f <= 10 ^ (b.size - 1) := z6l (by omega) hf3
   omega
  ·have : f = 0 := by omega
   subst this
   rw [List.take_zero, z87]; exact hb0
 have hts : t.size <= 500000 := by
  have := z3a cb t2 (by omega)
  omega
 obtain ⟨⟨q, r⟩, s1, s2, s3, s4, s5, s6, s7⟩ := zk2 (K := K) (a := a) (b := b) (r0 := t) (f := f) (by omega) (by omega) hK ca.2.1 cb hb0 hf2 t2 hts hv hlt
 dsimp only at s2 s3 s4 s5 s6 s7
 obtain ⟨u, u1, u2, u3⟩ := z9w (K := K) (s := q) (by omega) s3 (by omega) s4
 obtain ⟨e1, e2⟩ := zag (n := numT a) (d := numT b) (q := numT q) (r := numT r) hb0 (by rw [Int.mul_comm]; omega) (z2x s5.2.1) s7
 refine ⟨u, r, ?_, u2, s5, by rw [u3, e1], e2⟩
 unfold z5j
 rw [hf1, hx, z0e, if_pos (by rw [hxs]; show 1 + f <= _; omega), t1, z0e, s1, z0e, tu2a, u1, z0e]
theorem zf3 : ∀ (n k : Nat) {x y : zAd} {a b : Nat}, a * b < 2 ^ n -> b <= a -> n + 2 < k -> x.size <= 400000 -> y.size <= 400000 -> 2000000000 < K -> CanT x -> CanT y -> numT x = a -> numT y = b -> ∃ z, z19 K k x y = some z /\ CanT z /\ numT z = (Nat.gcd a b : Nat) := by
 intro n
 have hend : ∀ (k : Nat) {x y : zAd} {a : Nat}, 0 < k -> CanT x -> CanT y -> numT x = a -> numT y = (0 : Nat) -> ∃ z, z19 K k x y = some z /\ CanT z /\ numT z = (Nat.gcd a 0 : Nat) := by
  intro k x y a hk cx cy nx ny
  obtain ⟨k, rfl⟩ : ∃ m, k = m + 1 := ⟨k - 1, by omega⟩
  have : y = ⟨#[48]⟩ := (zc6 cy).1 (by simpa using ny)
  subst this
  have e : sEq (⟨#[48]⟩ : zAd) ⟨#[48]⟩ = true := sEq_iff.2 rfl
  exact ⟨x, by rw [z19, e]; rfl, cx, by rw [Nat.gcd_zero_right]; exact nx⟩
 induction n with
 | zero =>
  intro k x y a b hab hba hk hx hy hK cx cy nx ny
  have hb : b = 0 := by
   rcases Nat.eq_zero_or_pos b with h | h
   ·exact h
   ·have := Nat.mul_pos (show 0 < a by omega) h; omega
  subst hb
  exact hend k (by omega) cx cy nx ny
 | succ n ih =>
  intro k x y a b hab hba hk hx hy hK cx cy nx ny
  by_cases hb : b = 0
  ·subst hb; exact hend k (by omega) cx cy nx ny
  ·obtain ⟨k, rfl⟩ : ∃ m, k = m + 1 := ⟨k - 1, by omega⟩
   obtain ⟨q, r, d1, d2, d3, d4, d5⟩ := zf2 (K := K) hx hy hK cx cy (by omega)
   rw [nx, ny] at d5
   have e : ((a : Int) % (b : Int)) = ((a % b : Nat) : Int) := by simp
   rw [e] at d5
   have hr := Nat.mod_lt a (show 0 < b by omega)
   have hprod : b * (a % b) < 2 ^ n := by
    have h1 : b + a % b <= a := by
     have h2 := Nat.div_add_mod a b
     have h3 : 1 <= a / b := (Nat.le_div_iff_mul_le (by omega)).2 (by omega)
     have h4 := Nat.mul_le_mul_left b h3
     omega
    have h5 := Nat.mul_le_mul_left b (show 2 * (a % b) <= a by omega)
    rw [Nat.pow_succ] at hab
    have h6 : b * (2 * (a % b)) = 2 * (b * (a % b)) := by grind
    rw [Nat.mul_comm a b] at hab
    omega
   have hrs := z3a cy d3 (by rw [ny, d5]; omega)
   obtain ⟨z, z1, z2, z3⟩ := ih k hprod (by omega) (by omega) hy (by omega) hK cy d3 ny d5
   refine ⟨z, ?_, z2, by rw [<- zi1 a b (by omega)]; exact z3⟩
   have e0 : sEq y ⟨#[48]⟩ = false := by
    cases e : sEq y ⟨#[48]⟩ with
    | false => rfl
    | true => rw [sEq_iff] at e; subst e; rw [z4p] at ny; omega
   rw [z19, e0]
   simp only [Bool.not_false, if_true]
   rw [d1, z0e, z1]
theorem zb6 {n : Nat} {x : zAd} (h : (z02 x).all digT = true) (hn : numT x = n) : n < 2 ^ (4 * x.size) := by
 have h1 := zai h
 rw [hn] at h1
 have h2 : ((10 : Nat) : Int) ^ x.size = ((10 ^ x.size : Nat) : Int) := by simp
 have h3 : n < 10 ^ x.size := by
  have h4 : (10 : Int) = ((10 : Nat) : Int) := rfl
  rw [h4, h2] at h1
  omega
 have h5 : (10 : Nat) ^ x.size <= (2 ^ 4) ^ x.size := Nat.pow_le_pow_left (by decide) _
 rw [<- Nat.pow_mul] at h5
 omega
theorem zkx {x y : zAd} {a b : Nat} (hx : x.size <= 400000) (hy : y.size <= 400000) (hK : 2000000000 < K) (cx : CanT x) (cy : CanT y) (nx : numT x = a) (ny : numT y = b) : ∃ z, z6j K x y = some z /\ CanT z /\ numT z = (Nat.gcd a b : Nat) := by
 have hp : a * b < 2 ^ (4 * x.size + 4 * y.size) := by
  rw [Nat.pow_add]
  exact Nat.mul_lt_mul_of_lt_of_le (zb6 cx.2.1 nx) (Nat.le_of_lt (zb6 cy.2.1 ny)) (Nat.pow_pos (by omega))
 have key : ∃ z, z19 K K x y = some z /\ CanT z /\ numT z = (Nat.gcd a b : Nat) := by
  by_cases hba : b <= a
  ·exact zf3 _ K hp hba (by omega) hx hy hK cx cy nx ny
  ·obtain ⟨k, hk⟩ : ∃ k, K = k + 1 := ⟨K - 1, by omega⟩
   obtain ⟨q, r, d1, d2, d3, d4, d5⟩ := zf2 (K := K) hx hy hK cx cy (by omega)
   rw [Int.emod_eq_of_lt (z2x cx.2.1) (by omega)] at d5
   have hrx : r = x := z85 d3 cx d5
   subst hrx
   obtain ⟨z, z1, z2, z3⟩ := zf3 (K := K) _ k (by rw [Nat.mul_comm]; exact hp) (by omega) (by omega) hy hx hK cy cx ny nx
   refine ⟨z, ?_, z2, by rw [Nat.gcd_comm]; exact z3⟩
   have e0 : sEq y ⟨#[48]⟩ = false := by
    cases e : sEq y ⟨#[48]⟩ with
    | false => rfl
    | true => rw [sEq_iff] at e; subst e; rw [z4p] at ny; omega
   have : z19 K K r y = z19 K (k + 1) r y := by rw [<- hk]
   rw [this, z19, e0]
   simp only [Bool.not_false, if_true]
   rw [d1, z0e, z1]
 obtain ⟨z, z1, z2⟩ := key
 exact ⟨z, by unfold z6j; rw [z1]; rfl, z2⟩
end Go.Am.Tryz
/- Plain law: a number's error. -/
namespace Go.Am.Tryz
open Go Go.Am Go.Proofs
variable {K : Nat} {s : zAd}
def digB (c : Int) : Bool := decide (48 <= c) && decide (c <= 57)
theorem zdz : ∀ (l : List Int), runS (fun c (_ : Unit) => if digB c then .inr () else .inl (5 : Int)) l () = if l.all digB then .inr () else .inl 5
 | [] => rfl
 | x :: l => by
  simp only [runS, List.all_cons]
  by_cases hp : digB x = true
  ·simp only [hp, if_true, Bool.true_and, Sum.elim_inr]; exact zdz l
  ·simp [hp]
theorem znl {α : Type} (c : Int) (A B : Option α) : Option.bind (if (decide (c < 48)) = true then some true else some (decide (c > 57))) (tu1 fun x => if x = true then A else B) = if digB c = true then B else A := by
 unfold digB
 by_cases h1 : c < 48 <;> by_cases h2 : c > 57 <;> simp [h1, h2, tu1, show ¬ (48 : Int) <= c ↔ c < 48 by omega] <;> (try split) <;> (try omega) <;> rfl
theorem zfr (hs : s.size <= 1048576) (hK : s.size < K) : z13 K s K 0 = some (if (z02 s).all digB then .inr () else .inl 5) := by
 have hn := z00 s
 have h : z13 K s K 0 = _ := zes (z02 s) (fun k (_ : Unit) i => z13 K s k i) (fun c (_ : Unit) => if digB c then .inr () else .inl (5 : Int)) (fun _ _ => True)
  (fun k _ i x hx _ => by
   have hi := (zAi hx).1
   show z13 K s (k + 1) i = _
   rw [z13, zjl hi, if_pos rfl, z53 hx]
   simp only [Option.bind_some, znl, kw1 hi (by omega)]
   cases digB x <;> simp)
  (fun _ _ _ _ _ _ _ => trivial)
  (fun k _ i hi => by
   show z13 K s (k + 1) i = _
   rw [z13, zer hi]; simp) K () (by omega) trivial
 rw [h, zdz]
theorem zi3 (hs : s.size <= 1048576) (hK : s.size < K) : z0v K s K 0 = some (if (z02 s).all digB then .inr () else .inl 5) := by
 have hn := z00 s
 have h : z0v K s K 0 = _ := zes (z02 s) (fun k (_ : Unit) i => z0v K s k i) (fun c (_ : Unit) => if digB c then .inr () else .inl (5 : Int)) (fun _ _ => True)
  (fun k _ i x hx _ => by
   have hi := (zAi hx).1
   show z0v K s (k + 1) i = _
   rw [z0v, <- hn, zjl hi, if_pos rfl, z8j, z53 hx]
   simp only [Option.bind_some, znl, kw1 hi (by omega)]
   cases digB x <;> simp)
  (fun _ _ _ _ _ _ _ => trivial)
  (fun k _ i hi => by
   show z0v K s (k + 1) i = _
   rw [z0v, <- hn, zer hi]; simp) K () (by omega) trivial
 rw [h, zdz]
def natE (s : zAd) : Int := if s.size = 0 then 5 else if (z02 s).head? = some 48 /\ s.size > 1 then 5 else if !(z02 s).all digB then 5 else if s.size > 2000 then 2 else 0
theorem znm : sEq s ⟨#[]⟩ = (s.size == 0) := by
 cases hq : sEq s ⟨#[]⟩ with
 | true => rw [sEq_iff] at hq; subst hq; rfl
 | false =>
  have : s.size ≠ 0 := fun h => by
   have : s = ⟨#[]⟩ := by
    cases s with
    | mk d => congr 1; exact Array.eq_empty_of_size_eq_zero h
   rw [sEq_iff.2 this] at hq; cases hq
  simp [this]
theorem zi4 (h : s.size ≠ 0) : ∃ c, bidx s 0 = some c /\ (z02 s).head? = some c := by
 have hn := z00 s
 cases hb : z02 s with
 | nil => rw [hb] at hn; simp at hn; omega
 | cons c l => exact ⟨c, by rw [z8j, hb]; rfl, rfl⟩
theorem zd7 (hs : s.size <= 1048576) (hK : s.size < K) : z59 K s = some (natE s) := by
 unfold z59 natE
 rw [zfr hs hK, znm]
 by_cases h0 : s.size = 0
 ·simp [h0, tu1]
 ·obtain ⟨c, h1, h2⟩ := zi4 h0
  rw [h1, h2]
  have h0' : (s.size == 0) = false := by simpa using h0
  by_cases hc : c = 48 <;> by_cases h3 : s.size > 1 <;> by_cases h4 : s.size > 2000 <;> cases h5 : (z02 s).all digB <;>
   simp [h0, h0', hc, h3, h4, h5, tu1, tu0, zbs, show ((s.size : Int) > 1) ↔ s.size > 1 by omega, show ((s.size : Int) > 2000) ↔ s.size > 2000 by omega] <;> omega
theorem z9x (hs : s.size <= 1048576) (hK : s.size < K) : z4e K s = some (natE s) := by
 unfold z4e natE
 rw [zi3 hs hK]
 by_cases h0 : s.size = 0
 ·simp [h0, tu1]
 ·obtain ⟨c, h1, h2⟩ := zi4 h0
  rw [h1, h2]
  have h0' : ((s.size : Int) == 0) = false := by rw [beq_eq_false_iff_ne]; omega
  by_cases hc : c = 48 <;> by_cases h3 : s.size > 1 <;> by_cases h4 : s.size > 2000 <;> cases h5 : (z02 s).all digB <;>
   simp [h0, h0', hc, h3, h4, h5, tu1, tu0, zbs, show ((s.size : Int) > 1) ↔ s.size > 1 by omega, show ((s.size : Int) > 2000) ↔ s.size > 2000 by omega] <;> omega
theorem znn : digB = digT := rfl
theorem z9i (s : zAd) : natE s = 0 ↔ CanT s /\ s.size <= 2000 := by
 unfold natE CanT
 rw [znn]
 by_cases h0 : s.size = 0
 ·simp [h0]
 ·by_cases h1 : (z02 s).head? = some 48 /\ s.size > 1
  ·rw [if_neg h0, if_pos h1]
   constructor
   ·intro h; cases h
   ·rintro ⟨⟨_, _, h⟩, _⟩; have := h h1.1; omega
  ·rw [if_neg h0, if_neg h1]
   cases h2 : (z02 s).all digT with
   | false => simp
   | true =>
    simp only [Bool.not_true, Bool.false_eq_true, if_false]
    by_cases h3 : s.size > 2000
    ·rw [if_pos h3]; constructor
     ·intro h; cases h
     ·rintro ⟨_, h⟩; omega
    ·rw [if_neg h3]
     exact ⟨fun _ => ⟨⟨h0, trivial, fun e => by
      refine Nat.le_antisymm (Nat.not_lt.1 fun h => h1 ⟨e, h⟩) (by omega)⟩, by omega⟩, fun _ => rfl⟩
theorem zc7 (s : zAd) : sEq s s = true := sEq_iff.2 rfl
end Go.Am.Tryz
/- Plain law: lists of texts; one. -/
namespace Go.Am.Tryz
open Go Go.Am Go.Proofs
variable {K : Nat}
theorem zp4 {s t : zAd} (h : s ≠ t) : sEq s t = false := by
 cases e : sEq s t with
 | false => rfl
 | true => exact absurd (sEq_iff.1 e) h
theorem zf4 (hK : 2000000000 < K) : z42 K 1 = some [1] := by
 obtain ⟨k, rfl⟩ : ∃ k, K = k + 2 := ⟨K - 2, by omega⟩
 unfold z42
 have e1 : decide ((1 : Int) > 0) = true := rfl
 have e2 : IntKind.wrap .u32 (Int.tmod 1 1000000000) = 1 := rfl
 have e3 : z03 .i64 (Int.tdiv 1 1000000000) = 0 := rfl
 have e4 : decide ((0 : Int) > 0) = false := rfl
 rw [z2w, e1, if_pos rfl, e2, e3, if_pos (by decide), z2w, e4]
 rfl
end Go.Am.Tryz
/- Plain lemmas: rational numbers, their signs, parts and sizes. -/
namespace Go.Am
def sgn (neg : Bool) (n : Nat) : Int := if neg then -(n : Int) else n
theorem zi5 (neg : Bool) (n : Nat) : (sgn neg n).natAbs = n := by unfold sgn; split <;> omega
theorem z9j (x : Rat) : sgn (decide (x.num < 0)) x.num.natAbs = x.num := by unfold sgn; by_cases h : x.num < 0 <;> simp [h] <;> omega
theorem zk3 (neg : Bool) (n d : Nat) (hd : d ≠ 0) : (mkRat (sgn neg n) d).num.natAbs = n / Nat.gcd n d := by
 rw [Rat.num_mkRat, if_neg hd, zi5, Nat.gcd_comm]
 unfold sgn
 cases neg with
 | false => simp; rfl
 | true =>
  simp only [if_true]
  have h : (Nat.gcd n d : Int) ∣ (n : Int) := Int.natCast_dvd_natCast.2 (Nat.gcd_dvd_left n d)
  rw [Int.neg_ediv_of_dvd h, Int.natAbs_neg]
  rfl
theorem zk4 (neg : Bool) (n d : Nat) (hd : d ≠ 0) : (mkRat (sgn neg n) d).den = d / Nat.gcd n d := by
 rw [Rat.den_mkRat, if_neg hd, zi5, Nat.gcd_comm]
theorem zm2 (neg : Bool) (n d : Nat) (hd : d ≠ 0) (hn : n ≠ 0) : decide ((mkRat (sgn neg n) d).num < 0) = neg := by
 have h0 : n / Nat.gcd n d ≠ 0 := by
  have := Nat.gcd_pos_of_pos_left d (show 0 < n by omega)
  have h2 := Nat.le_of_dvd (by omega) (Nat.gcd_dvd_left n d)
  have := Nat.div_pos h2 this
  omega
 rw [Rat.num_mkRat, if_neg hd, zi5, Nat.gcd_comm]
 have h : (Nat.gcd n d : Int) ∣ (n : Int) := Int.natCast_dvd_natCast.2 (Nat.gcd_dvd_left n d)
 obtain ⟨q, hq, hq0⟩ : ∃ q : Nat, (n : Int) / (Nat.gcd n d : Int) = (q : Int) /\ q ≠ 0 := ⟨n / Nat.gcd n d, by simp, h0⟩
 unfold sgn
 cases neg with
 | false => simp only [Bool.false_eq_true, if_false, hq]; exact decide_eq_false (by omega)
 | true => simp only [if_true]; rw [Int.neg_ediv_of_dvd h, hq]; exact decide_eq_true (by omega)
theorem zi6 (x y : Rat) : x * y = mkRat (sgn (decide (x.num < 0) != decide (y.num < 0)) (x.num.natAbs * y.num.natAbs)) (x.den * y.den) := by
 rw [Rat.mul_def']
 congr 1
 conv => lhs; rw [<- z9j x, <- z9j y]
 generalize x.num.natAbs = a
 generalize y.num.natAbs = b
 unfold sgn
 cases decide (x.num < 0) <;> cases decide (y.num < 0) <;> simp [Int.mul_neg, Int.neg_mul]
theorem ze0 (neg : Bool) (n : Nat) : ((sgn neg n : Int) : Rat) = if neg then -(n : Rat) else n := by
 unfold sgn
 cases neg with
 | false => rfl
 | true => simp only [if_true]; rw [Rat.intCast_neg]; rfl
theorem zfs (a b : Bool) (p q r s : Rat) (e1 : q ≠ 0) (e2 : r ≠ 0) (e3 : s ≠ 0) : (if a then -p else p) / q / ((if b then -r else r) / s) = (if a != b then -(p * s) else p * s) / (q * r) := by
 cases a <;> cases b <;> simp <;> grind
theorem ze1 (x : Rat) : x = ((sgn (decide (x.num < 0)) x.num.natAbs : Int) : Rat) / (x.den : Rat) := by
 rw [z9j, <- Rat.mkRat_eq_div, Rat.mkRat_self]
theorem zi7 (x y : Rat) (hy : y ≠ 0) : x / y = mkRat (sgn (decide (x.num < 0) != decide (y.num < 0)) (x.num.natAbs * y.den)) (x.den * y.num.natAbs) := by
 have hyn : y.num ≠ 0 := fun e => hy (Rat.num_eq_zero.1 e)
 rw [Rat.mkRat_eq_div, ze0]
 conv => lhs; rw [ze1 x, ze1 y, ze0, ze0]
 rw [Rat.natCast_mul, Rat.natCast_mul]
 exact zfs _ _ _ _ _ _ (by simp [x.den_nz]) (by simp; omega) (by simp [y.den_nz])
def Dl (x : Rat) (N : Nat) : Prop := x.num.natAbs < 10 ^ N /\ x.den < 10 ^ N
theorem Dl.mono {x : Rat} {N M : Nat} (h : Dl x N) (hN : N <= M) : Dl x M := ⟨Nat.lt_of_lt_of_le h.1 (Nat.pow_le_pow_right (by omega) hN), Nat.lt_of_lt_of_le h.2 (Nat.pow_le_pow_right (by omega) hN)⟩
theorem Dl.mk (neg : Bool) {n d N : Nat} (hd : d ≠ 0) (hn : n < 10 ^ N) (hd2 : d < 10 ^ N) : Dl (mkRat (sgn neg n) d) N := by
 refine ⟨?_, ?_⟩
 ·rw [zk3 neg n d hd]; exact Nat.lt_of_le_of_lt (Nat.div_le_self _ _) hn
 ·rw [zk4 neg n d hd]; exact Nat.lt_of_le_of_lt (Nat.div_le_self _ _) hd2
theorem z2v {a b N M : Nat} (h : a < 10 ^ N) (k : b < 10 ^ M) : a * b < 10 ^ (N + M) := by
 rw [Nat.pow_add]
 exact Nat.mul_lt_mul_of_lt_of_le h (Nat.le_of_lt k) (Nat.pow_pos (by omega))
theorem Dl.mul {x y : Rat} {N M : Nat} (h : Dl x N) (k : Dl y M) : Dl (x * y) (N + M) := by
 rw [zi6]
 exact .mk _ (Nat.mul_ne_zero x.den_nz y.den_nz) (z2v h.1 k.1) (z2v h.2 k.2)
theorem Dl.zero : Dl 0 1 := ⟨by decide, by decide⟩
theorem Dl.one : Dl 1 1 := ⟨by decide, by decide⟩
theorem Dl.div {x y : Rat} {N M : Nat} (h : Dl x N) (k : Dl y M) : Dl (x / y) (N + M + 1) := by
 by_cases hy : y = 0
 ·subst hy
  have : x / 0 = 0 := by grind
  rw [this]; exact Dl.zero.mono (by omega)
 ·rw [zi7 x y hy]
  have hyn : y.num ≠ 0 := fun e => hy (Rat.num_eq_zero.1 e)
  refine (Dl.mk _ (Nat.mul_ne_zero x.den_nz (by omega)) (z2v h.1 k.2) (z2v h.2 k.1)).mono (by omega)
theorem zno (a : Int) : a = sgn (decide (a < 0)) a.natAbs := by unfold sgn; by_cases h : a < 0 <;> simp [h] <;> omega
theorem Dl.add {x y : Rat} {N M : Nat} (h : Dl x N) (k : Dl y M) : Dl (x + y) (N + M + 1) := by
 rw [Rat.add_def']
 rw [zno (x.num * y.den + y.num * x.den)]
 have h1 := z2v h.1 k.2
 have h2 := z2v k.1 h.2
 have h3 : (x.num * (y.den : Int) + y.num * (x.den : Int)).natAbs <= x.num.natAbs * y.den + y.num.natAbs * x.den := by
  refine Nat.le_trans (Int.natAbs_add_le _ _) ?_
  rw [Int.natAbs_mul, Int.natAbs_mul]; simp
 rw [Nat.add_comm M N] at h2
 refine .mk _ (Nat.mul_ne_zero x.den_nz y.den_nz) ?_ ?_
 ·rw [Nat.pow_succ]; omega
 ·have := z2v h.2 k.2
  rw [Nat.pow_succ]; omega
theorem Dl.neg {x : Rat} {N : Nat} (h : Dl x N) : Dl (-x) N := ⟨by rw [Rat.neg_num, Int.natAbs_neg]; exact h.1, by rw [Rat.neg_den]; exact h.2⟩
theorem Dl.sub {x y : Rat} {N M : Nat} (h : Dl x N) (k : Dl y M) : Dl (x - y) (N + M + 1) := by
 rw [Rat.sub_eq_add_neg]; exact h.add k.neg
theorem Dl.pos {x : Rat} {N : Nat} (h : Dl x N) : 1 <= N := by
 refine Nat.not_lt.1 fun hlt => ?_
 have : N = 0 := by omega
 subst this
 have := h.2
 have := x.den_pos
 simp at *; omega
end Go.Am
