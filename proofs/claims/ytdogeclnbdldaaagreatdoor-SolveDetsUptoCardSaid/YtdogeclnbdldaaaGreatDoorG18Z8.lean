/- Typed functions with the same answers as the program's, and the walks that show it. -/
import Derived.Test.YtdogeclnbdldaaaGreatDoorG2Z8
import Derived.Test.YtdogeclnbdldaaaGreatDoorG17Z8
set_option maxRecDepth 100000
set_option maxHeartbeats 8000000
set_option linter.unusedVariables false
set_option linter.unusedSimpArgs false
namespace Go.Am.Tryz
open Go Go.Am Go.Proofs
variable (K : Nat) {G : GM} {H : AH} {L : List Pc}
theorem zp2 {G : GM}   : ∃ cs : List Value, (∀ {s : List Value} {d : Tmp} {ty : TypeId} {pos : String} {af : Array Edge} {g : Option (Nat × Bool)} {ps : Array (Nat × Operand)}, ze9 s ps.toList = some [] -> z1l Tryz.prog s ⟨some d, .build 96 ps, ty, pos, af, g⟩ = some (.agg cs.toArray)) /\ T_Q.rep G cs (Q.mk false [] []) := by
  refine ⟨_, fun {s d ty pos af g ps} hps => zdp pl96 ze96 zo96 hps ?_, z_Q G⟩
  rfl
def z56 (K : Nat) (p0 : Bool) (p1 : List Int) (p2 : List Int) : Option Q := (if ((p1.length : Int) == 0) = true then some (Q.mk false [] []) else ((z5a K p1 p2).bind fun x20 => ((z42 K 1).bind fun x33 => ((z3s K x20 x33).bind fun x46 => (Option.bind ((if (decide (x46 > 0)) = true then ((z3u K p1 x20).bind fun x62 => ((z3u K p2 x20).bind fun x77 => some (x62.1, x77.1))) else some (p1, p2))) (tu2 fun x93 x94 => some (Q.mk p0 x93 x94)))))))
theorem z5i (p0 : Bool) (v1 : Value) (p1 : List Int) (hp1 : (rSl (rI .u32)).rep G [v1] p1) (v2 : Value) (p2 : List Int) (hp2 : (rSl (rI .u32)).rep G [v2] p2) (O : Ow G H (L)) (r : Q) (h : z56 K p0 p1 p2 = some r) :
    CR Tryz.prog 138 [(.bool p0), v1, v2] G H (L) (fun v G' _ => ∃ (w0 : List Value), v = .agg w0.toArray /\ T_Q.rep G' w0 r) := by
 unfold z56 at h
 refine CR.og (n := 35) (fn := Tryz.f138) (by kernel_rfl) rfl rfl fun R kr => (.seq (.region (W.ln (Lo.alloc (r := T_Q) (x0 := (Q.mk false [] [])) ze96 (by kernel_rfl) z_Q O) ?_)))
 rintro v4 H5 ⟨b2, rfl, O1, sm3⟩
 refine .nil (.seq (.seq (.region (W.p2 v1 (W.pv (.int .i64 (p1.length : Int)) (z0k ov (z0d hp1) (z04 el94)) (W.p3 (.bool ((p1.length : Int) == 0)) ?_))))))
 refine .nil (.cond (b := ((p1.length : Int) == 0)) rfl rfl (fun g6 => ?_) (fun g6 => ?_))
 .have h7 := z05 g6 h
  refine .seq (.region ?_)
  obtain ⟨c8, e10, f9⟩ := zp2
  refine W.pv (.agg c8.toArray) (e10 (z5z rfl qn')) (W.ln (Lo.storeVar (j := 0) (s := T_Q) (y0 := (Q.mk false [] [])) (v := (.agg c8.toArray)) (o := 0) rfl ((Put.at (Put.self _) _ _)) rfl sz96 rfl (by omega) rfl f9 O1) ?_)
  rintro v13 H14 ⟨O11, sm12⟩
  refine .nil (.ret ?_)
  obtain ⟨c15, p16, f17⟩ := (O11.atVar (j := 0) rfl)
  have O18 := O11.drop 0
  obtain rfl := zAa h7
  exact z1b kr (v1 := (.agg c15.toArray)) (by rfl) (z32 (p := (.pointer (some ⟨b2, 0, none⟩))) (by rfl) ag96 sz96 (by exact rfl) p16 (RT.len _ f17)) O18 (zAf _) ⟨c15, rfl, f17⟩
 have h19 := z0h g6 h
 refine .skip (.seq (.seq (.region (W.p2 v1 (W.p2 v2 ?_)))))
 obtain ⟨x20, i21, h22⟩ := z01 h19
 refine W.ln (Lo.cP rfl (fn := Tryz.f134) (by kernel_rfl) rfl (mc rfl (mc rfl mn)) O1 (fun L' O' => z8l K v1 p1 hp1 v2 p2 hp2 O' _ i21)) ?_
 rintro v31 H32 ⟨G23, O24, s25, sm30, ⟨w27, rfl, f28⟩⟩
 refine W.p1 w27 (.nil (.seq (.region (W.p2 w27 ?_))))
 obtain ⟨x33, i34, h35⟩ := z01 h22
 refine W.ln (Lo.callPF (ps := []) (pw := fun w => [eSl w 181 (rI .u32) x33]) rfl (fn := Tryz.f136) (by kernel_rfl) rfl (mc rfl mn) O24 (fun L' O' => z3v K 1 O' _ i34)) ?_
 rintro v44 H45 ⟨w41, G36, O37, s38, sm43, rfl⟩
 obtain ⟨x46, i47, h48⟩ := z01 h35
 refine W.ln (Lo.callB (j := 0) rfl rfl (fn := Tryz.f135) (by kernel_rfl) rfl (mc rfl (mc rfl mn)) O37 (fun G' L' hG O' hB => z55 K w27 x20 (RT.mono _ hG (RT.mono _ s38 f28)) w41 x33 hB O' _ i47)) ?_
 rintro v55 H56 ⟨G49, O50, s51, sm54, rfl⟩
 refine W.p3 (.bool (decide (x46 > 0))) (.nil ?_)
 obtain ⟨q57, h58, h59⟩ := z01 h48
 refine AW.midT (fun σ' H' => ∃ (y1 : List Int) (y2 : List Int) (G' : GM), (y1, y2) = q57 /\ Ow G' H' (eSl w41 181 (rI .u32) x33 :: eVar b2 96 T_Q (Q.mk false [] []) :: L) /\ GM.le G49 G' /\ (rSl (rI .u32)).rep G' [σ' 1] y1 /\ (rSl (rI .u32)).rep G' [σ' 2] y2) ?_ ?_
 rotate_left
 .rintro σ95 H96 fr97 ⟨x93, x94, G98, rfl, O99, s100, f102, f103⟩
  have h104 := z4s h59
  refine .seq (.region (W.q2 (.bool p0) ((fr97 0 rfl).trans rfl) (W.p2 (σ95 1) (W.p2 (σ95 2) ?_))))
  obtain ⟨c105, e107, f106⟩ := z8m ((.bool p0)) ((σ95 1)) ((σ95 2)) (rfl) ((z4c f102)) ((z4c f103))
  refine W.pv (.agg c105.toArray) (e107 (z5z rfl (qc' rfl (qc' rfl (qc' rfl qn'))))) (W.ln (Lo.storeVar (j := 1) (s := T_Q) (y0 := (Q.mk p0 x93 x94)) (v := (.agg c105.toArray)) (o := 0) rfl ((Put.at (Put.self _) _ _)) rfl sz96 ((fr97 6 rfl).trans rfl) (by omega) rfl f106 O99) ?_)
  rintro v110 H111 ⟨O108, sm109⟩
  refine .nil (.ret ?_)
  obtain ⟨c112, p113, f114⟩ := (O108.atVar (j := 1) rfl)
  have O116 := (O108.drop 0).drop 0
  obtain rfl := zAa h104
  exact z1b kr (v1 := (.agg c112.toArray)) (by rfl) (z32 (p := (.pointer (some ⟨b2, 0, none⟩))) (by rfl) ag96 sz96 (by exact ((fr97 6 rfl).trans rfl)) p113 (RT.len _ f114)) O116 (zAe s25 (zAe s38 (zAe s51 s100))) ⟨c112, rfl, f114⟩
 refine .cond (b := decide (x46 > 0)) rfl rfl (fun g60 => ?_) (fun g60 => ?_)
 rotate_left
 .have h92 := z0h g60 h58
  refine .skip ?_
  obtain rfl := zAa h92
  exact ⟨p1, p2, _, rfl, O50, (zAf _), (RT.mono _ (zAe s25 (zAe s38 s51)) hp1), (RT.mono _ (zAe s25 (zAe s38 s51)) hp2)⟩
 have h61 := z05 g60 h58
 refine .seq (.region (W.p2 v1 (W.p2 w27 ?_)))
 obtain ⟨x62, i63, h64⟩ := z01 h61
 refine W.ln (Lo.cP rfl (fn := Tryz.f166) (by kernel_rfl) rfl (mc rfl (mc rfl mn)) O50 (fun L' O' => z6s K v1 p1 (RT.mono _ (zAe s25 (zAe s38 s51)) hp1) w27 x20 (RT.mono _ (zAe s38 s51) f28) O' _ i63)) ?_
 rintro v75 H76 ⟨G65, O66, s67, sm74, ⟨w69, w71, rfl, f70, f72⟩⟩
 refine W.p2 (.tuple #[w69, w71]) (W.pv w69 (z0b ov rfl) (W.pv w71 (z0b ov rfl) (W.p1 w69 (.nil (.region (W.p2 v2 ?_))))))
 refine W.p2 w27 ?_
 obtain ⟨x77, i78, h79⟩ := z01 h64
 refine W.ln (Lo.cP rfl (fn := Tryz.f166) (by kernel_rfl) rfl (mc rfl (mc rfl mn)) O66 (fun L' O' => z6s K v2 p2 (RT.mono _ (zAe s25 (zAe s38 (zAe s51 s67))) hp2) w27 x20 (RT.mono _ (zAe s38 (zAe s51 s67)) f28) O' _ i78)) ?_
 rintro v90 H91 ⟨G80, O81, s82, sm89, ⟨w84, w86, rfl, f85, f87⟩⟩
 refine W.p2 (.tuple #[w84, w86]) (W.pv w84 (z0b ov rfl) (W.pv w86 (z0b ov rfl) (W.p1 w84 (.nil ?_))))
 obtain rfl := zAa h79
 exact ⟨x62.1, x77.1, _, rfl, O81, (zAe s67 s82), (RT.mono _ s82 f70), f85⟩
def z6a (K : Nat) (p0 : Q) (p1 : Q) : Option Q := (Option.bind ((if ((List.length p0.num : Int) == 0) = true then some true else some ((List.length p1.num : Int) == 0))) (tu1 fun x29 => (if x29 = true then some (Q.mk false [] []) else ((z0y K p1).bind fun x66 => ((z20 K p0.num x66).bind fun x79 => ((z0y K p0).bind fun x95 => ((z20 K x95 p1.num).bind fun x111 => ((z56 K (!(p0.neg == p1.neg)) x79 x111).bind fun x132 => some x132))))))))
theorem zbx (v0 : List Value) (p0 : Q) (hp0 : T_Q.rep G v0 p0) (v1 : List Value) (p1 : Q) (hp1 : T_Q.rep G v1 p1) (O : Ow G H (L)) (r : Q) (h : z6a K p0 p1 = some r) :
    CR Tryz.prog 71 [.agg v0.toArray, .agg v1.toArray] G H (L) (fun v G' _ => ∃ (w0 : List Value), v = .agg w0.toArray /\ T_Q.rep G' w0 r) := by
 unfold z6a at h
 refine CR.og (n := 32) (fn := Tryz.f71) (by kernel_rfl) rfl rfl fun R kr => (.seq (.region (W.ln (Lo.box (r := T_Q) (x0 := p0) (v := (.agg v0.toArray)) rfl rfl hp0 O) ?_)))
 rintro v4 H5 ⟨b2, rfl, O1, sm3⟩
 refine W.ln (Lo.box (r := T_Q) (x0 := p1) (v := (.agg v1.toArray)) rfl rfl hp1 O1) ?_
 rintro v9 H10 ⟨b7, rfl, O6, sm8⟩
 refine W.ln (Lo.alloc (r := T_Q) (x0 := (Q.mk false [] [])) ze96 (by kernel_rfl) z_Q O6) ?_
 rintro v14 H15 ⟨b12, rfl, O11, sm13⟩
 refine .nil (.seq (.seq ?_))
 obtain ⟨q16, h17, h18⟩ := z01 h
 refine AW.midT (fun σ' H' => ∃ (y1 : Bool) (G' : GM), y1 = q16 /\ Ow G' H' (eVar b12 96 T_Q (Q.mk false [] []) :: eVar b7 96 T_Q p1 :: eVar b2 96 T_Q p0 :: L) /\ GM.le G G' /\ σ' 14 = .bool y1) ?_ ?_
 .refine .region (W.pv (padd (.pointer (some ⟨b2, 0, none⟩)) 1) (z31 z72 ov (O11.atVar (j := 2) rfl)) ?_)
  obtain ⟨w19, p20, f21⟩ := At.sl (At.proj (O11.atVar (j := 2) rfl) z4a)
  refine W.load1 (v := w19) (r := []) rfl rfl ag94 (z0z rfl p20) (W.pv (.int .i64 (List.length p0.num : Int)) (z0k ov (z0d f21) (z04 el94)) (W.p3 (.bool ((List.length p0.num : Int) == 0)) (W.p2 (.bool ((List.length p0.num : Int) == 0)) (W.splitAt (t := 9) (b := ((List.length p0.num : Int) == 0)) rfl (fun g22 gv23 => ?_) (fun g22 gv23 => ?_)))))
  .have h24 := z05 g22 h17
   refine W.q6 rfl gv23 (W.q6 rfl gv23 (W.q6 rfl gv23 (W.q6 rfl gv23 (W.q4 (.bool true) gv23 rfl (.nil ?_)))))
   obtain rfl := zAa h24
   exact ⟨true, _, rfl, O11, (zAf _), rfl⟩
  have h25 := z0h g22 h17
  refine W.pure (v := (padd (.pointer (some ⟨b7, 0, none⟩)) 1)) (gk rfl rfl gv23 rfl) rfl (z31 z72 ov (O11.atVar (j := 1) rfl)) ?_
  obtain ⟨w26, p27, f28⟩ := At.sl (At.proj (O11.atVar (j := 1) rfl) z4a)
  refine W.load1 (v := w26) (r := []) (gk rfl rfl gv23 rfl) rfl ag94 (z0z rfl p27) (W.pure (v := (.int .i64 (List.length p1.num : Int))) (gk rfl rfl gv23 rfl) rfl (z0k ov (z0d f28) (z04 el94)) (W.q3 (hg := gk rfl rfl gv23 rfl) (.bool ((List.length p1.num : Int) == 0)) rfl rfl (W.q5 (.bool ((List.length p1.num : Int) == 0)) gv23 rfl (.nil ?_))))
  obtain rfl := zAa h25
  exact ⟨((List.length p1.num : Int) == 0), _, rfl, O11, (zAf _), rfl⟩
 rintro σ30 H31 fr32 ⟨x29, G33, rfl, O34, s35, t37⟩
 have h38 := z09 h18
 refine .cond (b := x29) rfl t37 (fun g39 => ?_) (fun g39 => ?_)
 .have h40 := z05 g39 h38
  refine .seq (.region ?_)
  obtain ⟨c41, e43, f42⟩ := zp2
  refine W.pv (.agg c41.toArray) (e43 (z5z rfl qn')) (W.ln (Lo.storeVar (j := 0) (s := T_Q) (y0 := (Q.mk false [] [])) (v := (.agg c41.toArray)) (o := 0) rfl ((Put.at (Put.self _) _ _)) rfl sz96 ((fr32 4 rfl).trans rfl) (by omega) rfl f42 O34) ?_)
  rintro v46 H47 ⟨O44, sm45⟩
  refine .nil (.ret ?_)
  obtain ⟨c48, p49, f50⟩ := (O44.atVar (j := 0) rfl)
  have O53 := ((O44.drop 0).drop 0).drop 0
  obtain rfl := zAa h40
  exact z1b kr (v1 := (.agg c48.toArray)) (by rfl) (z32 (p := (.pointer (some ⟨b12, 0, none⟩))) (by rfl) ag96 sz96 (by exact ((fr32 4 rfl).trans rfl)) p49 (RT.len _ f50)) O53 s35 ⟨c48, rfl, f50⟩
 have h54 := z0h g39 h38
 refine .skip (.seq (.draw2 (M := [0, 1, 0, 4, 15, 0, 32, 0, 128, 480, 0, 2016, 0, 4096, 16352, 32767, 65535]) mixed (by kernel_rfl) (by kernel_rfl) fun H55 N59 x56 F58 => ?_))
 have O57 := O34.ext x56
 refine D2.pv (padd (.pointer (some ⟨b2, 0, none⟩)) 0) (z31 z9m (ou ((fr32 2 rfl).trans rfl)) (O57.atVar (j := 2) rfl)) (D2.load1' (v := (.bool p0.neg)) (r := []) rfl rfl ag4 (z0z rfl (At.bool (At.proj (O57.atVar (j := 2) rfl) z70))) z06 (D2.pv (padd (.pointer (some ⟨b7, 0, none⟩)) 0) (z31 z9m (ou ((fr32 3 rfl).trans rfl)) (O57.atVar (j := 1) rfl)) (D2.load1' (v := (.bool p1.neg)) (r := []) rfl rfl ag4 (z0z rfl (At.bool (At.proj (O57.atVar (j := 1) rfl) z70))) z06 (D2.pv (.bool (!(p0.neg == p1.neg))) (zdo ov ov un4) (D2.pv (padd (.pointer (some ⟨b2, 0, none⟩)) 1) (z31 z72 (ou ((fr32 2 rfl).trans rfl)) (O57.atVar (j := 2) rfl)) ?_)))))
 obtain ⟨w60, p61, f62⟩ := At.sl (At.proj (O57.atVar (j := 2) rfl) z4a)
 refine D2.load1' (v := w60) (r := []) rfl rfl ag94 (z0z rfl p61) z06 ?_
 obtain ⟨c63, p64, f65⟩ := (O57.atVar (j := 1) rfl)
 refine D2.loadA' (cs := c63) rfl rfl ag96 sz96 (z0z ((fr32 3 rfl).trans rfl) p64) (RT.len _ f65) z06 ?_
 obtain ⟨x66, i67, h68⟩ := z01 h54
 refine D2.lo rfl rfl (Lo.cP rfl (fn := Tryz.f140) (by kernel_rfl) rfl (mc rfl mn) O57 (fun L' O' => z15 K c63 p1 f65 O' _ i67)) ?_ z06 ?_ ?_
 .rintro v77 H78 ⟨G69, O70, s71, sm76, ⟨w73, rfl, f74⟩⟩; exact (faR1 (.inl (by decide)) (faR1 (.inr (sm76 _ (Or.inr ⟨2, _, rfl, List.mem_singleton.2 rfl⟩))) (faR1 (.inr (sm76 _ (Or.inr ⟨1, _, rfl, List.mem_singleton.2 rfl⟩))) (faR1 (.inr (sm76 _ (Or.inr ⟨2, _, rfl, List.mem_singleton.2 rfl⟩))) z06))))
 .rintro v77 H78 ⟨G69, O70, s71, sm76, ⟨w73, rfl, f74⟩⟩; exact z06
 rintro v77 H78 ⟨G69, O70, s71, sm76, ⟨w73, rfl, f74⟩⟩
 obtain ⟨x79, i80, h81⟩ := z01 h68
 refine D2.lo rfl rfl (Lo.callPF (ps := []) (pw := fun w => [eSl w 181 (rI .u32) x79]) rfl (fn := Tryz.f139) (by kernel_rfl) rfl (mc rfl (mc rfl mn)) O70 (fun L' O' => z1p K w60 p0.num (RT.mono _ s71 f62) w73 x66 f74 O' _ i80)) ?_ (z0j (by decide) z06) ?_ ?_
 .rintro v90 H91 ⟨w87, G82, O83, s84, sm89, rfl⟩; exact (faR1 (.inl (by decide)) (faR1 (.inl (by decide)) (faR1 (.inr (sm89 _ (Or.inr ⟨1, _, rfl, List.mem_singleton.2 rfl⟩))) (faR1 (.inr (sm89 _ (Or.inr ⟨2, _, rfl, List.mem_singleton.2 rfl⟩))) z06))))
 .rintro v90 H91 ⟨w87, G82, O83, s84, sm89, rfl⟩; exact z06
 rintro v90 H91 ⟨w87, G82, O83, s84, sm89, rfl⟩
 obtain ⟨c92, p93, f94⟩ := (O83.atVar (j := 3) rfl)
 refine D2.loadA' (cs := c92) rfl rfl ag96 sz96 (z0z ((fr32 2 rfl).trans rfl) p93) (RT.len _ f94) (z93 (zmx ((fr32 2 rfl).trans rfl) (sm89 _ (Or.inr ⟨2, _, rfl, List.mem_singleton.2 rfl⟩))) (z93 (zmx ((fr32 2 rfl).trans rfl) (sm76 _ (Or.inr ⟨2, _, rfl, List.mem_singleton.2 rfl⟩))) z06)) ?_
 obtain ⟨x95, i96, h97⟩ := z01 h81
 refine D2.lo rfl rfl (Lo.cP rfl (fn := Tryz.f140) (by kernel_rfl) rfl (mc rfl mn) O83 (fun L' O' => z15 K c92 p0 f94 O' _ i96)) ?_ (z0j (by decide) (z0j (by decide) z06)) ?_ ?_
 .rintro v106 H107 ⟨G98, O99, s100, sm105, ⟨w102, rfl, f103⟩⟩; exact (faR1 (.inl (by decide)) (faR1 (.inl (by decide)) (faR1 (.inl (by decide)) (faR1 (.inr (sm105 _ (Or.inr ⟨2, _, rfl, List.mem_singleton.2 rfl⟩))) (faR1 (.inr (sm105 _ (Or.inr ⟨3, _, rfl, List.mem_singleton.2 rfl⟩))) z06)))))
 .rintro v106 H107 ⟨G98, O99, s100, sm105, ⟨w102, rfl, f103⟩⟩; exact z06
 rintro v106 H107 ⟨G98, O99, s100, sm105, ⟨w102, rfl, f103⟩⟩
 refine D2.pv (padd (.pointer (some ⟨b7, 0, none⟩)) 1) (z31 z72 (ou ((fr32 3 rfl).trans rfl)) (O99.atVar (j := 2) rfl)) ?_
 obtain ⟨w108, p109, f110⟩ := At.sl (At.proj (O99.atVar (j := 2) rfl) z4a)
 refine D2.load1' (v := w108) (r := []) rfl rfl ag94 (z0z rfl p109) (z93 (sm105 _ (Or.inr ⟨2, _, rfl, List.mem_singleton.2 rfl⟩)) (z93 (sm89 _ (Or.inr ⟨1, _, rfl, List.mem_singleton.2 rfl⟩)) (z93 (sm76 _ (Or.inr ⟨1, _, rfl, List.mem_singleton.2 rfl⟩)) z06))) ?_
 obtain ⟨x111, i112, h113⟩ := z01 h97
 refine D2.lo rfl rfl (Lo.callPF (ps := []) (pw := fun w => [eSl w 181 (rI .u32) x111]) rfl (fn := Tryz.f139) (by kernel_rfl) rfl (mc rfl (mc rfl mn)) O99 (fun L' O' => z1p K w102 x95 f103 w108 p1.num f110 O' _ i112)) ?_ (z0j (by decide) (z0j (by decide) (z0j (by decide) z06))) ?_ ?_
 .rintro v122 H123 ⟨w119, G114, O115, s116, sm121, rfl⟩; exact (faR1 (.inl (by decide)) (faR1 (.inl (by decide)) (faR1 (.inl (by decide)) (faR1 (.inl (by decide)) (faR1 (.inr (sm121 _ (Or.inr ⟨2, _, rfl, List.mem_singleton.2 rfl⟩))) (faR1 (.inr (sm121 _ (Or.inr ⟨3, _, rfl, List.mem_singleton.2 rfl⟩))) z06))))))
 .rintro v122 H123 ⟨w119, G114, O115, s116, sm121, rfl⟩; exact z06
 rintro v122 H123 ⟨w119, G114, O115, s116, sm121, rfl⟩
 obtain ⟨G124, O125, s126, f127⟩ := O115.frzSl (j := 1) rfl
 obtain ⟨G128, O129, s130, f131⟩ := O125.frzSl (j := 0) rfl
 obtain ⟨x132, i133, h134⟩ := z01 h113
 refine D2.lo rfl rfl (Lo.cP rfl (fn := Tryz.f138) (by kernel_rfl) rfl (mc rfl (mc rfl (mc rfl mn))) O129 (fun L' O' => z5i K (!(p0.neg == p1.neg)) w87 x79 (RT.mono _ s130 f127) w119 x111 f131 O' _ i133)) ?_ (z0j (by decide) (z0j (by decide) (z0j (by decide) (z0j (by decide) z06)))) ?_ ?_
 .rintro v143 H144 ⟨G135, O136, s137, sm142, ⟨c139, rfl, f140⟩⟩; exact (faR1 (.inl (by decide)) (faR1 (.inl (by decide)) (faR1 (.inl (by decide)) (faR1 (.inl (by decide)) (faR1 (.inl (by decide)) (faR1 (.inl (by decide)) z06))))))
 .rintro v143 H144 ⟨G135, O136, s137, sm142, ⟨c139, rfl, f140⟩⟩; exact z06
 rintro v143 H144 ⟨G135, O136, s137, sm142, ⟨c139, rfl, f140⟩⟩
 refine D2.lo rfl rfl (Lo.storeVar (j := 0) (s := T_Q) (y0 := x132) (v := (.agg c139.toArray)) (o := 0) rfl ((Put.at (Put.self _) _ _)) rfl sz96 ((fr32 4 rfl).trans rfl) (by omega) rfl f140 O136) ?_ (z0j (by decide) (z0j (by decide) (z0j (by decide) (z0j (by decide) (z0j (by decide) z06))))) ?_ ?_
 .rintro v147 H148 ⟨O145, sm146⟩; exact (faR1 (.inl (by decide)) (faR1 (.inl (by decide)) (faR1 (.inl (by decide)) (faR1 (.inl (by decide)) (faR1 (.inl (by decide)) (faR1 (.inl (by decide)) z06))))))
 .rintro v147 H148 ⟨O145, sm146⟩; exact z06
 rintro v147 H148 ⟨O145, sm146⟩
 refine .nil (.ret ?_)
 obtain ⟨c149, p150, f151⟩ := (O145.atVar (j := 0) rfl)
 have O154 := ((O145.drop 0).drop 0).drop 0
 obtain rfl := zAa h134
 exact z1b kr (v1 := (.agg c149.toArray)) (by rfl) (z32 (p := (.pointer (some ⟨b12, 0, none⟩))) (by rfl) ag96 sz96 (by exact ((fr32 4 rfl).trans rfl)) p150 (RT.len _ f151)) O154 (zAe s35 (zAe s71 (zAe s84 (zAe s100 (zAe s116 (zAe s126 (zAe s130 s137))))))) ⟨c149, rfl, f151⟩
def z4d (K : Nat) (p0 : Q) (p1 : Q) : Option Q := (Option.bind ((if ((List.length p0.num : Int) == 0) = true then some true else some ((List.length p1.num : Int) == 0))) (tu1 fun x29 => (if x29 = true then some (Q.mk false [] []) else ((z20 K p0.num p1.num).bind fun x66 => ((z0y K p0).bind fun x82 => ((z0y K p1).bind fun x98 => ((z20 K x82 x98).bind fun x111 => ((z56 K (!(p0.neg == p1.neg)) x66 x111).bind fun x132 => some x132))))))))
theorem z8n (v0 : List Value) (p0 : Q) (hp0 : T_Q.rep G v0 p0) (v1 : List Value) (p1 : Q) (hp1 : T_Q.rep G v1 p1) (O : Ow G H (L)) (r : Q) (h : z4d K p0 p1 = some r) :
    CR Tryz.prog 92 [.agg v0.toArray, .agg v1.toArray] G H (L) (fun v G' _ => ∃ (w0 : List Value), v = .agg w0.toArray /\ T_Q.rep G' w0 r) := by
 unfold z4d at h
 refine CR.og (n := 32) (fn := Tryz.f92) (by kernel_rfl) rfl rfl fun R kr => (.seq (.region (W.ln (Lo.box (r := T_Q) (x0 := p0) (v := (.agg v0.toArray)) rfl rfl hp0 O) ?_)))
 rintro v4 H5 ⟨b2, rfl, O1, sm3⟩
 refine W.ln (Lo.box (r := T_Q) (x0 := p1) (v := (.agg v1.toArray)) rfl rfl hp1 O1) ?_
 rintro v9 H10 ⟨b7, rfl, O6, sm8⟩
 refine W.ln (Lo.alloc (r := T_Q) (x0 := (Q.mk false [] [])) ze96 (by kernel_rfl) z_Q O6) ?_
 rintro v14 H15 ⟨b12, rfl, O11, sm13⟩
 refine .nil (.seq (.seq ?_))
 obtain ⟨q16, h17, h18⟩ := z01 h
 refine AW.midT (fun σ' H' => ∃ (y1 : Bool) (G' : GM), y1 = q16 /\ Ow G' H' (eVar b12 96 T_Q (Q.mk false [] []) :: eVar b7 96 T_Q p1 :: eVar b2 96 T_Q p0 :: L) /\ GM.le G G' /\ σ' 14 = .bool y1) ?_ ?_
 .refine .region (W.pv (padd (.pointer (some ⟨b2, 0, none⟩)) 1) (z31 z72 ov (O11.atVar (j := 2) rfl)) ?_)
  obtain ⟨w19, p20, f21⟩ := At.sl (At.proj (O11.atVar (j := 2) rfl) z4a)
  refine W.load1 (v := w19) (r := []) rfl rfl ag94 (z0z rfl p20) (W.pv (.int .i64 (List.length p0.num : Int)) (z0k ov (z0d f21) (z04 el94)) (W.p3 (.bool ((List.length p0.num : Int) == 0)) (W.p2 (.bool ((List.length p0.num : Int) == 0)) (W.splitAt (t := 9) (b := ((List.length p0.num : Int) == 0)) rfl (fun g22 gv23 => ?_) (fun g22 gv23 => ?_)))))
  .have h24 := z05 g22 h17
   refine W.q6 rfl gv23 (W.q6 rfl gv23 (W.q6 rfl gv23 (W.q6 rfl gv23 (W.q4 (.bool true) gv23 rfl (.nil ?_)))))
   obtain rfl := zAa h24
   exact ⟨true, _, rfl, O11, (zAf _), rfl⟩
  have h25 := z0h g22 h17
  refine W.pure (v := (padd (.pointer (some ⟨b7, 0, none⟩)) 1)) (gk rfl rfl gv23 rfl) rfl (z31 z72 ov (O11.atVar (j := 1) rfl)) ?_
  obtain ⟨w26, p27, f28⟩ := At.sl (At.proj (O11.atVar (j := 1) rfl) z4a)
  refine W.load1 (v := w26) (r := []) (gk rfl rfl gv23 rfl) rfl ag94 (z0z rfl p27) (W.pure (v := (.int .i64 (List.length p1.num : Int))) (gk rfl rfl gv23 rfl) rfl (z0k ov (z0d f28) (z04 el94)) (W.q3 (hg := gk rfl rfl gv23 rfl) (.bool ((List.length p1.num : Int) == 0)) rfl rfl (W.q5 (.bool ((List.length p1.num : Int) == 0)) gv23 rfl (.nil ?_))))
  obtain rfl := zAa h25
  exact ⟨((List.length p1.num : Int) == 0), _, rfl, O11, (zAf _), rfl⟩
 rintro σ30 H31 fr32 ⟨x29, G33, rfl, O34, s35, t37⟩
 have h38 := z09 h18
 refine .cond (b := x29) rfl t37 (fun g39 => ?_) (fun g39 => ?_)
 .have h40 := z05 g39 h38
  refine .seq (.region ?_)
  obtain ⟨c41, e43, f42⟩ := zp2
  refine W.pv (.agg c41.toArray) (e43 (z5z rfl qn')) (W.ln (Lo.storeVar (j := 0) (s := T_Q) (y0 := (Q.mk false [] [])) (v := (.agg c41.toArray)) (o := 0) rfl ((Put.at (Put.self _) _ _)) rfl sz96 ((fr32 4 rfl).trans rfl) (by omega) rfl f42 O34) ?_)
  rintro v46 H47 ⟨O44, sm45⟩
  refine .nil (.ret ?_)
  obtain ⟨c48, p49, f50⟩ := (O44.atVar (j := 0) rfl)
  have O53 := ((O44.drop 0).drop 0).drop 0
  obtain rfl := zAa h40
  exact z1b kr (v1 := (.agg c48.toArray)) (by rfl) (z32 (p := (.pointer (some ⟨b12, 0, none⟩))) (by rfl) ag96 sz96 (by exact ((fr32 4 rfl).trans rfl)) p49 (RT.len _ f50)) O53 s35 ⟨c48, rfl, f50⟩
 have h54 := z0h g39 h38
 refine .skip (.seq (.draw2 (M := [0, 1, 0, 4, 15, 0, 32, 0, 128, 480, 0, 2016, 0, 8160, 16352, 32767, 65535]) mixed (by kernel_rfl) (by kernel_rfl) fun H55 N59 x56 F58 => ?_))
 have O57 := O34.ext x56
 refine D2.pv (padd (.pointer (some ⟨b2, 0, none⟩)) 0) (z31 z9m (ou ((fr32 2 rfl).trans rfl)) (O57.atVar (j := 2) rfl)) (D2.load1' (v := (.bool p0.neg)) (r := []) rfl rfl ag4 (z0z rfl (At.bool (At.proj (O57.atVar (j := 2) rfl) z70))) z06 (D2.pv (padd (.pointer (some ⟨b7, 0, none⟩)) 0) (z31 z9m (ou ((fr32 3 rfl).trans rfl)) (O57.atVar (j := 1) rfl)) (D2.load1' (v := (.bool p1.neg)) (r := []) rfl rfl ag4 (z0z rfl (At.bool (At.proj (O57.atVar (j := 1) rfl) z70))) z06 (D2.pv (.bool (!(p0.neg == p1.neg))) (zdo ov ov un4) (D2.pv (padd (.pointer (some ⟨b2, 0, none⟩)) 1) (z31 z72 (ou ((fr32 2 rfl).trans rfl)) (O57.atVar (j := 2) rfl)) ?_)))))
 obtain ⟨w60, p61, f62⟩ := At.sl (At.proj (O57.atVar (j := 2) rfl) z4a)
 refine D2.load1' (v := w60) (r := []) rfl rfl ag94 (z0z rfl p61) z06 (D2.pv (padd (.pointer (some ⟨b7, 0, none⟩)) 1) (z31 z72 (ou ((fr32 3 rfl).trans rfl)) (O57.atVar (j := 1) rfl)) ?_)
 obtain ⟨w63, p64, f65⟩ := At.sl (At.proj (O57.atVar (j := 1) rfl) z4a)
 refine D2.load1' (v := w63) (r := []) rfl rfl ag94 (z0z rfl p64) z06 ?_
 obtain ⟨x66, i67, h68⟩ := z01 h54
 refine D2.lo rfl rfl (Lo.callPF (ps := []) (pw := fun w => [eSl w 181 (rI .u32) x66]) rfl (fn := Tryz.f139) (by kernel_rfl) rfl (mc rfl (mc rfl mn)) O57 (fun L' O' => z1p K w60 p0.num f62 w63 p1.num f65 O' _ i67)) ?_ z06 ?_ ?_
 .rintro v77 H78 ⟨w74, G69, O70, s71, sm76, rfl⟩; exact (faR1 (.inl (by decide)) (faR1 (.inl (by decide)) (faR1 (.inr (sm76 _ (Or.inr ⟨1, _, rfl, List.mem_singleton.2 rfl⟩))) (faR1 (.inr (sm76 _ (Or.inr ⟨2, _, rfl, List.mem_singleton.2 rfl⟩))) z06))))
 .rintro v77 H78 ⟨w74, G69, O70, s71, sm76, rfl⟩; exact z06
 rintro v77 H78 ⟨w74, G69, O70, s71, sm76, rfl⟩
 obtain ⟨c79, p80, f81⟩ := (O70.atVar (j := 3) rfl)
 refine D2.loadA' (cs := c79) rfl rfl ag96 sz96 (z0z ((fr32 2 rfl).trans rfl) p80) (RT.len _ f81) (z93 (zmx ((fr32 2 rfl).trans rfl) (sm76 _ (Or.inr ⟨2, _, rfl, List.mem_singleton.2 rfl⟩))) z06) ?_
 obtain ⟨x82, i83, h84⟩ := z01 h68
 refine D2.lo rfl rfl (Lo.cP rfl (fn := Tryz.f140) (by kernel_rfl) rfl (mc rfl mn) O70 (fun L' O' => z15 K c79 p0 f81 O' _ i83)) ?_ (z0j (by decide) z06) ?_ ?_
 .rintro v93 H94 ⟨G85, O86, s87, sm92, ⟨w89, rfl, f90⟩⟩; exact (faR1 (.inl (by decide)) (faR1 (.inl (by decide)) (faR1 (.inl (by decide)) (faR1 (.inr (sm92 _ (Or.inr ⟨2, _, rfl, List.mem_singleton.2 rfl⟩))) (faR1 (.inr (sm92 _ (Or.inr ⟨3, _, rfl, List.mem_singleton.2 rfl⟩))) z06)))))
 .rintro v93 H94 ⟨G85, O86, s87, sm92, ⟨w89, rfl, f90⟩⟩; exact z06
 rintro v93 H94 ⟨G85, O86, s87, sm92, ⟨w89, rfl, f90⟩⟩
 obtain ⟨c95, p96, f97⟩ := (O86.atVar (j := 2) rfl)
 refine D2.loadA' (cs := c95) rfl rfl ag96 sz96 (z0z ((fr32 3 rfl).trans rfl) p96) (RT.len _ f97) (z93 (zmx ((fr32 3 rfl).trans rfl) (sm92 _ (Or.inr ⟨2, _, rfl, List.mem_singleton.2 rfl⟩))) (z93 (zmx ((fr32 3 rfl).trans rfl) (sm76 _ (Or.inr ⟨1, _, rfl, List.mem_singleton.2 rfl⟩))) z06)) ?_
 obtain ⟨x98, i99, h100⟩ := z01 h84
 refine D2.lo rfl rfl (Lo.cP rfl (fn := Tryz.f140) (by kernel_rfl) rfl (mc rfl mn) O86 (fun L' O' => z15 K c95 p1 f97 O' _ i99)) ?_ (z0j (by decide) (z0j (by decide) z06)) ?_ ?_
 .rintro v109 H110 ⟨G101, O102, s103, sm108, ⟨w105, rfl, f106⟩⟩; exact (faR1 (.inl (by decide)) (faR1 (.inl (by decide)) (faR1 (.inl (by decide)) (faR1 (.inl (by decide)) (faR1 (.inr (sm108 _ (Or.inr ⟨2, _, rfl, List.mem_singleton.2 rfl⟩))) (faR1 (.inr (sm108 _ (Or.inr ⟨3, _, rfl, List.mem_singleton.2 rfl⟩))) z06))))))
 .rintro v109 H110 ⟨G101, O102, s103, sm108, ⟨w105, rfl, f106⟩⟩; exact z06
 rintro v109 H110 ⟨G101, O102, s103, sm108, ⟨w105, rfl, f106⟩⟩
 obtain ⟨x111, i112, h113⟩ := z01 h100
 refine D2.lo rfl rfl (Lo.callPF (ps := []) (pw := fun w => [eSl w 181 (rI .u32) x111]) rfl (fn := Tryz.f139) (by kernel_rfl) rfl (mc rfl (mc rfl mn)) O102 (fun L' O' => z1p K w89 x82 (RT.mono _ s103 f90) w105 x98 f106 O' _ i112)) ?_ (z0j (by decide) (z0j (by decide) (z0j (by decide) z06))) ?_ ?_
 .rintro v122 H123 ⟨w119, G114, O115, s116, sm121, rfl⟩; exact (faR1 (.inl (by decide)) (faR1 (.inl (by decide)) (faR1 (.inl (by decide)) (faR1 (.inl (by decide)) (faR1 (.inr (sm121 _ (Or.inr ⟨2, _, rfl, List.mem_singleton.2 rfl⟩))) (faR1 (.inr (sm121 _ (Or.inr ⟨3, _, rfl, List.mem_singleton.2 rfl⟩))) z06))))))
 .rintro v122 H123 ⟨w119, G114, O115, s116, sm121, rfl⟩; exact z06
 rintro v122 H123 ⟨w119, G114, O115, s116, sm121, rfl⟩
 obtain ⟨G124, O125, s126, f127⟩ := O115.frzSl (j := 1) rfl
 obtain ⟨G128, O129, s130, f131⟩ := O125.frzSl (j := 0) rfl
 obtain ⟨x132, i133, h134⟩ := z01 h113
 refine D2.lo rfl rfl (Lo.cP rfl (fn := Tryz.f138) (by kernel_rfl) rfl (mc rfl (mc rfl (mc rfl mn))) O129 (fun L' O' => z5i K (!(p0.neg == p1.neg)) w74 x66 (RT.mono _ s130 f127) w119 x111 f131 O' _ i133)) ?_ (z0j (by decide) (z0j (by decide) (z0j (by decide) (z0j (by decide) z06)))) ?_ ?_
 .rintro v143 H144 ⟨G135, O136, s137, sm142, ⟨c139, rfl, f140⟩⟩; exact (faR1 (.inl (by decide)) (faR1 (.inl (by decide)) (faR1 (.inl (by decide)) (faR1 (.inl (by decide)) (faR1 (.inl (by decide)) (faR1 (.inl (by decide)) z06))))))
 .rintro v143 H144 ⟨G135, O136, s137, sm142, ⟨c139, rfl, f140⟩⟩; exact z06
 rintro v143 H144 ⟨G135, O136, s137, sm142, ⟨c139, rfl, f140⟩⟩
 refine D2.lo rfl rfl (Lo.storeVar (j := 0) (s := T_Q) (y0 := x132) (v := (.agg c139.toArray)) (o := 0) rfl ((Put.at (Put.self _) _ _)) rfl sz96 ((fr32 4 rfl).trans rfl) (by omega) rfl f140 O136) ?_ (z0j (by decide) (z0j (by decide) (z0j (by decide) (z0j (by decide) (z0j (by decide) z06))))) ?_ ?_
 .rintro v147 H148 ⟨O145, sm146⟩; exact (faR1 (.inl (by decide)) (faR1 (.inl (by decide)) (faR1 (.inl (by decide)) (faR1 (.inl (by decide)) (faR1 (.inl (by decide)) (faR1 (.inl (by decide)) z06))))))
 .rintro v147 H148 ⟨O145, sm146⟩; exact z06
 rintro v147 H148 ⟨O145, sm146⟩
 refine .nil (.ret ?_)
 obtain ⟨c149, p150, f151⟩ := (O145.atVar (j := 0) rfl)
 have O154 := ((O145.drop 0).drop 0).drop 0
 obtain rfl := zAa h134
 exact z1b kr (v1 := (.agg c149.toArray)) (by rfl) (z32 (p := (.pointer (some ⟨b12, 0, none⟩))) (by rfl) ag96 sz96 (by exact ((fr32 4 rfl).trans rfl)) p150 (RT.len _ f151)) O154 (zAe s35 (zAe s71 (zAe s87 (zAe s103 (zAe s116 (zAe s126 (zAe s130 s137))))))) ⟨c149, rfl, f151⟩
def z5c (K : Nat) (p0 : Q) : Option Q := (if ((List.length p0.num : Int) == 0) = true then some p0 else some (Q.mk (!p0.neg) p0.num p0.den))
theorem z8o (v0 : List Value) (p0 : Q) (hp0 : T_Q.rep G v0 p0) (O : Ow G H (L)) (r : Q) (h : z5c K p0 = some r) :
    CR Tryz.prog 109 [.agg v0.toArray] G H (L) (fun v G' _ => ∃ (w0 : List Value), v = .agg w0.toArray /\ T_Q.rep G' w0 r) := by
 unfold z5c at h
 refine CR.og (n := 16) (fn := Tryz.f109) (by kernel_rfl) rfl rfl fun R kr => (.seq (.region (W.ln (Lo.box (r := T_Q) (x0 := p0) (v := (.agg v0.toArray)) rfl rfl hp0 O) ?_)))
 rintro v4 H5 ⟨b2, rfl, O1, sm3⟩
 refine W.ln (Lo.alloc (r := T_Q) (x0 := (Q.mk false [] [])) ze96 (by kernel_rfl) z_Q O1) ?_
 rintro v9 H10 ⟨b7, rfl, O6, sm8⟩
 refine .nil (.seq (.seq (.region (W.pv (padd (.pointer (some ⟨b2, 0, none⟩)) 1) (z31 z72 ov (O6.atVar (j := 1) rfl)) ?_))))
 obtain ⟨w11, p12, f13⟩ := At.sl (At.proj (O6.atVar (j := 1) rfl) z4a)
 refine W.load1 (v := w11) (r := []) rfl rfl ag94 (z0z rfl p12) (W.pv (.int .i64 (List.length p0.num : Int)) (z0k ov (z0d f13) (z04 el94)) (W.p3 (.bool ((List.length p0.num : Int) == 0)) (.nil (.cond (b := ((List.length p0.num : Int) == 0)) rfl rfl (fun g14 => ?_) (fun g14 => ?_)))))
 .have h15 := z05 g14 h
  refine .seq (.region ?_)
  obtain ⟨c16, p17, f18⟩ := (O6.atVar (j := 1) rfl)
  refine W.loadA (cs := c16) rfl rfl ag96 sz96 (z0z rfl p17) (RT.len _ f18) (W.ln (Lo.storeVar (j := 0) (s := T_Q) (y0 := p0) (v := (.agg c16.toArray)) (o := 0) rfl ((Put.at (Put.self _) _ _)) rfl sz96 rfl (by omega) rfl f18 O6) ?_)
  rintro v21 H22 ⟨O19, sm20⟩
  refine .nil (.ret ?_)
  obtain ⟨c23, p24, f25⟩ := (O19.atVar (j := 0) rfl)
  have O27 := (O19.drop 0).drop 0
  obtain rfl := zAa h15
  exact z1b kr (v1 := (.agg c23.toArray)) (by rfl) (z32 (p := (.pointer (some ⟨b7, 0, none⟩))) (by rfl) ag96 sz96 (by exact rfl) p24 (RT.len _ f25)) O27 (zAf _) ⟨c23, rfl, f25⟩
 have h28 := z0h g14 h
 refine .skip (.seq (.region (W.pv (padd (.pointer (some ⟨b2, 0, none⟩)) 0) (z31 z9m ov (O6.atVar (j := 1) rfl)) (W.load1 (v := (.bool p0.neg)) (r := []) rfl rfl ag4 (z0z rfl (At.bool (At.proj (O6.atVar (j := 1) rfl) z70))) (W.pv (.bool (!p0.neg)) (zbq (a := p0.neg) ov) (W.pv (padd (.pointer (some ⟨b2, 0, none⟩)) 1) (z31 z72 ov (O6.atVar (j := 1) rfl)) ?_))))))
 obtain ⟨w29, p30, f31⟩ := At.sl (At.proj (O6.atVar (j := 1) rfl) z4a)
 refine W.load1 (v := w29) (r := []) rfl rfl ag94 (z0z rfl p30) (W.pv (padd (.pointer (some ⟨b2, 0, none⟩)) 2) (z31 zhf ov (O6.atVar (j := 1) rfl)) ?_)
 obtain ⟨w32, p33, f34⟩ := At.sl (At.proj (O6.atVar (j := 1) rfl) zeu)
 refine W.load1 (v := w32) (r := []) rfl rfl ag94 (z0z rfl p33) ?_
 obtain ⟨c35, e37, f36⟩ := z8m ((.bool (!p0.neg))) (w29) (w32) (rfl) ((z4c f31)) ((z4c f34))
 refine W.pv (.agg c35.toArray) (e37 (z5z rfl (qc' rfl (qc' rfl (qc' rfl qn'))))) (W.ln (Lo.storeVar (j := 0) (s := T_Q) (y0 := (Q.mk (!p0.neg) p0.num p0.den)) (v := (.agg c35.toArray)) (o := 0) rfl ((Put.at (Put.self _) _ _)) rfl sz96 rfl (by omega) rfl f36 O6) ?_)
 rintro v40 H41 ⟨O38, sm39⟩
 refine .nil (.ret ?_)
 obtain ⟨c42, p43, f44⟩ := (O38.atVar (j := 0) rfl)
 have O46 := (O38.drop 0).drop 0
 obtain rfl := zAa h28
 exact z1b kr (v1 := (.agg c42.toArray)) (by rfl) (z32 (p := (.pointer (some ⟨b7, 0, none⟩))) (by rfl) ag96 sz96 (by exact rfl) p43 (RT.len _ f44)) O46 (zAf _) ⟨c42, rfl, f44⟩
def z1r (K : Nat) (x7 : List Int) (x8 : List Int) : Nat -> List Int -> Int -> Int -> Option (List Int × Int)
  | 0, _, _, _ => none
  | k + 1, x29, x30, x31 => (if (decide (x31 < (x7.length : Int))) = true then ((idx x7 x31).bind fun x43 => (Option.bind ((if (decide (x31 < (x8.length : Int))) = true then ((idx x8 x31).bind fun x52 => some (z03 .u32 ((z03 .u32 (x43 + x30)) + x52))) else some (z03 .u32 (x43 + x30)))) (tu1 fun x57 => (if x29.length + List.length [Int.tmod x57 1000000000] <= 16777216 then z1r K x7 x8 k (x29 ++ [Int.tmod x57 1000000000]) (z03 .u32 (Int.tdiv x57 1000000000)) (z03 .i64 (x31 + 1)) else none)))) else some (x29, x30))
def z6b (K : Nat) (p0 : List Int) (p1 : List Int) : Option (List Int) := (Option.bind ((if (decide ((p0.length : Int) < (p1.length : Int))) = true then some (p1, p0) else some (p0, p1))) (tu2 fun x7 x8 => (if 0 <= (0 : Int) /\ (0 : Int) <= (z03 .i64 ((x7.length : Int) + 1)) /\ (z03 .i64 ((x7.length : Int) + 1)) <= 16777216 then (Option.bind (z1r K x7 x8 K (List.replicate (Int.toNat 0) 0) 0 0) (tu2 fun x82 x83 => (Option.bind ((if (decide (x83 > 0)) = true then (if x82.length + List.length [x83] <= 16777216 then some (x82 ++ [x83]) else none) else some x82)) (tu1 fun x113 => some x113)))) else none)))
theorem zby (v0 : Value) (p0 : List Int) (hp0 : (rSl (rI .u32)).rep G [v0] p0) (v1 : Value) (p1 : List Int) (hp1 : (rSl (rI .u32)).rep G [v1] p1) (O : Ow G H (L)) (r : List Int) (h : z6b K p0 p1 = some r) :
    CRF Tryz.prog 146 [v0, v1] G H (fun w0 => (eSl w0 181 (rI .u32) r :: L)) (fun w0 v G' => w0 = v) := by
 unfold z6b at h
 refine CRF.og (n := 55) (fn := Tryz.f146) (by kernel_rfl) rfl rfl fun R kr => (.seq (.region (W.p1 (.slice none 0 0) (.nil (.seq (.seq ?_))))))
 refine .region (W.p2 v0 (W.pv (.int .i64 (p0.length : Int)) (z0k ov (z0d hp0) (z04 el94)) (W.p2 v1 (W.pv (.int .i64 (p1.length : Int)) (z0k ov (z0d hp1) (z04 el94)) (W.p3 (.bool (decide ((p0.length : Int) < (p1.length : Int)))) (.nil ?_))))))
 obtain ⟨q1, h2, h3⟩ := z01 h
 refine AW.midT (fun σ' H' => ∃ (y1 : List Int) (y2 : List Int) (G' : GM), (y1, y2) = q1 /\ Ow G' H' (L) /\ GM.le G G' /\ (rSl (rI .u32)).rep G' [σ' 0] y1 /\ (rSl (rI .u32)).rep G' [σ' 1] y2) ?_ ?_
 .refine .cond (b := decide ((p0.length : Int) < (p1.length : Int))) rfl rfl (fun g4 => ?_) (fun g4 => ?_)
  rotate_left
  .have h6 := z0h g4 h2
   refine .skip ?_
   obtain rfl := zAa h6
   exact ⟨p0, p1, _, rfl, O, (zAf _), hp0, hp1⟩
  have h5 := z05 g4 h2
  refine .region (W.p2 v1 (W.p2 v0 (W.p1 v1 (W.p1 v0 (.nil ?_)))))
  obtain rfl := zAa h5
  exact ⟨p1, p0, _, rfl, O, (zAf _), hp1, hp0⟩
 rintro σ9 H10 fr11 ⟨x7, x8, G12, rfl, O13, s14, f16, f17⟩
 have h18 := z4s h3
 refine .seq (.region (W.p2 (σ9 0) (W.pv (.int .i64 (x7.length : Int)) (z0k ov (z0d f16) (z04 el94)) (W.p3 (.int .i64 (z03 .i64 ((x7.length : Int) + 1))) ?_))))
 obtain ⟨g20, h21⟩ := z2n h18
 refine W.ln (Lo.makeSlice (r := (rI .u32)) (x0 := 0) (a := 0) (c := (z03 .i64 ((x7.length : Int) + 1))) rfl el94 zb2 z3r (by kernel_rfl) rfl zhg (by decide) rfl rfl g20 (zI .u32) O13) ?_
 rintro v23 H24 ⟨O19, sm22⟩
 refine W.p1 v23 (.nil (.seq (.region (W.p1 (.int .u32 0) (.nil (.seq ?_))))))
 refine .seq (.region (W.p2 (σ9 0) (W.pv (.int .i64 (x7.length : Int)) (z0k ov (z0d f16) (z04 el94)) (W.p2 (.int .i64 0) (.nil ?_)))))
 obtain ⟨q25, h26, h27⟩ := z01 h21
 refine AW.midT (fun σ' H' => ∃ (y1 : List Int) (y2 : Int) (G' : GM), (y1, y2) = q25 /\ Ow G' H' (eSl (σ' 5) 181 (rI .u32) y1 :: L) /\ GM.le G12 G' /\ σ' 6 = .int .u32 y2) ?_ ?_
 rotate_left
 .rintro σ84 H85 fr86 ⟨x82, x83, G87, rfl, O88, s89, t91⟩
  have h92 := z4s h27
  refine .seq (.seq (.region (W.q2 _ t91 (W.p3 (.bool (decide (x83 > 0))) (.nil ?_)))))
  obtain ⟨q93, h94, h95⟩ := z01 h92
  refine AW.midT (fun σ' H' => ∃ (y1 : List Int) (G' : GM), y1 = q93 /\ Ow G' H' (eSl (σ' 5) 181 (rI .u32) y1 :: L) /\ GM.le G87 G') ?_ ?_
  rotate_left
  .rintro σ114 H115 fr116 ⟨x113, G117, rfl, O118, s119⟩
   have h121 := z09 h95
   refine .seq (.region (W.p2 (σ114 5) (W.p1 (σ114 5) (.nil (.ret ?_)))))
   obtain rfl := zAa h121
   exact zbu kr (σ114 5) (v1 := (σ114 5)) (by rfl) rt O118 (zAe s14 (zAe s89 s119)) rfl
  refine .cond (b := decide (x83 > 0)) rfl rfl (fun g96 => ?_) (fun g96 => ?_)
  rotate_left
  .have h112 := z0h g96 h94
   refine .skip ?_
   obtain rfl := zAa h112
   exact ⟨x82, _, rfl, O88, (zAf _)⟩
  have h97 := z05 g96 h94
  refine .region (W.p2 (σ84 5) (W.q2 _ t91 (W.ln (Lo.buildSlice (r := (rI .u32)) (vs := [(.int .u32 x83)]) (xs := [x83]) el94 zb2 z3r (by kernel_rfl) rfl (qc rfl qn) rfl (.cons rfl .nil) O88) ?_)))
  rintro v100 H101 ⟨O98, sm99⟩
  obtain ⟨es103, e104, e105⟩ := z68 (j := 0) rfl O98
  obtain ⟨g106, h107⟩ := z2n h97
  refine W.ln (Lo.append (j := 1) (v := (σ84 5)) rfl rfl el94 ni94 zb2 z3r zhg (by decide) (by decide) rfl e104 e105 g106 O98) ?_
  rintro v109 H110 ⟨O102, sm108⟩
  refine W.p1 v109 (.nil ?_)
  have O111 := O102.drop 0
  obtain rfl := zAa h107
  exact ⟨(x82 ++ [x83]), _, rfl, O111, (zAf _)⟩
 refine .block (AW.loop (α := Nat) (fun k' σ' H' => ∃ (y1 : List Int) (y2 : Int) (y3 : Int) (G' : GM), z1r K x7 x8 k' y1 y2 y3 = some q25 /\ Ow G' H' (eSl (σ' 5) 181 (rI .u32) y1 :: L) /\ GM.le G12 G' /\ σ' 6 = .int .u32 y2 /\ σ' 22 = .int .i64 y3) (fun k' => k') K ⟨(List.replicate (Int.toNat 0) 0), 0, 0, _, h26, O19, (zAf _), rfl, rfl⟩ ?_)
 rintro k28
 rintro σ32 H33 fr34 ⟨x29, x30, x31, G35, h38, O36, s37, t39, t40⟩
 rcases k28 with _ | k28
 .exact z07 h38
 rw [z1r] at h38
 refine .seq (.region (W.q3 (.bool (decide (x31 < (x7.length : Int)))) t40 ((fr34 21 rfl).trans rfl) (.nil (.seq (.cond (b := decide (x31 < (x7.length : Int))) rfl rfl (fun g41 => ?_) (fun g41 => ?_))))))
 rotate_left
 .have h81 := z0h g41 h38
  refine .exit ?_
  obtain rfl := zAa h81
  exact ⟨x29, x30, _, rfl, O36, s37, t39⟩
 have h42 := z05 g41 h38
 refine .skip (.seq (.block (.seq (.region (W.q2 _ t40 ?_)))))
 obtain ⟨x43, i44, h45⟩ := z01 h42
 have j46 := z0a i44
 refine W.pv (z1o (σ9 0) (x31.toNat * 1)) (z2f el94 z3r (ou ((fr34 20 rfl).trans rfl)) (ou t40) (z0d (RT.mono _ s37 f16)) j46.1 j46.2.1) (W.load1 (v := (.int .u32 x43)) (r := []) rfl rfl z96 (z0z rfl (At.int (At.le (At.le (z2g f16 j46.2.2) s37 s37) (zAf _) O36.fro))) (W.p1 (.int .i64 x31) (W.p1 (.int .u32 x43) (.nil (.seq (.region ?_))))))
 refine W.p2 (.int .u32 x43) (W.q2 _ t39 (W.p3 (.int .u32 (z03 .u32 (x43 + x30))) (W.p1 (.int .u32 (z03 .u32 (x43 + x30))) (.nil (.seq (.seq ?_))))))
 refine .region (W.p2 (.int .i64 x31) (W.q2 (σ9 1) ((fr34 1 rfl).trans rfl) (W.pv (.int .i64 (x8.length : Int)) (z0k ov (z0d (RT.mono _ s37 f17)) (z04 el94)) (W.p3 (.bool (decide (x31 < (x8.length : Int)))) (.nil ?_)))))
 obtain ⟨q47, h48, h49⟩ := z01 h45
 refine AW.midT (fun σ' H' => ∃ (y1 : Int) (G' : GM), y1 = q47 /\ Ow G' H' (eSl (σ32 5) 181 (rI .u32) x29 :: L) /\ GM.le G35 G' /\ σ' 8 = .int .u32 y1) ?_ ?_
 .refine .cond (b := decide (x31 < (x8.length : Int))) rfl rfl (fun g50 => ?_) (fun g50 => ?_)
  rotate_left
  .have h56 := z0h g50 h48
   refine .skip ?_
   obtain rfl := zAa h56
   exact ⟨z03 .u32 (x43 + x30), _, rfl, O36, (zAf _), rfl⟩
  have h51 := z05 g50 h48
  refine .region (W.p2 (.int .u32 (z03 .u32 (x43 + x30))) (W.q2 (σ9 1) ((fr34 1 rfl).trans rfl) (W.p2 (.int .i64 x31) ?_)))
  obtain ⟨x52, i53, h54⟩ := z01 h51
  have j55 := z0a i53
  refine W.pv (z1o (σ9 1) (x31.toNat * 1)) (z2f el94 z3r ov ov (z0d (RT.mono _ s37 f17)) j55.1 j55.2.1) (W.load1 (v := (.int .u32 x52)) (r := []) rfl rfl z96 (z0z rfl (At.int (At.le (At.le (z2g f17 j55.2.2) s37 s37) (zAf _) O36.fro))) (W.p3 (.int .u32 (z03 .u32 ((z03 .u32 (x43 + x30)) + x52))) (W.p1 (.int .u32 (z03 .u32 ((z03 .u32 (x43 + x30)) + x52))) (.nil ?_))))
  obtain rfl := zAa h54
  exact ⟨z03 .u32 ((z03 .u32 (x43 + x30)) + x52), _, rfl, O36, (zAf _), rfl⟩
 rintro σ58 H59 fr60 ⟨x57, G61, rfl, O62, s63, t65⟩
 have h66 := z09 h49
 refine .seq (.region (W.q2 _ t65 (W.pv (.int .u32 (z03 .u32 (Int.tdiv x57 1000000000))) (zh4 (by decide) ov ov) (W.p1 (.int .u32 (z03 .u32 (Int.tdiv x57 1000000000))) (.nil (.region ?_))))))
 refine W.q2 (σ32 5) ((fr60 5 rfl).trans rfl) (W.q2 _ t65 (W.pv (.int .u32 (Int.tmod x57 1000000000)) (zh5 (by decide) ov ov) (W.ln (Lo.buildSlice (r := (rI .u32)) (vs := [(.int .u32 (Int.tmod x57 1000000000))]) (xs := [Int.tmod x57 1000000000]) el94 zb2 z3r (by kernel_rfl) rfl (qc rfl qn) rfl (.cons rfl .nil) O62) ?_)))
 rintro v69 H70 ⟨O67, sm68⟩
 obtain ⟨es72, e73, e74⟩ := z68 (j := 0) rfl O67
 obtain ⟨g75, h76⟩ := z2n h66
 refine W.ln (Lo.append (j := 1) (v := (σ32 5)) rfl rfl el94 ni94 zb2 z3r zhg (by decide) (by decide) rfl e73 e74 g75 O67) ?_
 rintro v78 H79 ⟨O71, sm77⟩
 refine W.p1 v78 (.nil (.region (W.q3 (.int .i64 (z03 .i64 (x31 + 1))) ((fr60 22 rfl).trans t40) rfl (W.p2 (.int .i64 (z03 .i64 (x31 + 1))) (.nil ?_)))))
 have O80 := O71.drop 0
 exact ⟨k28, zAg _, ⟨(x29 ++ [Int.tmod x57 1000000000]), z03 .u32 (Int.tdiv x57 1000000000), z03 .i64 (x31 + 1), _, h76, O80, (zAe s37 s63), rfl, rfl⟩⟩
def z1s (K : Nat) (p0 : List Int) (p1 : List Int) : Nat -> List Int -> Int -> Int -> Option (List Int)
  | 0, _, _, _ => none
  | k + 1, x11, x12, x13 => (if (decide (x13 < (p0.length : Int))) = true then ((idx p0 x13).bind fun x25 => (Option.bind ((if (decide (x13 < (p1.length : Int))) = true then ((idx p1 x13).bind fun x34 => (lt (z03 .i64 ((z03 .i64 ((IntKind.wrap .i64 x25) - x12)) - (IntKind.wrap .i64 x34))) fun x38 => some x38)) else some (z03 .i64 ((IntKind.wrap .i64 x25) - x12)))) (tu1 fun x42 => (Option.bind ((if (decide (x42 < 0)) = true then some (1, z03 .i64 (x42 + 1000000000)) else some (0, x42))) (tu2 fun x58 x59 => ((idx x11 x13).bind fun x70 => z1s K p0 p1 k (List.set x11 (x13.toNat) (IntKind.wrap .u32 x59)) x58 (z03 .i64 (x13 + 1)))))))) else some x11)
def z5d (K : Nat) (p0 : List Int) (p1 : List Int) : Option (List Int) := (if 0 <= (p0.length : Int) /\ (p0.length : Int) <= (p0.length : Int) /\ (p0.length : Int) <= 16777216 then (Option.bind (z1s K p0 p1 K (List.replicate (Int.toNat (p0.length : Int)) 0) 0 0) (tu1 fun x79 => ((z1j K x79).bind fun x88 => some x88))) else none)
theorem z8p (v0 : Value) (p0 : List Int) (hp0 : (rSl (rI .u32)).rep G [v0] p0) (v1 : Value) (p1 : List Int) (hp1 : (rSl (rI .u32)).rep G [v1] p1) (O : Ow G H (L)) (r : List Int) (h : z5d K p0 p1 = some r) :
    CRF Tryz.prog 147 [v0, v1] G H (fun w0 => (eSl w0 181 (rI .u32) r :: L)) (fun w0 v G' => w0 = v) := by
 unfold z5d at h
 refine CRF.og (n := 47) (fn := Tryz.f147) (by kernel_rfl) rfl rfl fun R kr => (.seq (.region (W.p1 (.slice none 0 0) (.nil (.seq (.region ?_))))))
 refine W.p2 v0 (W.pv (.int .i64 (p0.length : Int)) (z0k ov (z0d hp0) (z04 el94)) ?_)
 obtain ⟨g2, h3⟩ := z2n h
 refine W.ln (Lo.makeSlice (r := (rI .u32)) (x0 := 0) (a := (p0.length : Int)) (c := (p0.length : Int)) rfl el94 zb2 z3r (by kernel_rfl) rfl zhg (by decide) rfl rfl g2 (zI .u32) O) ?_
 rintro v5 H6 ⟨O1, sm4⟩
 refine W.p1 v5 (.nil (.seq (.region (W.p1 (.int .i64 0) (.nil (.seq ?_))))))
 refine .seq (.region (W.p2 v0 (W.pv (.int .i64 (p0.length : Int)) (z0k ov (z0d hp0) (z04 el94)) (W.p2 (.int .i64 0) (.nil ?_)))))
 obtain ⟨q7, h8, h9⟩ := z01 h3
 refine AW.midT (fun σ' H' => ∃ (y1 : List Int) (G' : GM), y1 = q7 /\ Ow G' H' (eSl v5 181 (rI .u32) y1 :: L) /\ GM.le G G') ?_ ?_
 rotate_left
 .rintro σ80 H81 fr82 ⟨x79, G83, rfl, O84, s85⟩
  have h87 := z09 h9
  refine .seq (.region (W.q2 v5 ((fr82 5 rfl).trans rfl) ?_))
  obtain ⟨x88, i89, h90⟩ := z01 h87
  refine W.ln (Lo.callPF (ps := [eSl v5 181 (rI .u32) x79]) (pw := fun w => [eSl w 181 (rI .u32) x88]) rfl (fn := Tryz.f165) (by kernel_rfl) rfl (mc rfl mn) O84 (fun L' O' => z29 K v5 x79 O' _ i89)) ?_
  rintro v99 H100 ⟨w96, G91, O92, s93, sm98, rfl⟩
  refine W.p1 w96 (.nil (.ret ?_))
  obtain rfl := zAa h90
  exact zbu kr w96 (v1 := w96) (by rfl) rt O92 (zAe s85 s93) rfl
 refine .block (AW.loop (α := Nat) (fun k' σ' H' => ∃ (y1 : List Int) (y2 : Int) (y3 : Int) (G' : GM), z1s K p0 p1 k' y1 y2 y3 = some q7 /\ Ow G' H' (eSl v5 181 (rI .u32) y1 :: L) /\ GM.le G G' /\ σ' 6 = .int .i64 y2 /\ σ' 14 = .int .i64 y3) (fun k' => k') K ⟨(List.replicate (Int.toNat (p0.length : Int)) 0), 0, 0, _, h8, O1, (zAf _), rfl, rfl⟩ ?_)
 rintro k10
 rintro σ14 H15 fr16 ⟨x11, x12, x13, G17, h20, O18, s19, t21, t22⟩
 rcases k10 with _ | k10
 .exact z07 h20
 rw [z1s] at h20
 refine .seq (.region (W.q3 (.bool (decide (x13 < (p0.length : Int)))) t22 ((fr16 13 rfl).trans rfl) (.nil (.seq (.cond (b := decide (x13 < (p0.length : Int))) rfl rfl (fun g23 => ?_) (fun g23 => ?_))))))
 rotate_left
 .have h78 := z0h g23 h20
  refine .exit ?_
  obtain rfl := zAa h78
  exact ⟨x11, _, rfl, O18, s19⟩
 have h24 := z05 g23 h20
 refine .skip (.seq (.block (.seq (.region (W.q2 _ t22 (W.p1 (.int .i64 x13) ?_))))))
 refine .nil (.seq (.region (W.q2 v0 ((fr16 0 rfl).trans rfl) (W.p2 (.int .i64 x13) ?_))))
 obtain ⟨x25, i26, h27⟩ := z01 h24
 have j28 := z0a i26
 refine W.pv (z1o v0 (x13.toNat * 1)) (z2f el94 z3r ov ov (z0d (RT.mono _ s19 hp0)) j28.1 j28.2.1) (W.load1 (v := (.int .u32 x25)) (r := []) rfl rfl z96 (z0z rfl (At.int (At.le (At.le (z2g hp0 j28.2.2) s19 s19) (zAf _) O18.fro))) (W.pv (.int .i64 (IntKind.wrap .i64 x25)) (z3f z8i in2 ov) (W.q2 _ t21 (W.p3 (.int .i64 (z03 .i64 ((IntKind.wrap .i64 x25) - x12))) (W.p1 (.int .i64 (z03 .i64 ((IntKind.wrap .i64 x25) - x12))) (.nil ?_))))))
 refine .seq (.seq (.region (W.p2 (.int .i64 x13) (W.q2 v1 ((fr16 1 rfl).trans rfl) (W.pv (.int .i64 (p1.length : Int)) (z0k ov (z0d (RT.mono _ s19 hp1)) (z04 el94)) (W.p3 (.bool (decide (x13 < (p1.length : Int)))) ?_))))))
 refine .nil ?_
 obtain ⟨q29, h30, h31⟩ := z01 h27
 refine AW.midT (fun σ' H' => ∃ (y1 : Int) (G' : GM), y1 = q29 /\ Ow G' H' (eSl v5 181 (rI .u32) x11 :: L) /\ GM.le G17 G' /\ σ' 8 = .int .i64 y1) ?_ ?_
 .refine .cond (b := decide (x13 < (p1.length : Int))) rfl rfl (fun g32 => ?_) (fun g32 => ?_)
  rotate_left
  .have h41 := z0h g32 h30
   refine .skip ?_
   obtain rfl := zAa h41
   exact ⟨z03 .i64 ((IntKind.wrap .i64 x25) - x12), _, rfl, O18, (zAf _), rfl⟩
  have h33 := z05 g32 h30
  refine .region (W.p2 (.int .i64 (z03 .i64 ((IntKind.wrap .i64 x25) - x12))) (W.q2 v1 ((fr16 1 rfl).trans rfl) (W.p2 (.int .i64 x13) ?_)))
  obtain ⟨x34, i35, h36⟩ := z01 h33
  have j37 := z0a i35
  refine W.pv (z1o v1 (x13.toNat * 1)) (z2f el94 z3r ov ov (z0d (RT.mono _ s19 hp1)) j37.1 j37.2.1) (W.load1 (v := (.int .u32 x34)) (r := []) rfl rfl z96 (z0z rfl (At.int (At.le (At.le (z2g hp1 j37.2.2) s19 s19) (zAf _) O18.fro))) (W.pv (.int .i64 (IntKind.wrap .i64 x34)) (z3f z8i in2 ov) (W.p3 (.int .i64 (z03 .i64 ((z03 .i64 ((IntKind.wrap .i64 x25) - x12)) - (IntKind.wrap .i64 x34)))) ?_)))
  obtain ⟨x38, e39, h40⟩ := z60 h36
  refine W.q1 _ (congrArg (Value.int .i64) e39) (.nil ?_)
  obtain rfl := zAa h40
  exact ⟨x38, _, rfl, O18, (zAf _), rfl⟩
 rintro σ43 H44 fr45 ⟨x42, G46, rfl, O47, s48, t50⟩
 have h51 := z09 h31
 refine .seq (.region (W.p1 (.int .i64 0) (.nil (.seq (.seq (.region ?_))))))
 refine W.q2 _ t50 (W.p3 (.bool (decide (x42 < 0))) (.nil ?_))
 obtain ⟨q52, h53, h54⟩ := z01 h51
 refine AW.midT (fun σ' H' => ∃ (y1 : Int) (y2 : Int) (G' : GM), (y1, y2) = q52 /\ Ow G' H' (eSl v5 181 (rI .u32) x11 :: L) /\ GM.le G46 G' /\ σ' 6 = .int .i64 y1 /\ σ' 8 = .int .i64 y2) ?_ ?_
 .refine .cond (b := decide (x42 < 0)) rfl rfl (fun g55 => ?_) (fun g55 => ?_)
  rotate_left
  .have h57 := z0h g55 h53
   refine .skip ?_
   obtain rfl := zAa h57
   exact ⟨0, x42, _, rfl, O47, (zAf _), rfl, t50⟩
  have h56 := z05 g55 h53
  refine .seq (.region (W.q2 _ t50 (W.p3 (.int .i64 (z03 .i64 (x42 + 1000000000))) (W.p1 (.int .i64 (z03 .i64 (x42 + 1000000000))) (.nil (.region ?_))))))
  refine W.p1 (.int .i64 1) (.nil ?_)
  obtain rfl := zAa h56
  exact ⟨1, z03 .i64 (x42 + 1000000000), _, rfl, O47, (zAf _), rfl, rfl⟩
 rintro σ60 H61 fr62 ⟨x58, x59, G63, rfl, O64, s65, t67, t68⟩
 have h69 := z4s h54
 refine .region (W.q2 v5 ((fr62 5 rfl).trans ((fr45 5 rfl).trans ((fr16 5 rfl).trans rfl))) (W.q2 (.int .i64 x13) ((fr62 7 rfl).trans ((fr45 7 rfl).trans rfl)) (W.q2 _ t68 (W.pv (.int .u32 (IntKind.wrap .u32 x59)) (z3f in2 z8i ov) ?_))))
 obtain ⟨x70, i71, h72⟩ := z01 h69
 have j73 := z0a i71
 refine W.pv (z1o v5 (x13.toNat * 1)) (z2f el94 z3r ov ov (O64.slLen (j := 0) rfl) j73.1 j73.2.1) (W.ln (Lo.storeSl0 (j := 0) (y0 := IntKind.wrap .u32 x59) (v := (.int .u32 (IntKind.wrap .u32 x59))) rfl j73.2.2  rfl z3r rfl rfl rfl O64) ?_)
 rintro v76 H77 ⟨O74, sm75⟩
 refine .nil (.region (W.q3 (.int .i64 (z03 .i64 (x13 + 1))) ((fr62 14 rfl).trans ((fr45 14 rfl).trans t22)) rfl (W.p2 (.int .i64 (z03 .i64 (x13 + 1))) (.nil ?_))))
 exact ⟨k10, zAg _, ⟨(List.set x11 (x13.toNat) (IntKind.wrap .u32 x59)), x58, z03 .i64 (x13 + 1), _, h72, O74, (zAe s19 (zAe s48 s65)), t67, rfl⟩⟩
def z6c (K : Nat) (p0 : Q) (p1 : Q) : Option Q := (if ((List.length p0.num : Int) == 0) = true then some p1 else (if ((List.length p1.num : Int) == 0) = true then some p0 else ((z0y K p1).bind fun x65 => ((z20 K p0.num x65).bind fun x78 => ((z0y K p0).bind fun x97 => ((z20 K p1.num x97).bind fun x110 => ((z0y K p0).bind fun x131 => ((z0y K p1).bind fun x147 => ((z20 K x131 x147).bind fun x160 => (if (p0.neg == p1.neg) = true then ((z6b K x78 x110).bind fun x188 => ((z56 K p0.neg x188 x160).bind fun x209 => some x209)) else ((z3s K x78 x110).bind fun x241 => (if (decide (x241 >= 0)) = true then ((z5d K x78 x110).bind fun x259 => ((z56 K p0.neg x259 x160).bind fun x280 => some x280)) else ((z5d K x110 x78).bind fun x309 => ((z56 K p1.neg x309 x160).bind fun x330 => some x330))))))))))))))
theorem zbz (v0 : List Value) (p0 : Q) (hp0 : T_Q.rep G v0 p0) (v1 : List Value) (p1 : Q) (hp1 : T_Q.rep G v1 p1) (O : Ow G H (L)) (r : Q) (h : z6c K p0 p1 = some r) :
    CR Tryz.prog 91 [.agg v0.toArray, .agg v1.toArray] G H (L) (fun v G' _ => ∃ (w0 : List Value), v = .agg w0.toArray /\ T_Q.rep G' w0 r) := by
 unfold z6c at h
 refine CR.og (n := 65) (fn := Tryz.f91) (by kernel_rfl) rfl rfl fun R kr => (.seq (.region (W.ln (Lo.box (r := T_Q) (x0 := p0) (v := (.agg v0.toArray)) rfl rfl hp0 O) ?_)))
 rintro v4 H5 ⟨b2, rfl, O1, sm3⟩
 refine W.ln (Lo.box (r := T_Q) (x0 := p1) (v := (.agg v1.toArray)) rfl rfl hp1 O1) ?_
 rintro v9 H10 ⟨b7, rfl, O6, sm8⟩
 refine W.ln (Lo.alloc (r := T_Q) (x0 := (Q.mk false [] [])) ze96 (by kernel_rfl) z_Q O6) ?_
 rintro v14 H15 ⟨b12, rfl, O11, sm13⟩
 refine .nil (.seq (.block (.seq (.region (W.pv (padd (.pointer (some ⟨b2, 0, none⟩)) 1) (z31 z72 ov (O11.atVar (j := 2) rfl)) ?_)))))
 obtain ⟨w16, p17, f18⟩ := At.sl (At.proj (O11.atVar (j := 2) rfl) z4a)
 refine W.load1 (v := w16) (r := []) rfl rfl ag94 (z0z rfl p17) (W.pv (.int .i64 (List.length p0.num : Int)) (z0k ov (z0d f18) (z04 el94)) (W.p3 (.bool ((List.length p0.num : Int) == 0)) (W.p1 (.bool ((List.length p0.num : Int) == 0)) (.nil (.cond (b := ((List.length p0.num : Int) == 0)) rfl rfl (fun g19 => ?_) (fun g19 => ?_))))))
 .have h20 := z05 g19 h
  refine .seq (.region ?_)
  obtain ⟨c21, p22, f23⟩ := (O11.atVar (j := 1) rfl)
  refine W.loadA (cs := c21) rfl rfl ag96 sz96 (z0z rfl p22) (RT.len _ f23) (W.ln (Lo.storeVar (j := 0) (s := T_Q) (y0 := p1) (v := (.agg c21.toArray)) (o := 0) rfl ((Put.at (Put.self _) _ _)) rfl sz96 rfl (by omega) rfl f23 O11) ?_)
  rintro v26 H27 ⟨O24, sm25⟩
  refine .nil (.ret ?_)
  obtain ⟨c28, p29, f30⟩ := (O24.atVar (j := 0) rfl)
  have O33 := ((O24.drop 0).drop 0).drop 0
  obtain rfl := zAa h20
  exact z1b kr (v1 := (.agg c28.toArray)) (by rfl) (z32 (p := (.pointer (some ⟨b12, 0, none⟩))) (by rfl) ag96 sz96 (by exact rfl) p29 (RT.len _ f30)) O33 (zAf _) ⟨c28, rfl, f30⟩
 have h34 := z0h g19 h
 refine .seq (.region (W.pv (padd (.pointer (some ⟨b7, 0, none⟩)) 1) (z31 z72 ov (O11.atVar (j := 1) rfl)) ?_))
 obtain ⟨w35, p36, f37⟩ := At.sl (At.proj (O11.atVar (j := 1) rfl) z4a)
 refine W.load1 (v := w35) (r := []) rfl rfl ag94 (z0z rfl p36) (W.pv (.int .i64 (List.length p1.num : Int)) (z0k ov (z0d f37) (z04 el94)) (W.p3 (.bool ((List.length p1.num : Int) == 0)) (W.p1 (.bool ((List.length p1.num : Int) == 0)) (.nil (.cond (b := ((List.length p1.num : Int) == 0)) rfl rfl (fun g38 => ?_) (fun g38 => ?_))))))
 .have h39 := z05 g38 h34
  refine .seq (.region ?_)
  obtain ⟨c40, p41, f42⟩ := (O11.atVar (j := 2) rfl)
  refine W.loadA (cs := c40) rfl rfl ag96 sz96 (z0z rfl p41) (RT.len _ f42) (W.ln (Lo.storeVar (j := 0) (s := T_Q) (y0 := p0) (v := (.agg c40.toArray)) (o := 0) rfl ((Put.at (Put.self _) _ _)) rfl sz96 rfl (by omega) rfl f42 O11) ?_)
  rintro v45 H46 ⟨O43, sm44⟩
  refine .nil (.ret ?_)
  obtain ⟨c47, p48, f49⟩ := (O43.atVar (j := 0) rfl)
  have O52 := ((O43.drop 0).drop 0).drop 0
  obtain rfl := zAa h39
  exact z1b kr (v1 := (.agg c47.toArray)) (by rfl) (z32 (p := (.pointer (some ⟨b12, 0, none⟩))) (by rfl) ag96 sz96 (by exact rfl) p48 (RT.len _ f49)) O52 (zAf _) ⟨c47, rfl, f49⟩
 have h53 := z0h g38 h34
 refine .skip (.seq (.draw2 (M := [0, 1, 0, 4, 15, 0, 32, 0, 159, 511, 1023, 2047]) mixed (by kernel_rfl) (by kernel_rfl) fun H54 N58 x55 F57 => ?_))
 have O56 := O11.ext x55
 refine D2.pv (padd (.pointer (some ⟨b2, 0, none⟩)) 1) (z31 z72 ov (O56.atVar (j := 2) rfl)) ?_
 obtain ⟨w59, p60, f61⟩ := At.sl (At.proj (O56.atVar (j := 2) rfl) z4a)
 refine D2.load1' (v := w59) (r := []) rfl rfl ag94 (z0z rfl p60) z06 ?_
 obtain ⟨c62, p63, f64⟩ := (O56.atVar (j := 1) rfl)
 refine D2.loadA' (cs := c62) rfl rfl ag96 sz96 (z0z rfl p63) (RT.len _ f64) z06 ?_
 obtain ⟨x65, i66, h67⟩ := z01 h53
 refine D2.lo rfl rfl (Lo.cP rfl (fn := Tryz.f140) (by kernel_rfl) rfl (mc rfl mn) O56 (fun L' O' => z15 K c62 p1 f64 O' _ i66)) ?_ z06 ?_ ?_
 .rintro v76 H77 ⟨G68, O69, s70, sm75, ⟨w72, rfl, f73⟩⟩; exact (faR1 (.inl (by decide)) (faR1 (.inr (sm75 _ (Or.inr ⟨2, _, rfl, List.mem_singleton.2 rfl⟩))) z06))
 .rintro v76 H77 ⟨G68, O69, s70, sm75, ⟨w72, rfl, f73⟩⟩; exact z06
 rintro v76 H77 ⟨G68, O69, s70, sm75, ⟨w72, rfl, f73⟩⟩
 obtain ⟨x78, i79, h80⟩ := z01 h67
 refine D2.lo rfl rfl (Lo.callPF (ps := []) (pw := fun w => [eSl w 181 (rI .u32) x78]) rfl (fn := Tryz.f139) (by kernel_rfl) rfl (mc rfl (mc rfl mn)) O69 (fun L' O' => z1p K w59 p0.num (RT.mono _ s70 f61) w72 x65 f73 O' _ i79)) ?_ (z0j (by decide) z06) ?_ ?_
 .rintro v89 H90 ⟨w86, G81, O82, s83, sm88, rfl⟩; exact (faR1 (.inl (by decide)) (faR1 (.inl (by decide)) z06))
 .rintro v89 H90 ⟨w86, G81, O82, s83, sm88, rfl⟩; exact z06
 rintro v89 H90 ⟨w86, G81, O82, s83, sm88, rfl⟩
 refine D2.pv (padd (.pointer (some ⟨b7, 0, none⟩)) 1) (z31 z72 ov (O82.atVar (j := 2) rfl)) ?_
 obtain ⟨w91, p92, f93⟩ := At.sl (At.proj (O82.atVar (j := 2) rfl) z4a)
 refine D2.load1' (v := w91) (r := []) rfl rfl ag94 (z0z rfl p92) (z93 (sm88 _ (Or.inr ⟨1, _, rfl, List.mem_singleton.2 rfl⟩)) (z93 (sm75 _ (Or.inr ⟨1, _, rfl, List.mem_singleton.2 rfl⟩)) z06)) ?_
 obtain ⟨c94, p95, f96⟩ := (O82.atVar (j := 3) rfl)
 refine D2.loadA' (cs := c94) rfl rfl ag96 sz96 (z0z rfl p95) (RT.len _ f96) (z93 (sm88 _ (Or.inr ⟨2, _, rfl, List.mem_singleton.2 rfl⟩)) (z93 (sm75 _ (Or.inr ⟨2, _, rfl, List.mem_singleton.2 rfl⟩)) z06)) ?_
 obtain ⟨x97, i98, h99⟩ := z01 h80
 refine D2.lo rfl rfl (Lo.cP rfl (fn := Tryz.f140) (by kernel_rfl) rfl (mc rfl mn) O82 (fun L' O' => z15 K c94 p0 f96 O' _ i98)) ?_ (z0j (by decide) (z0j (by decide) z06)) ?_ ?_
 .rintro v108 H109 ⟨G100, O101, s102, sm107, ⟨w104, rfl, f105⟩⟩; exact (faR1 (.inl (by decide)) (faR1 (.inr (sm107 _ (Or.inr ⟨2, _, rfl, List.mem_singleton.2 rfl⟩))) (faR1 (.inl (by decide)) (faR1 (.inl (by decide)) z06))))
 .rintro v108 H109 ⟨G100, O101, s102, sm107, ⟨w104, rfl, f105⟩⟩; exact z06
 rintro v108 H109 ⟨G100, O101, s102, sm107, ⟨w104, rfl, f105⟩⟩
 obtain ⟨x110, i111, h112⟩ := z01 h99
 refine D2.lo rfl rfl (Lo.callPF (ps := []) (pw := fun w => [eSl w 181 (rI .u32) x110]) rfl (fn := Tryz.f139) (by kernel_rfl) rfl (mc rfl (mc rfl mn)) O101 (fun L' O' => z1p K w91 p1.num (RT.mono _ s102 f93) w104 x97 f105 O' _ i111)) ?_ (z0j (by decide) (z0j (by decide) (z0j (by decide) z06))) ?_ ?_
 .rintro v121 H122 ⟨w118, G113, O114, s115, sm120, rfl⟩; exact (faR1 (.inl (by decide)) (faR1 (.inl (by decide)) (faR1 (.inl (by decide)) (faR1 (.inl (by decide)) z06))))
 .rintro v121 H122 ⟨w118, G113, O114, s115, sm120, rfl⟩; exact z06
 rintro v121 H122 ⟨w118, G113, O114, s115, sm120, rfl⟩
 refine D2.p1 w86 (D2.p1 w118 (.nil (.seq (.draw2 (M := [0, 1, 0, 7, 15, 31]) mixed (by kernel_rfl) (by kernel_rfl) fun H123 N127 x124 F126 => ?_))))
 have O125 := O114.ext x124
 obtain ⟨c128, p129, f130⟩ := (O125.atVar (j := 4) rfl)
 refine D2.loadA' (cs := c128) rfl rfl ag96 sz96 (z0z rfl p129) (RT.len _ f130) z06 ?_
 obtain ⟨x131, i132, h133⟩ := z01 h112
 refine D2.lo rfl rfl (Lo.cP rfl (fn := Tryz.f140) (by kernel_rfl) rfl (mc rfl mn) O125 (fun L' O' => z15 K c128 p0 f130 O' _ i132)) ?_ z06 ?_ ?_
 .rintro v142 H143 ⟨G134, O135, s136, sm141, ⟨w138, rfl, f139⟩⟩; exact (faR1 (.inl (by decide)) z06)
 .rintro v142 H143 ⟨G134, O135, s136, sm141, ⟨w138, rfl, f139⟩⟩; exact z06
 rintro v142 H143 ⟨G134, O135, s136, sm141, ⟨w138, rfl, f139⟩⟩
 obtain ⟨c144, p145, f146⟩ := (O135.atVar (j := 3) rfl)
 refine D2.loadA' (cs := c144) rfl rfl ag96 sz96 (z0z rfl p145) (RT.len _ f146) (z93 (sm141 _ (Or.inr ⟨3, _, rfl, List.mem_singleton.2 rfl⟩)) z06) ?_
 obtain ⟨x147, i148, h149⟩ := z01 h133
 refine D2.lo rfl rfl (Lo.cP rfl (fn := Tryz.f140) (by kernel_rfl) rfl (mc rfl mn) O135 (fun L' O' => z15 K c144 p1 f146 O' _ i148)) ?_ (z0j (by decide) z06) ?_ ?_
 .rintro v158 H159 ⟨G150, O151, s152, sm157, ⟨w154, rfl, f155⟩⟩; exact (faR1 (.inl (by decide)) (faR1 (.inl (by decide)) z06))
 .rintro v158 H159 ⟨G150, O151, s152, sm157, ⟨w154, rfl, f155⟩⟩; exact z06
 rintro v158 H159 ⟨G150, O151, s152, sm157, ⟨w154, rfl, f155⟩⟩
 obtain ⟨x160, i161, h162⟩ := z01 h149
 refine D2.lo rfl rfl (Lo.callPF (ps := []) (pw := fun w => [eSl w 181 (rI .u32) x160]) rfl (fn := Tryz.f139) (by kernel_rfl) rfl (mc rfl (mc rfl mn)) O151 (fun L' O' => z1p K w138 x131 (RT.mono _ s152 f139) w154 x147 f155 O' _ i161)) ?_ (z0j (by decide) (z0j (by decide) z06)) ?_ ?_
 .rintro v171 H172 ⟨w168, G163, O164, s165, sm170, rfl⟩; exact (faR1 (.inl (by decide)) (faR1 (.inl (by decide)) z06))
 .rintro v171 H172 ⟨w168, G163, O164, s165, sm170, rfl⟩; exact z06
 rintro v171 H172 ⟨w168, G163, O164, s165, sm170, rfl⟩
 refine D2.p1 w168 (.nil (.seq (.seq (.region (W.pv (padd (.pointer (some ⟨b2, 0, none⟩)) 0) (z31 z9m ov (O164.atVar (j := 5) rfl)) (W.load1 (v := (.bool p0.neg)) (r := []) rfl rfl ag4 (z0z rfl (At.bool (At.proj (O164.atVar (j := 5) rfl) z70))) ?_))))))
 refine W.pv (padd (.pointer (some ⟨b7, 0, none⟩)) 0) (z31 z9m ov (O164.atVar (j := 4) rfl)) (W.load1 (v := (.bool p1.neg)) (r := []) rfl rfl ag4 (z0z rfl (At.bool (At.proj (O164.atVar (j := 4) rfl) z70))) (W.pv (.bool (p0.neg == p1.neg)) (zgw ov ov un4) (.nil (.cond (b := (p0.neg == p1.neg)) rfl rfl (fun g173 => ?_) (fun g173 => ?_)))))
 .have h174 := z05 g173 h162
  refine .seq (.draw2 (M := [0, 1, 0, 0, 12, 0, 63, 127]) mixed (by kernel_rfl) (by kernel_rfl) fun H175 N179 x176 F178 => ?_)
  have O177 := O164.ext x176
  refine D2.pv (padd (.pointer (some ⟨b2, 0, none⟩)) 0) (z31 z9m ov (O177.atVar (j := 5) rfl)) (D2.load1' (v := (.bool p0.neg)) (r := []) rfl rfl ag4 (z0z rfl (At.bool (At.proj (O177.atVar (j := 5) rfl) z70))) z06 (D2.p2 w86 (D2.p2 w118 ?_)))
  obtain ⟨G180, O181, s182, f183⟩ := O177.frzSl (j := 2) rfl
  obtain ⟨G184, O185, s186, f187⟩ := O181.frzSl (j := 1) rfl
  obtain ⟨x188, i189, h190⟩ := z01 h174
  refine D2.lo rfl rfl (Lo.callPF (ps := []) (pw := fun w => [eSl w 181 (rI .u32) x188]) rfl (fn := Tryz.f146) (by kernel_rfl) rfl (mc rfl (mc rfl mn)) O185 (fun L' O' => zby K w86 x78 (RT.mono _ s186 f183) w118 x110 f187 O' _ i189)) ?_ z06 ?_ ?_
  .rintro v199 H200 ⟨w196, G191, O192, s193, sm198, rfl⟩; exact (faR1 (.inr (sm198 _ (Or.inr ⟨3, _, rfl, List.mem_singleton.2 rfl⟩))) z06)
  .rintro v199 H200 ⟨w196, G191, O192, s193, sm198, rfl⟩; exact z06
  rintro v199 H200 ⟨w196, G191, O192, s193, sm198, rfl⟩
  refine D2.p2 w168 ?_
  obtain ⟨G201, O202, s203, f204⟩ := O192.frzSl (j := 0) rfl
  obtain ⟨G205, O206, s207, f208⟩ := O202.frzSl (j := 0) rfl
  obtain ⟨x209, i210, h211⟩ := z01 h190
  refine D2.lo rfl rfl (Lo.cP rfl (fn := Tryz.f138) (by kernel_rfl) rfl (mc rfl (mc rfl (mc rfl mn))) O206 (fun L' O' => z5i K p0.neg w196 x188 (RT.mono _ s207 f204) w168 x160 f208 O' _ i210)) ?_ (z0j (by decide) z06) ?_ ?_
  .rintro v220 H221 ⟨G212, O213, s214, sm219, ⟨c216, rfl, f217⟩⟩; exact (faR1 (.inl (by decide)) z06)
  .rintro v220 H221 ⟨G212, O213, s214, sm219, ⟨c216, rfl, f217⟩⟩; exact z06
  rintro v220 H221 ⟨G212, O213, s214, sm219, ⟨c216, rfl, f217⟩⟩
  refine D2.lo rfl rfl (Lo.storeVar (j := 0) (s := T_Q) (y0 := x209) (v := (.agg c216.toArray)) (o := 0) rfl ((Put.at (Put.self _) _ _)) rfl sz96 rfl (by omega) rfl f217 O213) ?_ (z0j (by decide) (z0j (by decide) z06)) ?_ ?_
  .rintro v224 H225 ⟨O222, sm223⟩; exact (faR1 (.inl (by decide)) z06)
  .rintro v224 H225 ⟨O222, sm223⟩; exact z06
  rintro v224 H225 ⟨O222, sm223⟩
  refine .nil (.ret ?_)
  obtain ⟨c226, p227, f228⟩ := (O222.atVar (j := 0) rfl)
  have O231 := ((O222.drop 0).drop 0).drop 0
  obtain rfl := zAa h211
  exact z1b kr (v1 := (.agg c226.toArray)) (by rfl) (z32 (p := (.pointer (some ⟨b12, 0, none⟩))) (by rfl) ag96 sz96 (by exact rfl) p227 (RT.len _ f228)) O231 (zAe s70 (zAe s83 (zAe s102 (zAe s115 (zAe s136 (zAe s152 (zAe s165 (zAe s182 (zAe s186 (zAe s193 (zAe s203 (zAe s207 s214)))))))))))) ⟨c226, rfl, f228⟩
 have h232 := z0h g173 h162
 refine .skip (.seq (.seq (.region (W.p2 w86 (W.p2 w118 ?_)))))
 obtain ⟨G233, O234, s235, f236⟩ := O164.frzSl (j := 2) rfl
 obtain ⟨G237, O238, s239, f240⟩ := O234.frzSl (j := 1) rfl
 obtain ⟨x241, i242, h243⟩ := z01 h232
 refine W.ln (Lo.cP rfl (fn := Tryz.f135) (by kernel_rfl) rfl (mc rfl (mc rfl mn)) O238 (fun L' O' => z55 K w86 x78 (RT.mono _ s239 f236) w118 x110 f240 O' _ i242)) ?_
 rintro v250 H251 ⟨G244, O245, s246, sm249, rfl⟩
 refine W.p3 (.bool (decide (x241 >= 0))) (.nil (.cond (b := decide (x241 >= 0)) rfl rfl (fun g252 => ?_) (fun g252 => ?_)))
 .have h253 := z05 g252 h243
  refine .seq (.draw2 (M := [0, 1, 0, 0, 12, 0, 63, 127]) mixed (by kernel_rfl) (by kernel_rfl) fun H254 N258 x255 F257 => ?_)
  have O256 := O245.ext x255
  refine D2.pv (padd (.pointer (some ⟨b2, 0, none⟩)) 0) (z31 z9m ov (O256.atVar (j := 3) rfl)) (D2.load1' (v := (.bool p0.neg)) (r := []) rfl rfl ag4 (z0z rfl (At.bool (At.proj (O256.atVar (j := 3) rfl) z70))) z06 (D2.p2 w86 (D2.p2 w118 ?_)))
  obtain ⟨x259, i260, h261⟩ := z01 h253
  refine D2.lo rfl rfl (Lo.callPF (ps := []) (pw := fun w => [eSl w 181 (rI .u32) x259]) rfl (fn := Tryz.f147) (by kernel_rfl) rfl (mc rfl (mc rfl mn)) O256 (fun L' O' => z8p K w86 x78 (RT.mono _ (zAe s239 s246) f236) w118 x110 (RT.mono _ s246 f240) O' _ i260)) ?_ z06 ?_ ?_
  .rintro v270 H271 ⟨w267, G262, O263, s264, sm269, rfl⟩; exact (faR1 (.inr (sm269 _ (Or.inr ⟨3, _, rfl, List.mem_singleton.2 rfl⟩))) z06)
  .rintro v270 H271 ⟨w267, G262, O263, s264, sm269, rfl⟩; exact z06
  rintro v270 H271 ⟨w267, G262, O263, s264, sm269, rfl⟩
  refine D2.p2 w168 ?_
  obtain ⟨G272, O273, s274, f275⟩ := O263.frzSl (j := 0) rfl
  obtain ⟨G276, O277, s278, f279⟩ := O273.frzSl (j := 0) rfl
  obtain ⟨x280, i281, h282⟩ := z01 h261
  refine D2.lo rfl rfl (Lo.cP rfl (fn := Tryz.f138) (by kernel_rfl) rfl (mc rfl (mc rfl (mc rfl mn))) O277 (fun L' O' => z5i K p0.neg w267 x259 (RT.mono _ s278 f275) w168 x160 f279 O' _ i281)) ?_ (z0j (by decide) z06) ?_ ?_
  .rintro v291 H292 ⟨G283, O284, s285, sm290, ⟨c287, rfl, f288⟩⟩; exact (faR1 (.inl (by decide)) z06)
  .rintro v291 H292 ⟨G283, O284, s285, sm290, ⟨c287, rfl, f288⟩⟩; exact z06
  rintro v291 H292 ⟨G283, O284, s285, sm290, ⟨c287, rfl, f288⟩⟩
  refine D2.lo rfl rfl (Lo.storeVar (j := 0) (s := T_Q) (y0 := x280) (v := (.agg c287.toArray)) (o := 0) rfl ((Put.at (Put.self _) _ _)) rfl sz96 rfl (by omega) rfl f288 O284) ?_ (z0j (by decide) (z0j (by decide) z06)) ?_ ?_
  .rintro v295 H296 ⟨O293, sm294⟩; exact (faR1 (.inl (by decide)) z06)
  .rintro v295 H296 ⟨O293, sm294⟩; exact z06
  rintro v295 H296 ⟨O293, sm294⟩
  refine .nil (.ret ?_)
  obtain ⟨c297, p298, f299⟩ := (O293.atVar (j := 0) rfl)
  have O302 := ((O293.drop 0).drop 0).drop 0
  obtain rfl := zAa h282
  exact z1b kr (v1 := (.agg c297.toArray)) (by rfl) (z32 (p := (.pointer (some ⟨b12, 0, none⟩))) (by rfl) ag96 sz96 (by exact rfl) p298 (RT.len _ f299)) O302 (zAe s70 (zAe s83 (zAe s102 (zAe s115 (zAe s136 (zAe s152 (zAe s165 (zAe s235 (zAe s239 (zAe s246 (zAe s264 (zAe s274 (zAe s278 s285))))))))))))) ⟨c297, rfl, f299⟩
 have h303 := z0h g252 h243
 refine .skip (.seq (.draw2 (M := [0, 1, 0, 0, 12, 0, 63, 127]) mixed (by kernel_rfl) (by kernel_rfl) fun H304 N308 x305 F307 => ?_))
 have O306 := O245.ext x305
 refine D2.pv (padd (.pointer (some ⟨b7, 0, none⟩)) 0) (z31 z9m ov (O306.atVar (j := 2) rfl)) (D2.load1' (v := (.bool p1.neg)) (r := []) rfl rfl ag4 (z0z rfl (At.bool (At.proj (O306.atVar (j := 2) rfl) z70))) z06 (D2.p2 w118 (D2.p2 w86 ?_)))
 obtain ⟨x309, i310, h311⟩ := z01 h303
 refine D2.lo rfl rfl (Lo.callPF (ps := []) (pw := fun w => [eSl w 181 (rI .u32) x309]) rfl (fn := Tryz.f147) (by kernel_rfl) rfl (mc rfl (mc rfl mn)) O306 (fun L' O' => z8p K w118 x110 (RT.mono _ s246 f240) w86 x78 (RT.mono _ (zAe s239 s246) f236) O' _ i310)) ?_ z06 ?_ ?_
 .rintro v320 H321 ⟨w317, G312, O313, s314, sm319, rfl⟩; exact (faR1 (.inr (sm319 _ (Or.inr ⟨2, _, rfl, List.mem_singleton.2 rfl⟩))) z06)
 .rintro v320 H321 ⟨w317, G312, O313, s314, sm319, rfl⟩; exact z06
 rintro v320 H321 ⟨w317, G312, O313, s314, sm319, rfl⟩
 refine D2.p2 w168 ?_
 obtain ⟨G322, O323, s324, f325⟩ := O313.frzSl (j := 0) rfl
 obtain ⟨G326, O327, s328, f329⟩ := O323.frzSl (j := 0) rfl
 obtain ⟨x330, i331, h332⟩ := z01 h311
 refine D2.lo rfl rfl (Lo.cP rfl (fn := Tryz.f138) (by kernel_rfl) rfl (mc rfl (mc rfl (mc rfl mn))) O327 (fun L' O' => z5i K p1.neg w317 x309 (RT.mono _ s328 f325) w168 x160 f329 O' _ i331)) ?_ (z0j (by decide) z06) ?_ ?_
 .rintro v341 H342 ⟨G333, O334, s335, sm340, ⟨c337, rfl, f338⟩⟩; exact (faR1 (.inl (by decide)) z06)
 .rintro v341 H342 ⟨G333, O334, s335, sm340, ⟨c337, rfl, f338⟩⟩; exact z06
 rintro v341 H342 ⟨G333, O334, s335, sm340, ⟨c337, rfl, f338⟩⟩
 refine D2.lo rfl rfl (Lo.storeVar (j := 0) (s := T_Q) (y0 := x330) (v := (.agg c337.toArray)) (o := 0) rfl ((Put.at (Put.self _) _ _)) rfl sz96 rfl (by omega) rfl f338 O334) ?_ (z0j (by decide) (z0j (by decide) z06)) ?_ ?_
 .rintro v345 H346 ⟨O343, sm344⟩; exact (faR1 (.inl (by decide)) z06)
 .rintro v345 H346 ⟨O343, sm344⟩; exact z06
 rintro v345 H346 ⟨O343, sm344⟩
 refine .nil (.ret ?_)
 obtain ⟨c347, p348, f349⟩ := (O343.atVar (j := 0) rfl)
 have O352 := ((O343.drop 0).drop 0).drop 0
 obtain rfl := zAa h332
 exact z1b kr (v1 := (.agg c347.toArray)) (by rfl) (z32 (p := (.pointer (some ⟨b12, 0, none⟩))) (by rfl) ag96 sz96 (by exact rfl) p348 (RT.len _ f349)) O352 (zAe s70 (zAe s83 (zAe s102 (zAe s115 (zAe s136 (zAe s152 (zAe s165 (zAe s235 (zAe s239 (zAe s246 (zAe s314 (zAe s324 (zAe s328 s335))))))))))))) ⟨c347, rfl, f349⟩
def z6d (K : Nat) (p0 : Q) (p1 : Q) : Option Q := ((z5c K p1).bind fun x27 => ((z6c K p0 x27).bind fun x40 => some x40))
theorem zc0 (v0 : List Value) (p0 : Q) (hp0 : T_Q.rep G v0 p0) (v1 : List Value) (p1 : Q) (hp1 : T_Q.rep G v1 p1) (O : Ow G H (L)) (r : Q) (h : z6d K p0 p1 = some r) :
    CR Tryz.prog 69 [.agg v0.toArray, .agg v1.toArray] G H (L) (fun v G' _ => ∃ (w0 : List Value), v = .agg w0.toArray /\ T_Q.rep G' w0 r) := by
 unfold z6d at h
 refine CR.og (n := 9) (fn := Tryz.f69) (by kernel_rfl) rfl rfl fun R kr => (.seq (.region (W.ln (Lo.box (r := T_Q) (x0 := p0) (v := (.agg v0.toArray)) rfl rfl hp0 O) ?_)))
 rintro v4 H5 ⟨b2, rfl, O1, sm3⟩
 refine W.ln (Lo.box (r := T_Q) (x0 := p1) (v := (.agg v1.toArray)) rfl rfl hp1 O1) ?_
 rintro v9 H10 ⟨b7, rfl, O6, sm8⟩
 refine W.ln (Lo.alloc (r := T_Q) (x0 := (Q.mk false [] [])) ze96 (by kernel_rfl) z_Q O6) ?_
 rintro v14 H15 ⟨b12, rfl, O11, sm13⟩
 refine .nil (.seq (.draw2 (M := [0, 0, 2, 7, 15]) mixed (by kernel_rfl) (by kernel_rfl) fun H16 N20 x17 F19 => ?_))
 have O18 := O11.ext x17
 obtain ⟨c21, p22, f23⟩ := (O18.atVar (j := 2) rfl)
 refine D2.loadA' (cs := c21) rfl rfl ag96 sz96 (z0z rfl p22) (RT.len _ f23) z06 ?_
 obtain ⟨c24, p25, f26⟩ := (O18.atVar (j := 1) rfl)
 refine D2.loadA' (cs := c24) rfl rfl ag96 sz96 (z0z rfl p25) (RT.len _ f26) z06 ?_
 obtain ⟨x27, i28, h29⟩ := z01 h
 refine D2.lo rfl rfl (Lo.cP rfl (fn := Tryz.f109) (by kernel_rfl) rfl (mc rfl mn) O18 (fun L' O' => z8o K c24 p1 f26 O' _ i28)) ?_ z06 ?_ ?_
 .rintro v38 H39 ⟨G30, O31, s32, sm37, ⟨c34, rfl, f35⟩⟩; exact (faR1 (.inl (by decide)) (faR1 (.inr (sm37 _ (Or.inr ⟨2, _, rfl, List.mem_singleton.2 rfl⟩))) z06))
 .rintro v38 H39 ⟨G30, O31, s32, sm37, ⟨c34, rfl, f35⟩⟩; exact z06
 rintro v38 H39 ⟨G30, O31, s32, sm37, ⟨c34, rfl, f35⟩⟩
 obtain ⟨x40, i41, h42⟩ := z01 h29
 refine D2.lo rfl rfl (Lo.cP rfl (fn := Tryz.f91) (by kernel_rfl) rfl (mc rfl (mc rfl mn)) O31 (fun L' O' => zbz K c21 p0 (RT.mono _ s32 f23) c34 x27 f35 O' _ i41)) ?_ (z0j (by decide) z06) ?_ ?_
 .rintro v51 H52 ⟨G43, O44, s45, sm50, ⟨c47, rfl, f48⟩⟩; exact (faR1 (.inl (by decide)) (faR1 (.inl (by decide)) z06))
 .rintro v51 H52 ⟨G43, O44, s45, sm50, ⟨c47, rfl, f48⟩⟩; exact z06
 rintro v51 H52 ⟨G43, O44, s45, sm50, ⟨c47, rfl, f48⟩⟩
 refine D2.lo rfl rfl (Lo.storeVar (j := 0) (s := T_Q) (y0 := x40) (v := (.agg c47.toArray)) (o := 0) rfl ((Put.at (Put.self _) _ _)) rfl sz96 rfl (by omega) rfl f48 O44) ?_ (z0j (by decide) (z0j (by decide) z06)) ?_ ?_
 .rintro v55 H56 ⟨O53, sm54⟩; exact (faR1 (.inl (by decide)) (faR1 (.inl (by decide)) z06))
 .rintro v55 H56 ⟨O53, sm54⟩; exact z06
 rintro v55 H56 ⟨O53, sm54⟩
 refine .nil (.ret ?_)
 obtain ⟨c57, p58, f59⟩ := (O53.atVar (j := 0) rfl)
 have O62 := ((O53.drop 0).drop 0).drop 0
 obtain rfl := zAa h42
 exact z1b kr (v1 := (.agg c57.toArray)) (by rfl) (z32 (p := (.pointer (some ⟨b12, 0, none⟩))) (by rfl) ag96 sz96 (by exact rfl) p58 (RT.len _ f59)) O62 (zAe s32 s45) ⟨c57, rfl, f59⟩
def z0i (K : Nat) (p1 : Int) : Nat -> zAd -> Option (zAd)
  | 0, _ => none
  | k + 1, x5 => (Option.bind ((if (decide ((x5.size : Int) > 0)) = true then ((bidx x5 0).bind fun x20 => some (x20 == p1)) else some false)) (tu1 fun x24 => (if x24 = true then ((ssl x5 1 (x5.size : Int)).bind fun x36 => z0i K p1 k x36) else some x5)))
def z26 (K : Nat) (p0 : zAd) (p1 : Int) : Option zAd := (Option.bind (z0i K p1 K p0) (tu1 fun x40 => some x40))
theorem z6e (p0 : zAd) (p1 : Int) (O : Ow G H (L)) (r : zAd) (h : z26 K p0 p1 = some r) :
    CR Tryz.prog 175 [(.string p0), (.int .u8 p1)] G H (L) (fun v G' _ => v = .string r) := by
 unfold z26 at h
 refine CR.og (n := 17) (fn := Tryz.f175) (by kernel_rfl) rfl rfl fun R kr => (.seq (.region (W.p1 (.string (⟨#[]⟩ : zAd)) (.nil (.seq ?_)))))
 obtain ⟨q1, h2, h3⟩ := z01 h
 refine AW.midT (fun σ' H' => ∃ (y1 : zAd) (G' : GM), y1 = q1 /\ Ow G' H' (L) /\ GM.le G G' /\ σ' 0 = .string y1) ?_ ?_
 rotate_left
 .rintro σ41 H42 fr43 ⟨x40, G44, rfl, O45, s46, t48⟩
  have h49 := z09 h3
  refine .seq (.region (W.q2 _ t48 (W.p1 (.string x40) (.nil (.ret ?_)))))
  obtain rfl := zAa h49
  exact z1b kr (v1 := (.string x40)) (by rfl) rt O45 s46 rfl
 refine .block (AW.loop (α := Nat) (fun k' σ' H' => ∃ (y1 : zAd) (G' : GM), z0i K p1 k' y1 = some q1 /\ Ow G' H' (L) /\ GM.le G G' /\ σ' 0 = .string y1) (fun k' => k') K ⟨p0, _, h2, O, (zAf _), rfl⟩ ?_)
 rintro k4
 rintro σ6 H7 fr8 ⟨x5, G9, h12, O10, s11, t13⟩
 rcases k4 with _ | k4
 .exact z07 h12
 rw [z0i] at h12
 refine .seq (.seq ?_)
 obtain ⟨q14, h15, h16⟩ := z01 h12
 refine AW.midT (fun σ' H' => ∃ (y1 : Bool) (G' : GM), y1 = q14 /\ Ow G' H' (L) /\ GM.le G9 G' /\ σ' 13 = .bool y1) ?_ ?_
 rotate_left
 .rintro σ25 H26 fr27 ⟨x24, G28, rfl, O29, s30, t32⟩
  have h33 := z09 h16
  refine .cond (b := x24) rfl t32 (fun g34 => ?_) (fun g34 => ?_)
  rotate_left
  .have h39 := z0h g34 h33
   refine .exit ?_
   obtain rfl := zAa h39
   exact ⟨x5, _, rfl, O29, (zAe s11 s30), ((fr27 0 rfl).trans t13)⟩
  have h35 := z05 g34 h33
  refine .skip (.block (.region (W.q2 _ ((fr27 0 rfl).trans t13) ?_)))
  obtain ⟨x36, i37, h38⟩ := z01 h35
  refine W.pv (.string x36) (zct un9 ov ov i37) (W.p1 (.string x36) (.nil ?_))
  exact ⟨k4, zAg _, ⟨x36, _, h38, O29, (zAe s11 s30), rfl⟩⟩
 refine .region (W.q2 _ t13 (W.pv (.int .i64 (x5.size : Int)) (z18 ov un9) (W.p3 (.bool (decide ((x5.size : Int) > 0))) (W.p2 (.bool (decide ((x5.size : Int) > 0))) (W.splitAt (t := 8) (b := decide ((x5.size : Int) > 0)) rfl (fun g17 gv18 => ?_) (fun g17 gv18 => ?_))))))
 rotate_left
 .have h23 := z0h g17 h15
  refine W.q6 rfl gv18 (W.q6 rfl gv18 (W.q6 rfl gv18 (W.q6 rfl gv18 (W.q5 (.bool false) gv18 rfl (.nil ?_)))))
  obtain rfl := zAa h23
  exact ⟨false, _, rfl, O10, (zAf _), rfl⟩
 have h19 := z05 g17 h15
 refine W.q2 (hg := gk rfl rfl gv18 rfl) _ t13 ?_
 obtain ⟨x20, i21, h22⟩ := z01 h19
 refine W.pure (v := (.int .u8 x20)) (gk rfl rfl gv18 rfl) rfl (z8h un9 ov ov i21) (W.q2 (hg := gk rfl rfl gv18 rfl) (.int .u8 p1) ((fr8 1 rfl).trans rfl) (W.q3 (hg := gk rfl rfl gv18 rfl) (.bool (x20 == p1)) rfl rfl (W.q4 (.bool (x20 == p1)) gv18 rfl (.nil ?_))))
 obtain rfl := zAa h22
 exact ⟨(x20 == p1), _, rfl, O10, (zAf _), rfl⟩
def z2d (K : Nat) (p0 : zAd) (p1 : zAd) : Option zAd := (Option.bind ((if (sEq p0 (⟨#[]⟩ : zAd)) = true then some true else some (sEq p1 (⟨#[]⟩ : zAd)))) (tu1 fun x8 => (if x8 = true then some p0 else (Option.bind ((if ((p1.size : Int) == 1) = true then ((bidx p1 0).bind fun x27 => some (decide (x27 < 128))) else some false)) (tu1 fun x31 => (if x31 = true then ((bidx p1 0).bind fun x43 => ((z26 K p0 x43).bind fun x46 => some x46)) else none))))))
theorem z7v (p0 : zAd) (p1 : zAd) (O : Ow G H (L)) (r : zAd) (h : z2d K p0 p1 = some r) :
    CR Tryz.prog 167 [(.string p0), (.string p1)] G H (L) (fun v G' _ => v = .string r) := by
 unfold z2d at h
 refine CR.og (n := 37) (fn := Tryz.f167) (by kernel_rfl) rfl rfl fun R kr => (.seq (.region (W.p1 (.string (⟨#[]⟩ : zAd)) (.nil (.seq (.seq ?_))))))
 obtain ⟨q1, h2, h3⟩ := z01 h
 refine AW.midT (fun σ' H' => ∃ (y1 : Bool) (G' : GM), y1 = q1 /\ Ow G' H' (L) /\ GM.le G G' /\ σ' 12 = .bool y1) ?_ ?_
 .refine .region (W.p2 (.string p0) (W.pv (.bool (sEq p0 (⟨#[]⟩ : zAd))) (z7u ov ov) (W.p2 (.bool (sEq p0 (⟨#[]⟩ : zAd))) (W.splitAt (t := 9) (b := sEq p0 (⟨#[]⟩ : zAd)) rfl (fun g4 gv5 => ?_) (fun g4 gv5 => ?_)))))
  .have h6 := z05 g4 h2
   refine W.q6 rfl gv5 (W.q6 rfl gv5 (W.q4 (.bool true) gv5 rfl (.nil ?_)))
   obtain rfl := zAa h6
   exact ⟨true, _, rfl, O, (zAf _), rfl⟩
  have h7 := z0h g4 h2
  refine W.q2 (hg := gk rfl rfl gv5 rfl) (.string p1) rfl (W.pure (v := (.bool (sEq p1 (⟨#[]⟩ : zAd)))) (gk rfl rfl gv5 rfl) rfl (z7u ov ov) (W.q5 (.bool (sEq p1 (⟨#[]⟩ : zAd))) gv5 rfl (.nil ?_)))
  obtain rfl := zAa h7
  exact ⟨sEq p1 (⟨#[]⟩ : zAd), _, rfl, O, (zAf _), rfl⟩
 rintro σ9 H10 fr11 ⟨x8, G12, rfl, O13, s14, t16⟩
 have h17 := z09 h3
 refine .cond (b := x8) rfl t16 (fun g18 => ?_) (fun g18 => ?_)
 .have h19 := z05 g18 h17
  refine .seq (.region (W.q2 (.string p0) ((fr11 0 rfl).trans rfl) (W.p1 (.string p0) (.nil (.ret ?_)))))
  obtain rfl := zAa h19
  exact z1b kr (v1 := (.string p0)) (by rfl) rt O13 s14 rfl
 have h20 := z0h g18 h17
 refine .skip (.seq (.seq ?_))
 obtain ⟨q21, h22, h23⟩ := z01 h20
 refine AW.midT (fun σ' H' => ∃ (y1 : Bool) (G' : GM), y1 = q21 /\ Ow G' H' (L) /\ GM.le G12 G' /\ σ' 21 = .bool y1) ?_ ?_
 rotate_left
 .rintro σ32 H33 fr34 ⟨x31, G35, rfl, O36, s37, t39⟩
  have h40 := z09 h23
  refine .cond (b := x31) rfl t39 (fun g41 => ?_) (fun g41 => ?_)
  rotate_left
  .have h57 := z0h g41 h40
   refine .skip (.seq (.seq (.region (W.q2 (.string p1) ((fr34 1 rfl).trans ((fr11 1 rfl).trans rfl)) ?_))))
   exact gap h57
  have h42 := z05 g41 h40
  refine .seq (.region (W.q2 (.string p0) ((fr34 0 rfl).trans ((fr11 0 rfl).trans rfl)) (W.q2 (.string p1) ((fr34 1 rfl).trans ((fr11 1 rfl).trans rfl)) ?_)))
  obtain ⟨x43, i44, h45⟩ := z01 h42
  refine W.pv (.int .u8 x43) (z8h un9 ov ov i44) ?_
  obtain ⟨x46, i47, h48⟩ := z01 h45
  refine W.ln (Lo.cP rfl (fn := Tryz.f175) (by kernel_rfl) rfl (mc rfl (mc rfl mn)) O36 (fun L' O' => z6e K p0 x43 O' _ i47)) ?_
  rintro v55 H56 ⟨G49, O50, s51, sm54, rfl⟩
  refine W.p1 (.string x46) (.nil (.ret ?_))
  obtain rfl := zAa h48
  exact z1b kr (v1 := (.string x46)) (by rfl) rt O50 (zAe s14 (zAe s37 s51)) rfl
 refine .region (W.q2 (.string p1) ((fr11 1 rfl).trans rfl) (W.pv (.int .i64 (p1.size : Int)) (z18 ov un9) (W.p3 (.bool ((p1.size : Int) == 1)) (W.p2 (.bool ((p1.size : Int) == 1)) (W.splitAt (t := 17) (b := ((p1.size : Int) == 1)) rfl (fun g24 gv25 => ?_) (fun g24 gv25 => ?_))))))
 rotate_left
 .have h30 := z0h g24 h22
  refine W.q6 rfl gv25 (W.q6 rfl gv25 (W.q6 rfl gv25 (W.q5 (.bool false) gv25 rfl (.nil ?_))))
  obtain rfl := zAa h30
  exact ⟨false, _, rfl, O13, (zAf _), rfl⟩
 have h26 := z05 g24 h22
 refine W.q2 (hg := gk rfl rfl gv25 rfl) (.string p1) ((fr11 1 rfl).trans rfl) ?_
 obtain ⟨x27, i28, h29⟩ := z01 h26
 refine W.pure (v := (.int .u8 x27)) (gk rfl rfl gv25 rfl) rfl (z8h un9 ov ov i28) (W.q3 (hg := gk rfl rfl gv25 rfl) (.bool (decide (x27 < 128))) rfl rfl (W.q4 (.bool (decide (x27 < 128))) gv25 rfl (.nil ?_)))
 obtain rfl := zAa h29
 exact ⟨decide (x27 < 128), _, rfl, O13, (zAf _), rfl⟩
def z1w (K : Nat) : Nat -> List Int -> Int -> Int -> Option (List Int)
  | 0, _, _, _ => none
  | k + 1, x39, x40, x41 => (if (decide (x41 >= 0)) = true then (lt (IntKind.wrap .u8 (z03 .u32 ((48 : Int) + (Int.tmod x40 10)))) fun x53 => ((idx x39 x41).bind fun x56 => z1w K k (List.set x39 (x41.toNat) x53) (z03 .u32 (Int.tdiv x40 10)) (z03 .i64 (x41 - 1)))) else some x39)
def z1x (K : Nat) (p0 : List Int) : Nat -> List Int -> Int -> Option (List Int)
  | 0, _, _ => none
  | k + 1, x14, x15 => (if (decide (x15 >= 0)) = true then ((idx p0 x15).bind fun x26 => (Option.bind (z1w K K (List.replicate 9 0) x26 8) (tu1 fun x65 => (if x14.length + x65.length <= 16777216 then z1x K p0 k (x14 ++ x65) (z03 .i64 (x15 - 1)) else none)))) else some x14)
def z3n (K : Nat) (p0 : List Int) : Option zAd := (if ((p0.length : Int) == 0) = true then some (⟨#[48]⟩ : zAd) else (if 0 <= (0 : Int) /\ (0 : Int) <= (z03 .i64 ((9 : Int) * (p0.length : Int))) /\ (z03 .i64 ((9 : Int) * (p0.length : Int))) <= 16777216 then (Option.bind (z1x K p0 K (List.replicate (Int.toNat 0) 0) (z03 .i64 ((p0.length : Int) - 1))) (tu1 fun x88 => (if 0 < x88.length then ((z2d K (strOfNums x88) (⟨#[48]⟩ : zAd)).bind fun x102 => some x102) else none))) else none))
theorem z62 (v0 : Value) (p0 : List Int) (hp0 : (rSl (rI .u32)).rep G [v0] p0) (O : Ow G H (L)) (r : zAd) (h : z3n K p0 = some r) :
    CR Tryz.prog 145 [v0] G H (L) (fun v G' _ => v = .string r) := by
 unfold z3n at h
 refine CR.og (n := 44) (fn := Tryz.f145) (by kernel_rfl) rfl rfl fun R kr => (.seq (.region (W.p1 (.string (⟨#[]⟩ : zAd)) (.nil (.seq (.seq ?_))))))
 refine .region (W.p2 v0 (W.pv (.int .i64 (p0.length : Int)) (z0k ov (z0d hp0) (z04 el94)) (W.p3 (.bool ((p0.length : Int) == 0)) (.nil (.cond (b := ((p0.length : Int) == 0)) rfl rfl (fun g1 => ?_) (fun g1 => ?_))))))
 .have h2 := z05 g1 h
  refine .seq (.region (W.p1 (.string (⟨#[48]⟩ : zAd)) (.nil (.ret ?_))))
  obtain rfl := zAa h2
  exact z1b kr (v1 := (.string (⟨#[48]⟩ : zAd))) (by rfl) rt O (zAf _) rfl
 have h3 := z0h g1 h
 refine .skip (.seq (.region (W.p2 v0 (W.pv (.int .i64 (p0.length : Int)) (z0k ov (z0d hp0) (z04 el94)) (W.p3 (.int .i64 (z03 .i64 ((9 : Int) * (p0.length : Int)))) ?_)))))
 obtain ⟨g5, h6⟩ := z2n h3
 refine W.ln (Lo.makeSlice (r := (rI .u8)) (x0 := 0) (a := 0) (c := (z03 .i64 ((9 : Int) * (p0.length : Int)))) rfl zg0 ze5 sz5 (by kernel_rfl) rfl by5 (by decide) rfl rfl g5 (zI .u8) O) ?_
 rintro v8 H9 ⟨O4, sm7⟩
 refine W.p1 v8 (.nil (.seq (.seq (.region (W.p2 v0 (W.pv (.int .i64 (p0.length : Int)) (z0k ov (z0d hp0) (z04 el94)) ?_))))))
 refine W.p3 (.int .i64 (z03 .i64 ((p0.length : Int) - 1))) (W.p1 (.int .i64 (z03 .i64 ((p0.length : Int) - 1))) (.nil ?_))
 obtain ⟨q10, h11, h12⟩ := z01 h6
 refine AW.midT (fun σ' H' => ∃ (y1 : List Int) (G' : GM), y1 = q10 /\ Ow G' H' (eSl (σ' 3) 5 (rI .u8) y1 :: L) /\ GM.le G G') ?_ ?_
 rotate_left
 .rintro σ89 H90 fr91 ⟨x88, G92, rfl, O93, s94⟩
  have h96 := z09 h12
  refine .seq (.region (W.p2 (σ89 3) ?_))
  obtain ⟨es97, e98, e99⟩ := z68 (j := 0) rfl O93
  obtain ⟨g100, h101⟩ := z2n h96
  refine W.bytesStr rfl rfl zg0 in5 un9 e98 e99 g100 ?_
  obtain ⟨x102, i103, h104⟩ := z01 h101
  refine W.ln (Lo.cP rfl (fn := Tryz.f167) (by kernel_rfl) rfl (mc rfl (mc rfl mn)) O93 (fun L' O' => z7v K (strOfNums x88) (⟨#[48]⟩ : zAd) O' _ i103)) ?_
  rintro v111 H112 ⟨G105, O106, s107, sm110, rfl⟩
  refine W.p1 (.string x102) (.nil (.ret ?_))
  have O113 := O106.drop 0
  obtain rfl := zAa h104
  exact z1b kr (v1 := (.string x102)) (by rfl) rt O113 (zAe s94 s107) rfl
 refine .block (AW.loop (α := Nat) (fun k' σ' H' => ∃ (y1 : List Int) (y2 : Int) (G' : GM), z1x K p0 k' y1 y2 = some q10 /\ Ow G' H' (eSl (σ' 3) 5 (rI .u8) y1 :: L) /\ GM.le G G' /\ σ' 4 = .int .i64 y2) (fun k' => k') K ⟨(List.replicate (Int.toNat 0) 0), z03 .i64 ((p0.length : Int) - 1), _, h11, O4, (zAf _), rfl⟩ ?_)
 rintro k13
 rintro σ16 H17 fr18 ⟨x14, x15, G19, h22, O20, s21, t23⟩
 rcases k13 with _ | k13
 .exact z07 h22
 rw [z1x] at h22
 refine .seq (.seq (.region (W.q2 _ t23 (W.p3 (.bool (decide (x15 >= 0))) (.nil (.cond (b := decide (x15 >= 0)) rfl rfl (fun g24 => ?_) (fun g24 => ?_)))))))
 rotate_left
 .have h87 := z0h g24 h22
  refine .exit ?_
  obtain rfl := zAa h87
  exact ⟨x14, _, rfl, O20, s21⟩
 have h25 := z05 g24 h22
 refine .skip (.seq (.block (.seq (.region (W.q2 v0 ((fr18 0 rfl).trans rfl) (W.q2 _ t23 ?_))))))
 obtain ⟨x26, i27, h28⟩ := z01 h25
 have j29 := z0a i27
 refine W.pv (z1o v0 (x15.toNat * 1)) (z2f el94 z3r ov ov (z0d (RT.mono _ s21 hp0)) j29.1 j29.2.1) (W.load1 (v := (.int .u32 x26)) (r := []) rfl rfl z96 (z0z rfl (At.int (At.le (At.le (z2g hp0 j29.2.2) s21 s21) (zAf _) O20.fro))) (W.p1 (.int .u32 x26) (.nil (.seq (.region (W.ln (Lo.alloc (r := (rArr 9 (rI .u8))) (x0 := (List.replicate 9 0)) zq5 (by kernel_rfl) (fun G => ⟨by simp, List.replicate 9 [.int .u8 0], rfl, All2.replicate ((zI .u8) G) 9⟩) O20) ?_))))))
 rintro v33 H34 ⟨b31, rfl, O30, sm32⟩
 refine .nil (.seq (.seq (.region (W.p1 (.int .i64 8) (.nil ?_)))))
 obtain ⟨q35, h36, h37⟩ := z01 h28
 refine AW.midT (fun σ' H' => ∃ (y1 : List Int) (G' : GM), y1 = q35 /\ Ow G' H' (eVar b31 185 (rArr 9 (rI .u8)) y1 :: eSl (σ16 3) 5 (rI .u8) x14 :: L) /\ GM.le G19 G') ?_ ?_
 rotate_left
 .rintro σ66 H67 fr68 ⟨x65, G69, rfl, O70, s71⟩
  have h73 := z09 h37
  refine .region (W.q2 (σ16 3) ((fr68 3 rfl).trans rfl) ?_)
  obtain ⟨G74, O75, s76, f77⟩ := O70.frzVar (j := 0) rfl
  refine W.pv (.slice (some ⟨b31, 0, some 0⟩) 9 9) (zmy zpm sz5 (ou ((fr68 6 rfl).trans rfl))) ?_
  obtain ⟨es79, e80, e81⟩ := zh3 (zpz f77) O75
  obtain ⟨g82, h83⟩ := z2n h73
  refine W.ln (Lo.append (j := 0) (v := (σ16 3)) rfl rfl zg0 zq4 ze5 sz5 by5 (by decide) (by decide) rfl e80 e81 g82 O75) ?_
  rintro v85 H86 ⟨O78, sm84⟩
  refine W.p1 v85 (.nil (.region (W.q2 _ ((fr68 4 rfl).trans t23) (W.p3 (.int .i64 (z03 .i64 (x15 - 1))) (W.p1 (.int .i64 (z03 .i64 (x15 - 1))) (.nil ?_))))))
  exact ⟨k13, zAg _, ⟨(x14 ++ x65), z03 .i64 (x15 - 1), _, h83, O78, (zAe s21 (zAe s71 s76)), rfl⟩⟩
 refine .block (AW.loop (α := Nat) (fun k' σ' H' => ∃ (y1 : List Int) (y2 : Int) (y3 : Int) (G' : GM), z1w K k' y1 y2 y3 = some q35 /\ Ow G' H' (eVar b31 185 (rArr 9 (rI .u8)) y1 :: eSl (σ16 3) 5 (rI .u8) x14 :: L) /\ GM.le G19 G' /\ σ' 5 = .int .u32 y2 /\ σ' 7 = .int .i64 y3) (fun k' => k') K ⟨(List.replicate 9 0), x26, 8, _, h36, O30, (zAf _), rfl, rfl⟩ ?_)
 rintro k38
 rintro σ42 H43 fr44 ⟨x39, x40, x41, G45, h48, O46, s47, t49, t50⟩
 rcases k38 with _ | k38
 .exact z07 h48
 rw [z1w] at h48
 refine .seq (.seq (.region (W.q2 _ t50 (W.p3 (.bool (decide (x41 >= 0))) (.nil (.cond (b := decide (x41 >= 0)) rfl rfl (fun g51 => ?_) (fun g51 => ?_)))))))
 rotate_left
 .have h64 := z0h g51 h48
  refine .exit ?_
  obtain rfl := zAa h64
  exact ⟨x39, _, rfl, O46, s47⟩
 have h52 := z05 g51 h48
 refine .skip (.seq (.block (.seq (.region (W.q2 _ t50 (W.q2 _ t49 ?_))))))
 refine W.pv (.int .u32 (Int.tmod x40 10)) (zh5 (by decide) ov ov) (W.p3 (.int .u32 (z03 .u32 ((48 : Int) + (Int.tmod x40 10)))) (W.pv (.int .u8 (IntKind.wrap .u8 (z03 .u32 ((48 : Int) + (Int.tmod x40 10))))) (z3f z8i in5 ov) ?_))
 obtain ⟨x53, e54, h55⟩ := z60 h52
 obtain ⟨x56, i57, h58⟩ := z01 h55
 have j59 := z0a i57
 refine W.pv (padd (.pointer (some ⟨b31, 0, none⟩)) (x41.toNat * 1)) (zmw zpm sz5 (ou ((fr44 6 rfl).trans rfl)) ov (O46.atVar (j := 0) rfl) j59.1 j59.2.1) (W.ln (Lo.storeVar (j := 0) (s := (rI .u8)) (y0 := x53) (v := (.int .u8 x53)) (o := x41.toNat * 1) rfl ((PutAt.idx (zAi j59.2.2).1)) rfl sz5 rfl (by omega) (congrArg (Value.int .u8) e54) rfl O46) ?_)
 rintro v62 H63 ⟨O60, sm61⟩
 refine .nil (.region (W.q2 _ t49 (W.pv (.int .u32 (z03 .u32 (Int.tdiv x40 10))) (zh4 (by decide) ov ov) (W.p1 (.int .u32 (z03 .u32 (Int.tdiv x40 10))) (.nil (.region ?_))))))
 refine W.q2 _ t50 (W.p3 (.int .i64 (z03 .i64 (x41 - 1))) (W.p1 (.int .i64 (z03 .i64 (x41 - 1))) (.nil ?_)))
 exact ⟨k38, zAg _, ⟨(List.set x39 (x41.toNat) x53), z03 .u32 (Int.tdiv x40 10), z03 .i64 (x41 - 1), _, h58, O60, s47, rfl, rfl⟩⟩
def z2p (K : Nat) (p0 : List Int) : Option Int := ((z3n K p0).bind fun x1 => some (x1.size : Int))
theorem z71 (v0 : Value) (p0 : List Int) (hp0 : (rSl (rI .u32)).rep G [v0] p0) (O : Ow G H (L)) (r : Int) (h : z2p K p0 = some r) :
    CR Tryz.prog 144 [v0] G H (L) (fun v G' _ => v = .int .i64 r) := by
 unfold z2p at h
 refine CR.og (n := 6) (fn := Tryz.f144) (by kernel_rfl) rfl rfl fun R kr => (.seq (.region (W.p1 (.int .i64 0) (.nil (.seq (.region ?_))))))
 refine W.p2 v0 ?_
 obtain ⟨x1, i2, h3⟩ := z01 h
 refine W.ln (Lo.cP rfl (fn := Tryz.f145) (by kernel_rfl) rfl (mc rfl mn) O (fun L' O' => z62 K v0 p0 hp0 O' _ i2)) ?_
 rintro v10 H11 ⟨G4, O5, s6, sm9, rfl⟩
 refine W.pv (.int .i64 (x1.size : Int)) (z18 ov un9) (W.p1 (.int .i64 (x1.size : Int)) (.nil (.ret ?_)))
 obtain rfl := zAa h3
 exact z1b kr (v1 := (.int .i64 (x1.size : Int))) (by rfl) rt O5 s6 rfl
def z6f (K : Nat) (p0 : Q) : Option Int := (Option.bind (((z2p K p0.num).bind fun x12 => (if (decide (x12 > 2000)) = true then some true else ((z2p K p0.den).bind fun x30 => some (decide (x30 > 2000)))))) (tu1 fun x41 => (if x41 = true then some 2 else some 0)))
theorem zcx (v0 : List Value) (p0 : Q) (hp0 : T_Q.rep G v0 p0) (O : Ow G H (L)) (r : Int) (h : z6f K p0 = some r) :
    CR Tryz.prog 89 [.agg v0.toArray] G H (L) (fun v G' _ => v = .int .i64 r) := by
 unfold z6f at h
 refine CR.og (n := 13) (fn := Tryz.f89) (by kernel_rfl) rfl rfl fun R kr => (.seq (.region (W.ln (Lo.box (r := T_Q) (x0 := p0) (v := (.agg v0.toArray)) rfl rfl hp0 O) ?_)))
 rintro v4 H5 ⟨b2, rfl, O1, sm3⟩
 refine W.p1 (.int .i64 0) (.nil (.seq (.seq ?_)))
 obtain ⟨q6, h7, h8⟩ := z01 h
 refine AW.midT (fun σ' H' => ∃ (y1 : Bool) (G' : GM), y1 = q6 /\ Ow G' H' (eVar b2 96 T_Q p0 :: L) /\ GM.le G G' /\ σ' 12 = .bool y1) ?_ ?_
 rotate_left
 .rintro σ42 H43 fr44 ⟨x41, G45, rfl, O46, s47, t49⟩
  have h50 := z09 h8
  refine .cond (b := x41) rfl t49 (fun g51 => ?_) (fun g51 => ?_)
  .have h52 := z05 g51 h50
   refine .seq (.region (W.p1 (.int .i64 2) (.nil (.ret ?_))))
   have O53 := O46.drop 0
   obtain rfl := zAa h52
   exact z1b kr (v1 := (.int .i64 2)) (by rfl) rt O53 s47 rfl
  have h54 := z0h g51 h50
  refine .skip (.seq (.region (W.p1 (.int .i64 0) (.nil (.ret ?_)))))
  have O55 := O46.drop 0
  obtain rfl := zAa h54
  exact z1b kr (v1 := (.int .i64 0)) (by rfl) rt O55 s47 rfl
 refine .region (W.pv (padd (.pointer (some ⟨b2, 0, none⟩)) 1) (z31 z72 ov (O1.atVar (j := 0) rfl)) ?_)
 obtain ⟨w9, p10, f11⟩ := At.sl (At.proj (O1.atVar (j := 0) rfl) z4a)
 refine W.load1 (v := w9) (r := []) rfl rfl ag94 (z0z rfl p10) ?_
 obtain ⟨x12, i13, h14⟩ := z01 h7
 refine W.ln (Lo.cP rfl (fn := Tryz.f144) (by kernel_rfl) rfl (mc rfl mn) O1 (fun L' O' => z71 K w9 p0.num f11 O' _ i13)) ?_
 rintro v21 H22 ⟨G15, O16, s17, sm20, rfl⟩
 refine W.p3 (.bool (decide (x12 > 2000))) (W.p2 (.bool (decide (x12 > 2000))) (W.splitAt (t := 7) (b := decide (x12 > 2000)) rfl (fun g23 gv24 => ?_) (fun g23 gv24 => ?_)))
 .have h25 := z05 g23 h14
  refine W.q6 rfl gv24 (W.q6 rfl gv24 (W.q6 rfl gv24 (W.q6 rfl gv24 (W.q4 (.bool true) gv24 rfl (.nil ?_)))))
  obtain rfl := zAa h25
  exact ⟨true, _, rfl, O16, s17, rfl⟩
 have h26 := z0h g23 h14
 refine W.pure (v := (padd (.pointer (some ⟨b2, 0, none⟩)) 2)) (gk rfl rfl gv24 rfl) rfl (z31 zhf ov (O16.atVar (j := 0) rfl)) ?_
 obtain ⟨w27, p28, f29⟩ := At.sl (At.proj (O16.atVar (j := 0) rfl) zeu)
 refine W.load1 (v := w27) (r := []) (gk rfl rfl gv24 rfl) rfl ag94 (z0z rfl p28) ?_
 obtain ⟨x30, i31, h32⟩ := z01 h26
 refine W.lo (gk rfl rfl gv24 rfl) rfl (Lo.cP rfl (fn := Tryz.f144) (by kernel_rfl) rfl (mc rfl mn) O16 (fun L' O' => z71 K w27 p0.den f29 O' _ i31)) ?_
 rintro v39 H40 ⟨G33, O34, s35, sm38, rfl⟩
 refine W.q3 (hg := gk rfl rfl gv24 rfl) (.bool (decide (x30 > 2000))) rfl rfl (W.q5 (.bool (decide (x30 > 2000))) gv24 rfl (.nil ?_))
 obtain rfl := zAa h32
 exact ⟨decide (x30 > 2000), _, rfl, O34, (zAe s17 s35), rfl⟩
def z6g (K : Nat) (p0 : Q) : Option zAd := (if ((List.length p0.num : Int) == 0) = true then some (⟨#[48]⟩ : zAd) else ((z3n K p0.num).bind fun x16 => (Option.bind ((if p0.neg = true then (if ((⟨#[45]⟩ : zAd)).size + (x16).size <= 4611686018427387904 then some ((⟨#[45]⟩ : zAd) ++ x16) else none) else some x16)) (tu1 fun x35 => ((z0y K p0).bind fun x48 => ((z3n K x48).bind fun x61 => (Option.bind ((if (!(sEq x61 (⟨#[49]⟩ : zAd))) = true then (if ((⟨#[47]⟩ : zAd)).size + (x61).size <= 4611686018427387904 then (if (x35).size + (((⟨#[47]⟩ : zAd) ++ x61)).size <= 4611686018427387904 then some (x35 ++ ((⟨#[47]⟩ : zAd) ++ x61)) else none) else none) else some x35)) (tu1 fun x82 => some x82))))))))
theorem zc1 (v0 : List Value) (p0 : Q) (hp0 : T_Q.rep G v0 p0) (O : Ow G H (L)) (r : zAd) (h : z6g K p0 = some r) :
    CR Tryz.prog 90 [.agg v0.toArray] G H (L) (fun v G' _ => v = .string r) := by
 unfold z6g at h
 refine CR.og (n := 26) (fn := Tryz.f90) (by kernel_rfl) rfl rfl fun R kr => (.seq (.region (W.ln (Lo.box (r := T_Q) (x0 := p0) (v := (.agg v0.toArray)) rfl rfl hp0 O) ?_)))
 rintro v4 H5 ⟨b2, rfl, O1, sm3⟩
 refine W.p1 (.string (⟨#[]⟩ : zAd)) (.nil (.seq (.seq (.region (W.pv (padd (.pointer (some ⟨b2, 0, none⟩)) 1) (z31 z72 ov (O1.atVar (j := 0) rfl)) ?_)))))
 obtain ⟨w6, p7, f8⟩ := At.sl (At.proj (O1.atVar (j := 0) rfl) z4a)
 refine W.load1 (v := w6) (r := []) rfl rfl ag94 (z0z rfl p7) (W.pv (.int .i64 (List.length p0.num : Int)) (z0k ov (z0d f8) (z04 el94)) (W.p3 (.bool ((List.length p0.num : Int) == 0)) (.nil (.cond (b := ((List.length p0.num : Int) == 0)) rfl rfl (fun g9 => ?_) (fun g9 => ?_)))))
 .have h10 := z05 g9 h
  refine .seq (.region (W.p1 (.string (⟨#[48]⟩ : zAd)) (.nil (.ret ?_))))
  have O11 := O1.drop 0
  obtain rfl := zAa h10
  exact z1b kr (v1 := (.string (⟨#[48]⟩ : zAd))) (by rfl) rt O11 (zAf _) rfl
 have h12 := z0h g9 h
 refine .skip (.seq (.region (W.pv (padd (.pointer (some ⟨b2, 0, none⟩)) 1) (z31 z72 ov (O1.atVar (j := 0) rfl)) ?_)))
 obtain ⟨w13, p14, f15⟩ := At.sl (At.proj (O1.atVar (j := 0) rfl) z4a)
 refine W.load1 (v := w13) (r := []) rfl rfl ag94 (z0z rfl p14) ?_
 obtain ⟨x16, i17, h18⟩ := z01 h12
 refine W.ln (Lo.cP rfl (fn := Tryz.f145) (by kernel_rfl) rfl (mc rfl mn) O1 (fun L' O' => z62 K w13 p0.num f15 O' _ i17)) ?_
 rintro v25 H26 ⟨G19, O20, s21, sm24, rfl⟩
 refine W.p1 (.string x16) (.nil (.seq (.seq (.region (W.pv (padd (.pointer (some ⟨b2, 0, none⟩)) 0) (z31 z9m ov (O20.atVar (j := 0) rfl)) (W.load1 (v := (.bool p0.neg)) (r := []) rfl rfl ag4 (z0z rfl (At.bool (At.proj (O20.atVar (j := 0) rfl) z70))) ?_))))))
 refine .nil ?_
 obtain ⟨q27, h28, h29⟩ := z01 h18
 refine AW.midT (fun σ' H' => ∃ (y1 : zAd) (G' : GM), y1 = q27 /\ Ow G' H' (eVar b2 96 T_Q p0 :: L) /\ GM.le G19 G' /\ σ' 3 = .string y1) ?_ ?_
 .refine .cond (b := p0.neg) rfl rfl (fun g30 => ?_) (fun g30 => ?_)
  rotate_left
  .have h34 := z0h g30 h28
   refine .skip ?_
   obtain rfl := zAa h34
   exact ⟨x16, _, rfl, O20, (zAf _), rfl⟩
  have h31 := z05 g30 h28
  refine .region (W.p2 (.string x16) ?_)
  obtain ⟨g32, h33⟩ := z2n h31
  refine W.pv (.string ((⟨#[45]⟩ : zAd) ++ x16)) (zao g32 ov ov) (W.p1 (.string ((⟨#[45]⟩ : zAd) ++ x16)) (.nil ?_))
  obtain rfl := zAa h33
  exact ⟨((⟨#[45]⟩ : zAd) ++ x16), _, rfl, O20, (zAf _), rfl⟩
 rintro σ36 H37 fr38 ⟨x35, G39, rfl, O40, s41, t43⟩
 have h44 := z09 h29
 refine .seq (.seq (.region ?_))
 obtain ⟨c45, p46, f47⟩ := (O40.atVar (j := 0) rfl)
 refine W.loadA (cs := c45) rfl rfl ag96 sz96 (z0z ((fr38 1 rfl).trans rfl) p46) (RT.len _ f47) ?_
 obtain ⟨x48, i49, h50⟩ := z01 h44
 refine W.ln (Lo.cP rfl (fn := Tryz.f140) (by kernel_rfl) rfl (mc rfl mn) O40 (fun L' O' => z15 K c45 p0 f47 O' _ i49)) ?_
 rintro v59 H60 ⟨G51, O52, s53, sm58, ⟨w55, rfl, f56⟩⟩
 obtain ⟨x61, i62, h63⟩ := z01 h50
 refine W.ln (Lo.cP rfl (fn := Tryz.f145) (by kernel_rfl) rfl (mc rfl mn) O52 (fun L' O' => z62 K w55 x48 f56 O' _ i62)) ?_
 rintro v70 H71 ⟨G64, O65, s66, sm69, rfl⟩
 refine W.p1 (.string x61) (.nil (.seq (.region (W.p2 (.string x61) (W.pv (.bool (!(sEq x61 (⟨#[49]⟩ : zAd)))) (zlo ov ov) (.nil ?_))))))
 obtain ⟨q72, h73, h74⟩ := z01 h63
 refine AW.midT (fun σ' H' => ∃ (y1 : zAd) (G' : GM), y1 = q72 /\ Ow G' H' (eVar b2 96 T_Q p0 :: L) /\ GM.le G64 G' /\ σ' 3 = .string y1) ?_ ?_
 rotate_left
 .rintro σ83 H84 fr85 ⟨x82, G86, rfl, O87, s88, t90⟩
  have h91 := z09 h74
  refine .seq (.region (W.q2 _ t90 (W.p1 (.string x82) (.nil (.ret ?_)))))
  have O92 := O87.drop 0
  obtain rfl := zAa h91
  exact z1b kr (v1 := (.string x82)) (by rfl) rt O92 (zAe s21 (zAe s41 (zAe s53 (zAe s66 s88)))) rfl
 refine .cond (b := (!(sEq x61 (⟨#[49]⟩ : zAd)))) rfl rfl (fun g75 => ?_) (fun g75 => ?_)
 rotate_left
 .have h81 := z0h g75 h73
  refine .skip ?_
  obtain rfl := zAa h81
  exact ⟨x35, _, rfl, O65, (zAf _), t43⟩
 have h76 := z05 g75 h73
 refine .region (W.q2 _ t43 (W.p2 (.string x61) ?_))
 obtain ⟨g77, h78⟩ := z2n h76
 refine W.pv (.string ((⟨#[47]⟩ : zAd) ++ x61)) (zao g77 ov ov) ?_
 obtain ⟨g79, h80⟩ := z2n h78
 refine W.pv (.string (x35 ++ ((⟨#[47]⟩ : zAd) ++ x61))) (zao g79 ov ov) (W.p1 (.string (x35 ++ ((⟨#[47]⟩ : zAd) ++ x61))) (.nil ?_))
 obtain rfl := zAa h80
 exact ⟨(x35 ++ ((⟨#[47]⟩ : zAd) ++ x61)), _, rfl, O65, (zAf _), rfl⟩
end Go.Am.Tryz
/- Typed functions with the same answers as the program's, and the walks that show it. -/
namespace Go.Am.Tryz
open Go Go.Am Go.Proofs
variable (K : Nat) {G : GM} {H : AH} {L : List Pc}
def z0v (K : Nat) (p0 : zAd) : Nat -> Int -> Option (Int ⊕ Unit)
  | 0, _ => none
  | k + 1, x8 => (if (decide (x8 < (p0.size : Int))) = true then (Option.bind (((bidx p0 x8).bind fun x22 => (if (decide (x22 < 48)) = true then some true else ((bidx p0 x8).bind fun x29 => some (decide (x29 > 57)))))) (tu1 fun x32 => (if x32 = true then some (.inl 5) else z0v K p0 k (z03 .i64 (x8 + 1))))) else some (.inr ()))
def z4e (K : Nat) (p0 : zAd) : Option Int := (if ((p0.size : Int) == 0) = true then some 5 else (zbs (z0v K p0 K 0) (tu1 fun a81 => some a81) (tu0 (Option.bind ((if (decide ((p0.size : Int) > 1)) = true then ((bidx p0 0).bind fun x61 => some (x61 == 48)) else some false)) (tu1 fun x65 => (if x65 = true then some 5 else (if (decide ((p0.size : Int) > 2000)) = true then some 2 else some 0)))))))
theorem z7y (p0 : zAd) (O : Ow G H (L)) (r : Int) (h : z4e K p0 = some r) :
    CR Tryz.prog 59 [(.string p0)] G H (L) (fun v G' _ => v = .int .i64 r) := by
 unfold z4e at h
 refine CR.og (n := 34) (fn := Tryz.f59) (by kernel_rfl) rfl rfl fun R kr => (.seq (.region (W.p1 (.int .i64 0) (.nil (.seq (.seq ?_))))))
 refine .region (W.p2 (.string p0) (W.pv (.int .i64 (p0.size : Int)) (z18 ov un9) (W.p3 (.bool ((p0.size : Int) == 0)) (.nil (.cond (b := ((p0.size : Int) == 0)) rfl rfl (fun g1 => ?_) (fun g1 => ?_))))))
 .have h2 := z05 g1 h
  refine .seq (.region (W.p1 (.int .i64 5) (.nil (.ret ?_))))
  obtain rfl := zAa h2
  exact z1b kr (v1 := (.int .i64 5)) (by rfl) rt O (zAf _) rfl
 have h3 := z0h g1 h
 refine .skip (.seq (.seq (.region (W.p1 (.int .i64 0) (.nil ?_)))))
 obtain ⟨q4, h5, h6⟩ := z3j h3
 refine AW.midT (fun σ' H' => ∃  (G' : GM), (.inr ()) = q4 /\ Ow G' H' (L) /\ GM.le G G') ?_ ?_
 rotate_left
 .rintro σ47 H48 fr49 ⟨G50, rfl, O51, s52⟩
  have h54 := z7a (z9l h6)
  refine .seq (.seq ?_)
  obtain ⟨q55, h56, h57⟩ := z01 h54
  refine AW.midT (fun σ' H' => ∃ (y1 : Bool) (G' : GM), y1 = q55 /\ Ow G' H' (L) /\ GM.le G50 G' /\ σ' 30 = .bool y1) ?_ ?_
  .refine .region (W.q2 (.string p0) ((fr49 0 rfl).trans rfl) (W.pv (.int .i64 (p0.size : Int)) (z18 ov un9) (W.p3 (.bool (decide ((p0.size : Int) > 1))) (W.p2 (.bool (decide ((p0.size : Int) > 1))) (W.splitAt (t := 26) (b := decide ((p0.size : Int) > 1)) rfl (fun g58 gv59 => ?_) (fun g58 gv59 => ?_))))))
   rotate_left
   .have h64 := z0h g58 h56
    refine W.q6 rfl gv59 (W.q6 rfl gv59 (W.q6 rfl gv59 (W.q5 (.bool false) gv59 rfl (.nil ?_))))
    obtain rfl := zAa h64
    exact ⟨false, _, rfl, O51, (zAf _), rfl⟩
   have h60 := z05 g58 h56
   refine W.q2 (hg := gk rfl rfl gv59 rfl) (.string p0) ((fr49 0 rfl).trans rfl) ?_
   obtain ⟨x61, i62, h63⟩ := z01 h60
   refine W.pure (v := (.int .u8 x61)) (gk rfl rfl gv59 rfl) rfl (z8h un9 ov ov i62) (W.q3 (hg := gk rfl rfl gv59 rfl) (.bool (x61 == 48)) rfl rfl (W.q4 (.bool (x61 == 48)) gv59 rfl (.nil ?_)))
   obtain rfl := zAa h63
   exact ⟨(x61 == 48), _, rfl, O51, (zAf _), rfl⟩
  rintro σ66 H67 fr68 ⟨x65, G69, rfl, O70, s71, t73⟩
  have h74 := z09 h57
  refine .cond (b := x65) rfl t73 (fun g75 => ?_) (fun g75 => ?_)
  .have h76 := z05 g75 h74
   refine .seq (.region (W.p1 (.int .i64 5) (.nil (.ret ?_))))
   obtain rfl := zAa h76
   exact z1b kr (v1 := (.int .i64 5)) (by rfl) rt O70 (zAe s52 s71) rfl
  have h77 := z0h g75 h74
  refine .skip (.seq (.seq (.region (W.q2 (.string p0) ((fr68 0 rfl).trans ((fr49 0 rfl).trans rfl)) (W.pv (.int .i64 (p0.size : Int)) (z18 ov un9) (W.p3 (.bool (decide ((p0.size : Int) > 2000))) ?_))))))
  refine .nil (.cond (b := decide ((p0.size : Int) > 2000)) rfl rfl (fun g78 => ?_) (fun g78 => ?_))
  .have h79 := z05 g78 h77
   refine .seq (.region (W.p1 (.int .i64 2) (.nil (.ret ?_))))
   obtain rfl := zAa h79
   exact z1b kr (v1 := (.int .i64 2)) (by rfl) rt O70 (zAe s52 s71) rfl
  have h80 := z0h g78 h77
  refine .skip (.seq (.region (W.p1 (.int .i64 0) (.nil (.ret ?_)))))
  obtain rfl := zAa h80
  exact z1b kr (v1 := (.int .i64 0)) (by rfl) rt O70 (zAe s52 s71) rfl
 refine .block (AW.loop (α := Nat) (fun k' σ' H' => ∃ (y1 : Int) (G' : GM), z0v K p0 k' y1 = some q4 /\ Ow G' H' (L) /\ GM.le G G' /\ σ' 3 = .int .i64 y1) (fun k' => k') K ⟨0, _, h5, O, (zAf _), rfl⟩ ?_)
 rintro k7
 rintro σ9 H10 fr11 ⟨x8, G12, h15, O13, s14, t16⟩
 rcases k7 with _ | k7
 .exact z07 h15
 rw [z0v] at h15
 refine .seq (.seq (.region (W.q2 _ t16 (W.q2 (.string p0) ((fr11 0 rfl).trans rfl) (W.pv (.int .i64 (p0.size : Int)) (z18 ov un9) (W.p3 (.bool (decide (x8 < (p0.size : Int)))) ?_))))))
 refine .nil (.cond (b := decide (x8 < (p0.size : Int))) rfl rfl (fun g17 => ?_) (fun g17 => ?_))
 rotate_left
 .have h46 := z0h g17 h15
  refine .exit ?_
  obtain rfl := zAa h46
  exact ⟨_, rfl, O13, s14⟩
 have h18 := z05 g17 h15
 refine .skip (.seq (.block (.seq ?_)))
 obtain ⟨q19, h20, h21⟩ := z01 h18
 refine AW.midT (fun σ' H' => ∃ (y1 : Bool) (G' : GM), y1 = q19 /\ Ow G' H' (L) /\ GM.le G12 G' /\ σ' 22 = .bool y1) ?_ ?_
 rotate_left
 .rintro σ33 H34 fr35 ⟨x32, G36, rfl, O37, s38, t40⟩
  have h41 := z09 h21
  refine .cond (b := x32) rfl t40 (fun g42 => ?_) (fun g42 => ?_)
  .have h43 := z05 g42 h41
   refine .seq (.region (W.p1 (.int .i64 5) (.nil (.ret ?_))))
   obtain rfl := zAa h43
   have h44 := z09 (z7t h6)
   obtain rfl := zAa h44
   exact z1b kr (v1 := (.int .i64 5)) (by rfl) rt O37 (zAe s14 s38) rfl
  have h45 := z0h g42 h41
  refine .skip (.region (W.q2 _ ((fr35 3 rfl).trans t16) (W.p3 (.int .i64 (z03 .i64 (x8 + 1))) (W.p1 (.int .i64 (z03 .i64 (x8 + 1))) (.nil ?_)))))
  exact ⟨k7, zAg _, ⟨z03 .i64 (x8 + 1), _, h45, O37, (zAe s14 s38), rfl⟩⟩
 refine .region (W.q2 (.string p0) ((fr11 0 rfl).trans rfl) (W.q2 _ t16 ?_))
 obtain ⟨x22, i23, h24⟩ := z01 h20
 refine W.pv (.int .u8 x22) (z8h un9 ov ov i23) (W.p3 (.bool (decide (x22 < 48))) (W.p2 (.bool (decide (x22 < 48))) (W.splitAt (t := 17) (b := decide (x22 < 48)) rfl (fun g25 gv26 => ?_) (fun g25 gv26 => ?_))))
 .have h27 := z05 g25 h24
  refine W.q6 rfl gv26 (W.q6 rfl gv26 (W.q6 rfl gv26 (W.q6 rfl gv26 (W.q4 (.bool true) gv26 rfl (.nil ?_)))))
  obtain rfl := zAa h27
  exact ⟨true, _, rfl, O13, (zAf _), rfl⟩
 have h28 := z0h g25 h24
 refine W.q2 (hg := gk rfl rfl gv26 rfl) (.string p0) ((fr11 0 rfl).trans rfl) (W.q2 (hg := gk rfl rfl gv26 rfl) _ t16 ?_)
 obtain ⟨x29, i30, h31⟩ := z01 h28
 refine W.pure (v := (.int .u8 x29)) (gk rfl rfl gv26 rfl) rfl (z8h un9 ov ov i30) (W.q3 (hg := gk rfl rfl gv26 rfl) (.bool (decide (x29 > 57))) rfl rfl (W.q5 (.bool (decide (x29 > 57))) gv26 rfl (.nil ?_)))
 obtain rfl := zAa h31
 exact ⟨decide (x29 > 57), _, rfl, O13, (zAf _), rfl⟩
def z4f (K : Nat) : Nat -> zAd -> Option (zAd)
  | 0, _ => none
  | k + 1, x5 => (Option.bind ((if (decide ((x5.size : Int) > 1)) = true then ((bidx x5 0).bind fun x20 => some (x20 == 48)) else some false)) (tu1 fun x24 => (if x24 = true then ((ssl x5 1 (x5.size : Int)).bind fun x36 => z4f K k x36) else some x5)))
def z5s (K : Nat) (p0 : zAd) : Option zAd := (Option.bind (z4f K K p0) (tu1 fun x40 => some x40))
theorem z6t (p0 : zAd) (O : Ow G H (L)) (r : zAd) (h : z5s K p0 = some r) :
    CR Tryz.prog 162 [(.string p0)] G H (L) (fun v G' _ => v = .string r) := by
 unfold z5s at h
 refine CR.og (n := 14) (fn := Tryz.f162) (by kernel_rfl) rfl rfl fun R kr => (.seq (.region (W.p1 (.string (⟨#[]⟩ : zAd)) (.nil (.seq ?_)))))
 obtain ⟨q1, h2, h3⟩ := z01 h
 refine AW.midT (fun σ' H' => ∃ (y1 : zAd) (G' : GM), y1 = q1 /\ Ow G' H' (L) /\ GM.le G G' /\ σ' 0 = .string y1) ?_ ?_
 rotate_left
 .rintro σ41 H42 fr43 ⟨x40, G44, rfl, O45, s46, t48⟩
  have h49 := z09 h3
  refine .seq (.region (W.q2 _ t48 (W.p1 (.string x40) (.nil (.ret ?_)))))
  obtain rfl := zAa h49
  exact z1b kr (v1 := (.string x40)) (by rfl) rt O45 s46 rfl
 refine .block (AW.loop (α := Nat) (fun k' σ' H' => ∃ (y1 : zAd) (G' : GM), z4f K k' y1 = some q1 /\ Ow G' H' (L) /\ GM.le G G' /\ σ' 0 = .string y1) (fun k' => k') K ⟨p0, _, h2, O, (zAf _), rfl⟩ ?_)
 rintro k4
 rintro σ6 H7 fr8 ⟨x5, G9, h12, O10, s11, t13⟩
 rcases k4 with _ | k4
 .exact z07 h12
 rw [z4f] at h12
 refine .seq (.seq ?_)
 obtain ⟨q14, h15, h16⟩ := z01 h12
 refine AW.midT (fun σ' H' => ∃ (y1 : Bool) (G' : GM), y1 = q14 /\ Ow G' H' (L) /\ GM.le G9 G' /\ σ' 10 = .bool y1) ?_ ?_
 rotate_left
 .rintro σ25 H26 fr27 ⟨x24, G28, rfl, O29, s30, t32⟩
  have h33 := z09 h16
  refine .cond (b := x24) rfl t32 (fun g34 => ?_) (fun g34 => ?_)
  rotate_left
  .have h39 := z0h g34 h33
   refine .exit ?_
   obtain rfl := zAa h39
   exact ⟨x5, _, rfl, O29, (zAe s11 s30), ((fr27 0 rfl).trans t13)⟩
  have h35 := z05 g34 h33
  refine .skip (.block (.region (W.q2 _ ((fr27 0 rfl).trans t13) ?_)))
  obtain ⟨x36, i37, h38⟩ := z01 h35
  refine W.pv (.string x36) (zct un9 ov ov i37) (W.p1 (.string x36) (.nil ?_))
  exact ⟨k4, zAg _, ⟨x36, _, h38, O29, (zAe s11 s30), rfl⟩⟩
 refine .region (W.q2 _ t13 (W.pv (.int .i64 (x5.size : Int)) (z18 ov un9) (W.p3 (.bool (decide ((x5.size : Int) > 1))) (W.p2 (.bool (decide ((x5.size : Int) > 1))) (W.splitAt (t := 6) (b := decide ((x5.size : Int) > 1)) rfl (fun g17 gv18 => ?_) (fun g17 gv18 => ?_))))))
 rotate_left
 .have h23 := z0h g17 h15
  refine W.q6 rfl gv18 (W.q6 rfl gv18 (W.q6 rfl gv18 (W.q5 (.bool false) gv18 rfl (.nil ?_))))
  obtain rfl := zAa h23
  exact ⟨false, _, rfl, O10, (zAf _), rfl⟩
 have h19 := z05 g17 h15
 refine W.q2 (hg := gk rfl rfl gv18 rfl) _ t13 ?_
 obtain ⟨x20, i21, h22⟩ := z01 h19
 refine W.pure (v := (.int .u8 x20)) (gk rfl rfl gv18 rfl) rfl (z8h un9 ov ov i21) (W.q3 (hg := gk rfl rfl gv18 rfl) (.bool (x20 == 48)) rfl rfl (W.q4 (.bool (x20 == 48)) gv18 rfl (.nil ?_)))
 obtain rfl := zAa h22
 exact ⟨(x20 == 48), _, rfl, O10, (zAf _), rfl⟩
def z6h (K : Nat) (p0 : zAd) (p1 : zAd) : Option Int := (if (decide ((p0.size : Int) < (p1.size : Int))) = true then some (-1) else (if (decide ((p0.size : Int) > (p1.size : Int))) = true then some 1 else (if (sLt p0 p1) = true then some (-1) else (if (!(sLt p0 p1 || sEq p0 p1)) = true then some 1 else some 0))))
theorem z9e (p0 : zAd) (p1 : zAd) (O : Ow G H (L)) (r : Int) (h : z6h K p0 p1 = some r) :
    CR Tryz.prog 97 [(.string p0), (.string p1)] G H (L) (fun v G' _ => v = .int .i64 r) := by
 unfold z6h at h
 refine CR.og (n := 25) (fn := Tryz.f97) (by kernel_rfl) rfl rfl fun R kr => (.seq (.region (W.p1 (.int .i64 0) (.nil (.seq (.block ?_))))))
 refine .seq (.region (W.p2 (.string p0) (W.pv (.int .i64 (p0.size : Int)) (z18 ov un9) (W.p2 (.string p1) (W.pv (.int .i64 (p1.size : Int)) (z18 ov un9) (W.p3 (.bool (decide ((p0.size : Int) < (p1.size : Int)))) ?_))))))
 refine W.p1 (.bool (decide ((p0.size : Int) < (p1.size : Int)))) (.nil (.cond (b := decide ((p0.size : Int) < (p1.size : Int))) rfl rfl (fun g1 => ?_) (fun g1 => ?_)))
 .have h2 := z05 g1 h
  refine .seq (.region (W.p1 (.int .i64 (-1)) (.nil (.ret ?_))))
  obtain rfl := zAa h2
  exact z1b kr (v1 := (.int .i64 (-1))) (by rfl) rt O (zAf _) rfl
 have h3 := z0h g1 h
 refine .seq (.region (W.p2 (.string p0) (W.pv (.int .i64 (p0.size : Int)) (z18 ov un9) (W.p2 (.string p1) (W.pv (.int .i64 (p1.size : Int)) (z18 ov un9) (W.p3 (.bool (decide ((p0.size : Int) > (p1.size : Int)))) ?_))))))
 refine W.p1 (.bool (decide ((p0.size : Int) > (p1.size : Int)))) (.nil (.cond (b := decide ((p0.size : Int) > (p1.size : Int))) rfl rfl (fun g4 => ?_) (fun g4 => ?_)))
 .have h5 := z05 g4 h3
  refine .seq (.region (W.p1 (.int .i64 1) (.nil (.ret ?_))))
  obtain rfl := zAa h5
  exact z1b kr (v1 := (.int .i64 1)) (by rfl) rt O (zAf _) rfl
 have h6 := z0h g4 h3
 refine .seq (.region (W.p2 (.string p0) (W.p2 (.string p1) (W.pv (.bool (sLt p0 p1)) (zow ov ov) (W.p1 (.bool (sLt p0 p1)) (.nil ?_))))))
 refine .cond (b := sLt p0 p1) rfl rfl (fun g7 => ?_) (fun g7 => ?_)
 .have h8 := z05 g7 h6
  refine .seq (.region (W.p1 (.int .i64 (-1)) (.nil (.ret ?_))))
  obtain rfl := zAa h8
  exact z1b kr (v1 := (.int .i64 (-1))) (by rfl) rt O (zAf _) rfl
 have h9 := z0h g7 h6
 refine .seq (.region (W.p2 (.string p0) (W.p2 (.string p1) (W.pv (.bool (!(sLt p0 p1 || sEq p0 p1))) (zox ov ov) (W.p1 (.bool (!(sLt p0 p1 || sEq p0 p1))) (.nil ?_))))))
 refine .cond (b := (!(sLt p0 p1 || sEq p0 p1))) rfl rfl (fun g10 => ?_) (fun g10 => ?_)
 .have h11 := z05 g10 h9
  refine .seq (.region (W.p1 (.int .i64 1) (.nil (.ret ?_))))
  obtain rfl := zAa h11
  exact z1b kr (v1 := (.int .i64 1)) (by rfl) rt O (zAf _) rfl
 have h12 := z0h g10 h9
 refine .skip (.seq (.region (W.p1 (.int .i64 0) (.nil (.ret ?_)))))
 obtain rfl := zAa h12
 exact z1b kr (v1 := (.int .i64 0)) (by rfl) rt O (zAf _) rfl
def z4l (K : Nat) (p0 : zAd) (p1 : Int) : Option Int := (if (decide (p1 < (p0.size : Int))) = true then ((bidx p0 (z03 .i64 ((z03 .i64 ((p0.size : Int) - 1)) - p1))).bind fun x3 => some (IntKind.wrap .i64 (z03 .u8 (x3 - 48)))) else some 0)
theorem z4g (p0 : zAd) (p1 : Int) (O : Ow G H (L)) (r : Int) (h : z4l K p0 p1 = some r) :
    CR Tryz.prog 149 [(.string p0), (.int .i64 p1)] G H (L) (fun v G' _ => v = .int .i64 r) := by
 unfold z4l at h
 refine CR.og (n := 18) (fn := Tryz.f149) (by kernel_rfl) rfl rfl fun R kr => (.seq (.region (W.p1 (.int .i64 0) (.nil (.seq (.seq ?_))))))
 refine .region (W.p2 (.int .i64 p1) (W.p2 (.string p0) (W.pv (.int .i64 (p0.size : Int)) (z18 ov un9) (W.p3 (.bool (decide (p1 < (p0.size : Int)))) (.nil (.cond (b := decide (p1 < (p0.size : Int))) rfl rfl (fun g1 => ?_) (fun g1 => ?_)))))))
 rotate_left
 .have h6 := z0h g1 h
  refine .skip (.seq (.region (W.p1 (.int .i64 0) (.nil (.ret ?_)))))
  obtain rfl := zAa h6
  exact z1b kr (v1 := (.int .i64 0)) (by rfl) rt O (zAf _) rfl
 have h2 := z05 g1 h
 refine .seq (.region (W.p2 (.string p0) (W.p2 (.string p0) (W.pv (.int .i64 (p0.size : Int)) (z18 ov un9) (W.p3 (.int .i64 (z03 .i64 ((p0.size : Int) - 1))) (W.p2 (.int .i64 p1) ?_))))))
 refine W.p3 (.int .i64 (z03 .i64 ((z03 .i64 ((p0.size : Int) - 1)) - p1))) ?_
 obtain ⟨x3, i4, h5⟩ := z01 h2
 refine W.pv (.int .u8 x3) (z8h un9 ov ov i4) (W.p3 (.int .u8 (z03 .u8 (x3 - 48))) (W.pv (.int .i64 (IntKind.wrap .i64 (z03 .u8 (x3 - 48)))) (z3f in5 in3 ov) (W.p1 (.int .i64 (IntKind.wrap .i64 (z03 .u8 (x3 - 48)))) (.nil (.ret ?_)))))
 obtain rfl := zAa h5
 exact z1b kr (v1 := (.int .i64 (IntKind.wrap .i64 (z03 .u8 (x3 - 48))))) (by rfl) rt O (zAf _) rfl
def z2e (K : Nat) (p0 : List Int) : Nat -> List Int -> Int -> Option (List Int)
  | 0, _, _ => none
  | k + 1, x11, x12 => (if (decide (x12 < (p0.length : Int))) = true then ((idx p0 x12).bind fun x23 => ((idx x11 (z03 .i64 ((z03 .i64 ((p0.length : Int) - 1)) - x12))).bind fun x27 => z2e K p0 k (List.set x11 (Int.toNat (z03 .i64 ((z03 .i64 ((p0.length : Int) - 1)) - x12))) (IntKind.wrap .u8 (z03 .i64 ((48 : Int) + x23)))) (z03 .i64 (x12 + 1)))) else some x11)
def z84 (K : Nat) (p0 : List Int) : Option zAd := (if 0 <= (p0.length : Int) /\ (p0.length : Int) <= (p0.length : Int) /\ (p0.length : Int) <= 16777216 then (Option.bind (z2e K p0 K (List.replicate (Int.toNat (p0.length : Int)) 0) 0) (tu1 fun x36 => (if 0 < x36.length then (if ((⟨#[48]⟩ : zAd)).size + ((strOfNums x36)).size <= 4611686018427387904 then ((z5s K ((⟨#[48]⟩ : zAd) ++ (strOfNums x36))).bind fun x52 => some x52) else none) else none))) else none)
theorem z98 (v0 : Value) (p0 : List Int) (hp0 : (rSl (rI .i64)).rep G [v0] p0) (O : Ow G H (L)) (r : zAd) (h : z84 K p0 = some r) :
    CR Tryz.prog 150 [v0] G H (L) (fun v G' _ => v = .string r) := by
 unfold z84 at h
 refine CR.og (n := 31) (fn := Tryz.f150) (by kernel_rfl) rfl rfl fun R kr => (.seq (.region (W.p1 (.string (⟨#[]⟩ : zAd)) (.nil (.seq (.region ?_))))))
 refine W.p2 v0 (W.pv (.int .i64 (p0.length : Int)) (z0k ov (z0d hp0) (z04 zb1)) ?_)
 obtain ⟨g2, h3⟩ := z2n h
 refine W.ln (Lo.makeSlice (r := (rI .u8)) (x0 := 0) (a := (p0.length : Int)) (c := (p0.length : Int)) rfl zg0 ze5 sz5 (by kernel_rfl) rfl by5 (by decide) rfl rfl g2 (zI .u8) O) ?_
 rintro v5 H6 ⟨O1, sm4⟩
 refine W.p1 v5 (.nil (.seq (.seq (.region (W.p2 v0 (W.pv (.int .i64 (p0.length : Int)) (z0k ov (z0d hp0) (z04 zb1)) ?_))))))
 refine W.p2 (.int .i64 0) (.nil ?_)
 obtain ⟨q7, h8, h9⟩ := z01 h3
 refine AW.midT (fun σ' H' => ∃ (y1 : List Int) (G' : GM), y1 = q7 /\ Ow G' H' (eSl v5 5 (rI .u8) y1 :: L) /\ GM.le G G') ?_ ?_
 rotate_left
 .rintro σ37 H38 fr39 ⟨x36, G40, rfl, O41, s42⟩
  have h44 := z09 h9
  refine .seq (.region (W.q2 v5 ((fr39 3 rfl).trans rfl) ?_))
  obtain ⟨es45, e46, e47⟩ := z68 (j := 0) rfl O41
  obtain ⟨g48, h49⟩ := z2n h44
  refine W.bytesStr rfl rfl zg0 in5 un9 e46 e47 g48 ?_
  obtain ⟨g50, h51⟩ := z2n h49
  refine W.pv (.string ((⟨#[48]⟩ : zAd) ++ (strOfNums x36))) (zao g50 ov ov) ?_
  obtain ⟨x52, i53, h54⟩ := z01 h51
  refine W.ln (Lo.cP rfl (fn := Tryz.f162) (by kernel_rfl) rfl (mc rfl mn) O41 (fun L' O' => z6t K ((⟨#[48]⟩ : zAd) ++ (strOfNums x36)) O' _ i53)) ?_
  rintro v61 H62 ⟨G55, O56, s57, sm60, rfl⟩
  refine W.p1 (.string x52) (.nil (.ret ?_))
  have O63 := O56.drop 0
  obtain rfl := zAa h54
  exact z1b kr (v1 := (.string x52)) (by rfl) rt O63 (zAe s42 s57) rfl
 refine .block (AW.loop (α := Nat) (fun k' σ' H' => ∃ (y1 : List Int) (y2 : Int) (G' : GM), z2e K p0 k' y1 y2 = some q7 /\ Ow G' H' (eSl v5 5 (rI .u8) y1 :: L) /\ GM.le G G' /\ σ' 11 = .int .i64 y2) (fun k' => k') K ⟨(List.replicate (Int.toNat (p0.length : Int)) 0), 0, _, h8, O1, (zAf _), rfl⟩ ?_)
 rintro k10
 rintro σ13 H14 fr15 ⟨x11, x12, G16, h19, O17, s18, t20⟩
 rcases k10 with _ | k10
 .exact z07 h19
 rw [z2e] at h19
 refine .seq (.region (W.q3 (.bool (decide (x12 < (p0.length : Int)))) t20 ((fr15 10 rfl).trans rfl) (.nil (.seq (.cond (b := decide (x12 < (p0.length : Int))) rfl rfl (fun g21 => ?_) (fun g21 => ?_))))))
 rotate_left
 .have h35 := z0h g21 h19
  refine .exit ?_
  obtain rfl := zAa h35
  exact ⟨x11, _, rfl, O17, s18⟩
 have h22 := z05 g21 h19
 refine .skip (.seq (.block (.seq (.region (W.q2 _ t20 ?_)))))
 obtain ⟨x23, i24, h25⟩ := z01 h22
 have j26 := z0a i24
 refine W.pv (z1o v0 (x12.toNat * 1)) (z2f zb1 sz3 (ou ((fr15 9 rfl).trans rfl)) (ou t20) (z0d (RT.mono _ s18 hp0)) j26.1 j26.2.1) (W.load1 (v := (.int .i64 x23)) (r := []) rfl rfl ag3 (z0z rfl (At.int (At.le (At.le (z2g hp0 j26.2.2) s18 s18) (zAf _) O17.fro))) (W.p1 (.int .i64 x12) (W.p1 (.int .i64 x23) (.nil (.region (W.q2 v5 ((fr15 3 rfl).trans rfl) ?_))))))
 refine W.q2 v0 ((fr15 0 rfl).trans rfl) (W.pv (.int .i64 (p0.length : Int)) (z0k ov (z0d (RT.mono _ s18 hp0)) (z04 zb1)) (W.p3 (.int .i64 (z03 .i64 ((p0.length : Int) - 1))) (W.p2 (.int .i64 x12) (W.p3 (.int .i64 (z03 .i64 ((z03 .i64 ((p0.length : Int) - 1)) - x12))) (W.p2 (.int .i64 x23) (W.p3 (.int .i64 (z03 .i64 ((48 : Int) + x23))) ?_))))))
 refine W.pv (.int .u8 (IntKind.wrap .u8 (z03 .i64 ((48 : Int) + x23)))) (z3f in3 in5 ov) ?_
 obtain ⟨x27, i28, h29⟩ := z01 h25
 have j30 := z0a i28
 refine W.pv (z1o v5 (Int.toNat (z03 .i64 ((z03 .i64 ((p0.length : Int) - 1)) - x12)) * 1)) (z2f zg0 sz5 ov ov (O17.slLen (j := 0) rfl) j30.1 j30.2.1) (W.ln (Lo.storeSl0 (j := 0) (y0 := IntKind.wrap .u8 (z03 .i64 ((48 : Int) + x23))) (v := (.int .u8 (IntKind.wrap .u8 (z03 .i64 ((48 : Int) + x23))))) rfl j30.2.2  rfl sz5 rfl rfl rfl O17) ?_)
 rintro v33 H34 ⟨O31, sm32⟩
 refine .nil (.region (W.r3 (.int .i64 (z03 .i64 (x12 + 1))) t20 (W.p2 (.int .i64 (z03 .i64 (x12 + 1))) (.nil ?_))))
 exact ⟨k10, zAg _, ⟨(List.set x11 (Int.toNat (z03 .i64 ((z03 .i64 ((p0.length : Int) - 1)) - x12))) (IntKind.wrap .u8 (z03 .i64 ((48 : Int) + x23)))), z03 .i64 (x12 + 1), _, h29, O31, s18, rfl⟩⟩
def z1y (K : Nat) (p0 : zAd) (p1 : zAd) : Nat -> List Int -> Int -> Int -> Option (List Int)
  | 0, _, _, _ => none
  | k + 1, x6, x7, x8 => (if (decide (x8 < (p0.size : Int))) = true then ((z4l K p0 x8).bind fun x20 => ((z4l K p1 x8).bind fun x31 => (Option.bind ((if (decide ((z03 .i64 ((z03 .i64 (x20 - x31)) - x7)) < 0)) = true then (lt (z03 .i64 ((z03 .i64 ((z03 .i64 (x20 - x31)) - x7)) + 10)) fun x47 => some (1, x47)) else some (0, z03 .i64 ((z03 .i64 (x20 - x31)) - x7)))) (tu2 fun x51 x52 => (if x6.length + List.length [x52] <= 16777216 then z1y K p0 p1 k (x6 ++ [x52]) x51 (z03 .i64 (x8 + 1)) else none))))) else some x6)
def z6i (K : Nat) (p0 : zAd) (p1 : zAd) : Option zAd := (Option.bind (z1y K p0 p1 K [] 0 0) (tu1 fun x78 => ((z84 K x78).bind fun x87 => some x87)))
theorem z9f (p0 : zAd) (p1 : zAd) (O : Ow G H (L)) (r : zAd) (h : z6i K p0 p1 = some r) :
    CR Tryz.prog 98 [(.string p0), (.string p1)] G H (L) (fun v G' _ => v = .string r) := by
 unfold z6i at h
 refine CR.og (n := 34) (fn := Tryz.f98) (by kernel_rfl) rfl rfl fun R kr => (.seq (.region (W.p1 (.string (⟨#[]⟩ : zAd)) (.nil (.seq (.region ?_))))))
 refine W.p1 (.slice none 0 0) (.nil (.seq (.region (W.p1 (.int .i64 0) (.nil (.seq ?_))))))
 refine .seq (.region (W.p2 (.string p0) (W.pv (.int .i64 (p0.size : Int)) (z18 ov un9) (W.p2 (.int .i64 0) (.nil ?_)))))
 obtain ⟨q1, h2, h3⟩ := z01 h
 refine AW.midT (fun σ' H' => ∃ (y1 : List Int) (G' : GM), y1 = q1 /\ Ow G' H' (eSl (σ' 5) 3 (rI .i64) y1 :: L) /\ GM.le G G') ?_ ?_
 rotate_left
 .rintro σ79 H80 fr81 ⟨x78, G82, rfl, O83, s84⟩
  have h86 := z09 h3
  refine .seq (.region (W.p2 (σ79 5) ?_))
  obtain ⟨x87, i88, h89⟩ := z01 h86
  refine W.ln (Lo.callB (j := 0) rfl rfl (fn := Tryz.f150) (by kernel_rfl) rfl (mc rfl mn) O83 (fun G' L' hG O' hB => z98 K (σ79 5) x78 hB O' _ i88)) ?_
  rintro v96 H97 ⟨G90, O91, s92, sm95, rfl⟩
  refine W.p1 (.string x87) (.nil (.ret ?_))
  have O98 := O91.drop 0
  obtain rfl := zAa h89
  exact z1b kr (v1 := (.string x87)) (by rfl) rt O98 (zAe s84 s92) rfl
 refine .block ?_
 have O4 := O.nilSl 3 (rI .i64)
 refine AW.loop (α := Nat) (fun k' σ' H' => ∃ (y1 : List Int) (y2 : Int) (y3 : Int) (G' : GM), z1y K p0 p1 k' y1 y2 y3 = some q1 /\ Ow G' H' (eSl (σ' 5) 3 (rI .i64) y1 :: L) /\ GM.le G G' /\ σ' 6 = .int .i64 y2 /\ σ' 11 = .int .i64 y3) (fun k' => k') K ⟨[], 0, 0, _, h2, O4, (zAf _), rfl, rfl⟩ ?_
 rintro k5
 rintro σ9 H10 fr11 ⟨x6, x7, x8, G12, h15, O13, s14, t16, t17⟩
 rcases k5 with _ | k5
 .exact z07 h15
 rw [z1y] at h15
 refine .seq (.region (W.q3 (.bool (decide (x8 < (p0.size : Int)))) t17 ((fr11 10 rfl).trans rfl) (.nil (.seq (.cond (b := decide (x8 < (p0.size : Int))) rfl rfl (fun g18 => ?_) (fun g18 => ?_))))))
 rotate_left
 .have h77 := z0h g18 h15
  refine .exit ?_
  obtain rfl := zAa h77
  exact ⟨x6, _, rfl, O13, s14⟩
 have h19 := z05 g18 h15
 refine .skip (.seq (.block (.seq (.region (W.q2 _ t17 (W.p1 (.int .i64 x8) ?_))))))
 refine .nil (.seq (.region (W.q2 (.string p0) ((fr11 0 rfl).trans rfl) (W.p2 (.int .i64 x8) ?_))))
 obtain ⟨x20, i21, h22⟩ := z01 h19
 refine W.ln (Lo.cP rfl (fn := Tryz.f149) (by kernel_rfl) rfl (mc rfl (mc rfl mn)) O13 (fun L' O' => z4g K p0 x8 O' _ i21)) ?_
 rintro v29 H30 ⟨G23, O24, s25, sm28, rfl⟩
 refine W.q2 (.string p1) ((fr11 1 rfl).trans rfl) (W.p2 (.int .i64 x8) ?_)
 obtain ⟨x31, i32, h33⟩ := z01 h22
 refine W.ln (Lo.cP rfl (fn := Tryz.f149) (by kernel_rfl) rfl (mc rfl (mc rfl mn)) O24 (fun L' O' => z4g K p1 x8 O' _ i32)) ?_
 rintro v40 H41 ⟨G34, O35, s36, sm39, rfl⟩
 refine W.p3 (.int .i64 (z03 .i64 (x20 - x31))) (W.q2 _ t16 (W.p3 (.int .i64 (z03 .i64 ((z03 .i64 (x20 - x31)) - x7))) (W.p1 (.int .i64 (z03 .i64 ((z03 .i64 (x20 - x31)) - x7))) (.nil (.seq (.region ?_))))))
 refine W.p1 (.int .i64 0) (.nil (.seq (.seq (.region (W.p2 (.int .i64 (z03 .i64 ((z03 .i64 (x20 - x31)) - x7))) (W.p3 (.bool (decide ((z03 .i64 ((z03 .i64 (x20 - x31)) - x7)) < 0))) ?_))))))
 refine .nil ?_
 obtain ⟨q42, h43, h44⟩ := z01 h33
 refine AW.midT (fun σ' H' => ∃ (y1 : Int) (y2 : Int) (G' : GM), (y1, y2) = q42 /\ Ow G' H' (eSl (σ9 5) 3 (rI .i64) x6 :: L) /\ GM.le G34 G' /\ σ' 6 = .int .i64 y1 /\ σ' 8 = .int .i64 y2) ?_ ?_
 .refine .cond (b := decide ((z03 .i64 ((z03 .i64 (x20 - x31)) - x7)) < 0)) rfl rfl (fun g45 => ?_) (fun g45 => ?_)
  rotate_left
  .have h50 := z0h g45 h43
   refine .skip ?_
   obtain rfl := zAa h50
   exact ⟨0, z03 .i64 ((z03 .i64 (x20 - x31)) - x7), _, rfl, O35, (zAf _), rfl, rfl⟩
  have h46 := z05 g45 h43
  refine .region (W.p2 (.int .i64 (z03 .i64 ((z03 .i64 (x20 - x31)) - x7))) (W.p3 (.int .i64 (z03 .i64 ((z03 .i64 ((z03 .i64 (x20 - x31)) - x7)) + 10))) ?_))
  obtain ⟨x47, e48, h49⟩ := z60 h46
  refine W.q1 _ (congrArg (Value.int .i64) e48) (W.p1 (.int .i64 1) (.nil ?_))
  obtain rfl := zAa h49
  exact ⟨1, x47, _, rfl, O35, (zAf _), rfl, rfl⟩
 rintro σ53 H54 fr55 ⟨x51, x52, G56, rfl, O57, s58, t60, t61⟩
 have h62 := z4s h44
 refine .region (W.q2 (σ9 5) ((fr55 5 rfl).trans rfl) (W.q2 _ t61 (W.ln (Lo.buildSlice (r := (rI .i64)) (vs := [(.int .i64 x52)]) (xs := [x52]) zb1 ze3 sz3 (by kernel_rfl) rfl (qc rfl qn) rfl (.cons rfl .nil) O57) ?_)))
 rintro v65 H66 ⟨O63, sm64⟩
 obtain ⟨es68, e69, e70⟩ := z68 (j := 0) rfl O63
 obtain ⟨g71, h72⟩ := z2n h62
 refine W.ln (Lo.append (j := 1) (v := (σ9 5)) rfl rfl zb1 zpl ze3 sz3 by3 (by decide) (by decide) rfl e69 e70 g71 O63) ?_
 rintro v74 H75 ⟨O67, sm73⟩
 refine W.p1 v74 (.nil (.region (W.q3 (.int .i64 (z03 .i64 (x8 + 1))) ((fr55 11 rfl).trans t17) rfl (W.p2 (.int .i64 (z03 .i64 (x8 + 1))) (.nil ?_)))))
 have O76 := O67.drop 0
 exact ⟨k5, zAg _, ⟨(x6 ++ [x52]), x51, z03 .i64 (x8 + 1), _, h72, O76, (zAe s14 (zAe s25 (zAe s36 s58))), t60, rfl⟩⟩
def z2i (K : Nat) (p1 : zAd) : Nat -> zAd -> Int -> Option (zAd × Int)
  | 0, _, _ => none
  | k + 1, x56, x57 => ((z6h K x56 p1).bind fun x67 => (if (decide (x67 >= 0)) = true then ((z6i K x56 p1).bind fun x80 => z2i K p1 k x80 (z03 .u8 (x57 + 1))) else some (x56, x57)))
def z2j (K : Nat) (p0 : zAd) (p1 : zAd) : Nat -> zAd -> zAd -> Int -> Option (zAd × zAd)
  | 0, _, _, _ => none
  | k + 1, x21, x22, x23 => (if (decide (x23 < (p0.size : Int))) = true then ((ssl p0 x23 (z03 .i64 (x23 + 1))).bind fun x36 => (if (x22).size + (x36).size <= 4611686018427387904 then ((z5s K (x22 ++ x36)).bind fun x41 => (Option.bind (z2i K p1 K x41 48) (tu2 fun x92 x93 => (if (x21).size + ((Utf8.encode x93)).size <= 4611686018427387904 then z2j K p0 p1 k (x21 ++ (Utf8.encode x93)) x92 (z03 .i64 (x23 + 1)) else none)))) else none)) else some (x21, x22))
def z5j (K : Nat) (p0 : zAd) (p1 : zAd) : Option (zAd × zAd) := ((ssl p0 0 (imin (p0.size : Int) (z03 .i64 ((p1.size : Int) - 1)))).bind fun x1 => (if ((⟨#[48]⟩ : zAd)).size + (x1).size <= 4611686018427387904 then ((z5s K ((⟨#[48]⟩ : zAd) ++ x1)).bind fun x6 => (Option.bind (z2j K p0 p1 K (⟨#[48]⟩ : zAd) x6 (imin (p0.size : Int) (z03 .i64 ((p1.size : Int) - 1)))) (tu2 fun x107 x108 => ((z5s K x107).bind fun x119 => some (x119, x108))))) else none))
theorem z7f (p0 : zAd) (p1 : zAd) (O : Ow G H (L)) (r : zAd × zAd) (h : z5j K p0 p1 = some r) :
    CR Tryz.prog 129 [(.string p0), (.string p1)] G H (L) (fun v G' _ => v = .tuple #[.string r.1, .string r.2]) := by
 unfold z5j at h
 refine CR.og (n := 53) (fn := Tryz.f129) (by kernel_rfl) rfl rfl fun R kr => (.seq (.region (W.p1 (.string (⟨#[]⟩ : zAd)) (W.p1 (.string (⟨#[]⟩ : zAd)) (.nil (.seq ?_))))))
 refine .region (W.p2 (.string p0) (W.pv (.int .i64 (p0.size : Int)) (z18 ov un9) (W.p2 (.string p1) (W.pv (.int .i64 (p1.size : Int)) (z18 ov un9) (W.p3 (.int .i64 (z03 .i64 ((p1.size : Int) - 1))) (W.pv (.int .i64 (imin (p0.size : Int) (z03 .i64 ((p1.size : Int) - 1)))) (zov ov ov) ?_))))))
 refine W.p1 (.int .i64 (imin (p0.size : Int) (z03 .i64 ((p1.size : Int) - 1)))) (.nil (.seq (.region (W.p2 (.string p0) (W.p2 (.int .i64 (imin (p0.size : Int) (z03 .i64 ((p1.size : Int) - 1)))) ?_)))))
 obtain ⟨x1, i2, h3⟩ := z01 h
 refine W.pv (.string x1) (zhd un9 ov ov i2) ?_
 obtain ⟨g4, h5⟩ := z2n h3
 refine W.pv (.string ((⟨#[48]⟩ : zAd) ++ x1)) (zao g4 ov ov) ?_
 obtain ⟨x6, i7, h8⟩ := z01 h5
 refine W.ln (Lo.cP rfl (fn := Tryz.f162) (by kernel_rfl) rfl (mc rfl mn) O (fun L' O' => z6t K ((⟨#[48]⟩ : zAd) ++ x1) O' _ i7)) ?_
 rintro v15 H16 ⟨G9, O10, s11, sm14, rfl⟩
 refine W.p1 (.string (⟨#[48]⟩ : zAd)) (W.p1 (.string x6) (.nil (.seq (.seq (.region (W.p2 (.int .i64 (imin (p0.size : Int) (z03 .i64 ((p1.size : Int) - 1)))) ?_))))))
 refine W.p1 (.int .i64 (imin (p0.size : Int) (z03 .i64 ((p1.size : Int) - 1)))) (.nil ?_)
 obtain ⟨q17, h18, h19⟩ := z01 h8
 refine AW.midT (fun σ' H' => ∃ (y1 : zAd) (y2 : zAd) (G' : GM), (y1, y2) = q17 /\ Ow G' H' (L) /\ GM.le G9 G' /\ σ' 7 = .string y1 /\ σ' 8 = .string y2) ?_ ?_
 rotate_left
 .rintro σ109 H110 fr111 ⟨x107, x108, G112, rfl, O113, s114, t116, t117⟩
  have h118 := z4s h19
  refine .seq (.region (W.q2 _ t116 ?_))
  obtain ⟨x119, i120, h121⟩ := z01 h118
  refine W.ln (Lo.cP rfl (fn := Tryz.f162) (by kernel_rfl) rfl (mc rfl mn) O113 (fun L' O' => z6t K x107 O' _ i120)) ?_
  rintro v128 H129 ⟨G122, O123, s124, sm127, rfl⟩
  refine W.q2 _ t117 (W.p1 (.string x119) (W.p1 (.string x108) (.nil (.ret ?_))))
  obtain rfl := zAa h121
  exact zg1 kr (v1 := (.string x119)) (v2 := (.string x108)) (by rfl) rt rt O123 (zAe s11 (zAe s114 s124)) rfl
 refine .block (AW.loop (α := Nat) (fun k' σ' H' => ∃ (y1 : zAd) (y2 : zAd) (y3 : Int) (G' : GM), z2j K p0 p1 k' y1 y2 y3 = some q17 /\ Ow G' H' (L) /\ GM.le G9 G' /\ σ' 7 = .string y1 /\ σ' 8 = .string y2 /\ σ' 9 = .int .i64 y3) (fun k' => k') K ⟨(⟨#[48]⟩ : zAd), x6, imin (p0.size : Int) (z03 .i64 ((p1.size : Int) - 1)), _, h18, O10, (zAf _), rfl, rfl, rfl⟩ ?_)
 rintro k20
 rintro σ24 H25 fr26 ⟨x21, x22, x23, G27, h30, O28, s29, t31, t32, t33⟩
 rcases k20 with _ | k20
 .exact z07 h30
 rw [z2j] at h30
 refine .seq (.seq (.region (W.q2 _ t33 (W.q2 (.string p0) ((fr26 0 rfl).trans rfl) (W.pv (.int .i64 (p0.size : Int)) (z18 ov un9) (W.p3 (.bool (decide (x23 < (p0.size : Int)))) ?_))))))
 refine .nil (.cond (b := decide (x23 < (p0.size : Int))) rfl rfl (fun g34 => ?_) (fun g34 => ?_))
 rotate_left
 .have h106 := z0h g34 h30
  refine .exit ?_
  obtain rfl := zAa h106
  exact ⟨x21, x22, _, rfl, O28, s29, t31, t32⟩
 have h35 := z05 g34 h30
 refine .skip (.seq (.block (.seq (.region (W.q2 _ t32 (W.q2 (.string p0) ((fr26 0 rfl).trans rfl) ?_))))))
 refine W.q2 _ t33 (W.q2 _ t33 (W.p3 (.int .i64 (z03 .i64 (x23 + 1))) ?_))
 obtain ⟨x36, i37, h38⟩ := z01 h35
 refine W.pv (.string x36) (zko un9 ov ov ov i37) ?_
 obtain ⟨g39, h40⟩ := z2n h38
 refine W.pv (.string (x22 ++ x36)) (zao g39 ov ov) ?_
 obtain ⟨x41, i42, h43⟩ := z01 h40
 refine W.ln (Lo.cP rfl (fn := Tryz.f162) (by kernel_rfl) rfl (mc rfl mn) O28 (fun L' O' => z6t K (x22 ++ x36) O' _ i42)) ?_
 rintro v50 H51 ⟨G44, O45, s46, sm49, rfl⟩
 refine W.p1 (.string x41) (.nil (.seq (.region (W.p1 (.int .u8 48) (.nil (.seq ?_))))))
 obtain ⟨q52, h53, h54⟩ := z01 h43
 refine AW.midT (fun σ' H' => ∃ (y1 : zAd) (y2 : Int) (G' : GM), (y1, y2) = q52 /\ Ow G' H' (L) /\ GM.le G44 G' /\ σ' 8 = .string y1 /\ σ' 10 = .int .u8 y2) ?_ ?_
 rotate_left
 .rintro σ94 H95 fr96 ⟨x92, x93, G97, rfl, O98, s99, t101, t102⟩
  have h103 := z4s h54
  refine .region (W.q2 _ ((fr96 7 rfl).trans t31) (W.q2 _ t102 (W.pv (.string (Utf8.encode x93)) (zlq in5 un9 ov) ?_)))
  obtain ⟨g104, h105⟩ := z2n h103
  refine W.pv (.string (x21 ++ (Utf8.encode x93))) (zao g104 ov ov) (W.p1 (.string (x21 ++ (Utf8.encode x93))) (.nil (.region (W.q2 _ ((fr96 9 rfl).trans t33) (W.p3 (.int .i64 (z03 .i64 (x23 + 1))) (W.p1 (.int .i64 (z03 .i64 (x23 + 1))) ?_))))))
  refine .nil ?_
  exact ⟨k20, zAg _, ⟨(x21 ++ (Utf8.encode x93)), x92, z03 .i64 (x23 + 1), _, h105, O98, (zAe s29 (zAe s46 s99)), rfl, t101, rfl⟩⟩
 refine .block (AW.loop (α := Nat) (fun k' σ' H' => ∃ (y1 : zAd) (y2 : Int) (G' : GM), z2i K p1 k' y1 y2 = some q52 /\ Ow G' H' (L) /\ GM.le G44 G' /\ σ' 8 = .string y1 /\ σ' 10 = .int .u8 y2) (fun k' => k') K ⟨x41, 48, _, h53, O45, (zAf _), rfl, rfl⟩ ?_)
 rintro k55
 rintro σ58 H59 fr60 ⟨x56, x57, G61, h64, O62, s63, t65, t66⟩
 rcases k55 with _ | k55
 .exact z07 h64
 rw [z2i] at h64
 refine .seq (.seq (.region (W.q2 _ t65 (W.q2 (.string p1) ((fr60 1 rfl).trans ((fr26 1 rfl).trans rfl)) ?_))))
 obtain ⟨x67, i68, h69⟩ := z01 h64
 refine W.ln (Lo.cP rfl (fn := Tryz.f97) (by kernel_rfl) rfl (mc rfl (mc rfl mn)) O62 (fun L' O' => z9e K x56 p1 O' _ i68)) ?_
 rintro v76 H77 ⟨G70, O71, s72, sm75, rfl⟩
 refine W.p3 (.bool (decide (x67 >= 0))) (.nil (.cond (b := decide (x67 >= 0)) rfl rfl (fun g78 => ?_) (fun g78 => ?_)))
 rotate_left
 .have h91 := z0h g78 h69
  refine .exit ?_
  obtain rfl := zAa h91
  exact ⟨x56, x57, _, rfl, O71, (zAe s63 s72), t65, t66⟩
 have h79 := z05 g78 h69
 refine .skip (.block (.seq (.region (W.q2 _ t65 (W.q2 (.string p1) ((fr60 1 rfl).trans ((fr26 1 rfl).trans rfl)) ?_)))))
 obtain ⟨x80, i81, h82⟩ := z01 h79
 refine W.ln (Lo.cP rfl (fn := Tryz.f98) (by kernel_rfl) rfl (mc rfl (mc rfl mn)) O71 (fun L' O' => z9f K x56 p1 O' _ i81)) ?_
 rintro v89 H90 ⟨G83, O84, s85, sm88, rfl⟩
 refine W.p1 (.string x80) (.nil (.region (W.q2 _ t66 (W.p3 (.int .u8 (z03 .u8 (x57 + 1))) (W.p1 (.int .u8 (z03 .u8 (x57 + 1))) (.nil ?_))))))
 exact ⟨k55, zAg _, ⟨x80, z03 .u8 (x57 + 1), _, h82, O84, (zAe s63 (zAe s72 s85)), rfl, rfl⟩⟩
def z19 (K : Nat) : Nat -> zAd -> zAd -> Option (zAd)
  | 0, _, _ => none
  | k + 1, x5, x6 => (if (!(sEq x6 (⟨#[48]⟩ : zAd))) = true then ((z5j K x5 x6).bind fun x18 => z19 K k x6 x18.2) else some x5)
def z6j (K : Nat) (p0 : zAd) (p1 : zAd) : Option zAd := (Option.bind (z19 K K p0 p1) (tu1 fun x30 => some x30))
theorem z9g (p0 : zAd) (p1 : zAd) (O : Ow G H (L)) (r : zAd) (h : z6j K p0 p1 = some r) :
    CR Tryz.prog 60 [(.string p0), (.string p1)] G H (L) (fun v G' _ => v = .string r) := by
 unfold z6j at h
 refine CR.og (n := 18) (fn := Tryz.f60) (by kernel_rfl) rfl rfl fun R kr => (.seq (.region (W.p1 (.string (⟨#[]⟩ : zAd)) (.nil (.seq ?_)))))
 obtain ⟨q1, h2, h3⟩ := z01 h
 refine AW.midT (fun σ' H' => ∃ (y1 : zAd) (G' : GM), y1 = q1 /\ Ow G' H' (L) /\ GM.le G G' /\ σ' 0 = .string y1) ?_ ?_
 rotate_left
 .rintro σ31 H32 fr33 ⟨x30, G34, rfl, O35, s36, t38⟩
  have h39 := z09 h3
  refine .seq (.region (W.q2 _ t38 (W.p1 (.string x30) (.nil (.ret ?_)))))
  obtain rfl := zAa h39
  exact z1b kr (v1 := (.string x30)) (by rfl) rt O35 s36 rfl
 refine .block (AW.loop (α := Nat) (fun k' σ' H' => ∃ (y1 : zAd) (y2 : zAd) (G' : GM), z19 K k' y1 y2 = some q1 /\ Ow G' H' (L) /\ GM.le G G' /\ σ' 0 = .string y1 /\ σ' 1 = .string y2) (fun k' => k') K ⟨p0, p1, _, h2, O, (zAf _), rfl, rfl⟩ ?_)
 rintro k4
 rintro σ7 H8 fr9 ⟨x5, x6, G10, h13, O11, s12, t14, t15⟩
 rcases k4 with _ | k4
 .exact z07 h13
 rw [z19] at h13
 refine .seq (.seq (.region (W.q2 _ t15 (W.pv (.bool (!(sEq x6 (⟨#[48]⟩ : zAd)))) (zlo ov ov) (.nil (.cond (b := (!(sEq x6 (⟨#[48]⟩ : zAd)))) rfl rfl (fun g16 => ?_) (fun g16 => ?_)))))))
 rotate_left
 .have h29 := z0h g16 h13
  refine .exit ?_
  obtain rfl := zAa h29
  exact ⟨x5, _, rfl, O11, s12, t14⟩
 have h17 := z05 g16 h13
 refine .skip (.block (.seq (.region (W.q2 _ t14 (W.q2 _ t15 ?_)))))
 obtain ⟨x18, i19, h20⟩ := z01 h17
 refine W.ln (Lo.cP rfl (fn := Tryz.f129) (by kernel_rfl) rfl (mc rfl (mc rfl mn)) O11 (fun L' O' => z7f K x5 x6 O' _ i19)) ?_
 rintro v27 H28 ⟨G21, O22, s23, sm26, rfl⟩
 refine W.p2 (.tuple #[(.string x18.1), (.string x18.2)]) (W.pv (.string x18.1) (z0b ov rfl) (W.pv (.string x18.2) (z0b ov rfl) (W.p1 (.string x18.1) (W.p1 (.string x18.2) (.nil (.region ?_))))))
 refine W.q2 _ t15 (W.p2 (.string x18.2) (W.p1 (.string x6) (W.p1 (.string x18.2) (.nil ?_))))
 exact ⟨k4, zAg _, ⟨x6, x18.2, _, h20, O22, (zAe s12 s23), rfl, rfl⟩⟩
def z10 (K : Nat) (x30 : zAd) : Nat -> Int -> zAd -> zAd -> Int -> Option (Int × zAd × zAd)
  | 0, _, _, _, _ => none
  | k + 1, x46, x47, x48, x49 => (if (decide (x49 < (x30.size : Int))) = true then (Option.bind ((Option.bind (((bidx x30 x49).bind fun x69 => (if (x69 == 47) = true then some (x46 == 1) else some false))) (tu1 fun x76 => (if x76 = true then ((ssl x30 0 x49).bind fun x93 => ((ssl x30 (z03 .i64 (x49 + 1)) (x30.size : Int)).bind fun x96 => some (2, x93, x96))) else some (x46, x47, x48))))) (tu3 fun x100 x101 x102 => z10 K x30 k x100 x101 x102 (z03 .i64 (x49 + 1)))) else some (x46, x47, x48))
def z4h (K : Nat) (p0 : zAd) : Option Int := (Option.bind ((if (decide ((p0.size : Int) > 0)) = true then ((bidx p0 0).bind fun x7 => some (x7 == 45)) else some false)) (tu1 fun x11 => (Option.bind ((if x11 = true then ((ssl p0 1 (p0.size : Int)).bind fun x26 => some (x26, true)) else some (p0, false))) (tu2 fun x30 x31 => (Option.bind (z10 K x30 K 1 x30 (⟨#[50]⟩ : zAd) 0) (tu3 fun x115 x116 x117 => ((z4e K x116).bind fun x129 => ((z4e K x117).bind fun x140 => (Option.bind ((if (x129 == 5) = true then some true else (if (x140 == 5) = true then some true else (if x31 = true then some (sEq x116 (⟨#[48]⟩ : zAd)) else some false)))) (tu1 fun x166 => (if x166 = true then some 5 else (Option.bind ((if (x129 != 0) = true then some true else some (x140 != 0))) (tu1 fun x186 => (if x186 = true then some 2 else (Option.bind ((if (x115 == 2) = true then (if (sEq x117 (⟨#[48]⟩ : zAd)) = true then some true else (if (sEq x117 (⟨#[49]⟩ : zAd)) = true then some true else ((z6j K x116 x117).bind fun x213 => some (!(sEq x213 (⟨#[49]⟩ : zAd)))))) else some false)) (tu1 fun x225 => (if x225 = true then some 3 else some 0)))))))))))))))))
theorem zas (p0 : zAd) (O : Ow G H (L)) (r : Int) (h : z4h K p0 = some r) :
    CR Tryz.prog 16 [(.string p0)] G H (L) (fun v G' _ => v = .int .i64 r) := by
 unfold z4h at h
 refine CR.og (n := 86) (fn := Tryz.f16) (by kernel_rfl) rfl rfl fun R kr => (.seq (.region (W.p1 (.int .i64 0) (.nil (.seq (.region ?_))))))
 refine W.p2 (.string p0) (W.p1 (.string p0) (W.p1 (.bool false) (W.p1 (.int .i64 1) (.nil (.seq (.seq ?_))))))
 obtain ⟨q1, h2, h3⟩ := z01 h
 refine AW.midT (fun σ' H' => ∃ (y1 : Bool) (G' : GM), y1 = q1 /\ Ow G' H' (L) /\ GM.le G G' /\ σ' 19 = .bool y1) ?_ ?_
 .refine .region (W.p2 (.string p0) (W.pv (.int .i64 (p0.size : Int)) (z18 ov un9) (W.p3 (.bool (decide ((p0.size : Int) > 0))) (W.p2 (.bool (decide ((p0.size : Int) > 0))) (W.splitAt (t := 15) (b := decide ((p0.size : Int) > 0)) rfl (fun g4 gv5 => ?_) (fun g4 gv5 => ?_))))))
  rotate_left
  .have h10 := z0h g4 h2
   refine W.q6 rfl gv5 (W.q6 rfl gv5 (W.q6 rfl gv5 (W.q5 (.bool false) gv5 rfl (.nil ?_))))
   obtain rfl := zAa h10
   exact ⟨false, _, rfl, O, (zAf _), rfl⟩
  have h6 := z05 g4 h2
  refine W.q2 (hg := gk rfl rfl gv5 rfl) (.string p0) rfl ?_
  obtain ⟨x7, i8, h9⟩ := z01 h6
  refine W.pure (v := (.int .u8 x7)) (gk rfl rfl gv5 rfl) rfl (z8h un9 ov ov i8) (W.q3 (hg := gk rfl rfl gv5 rfl) (.bool (x7 == 45)) rfl rfl (W.q4 (.bool (x7 == 45)) gv5 rfl (.nil ?_)))
  obtain rfl := zAa h9
  exact ⟨(x7 == 45), _, rfl, O, (zAf _), rfl⟩
 rintro σ12 H13 fr14 ⟨x11, G15, rfl, O16, s17, t19⟩
 have h20 := z09 h3
 obtain ⟨q21, h22, h23⟩ := z01 h20
 refine AW.midT (fun σ' H' => ∃ (y1 : zAd) (y2 : Bool) (G' : GM), (y1, y2) = q21 /\ Ow G' H' (L) /\ GM.le G15 G' /\ σ' 3 = .string y1 /\ σ' 4 = .bool y2) ?_ ?_
 .refine .cond (b := x11) rfl t19 (fun g24 => ?_) (fun g24 => ?_)
  rotate_left
  .have h29 := z0h g24 h22
   refine .skip ?_
   obtain rfl := zAa h29
   exact ⟨p0, false, _, rfl, O16, (zAf _), ((fr14 3 rfl).trans rfl), ((fr14 4 rfl).trans rfl)⟩
  have h25 := z05 g24 h22
  refine .region (W.q2 (.string p0) ((fr14 3 rfl).trans rfl) ?_)
  obtain ⟨x26, i27, h28⟩ := z01 h25
  refine W.pv (.string x26) (zct un9 ov ov i27) (W.p1 (.string x26) (W.p1 (.bool true) (.nil ?_)))
  obtain rfl := zAa h28
  exact ⟨x26, true, _, rfl, O16, (zAf _), rfl, rfl⟩
 rintro σ32 H33 fr34 ⟨x30, x31, G35, rfl, O36, s37, t39, t40⟩
 have h41 := z4s h23
 refine .seq (.region (W.q2 _ t39 (W.p1 (.string x30) (W.p1 (.string (⟨#[50]⟩ : zAd)) (.nil (.seq ?_))))))
 refine .seq (.region (W.q2 _ t39 (W.pv (.int .i64 (x30.size : Int)) (z18 ov un9) (W.p2 (.int .i64 0) (.nil ?_)))))
 obtain ⟨q42, h43, h44⟩ := z01 h41
 refine AW.midT (fun σ' H' => ∃ (y1 : Int) (y2 : zAd) (y3 : zAd) (G' : GM), (y1, y2, y3) = q42 /\ Ow G' H' (L) /\ GM.le G35 G' /\ σ' 5 = .int .i64 y1 /\ σ' 6 = .string y2 /\ σ' 7 = .string y3) ?_ ?_
 .refine .block (AW.loop (α := Nat) (fun k' σ' H' => ∃ (y1 : Int) (y2 : zAd) (y3 : zAd) (y4 : Int) (G' : GM), z10 K x30 k' y1 y2 y3 y4 = some q42 /\ Ow G' H' (L) /\ GM.le G35 G' /\ σ' 5 = .int .i64 y1 /\ σ' 6 = .string y2 /\ σ' 7 = .string y3 /\ σ' 25 = .int .i64 y4) (fun k' => k') K ⟨1, x30, (⟨#[50]⟩ : zAd), 0, _, h43, O36, (zAf _), ((fr34 5 rfl).trans ((fr14 5 rfl).trans rfl)), rfl, rfl, rfl⟩ ?_)
  rintro k45
  rintro σ50 H51 fr52 ⟨x46, x47, x48, x49, G53, h56, O54, s55, t57, t58, t59, t60⟩
  rcases k45 with _ | k45
  .exact z07 h56
  rw [z10] at h56
  refine .seq (.region (W.q3 (.bool (decide (x49 < (x30.size : Int)))) t60 ((fr52 24 rfl).trans rfl) (.nil (.seq (.cond (b := decide (x49 < (x30.size : Int))) rfl rfl (fun g61 => ?_) (fun g61 => ?_))))))
  rotate_left
  .have h114 := z0h g61 h56
   refine .exit ?_
   obtain rfl := zAa h114
   exact ⟨x46, x47, x48, _, rfl, O54, s55, t57, t58, t59⟩
  have h62 := z05 g61 h56
  refine .skip (.seq ?_)
  obtain ⟨q63, h64, h65⟩ := z01 h62
  refine AW.midT (fun σ' H' => ∃ (y1 : Int) (y2 : zAd) (y3 : zAd) (G' : GM), (y1, y2, y3) = q63 /\ Ow G' H' (L) /\ GM.le G53 G' /\ σ' 5 = .int .i64 y1 /\ σ' 6 = .string y2 /\ σ' 7 = .string y3) ?_ ?_
  rotate_left
  .rintro σ103 H104 fr105 ⟨x100, x101, x102, G106, rfl, O107, s108, t110, t111, t112⟩
   have h113 := zen h65
   refine .region (W.q3 (.int .i64 (z03 .i64 (x49 + 1))) ((fr105 25 rfl).trans t60) rfl (W.p2 (.int .i64 (z03 .i64 (x49 + 1))) (.nil ?_)))
   exact ⟨k45, zAg _, ⟨x100, x101, x102, z03 .i64 (x49 + 1), _, h113, O107, (zAe s55 s108), t110, t111, t112, rfl⟩⟩
  refine .block (.seq (.region (W.q2 _ t60 (W.p1 (.int .i64 x49) (.nil (.seq ?_))))))
  obtain ⟨q66, h67, h68⟩ := z01 h64
  refine AW.midT (fun σ' H' => ∃ (y1 : Bool) (G' : GM), y1 = q66 /\ Ow G' H' (L) /\ GM.le G53 G' /\ σ' 35 = .bool y1) ?_ ?_
  .refine .region (W.q2 _ ((fr52 3 rfl).trans t39) (W.p2 (.int .i64 x49) ?_))
   obtain ⟨x69, i70, h71⟩ := z01 h67
   refine W.pv (.int .u8 x69) (z8h un9 ov ov i70) (W.p3 (.bool (x69 == 47)) (W.p2 (.bool (x69 == 47)) (W.splitAt (t := 32) (b := (x69 == 47)) rfl (fun g72 gv73 => ?_) (fun g72 gv73 => ?_))))
   rotate_left
   .have h75 := z0h g72 h71
    refine W.q6 rfl gv73 (W.q6 rfl gv73 (W.q5 (.bool false) gv73 rfl (.nil ?_)))
    obtain rfl := zAa h75
    exact ⟨false, _, rfl, O54, (zAf _), rfl⟩
   have h74 := z05 g72 h71
   refine W.q2 (hg := gk rfl rfl gv73 rfl) _ t57 (W.q3 (hg := gk rfl rfl gv73 rfl) (.bool (x46 == 1)) rfl rfl (W.q4 (.bool (x46 == 1)) gv73 rfl (.nil ?_)))
   obtain rfl := zAa h74
   exact ⟨(x46 == 1), _, rfl, O54, (zAf _), rfl⟩
  rintro σ77 H78 fr79 ⟨x76, G80, rfl, O81, s82, t84⟩
  have h85 := z09 h68
  refine .cond (b := x76) rfl t84 (fun g86 => ?_) (fun g86 => ?_)
  rotate_left
  .have h99 := z0h g86 h85
   refine .skip ?_
   obtain rfl := zAa h99
   exact ⟨x46, x47, x48, _, rfl, O81, s82, ((fr79 5 rfl).trans t57), ((fr79 6 rfl).trans t58), ((fr79 7 rfl).trans t59)⟩
  have h87 := z05 g86 h85
  refine .draw2 (M := [0, 0, 3, 0, 0, 16, 56, 7, 255, 511]) mixed (by kernel_rfl) (by kernel_rfl) fun H88 N92 x89 F91 => ?_
  have O90 := O81.ext x89
  refine D2.q2 _ ((fr79 3 rfl).trans ((fr52 3 rfl).trans t39)) (D2.q2 (.int .i64 x49) ((fr79 8 rfl).trans rfl) ?_)
  obtain ⟨x93, i94, h95⟩ := z01 h87
  refine D2.pv (.string x93) (zhd un9 ov ov i94) (D2.q2 _ ((fr79 3 rfl).trans ((fr52 3 rfl).trans t39)) (D2.q2 (.int .i64 x49) ((fr79 8 rfl).trans rfl) (D2.p3 (.int .i64 (z03 .i64 (x49 + 1))) ?_)))
  obtain ⟨x96, i97, h98⟩ := z01 h95
  refine D2.pv (.string x96) (zct un9 ov ov i97) (D2.p1 (.string x93) (D2.p1 (.string x96) (D2.p1 (.int .i64 2) (.nil ?_))))
  obtain rfl := zAa h98
  exact ⟨2, x93, x96, _, rfl, O90, s82, rfl, rfl, rfl⟩
 rintro σ118 H119 fr120 ⟨x115, x116, x117, G121, rfl, O122, s123, t125, t126, t127⟩
 have h128 := zen h44
 refine .seq (.region (W.q2 _ t126 ?_))
 obtain ⟨x129, i130, h131⟩ := z01 h128
 refine W.ln (Lo.cP rfl (fn := Tryz.f59) (by kernel_rfl) rfl (mc rfl mn) O122 (fun L' O' => z7y K x116 O' _ i130)) ?_
 rintro v138 H139 ⟨G132, O133, s134, sm137, rfl⟩
 refine W.q2 _ t127 ?_
 obtain ⟨x140, i141, h142⟩ := z01 h131
 refine W.ln (Lo.cP rfl (fn := Tryz.f59) (by kernel_rfl) rfl (mc rfl mn) O133 (fun L' O' => z7y K x117 O' _ i141)) ?_
 rintro v149 H150 ⟨G143, O144, s145, sm148, rfl⟩
 refine W.p1 (.int .i64 x129) (W.p1 (.int .i64 x140) (.nil (.seq (.block (.seq ?_)))))
 obtain ⟨q151, h152, h153⟩ := z01 h142
 refine AW.midT (fun σ' H' => ∃ (y1 : Bool) (G' : GM), y1 = q151 /\ Ow G' H' (L) /\ GM.le G143 G' /\ σ' 48 = .bool y1) ?_ ?_
 .refine .region (W.p2 (.int .i64 x129) (W.p3 (.bool (x129 == 5)) (W.p2 (.bool (x129 == 5)) (W.splitAt (t := 51) (b := (x129 == 5)) rfl (fun g154 gv155 => ?_) (fun g154 gv155 => ?_)))))
  .have h156 := z05 g154 h152
   refine W.q6 rfl gv155 (W.q6 rfl gv155 (W.q4 (.bool true) gv155 rfl (W.p2 (.bool true) (W.q6 rfl rfl (W.q6 rfl rfl (W.skipU rfl rfl rfl rfl ?_))))))
   refine W.skipU rfl rfl rfl rfl (W.q6 rfl rfl (W.q4 (.bool true) rfl rfl (W.p1 (.bool true) (.nil ?_))))
   obtain rfl := zAa h156
   exact ⟨true, _, rfl, O144, (zAf _), rfl⟩
  have h157 := z0h g154 h152
  refine W.q2 (hg := gk rfl rfl gv155 rfl) (.int .i64 x140) rfl (W.q3 (hg := gk rfl rfl gv155 rfl) (.bool (x140 == 5)) rfl rfl (W.q5 (.bool (x140 == 5)) gv155 rfl (W.p2 (.bool (x140 == 5)) (W.splitAt (t := 55) (b := (x140 == 5)) rfl (fun g158 gv159 => ?_) (fun g158 gv159 => ?_)))))
  .have h160 := z05 g158 h157
   refine W.q6 rfl gv159 (W.q6 rfl gv159 (W.skipU rfl rfl rfl rfl (W.skipU rfl rfl rfl rfl (W.q6 rfl gv159 (W.q4 (.bool true) gv159 rfl (W.p1 (.bool true) ?_))))))
   refine .nil ?_
   obtain rfl := zAa h160
   exact ⟨true, _, rfl, O144, (zAf _), rfl⟩
  have h161 := z0h g158 h157
  refine W.q2 (hg := gk rfl rfl gv159 rfl) _ ((fr120 4 rfl).trans t40) (W.q2 (hg := gk rfl rfl gv159 rfl) (.bool x31) rfl (W.splitAt (t := 57) (b := x31) rfl (fun g162 gv163 => ?_) (fun g162 gv163 => ?_)))
  rotate_left
  .have h165 := z0h g162 h161
   refine W.q6 rfl gv163 (W.q6 rfl gv163 (W.q5 (hg := gk rfl rfl gv159 rfl) (.bool false) gv163 rfl (W.q5 (.bool false) gv159 rfl (W.p1 (.bool false) (.nil ?_)))))
   obtain rfl := zAa h165
   exact ⟨false, _, rfl, O144, (zAf _), rfl⟩
  have h164 := z05 g162 h161
  refine W.q2 (hg := gk rfl rfl gv163 rfl) _ t126 (W.pure (v := (.bool (sEq x116 (⟨#[48]⟩ : zAd)))) (gk rfl rfl gv163 rfl) rfl (z7u ov ov) (W.q4 (hg := gk rfl rfl gv159 rfl) (.bool (sEq x116 (⟨#[48]⟩ : zAd))) gv163 rfl (W.q5 (.bool (sEq x116 (⟨#[48]⟩ : zAd))) gv159 rfl (W.p1 (.bool (sEq x116 (⟨#[48]⟩ : zAd))) (.nil ?_)))))
  obtain rfl := zAa h164
  exact ⟨sEq x116 (⟨#[48]⟩ : zAd), _, rfl, O144, (zAf _), rfl⟩
 rintro σ167 H168 fr169 ⟨x166, G170, rfl, O171, s172, t174⟩
 have h175 := z09 h153
 refine .cond (b := x166) rfl t174 (fun g176 => ?_) (fun g176 => ?_)
 .have h177 := z05 g176 h175
  refine .seq (.region (W.p1 (.int .i64 5) (.nil (.ret ?_))))
  obtain rfl := zAa h177
  exact z1b kr (v1 := (.int .i64 5)) (by rfl) rt O171 (zAe s17 (zAe s37 (zAe s123 (zAe s134 (zAe s145 s172))))) rfl
 have h178 := z0h g176 h175
 refine .seq ?_
 obtain ⟨q179, h180, h181⟩ := z01 h178
 refine AW.midT (fun σ' H' => ∃ (y1 : Bool) (G' : GM), y1 = q179 /\ Ow G' H' (L) /\ GM.le G170 G' /\ σ' 62 = .bool y1) ?_ ?_
 .refine .region (W.q2 (.int .i64 x129) ((fr169 9 rfl).trans rfl) (W.p3 (.bool (x129 != 0)) (W.p2 (.bool (x129 != 0)) (W.splitAt (t := 65) (b := (x129 != 0)) rfl (fun g182 gv183 => ?_) (fun g182 gv183 => ?_)))))
  .have h184 := z05 g182 h180
   refine W.q6 rfl gv183 (W.q6 rfl gv183 (W.q4 (.bool true) gv183 rfl (W.p1 (.bool true) (.nil ?_))))
   obtain rfl := zAa h184
   exact ⟨true, _, rfl, O171, (zAf _), rfl⟩
  have h185 := z0h g182 h180
  refine W.q2 (hg := gk rfl rfl gv183 rfl) (.int .i64 x140) ((fr169 10 rfl).trans rfl) (W.q3 (hg := gk rfl rfl gv183 rfl) (.bool (x140 != 0)) rfl rfl (W.q5 (.bool (x140 != 0)) gv183 rfl (W.p1 (.bool (x140 != 0)) (.nil ?_))))
  obtain rfl := zAa h185
  exact ⟨(x140 != 0), _, rfl, O171, (zAf _), rfl⟩
 rintro σ187 H188 fr189 ⟨x186, G190, rfl, O191, s192, t194⟩
 have h195 := z09 h181
 refine .cond (b := x186) rfl t194 (fun g196 => ?_) (fun g196 => ?_)
 .have h197 := z05 g196 h195
  refine .seq (.region (W.p1 (.int .i64 2) (.nil (.ret ?_))))
  obtain rfl := zAa h197
  exact z1b kr (v1 := (.int .i64 2)) (by rfl) rt O191 (zAe s17 (zAe s37 (zAe s123 (zAe s134 (zAe s145 (zAe s172 s192)))))) rfl
 have h198 := z0h g196 h195
 refine .seq ?_
 obtain ⟨q199, h200, h201⟩ := z01 h198
 refine AW.midT (fun σ' H' => ∃ (y1 : Bool) (G' : GM), y1 = q199 /\ Ow G' H' (L) /\ GM.le G190 G' /\ σ' 69 = .bool y1) ?_ ?_
 rotate_left
 .rintro σ226 H227 fr228 ⟨x225, G229, rfl, O230, s231, t233⟩
  have h234 := z09 h201
  refine .cond (b := x225) rfl t233 (fun g235 => ?_) (fun g235 => ?_)
  .have h236 := z05 g235 h234
   refine .seq (.region (W.p1 (.int .i64 3) (.nil (.ret ?_))))
   obtain rfl := zAa h236
   exact z1b kr (v1 := (.int .i64 3)) (by rfl) rt O230 (zAe s17 (zAe s37 (zAe s123 (zAe s134 (zAe s145 (zAe s172 (zAe s192 s231))))))) rfl
  have h237 := z0h g235 h234
  refine .skip (.seq (.region (W.p1 (.int .i64 0) (.nil (.ret ?_)))))
  obtain rfl := zAa h237
  exact z1b kr (v1 := (.int .i64 0)) (by rfl) rt O230 (zAe s17 (zAe s37 (zAe s123 (zAe s134 (zAe s145 (zAe s172 (zAe s192 s231))))))) rfl
 refine .region (W.q2 _ ((fr189 5 rfl).trans ((fr169 5 rfl).trans t125)) (W.p3 (.bool (x115 == 2)) (W.p2 (.bool (x115 == 2)) (W.splitAt (t := 72) (b := (x115 == 2)) rfl (fun g202 gv203 => ?_) (fun g202 gv203 => ?_)))))
 rotate_left
 .have h224 := z0h g202 h200
  refine W.q6 rfl gv203 (W.q6 rfl gv203 (W.q6 rfl gv203 (W.skipU rfl rfl rfl rfl (W.skipU rfl rfl rfl rfl (W.q6 rfl gv203 (W.q6 rfl gv203 ?_))))))
  refine W.skipU rfl rfl rfl rfl (W.skipU rfl rfl rfl rfl (W.skipU rfl rfl rfl rfl (W.skipU rfl rfl rfl rfl (W.q6 rfl gv203 (W.q5 (.bool false) gv203 rfl (W.p1 (.bool false) ?_))))))
  refine .nil ?_
  obtain rfl := zAa h224
  exact ⟨false, _, rfl, O191, (zAf _), rfl⟩
 have h204 := z05 g202 h200
 refine W.q2 (hg := gk rfl rfl gv203 rfl) _ ((fr189 7 rfl).trans ((fr169 7 rfl).trans t127)) (W.pure (v := (.bool (sEq x117 (⟨#[48]⟩ : zAd)))) (gk rfl rfl gv203 rfl) rfl (z7u ov ov) (W.q2 (hg := gk rfl rfl gv203 rfl) (.bool (sEq x117 (⟨#[48]⟩ : zAd))) rfl (W.splitAt (t := 75) (b := sEq x117 (⟨#[48]⟩ : zAd)) rfl (fun g205 gv206 => ?_) (fun g205 gv206 => ?_))))
 .have h207 := z05 g205 h204
  refine W.q6 rfl gv206 (W.q6 rfl gv206 (W.q4 (hg := gk rfl rfl gv203 rfl) (.bool true) gv206 rfl (W.q2 (hg := gk rfl rfl gv203 rfl) (.bool true) rfl (W.q6 rfl rfl (W.q6 rfl rfl (W.q6 rfl rfl ?_))))))
  refine W.q6 rfl rfl (W.q4 (hg := gk rfl rfl gv203 rfl) (.bool true) rfl rfl (W.q4 (.bool true) gv203 rfl (W.p1 (.bool true) (.nil ?_))))
  obtain rfl := zAa h207
  exact ⟨true, _, rfl, O191, (zAf _), rfl⟩
 have h208 := z0h g205 h204
 refine W.q2 (hg := gk rfl rfl gv206 rfl) _ ((fr189 7 rfl).trans ((fr169 7 rfl).trans t127)) (W.pure (v := (.bool (sEq x117 (⟨#[49]⟩ : zAd)))) (gk rfl rfl gv206 rfl) rfl (z7u ov ov) (W.q5 (hg := gk rfl rfl gv203 rfl) (.bool (sEq x117 (⟨#[49]⟩ : zAd))) gv206 rfl (W.q2 (hg := gk rfl rfl gv203 rfl) (.bool (sEq x117 (⟨#[49]⟩ : zAd))) rfl (W.splitAt (t := 79) (b := sEq x117 (⟨#[49]⟩ : zAd)) rfl (fun g209 gv210 => ?_) (fun g209 gv210 => ?_)))))
 .have h211 := z05 g209 h208
  refine W.q6 rfl gv210 (W.q6 rfl gv210 (W.q6 rfl gv210 (W.q6 rfl gv210 (W.q4 (hg := gk rfl rfl gv203 rfl) (.bool true) gv210 rfl (W.q4 (.bool true) gv203 rfl (W.p1 (.bool true) ?_))))))
  refine .nil ?_
  obtain rfl := zAa h211
  exact ⟨true, _, rfl, O191, (zAf _), rfl⟩
 have h212 := z0h g209 h208
 refine W.q2 (hg := gk rfl rfl gv210 rfl) _ ((fr189 6 rfl).trans ((fr169 6 rfl).trans t126)) (W.q2 (hg := gk rfl rfl gv210 rfl) _ ((fr189 7 rfl).trans ((fr169 7 rfl).trans t127)) ?_)
 obtain ⟨x213, i214, h215⟩ := z01 h212
 refine W.lo (gk rfl rfl gv210 rfl) rfl (Lo.cP rfl (fn := Tryz.f60) (by kernel_rfl) rfl (mc rfl (mc rfl mn)) O191 (fun L' O' => z9g K x116 x117 O' _ i214)) ?_
 rintro v222 H223 ⟨G216, O217, s218, sm221, rfl⟩
 refine W.pure (v := (.bool (!(sEq x213 (⟨#[49]⟩ : zAd))))) (gk rfl rfl gv210 rfl) rfl (zlo ov ov) (W.q5 (hg := gk rfl rfl gv203 rfl) (.bool (!(sEq x213 (⟨#[49]⟩ : zAd)))) gv210 rfl (W.q4 (.bool (!(sEq x213 (⟨#[49]⟩ : zAd)))) gv203 rfl (W.p1 (.bool (!(sEq x213 (⟨#[49]⟩ : zAd)))) (.nil ?_))))
 obtain rfl := zAa h215
 exact ⟨(!(sEq x213 (⟨#[49]⟩ : zAd))), _, rfl, O217, s218, rfl⟩
def z16 (K : Nat) (p0 : List zAd) : Nat -> Int -> Option (Int ⊕ Unit)
  | 0, _ => none
  | k + 1, x5 => (if (decide (x5 < (p0.length : Int))) = true then ((idx p0 x5).bind fun x16 => ((z4h K x16).bind fun x20 => (if (x20 != 0) = true then some (.inl x20) else z16 K p0 k (z03 .i64 (x5 + 1))))) else some (.inr ()))
def z4w (K : Nat) (p0 : List zAd) : Option Int := (zbs (z16 K p0 K 0) (tu1 fun a44 => some a44) (tu0 (some 0)))
theorem zac (v0 : Value) (p0 : List zAd) (hp0 : (rSl rS).rep G [v0] p0) (O : Ow G H (L)) (r : Int) (h : z4w K p0 = some r) :
    CR Tryz.prog 58 [v0] G H (L) (fun v G' _ => v = .int .i64 r) := by
 unfold z4w at h
 refine CR.og (n := 18) (fn := Tryz.f58) (by kernel_rfl) rfl rfl fun R kr => (.seq (.region (W.p1 (.int .i64 0) (.nil (.seq (.seq ?_))))))
 refine .region (W.p2 v0 (W.pv (.int .i64 (p0.length : Int)) (z0k ov (z0d hp0) (z04 el23)) (W.p2 (.int .i64 0) (.nil ?_))))
 obtain ⟨q1, h2, h3⟩ := z3j h
 refine AW.midT (fun σ' H' => ∃  (G' : GM), (.inr ()) = q1 /\ Ow G' H' (L) /\ GM.le G G') ?_ ?_
 rotate_left
 .rintro σ36 H37 fr38 ⟨G39, rfl, O40, s41⟩
  have h43 := z7a (z9l h3)
  refine .seq (.region (W.p1 (.int .i64 0) (.nil (.ret ?_))))
  obtain rfl := zAa h43
  exact z1b kr (v1 := (.int .i64 0)) (by rfl) rt O40 s41 rfl
 refine .block (AW.loop (α := Nat) (fun k' σ' H' => ∃ (y1 : Int) (G' : GM), z16 K p0 k' y1 = some q1 /\ Ow G' H' (L) /\ GM.le G G' /\ σ' 8 = .int .i64 y1) (fun k' => k') K ⟨0, _, h2, O, (zAf _), rfl⟩ ?_)
 rintro k4
 rintro σ6 H7 fr8 ⟨x5, G9, h12, O10, s11, t13⟩
 rcases k4 with _ | k4
 .exact z07 h12
 rw [z16] at h12
 refine .seq (.region (W.q3 (.bool (decide (x5 < (p0.length : Int)))) t13 ((fr8 7 rfl).trans rfl) (.nil (.seq (.cond (b := decide (x5 < (p0.length : Int))) rfl rfl (fun g14 => ?_) (fun g14 => ?_))))))
 rotate_left
 .have h35 := z0h g14 h12
  refine .exit ?_
  obtain rfl := zAa h35
  exact ⟨_, rfl, O10, s11⟩
 have h15 := z05 g14 h12
 refine .skip (.seq (.block (.seq (.region ?_))))
 obtain ⟨x16, i17, h18⟩ := z01 h15
 have j19 := z0a i17
 refine W.pv (z1o v0 (x5.toNat * 1)) (z2f el23 sz22 (ou ((fr8 6 rfl).trans rfl)) (ou t13) (z0d (RT.mono _ s11 hp0)) j19.1 j19.2.1) (W.load1 (v := (.string x16)) (r := []) rfl rfl ag22 (z0z rfl (At.str (At.le (At.le (z2g hp0 j19.2.2) s11 s11) (zAf _) O10.fro))) (W.p1 (.string x16) (.nil (.seq (.region (W.p2 (.string x16) ?_))))))
 obtain ⟨x20, i21, h22⟩ := z01 h18
 refine W.ln (Lo.cP rfl (fn := Tryz.f16) (by kernel_rfl) rfl (mc rfl mn) O10 (fun L' O' => zas K x16 O' _ i21)) ?_
 rintro v29 H30 ⟨G23, O24, s25, sm28, rfl⟩
 refine W.p1 (.int .i64 x20) (.nil (.seq (.region (W.p2 (.int .i64 x20) (W.p3 (.bool (x20 != 0)) (.nil ?_))))))
 refine .cond (b := (x20 != 0)) rfl rfl (fun g31 => ?_) (fun g31 => ?_)
 rotate_left
 .have h34 := z0h g31 h22
  refine .skip (.region (W.r3 (.int .i64 (z03 .i64 (x5 + 1))) t13 (W.p2 (.int .i64 (z03 .i64 (x5 + 1))) (.nil ?_))))
  exact ⟨k4, zAg _, ⟨z03 .i64 (x5 + 1), _, h34, O24, (zAe s11 s25), rfl⟩⟩
 have h32 := z05 g31 h22
 refine .seq (.region (W.p2 (.int .i64 x20) (W.p1 (.int .i64 x20) (.nil (.ret ?_)))))
 obtain rfl := zAa h32
 have h33 := z09 (z7t h3)
 obtain rfl := zAa h33
 exact z1b kr (v1 := (.int .i64 x20)) (by rfl) rt O24 (zAe s11 s25) rfl
def z5k (K : Nat) (p0 : List zAd) : Option Int := (if (decide ((p0.length : Int) > 40)) = true then some 2 else ((z4w K p0).bind fun x4 => some x4))
theorem zat (v0 : Value) (p0 : List zAd) (hp0 : (rSl rS).rep G [v0] p0) (O : Ow G H (L)) (r : Int) (h : z5k K p0 = some r) :
    CR Tryz.prog 33 [v0] G H (L) (fun v G' _ => v = .int .i64 r) := by
 unfold z5k at h
 refine CR.og (n := 8) (fn := Tryz.f33) (by kernel_rfl) rfl rfl fun R kr => (.seq (.region (W.p1 (.int .i64 0) (.nil (.seq (.seq ?_))))))
 refine .region (W.p2 v0 (W.pv (.int .i64 (p0.length : Int)) (z0k ov (z0d hp0) (z04 el45)) (W.p3 (.bool (decide ((p0.length : Int) > 40))) (.nil (.cond (b := decide ((p0.length : Int) > 40)) rfl rfl (fun g1 => ?_) (fun g1 => ?_))))))
 .have h2 := z05 g1 h
  refine .seq (.region (W.p1 (.int .i64 2) (.nil (.ret ?_))))
  obtain rfl := zAa h2
  exact z1b kr (v1 := (.int .i64 2)) (by rfl) rt O (zAf _) rfl
 have h3 := z0h g1 h
 refine .skip (.seq (.region (W.p2 v0 ?_)))
 obtain ⟨x4, i5, h6⟩ := z01 h3
 refine W.ln (Lo.cP rfl (fn := Tryz.f58) (by kernel_rfl) rfl (mc rfl mn) O (fun L' O' => zac K v0 p0 hp0 O' _ i5)) ?_
 rintro v13 H14 ⟨G7, O8, s9, sm12, rfl⟩
 refine W.p1 (.int .i64 x4) (.nil (.ret ?_))
 obtain rfl := zAa h6
 exact z1b kr (v1 := (.int .i64 x4)) (by rfl) rt O8 s9 rfl
def z1d (K : Nat) (p0 : List (List zAd)) : Nat -> Int -> Option (Int ⊕ Unit)
  | 0, _ => none
  | k + 1, x8 => (if (decide (x8 < (p0.length : Int))) = true then ((idx p0 x8).bind fun x24 => ((idx p0 0).bind fun x31 => (if ((x24.length : Int) != (x31.length : Int)) = true then some (.inl 3) else ((idx p0 x8).bind fun x42 => ((z5k K x42).bind fun x49 => (if (x49 != 0) = true then some (.inl x49) else z1d K p0 k (z03 .i64 (x8 + 1)))))))) else some (.inr ()))
def z3g (K : Nat) (p0 : List (List zAd)) : Option Int := (if (decide ((p0.length : Int) > 40)) = true then some 2 else (zbs (z1d K p0 K 0) (tu1 fun a73 => some a73) (tu0 (some 0))))
theorem z99 (v0 : Value) (p0 : List (List zAd)) (hp0 : (rSl (rSl rS)).rep G [v0] p0) (O : Ow G H (L)) (r : Int) (h : z3g K p0 = some r) :
    CR Tryz.prog 30 [v0] G H (L) (fun v G' _ => v = .int .i64 r) := by
 unfold z3g at h
 refine CR.og (n := 32) (fn := Tryz.f30) (by kernel_rfl) rfl rfl fun R kr => (.seq (.region (W.p1 (.int .i64 0) (.nil (.seq (.seq ?_))))))
 refine .region (W.p2 v0 (W.pv (.int .i64 (p0.length : Int)) (z0k ov (z0d hp0) (z04 el44)) (W.p3 (.bool (decide ((p0.length : Int) > 40))) (.nil (.cond (b := decide ((p0.length : Int) > 40)) rfl rfl (fun g1 => ?_) (fun g1 => ?_))))))
 .have h2 := z05 g1 h
  refine .seq (.region (W.p1 (.int .i64 2) (.nil (.ret ?_))))
  obtain rfl := zAa h2
  exact z1b kr (v1 := (.int .i64 2)) (by rfl) rt O (zAf _) rfl
 have h3 := z0h g1 h
 refine .skip (.seq (.seq (.region (W.p2 v0 (W.pv (.int .i64 (p0.length : Int)) (z0k ov (z0d hp0) (z04 el44)) (W.p2 (.int .i64 0) ?_))))))
 refine .nil ?_
 obtain ⟨q4, h5, h6⟩ := z3j h3
 refine AW.midT (fun σ' H' => ∃  (G' : GM), (.inr ()) = q4 /\ Ow G' H' (L) /\ GM.le G G') ?_ ?_
 rotate_left
 .rintro σ65 H66 fr67 ⟨G68, rfl, O69, s70⟩
  have h72 := z7a (z9l h6)
  refine .seq (.region (W.p1 (.int .i64 0) (.nil (.ret ?_))))
  obtain rfl := zAa h72
  exact z1b kr (v1 := (.int .i64 0)) (by rfl) rt O69 s70 rfl
 refine .block (AW.loop (α := Nat) (fun k' σ' H' => ∃ (y1 : Int) (G' : GM), z1d K p0 k' y1 = some q4 /\ Ow G' H' (L) /\ GM.le G G' /\ σ' 10 = .int .i64 y1) (fun k' => k') K ⟨0, _, h5, O, (zAf _), rfl⟩ ?_)
 rintro k7
 rintro σ9 H10 fr11 ⟨x8, G12, h15, O13, s14, t16⟩
 rcases k7 with _ | k7
 .exact z07 h15
 rw [z1d] at h15
 refine .seq (.region (W.q3 (.bool (decide (x8 < (p0.length : Int)))) t16 ((fr11 9 rfl).trans rfl) (.nil (.seq (.cond (b := decide (x8 < (p0.length : Int))) rfl rfl (fun g17 => ?_) (fun g17 => ?_))))))
 rotate_left
 .have h64 := z0h g17 h15
  refine .exit ?_
  obtain rfl := zAa h64
  exact ⟨_, rfl, O13, s14⟩
 have h18 := z05 g17 h15
 refine .skip (.seq (.block (.seq (.region (W.q2 _ t16 (W.p1 (.int .i64 x8) ?_))))))
 refine .nil (.seq (.seq (.draw2 (M := [0, 0, 3, 7, 15, 0, 32, 96, 224, 511]) mixed (by kernel_rfl) (by kernel_rfl) fun H19 N23 x20 F22 => ?_)))
 have O21 := O13.ext x20
 refine D2.q2 v0 ((fr11 0 rfl).trans rfl) (D2.p2 (.int .i64 x8) ?_)
 obtain ⟨x24, i25, h26⟩ := z01 h18
 have j27 := z0a i25
 refine D2.pv (z1o v0 (x8.toNat * 1)) (z2f el44 sz45 ov ov (z0d (RT.mono _ s14 hp0)) j27.1 j27.2.1) ?_
 obtain ⟨w28, p29, f30⟩ := At.sl (At.le (z2g hp0 j27.2.2) s14 s14)
 replace p29 := PtG.le p29 O21.fro
 refine D2.load1' (v := w28) (r := []) rfl rfl ag45 (z0z rfl p29) z06 (D2.pv (.int .i64 (x24.length : Int)) (z0k ov (z0d f30) (z04 el45)) (D2.q2 v0 ((fr11 0 rfl).trans rfl) ?_))
 obtain ⟨x31, i32, h33⟩ := z01 h26
 have j34 := z0a i32
 refine D2.pv (z1o v0 (Int.toNat 0 * 1)) (z2f el44 sz45 ov ov (z0d (RT.mono _ s14 hp0)) j34.1 j34.2.1) ?_
 obtain ⟨w35, p36, f37⟩ := At.sl (At.le (z2g hp0 j34.2.2) s14 s14)
 replace p36 := PtG.le p36 O21.fro
 refine D2.load1' (v := w35) (r := []) rfl rfl ag45 (z0z rfl p36) z06 (D2.pv (.int .i64 (x31.length : Int)) (z0k ov (z0d f37) (z04 el45)) (D2.p3 (.bool ((x24.length : Int) != (x31.length : Int))) (.nil (.cond (b := ((x24.length : Int) != (x31.length : Int))) rfl rfl (fun g38 => ?_) (fun g38 => ?_)))))
 .have h39 := z05 g38 h33
  refine .seq (.region (W.p1 (.int .i64 3) (.nil (.ret ?_))))
  obtain rfl := zAa h39
  have h40 := z09 (z7t h6)
  obtain rfl := zAa h40
  exact z1b kr (v1 := (.int .i64 3)) (by rfl) rt O21 s14 rfl
 have h41 := z0h g38 h33
 refine .skip (.seq (.region (W.q2 v0 ((fr11 0 rfl).trans rfl) (W.p2 (.int .i64 x8) ?_))))
 obtain ⟨x42, i43, h44⟩ := z01 h41
 have j45 := z0a i43
 refine W.pv (z1o v0 (x8.toNat * 1)) (z2f el44 sz45 ov ov (z0d (RT.mono _ s14 hp0)) j45.1 j45.2.1) ?_
 obtain ⟨w46, p47, f48⟩ := At.sl (At.le (z2g hp0 j45.2.2) s14 s14)
 replace p47 := PtG.le p47 O21.fro
 refine W.load1 (v := w46) (r := []) rfl rfl ag45 (z0z rfl p47) ?_
 obtain ⟨x49, i50, h51⟩ := z01 h44
 refine W.ln (Lo.cP rfl (fn := Tryz.f33) (by kernel_rfl) rfl (mc rfl mn) O21 (fun L' O' => zat K w46 x42 f48 O' _ i50)) ?_
 rintro v58 H59 ⟨G52, O53, s54, sm57, rfl⟩
 refine W.p1 (.int .i64 x49) (.nil (.seq (.region (W.p2 (.int .i64 x49) (W.p3 (.bool (x49 != 0)) (.nil ?_))))))
 refine .cond (b := (x49 != 0)) rfl rfl (fun g60 => ?_) (fun g60 => ?_)
 rotate_left
 .have h63 := z0h g60 h51
  refine .skip (.region (W.r3 (.int .i64 (z03 .i64 (x8 + 1))) t16 (W.p2 (.int .i64 (z03 .i64 (x8 + 1))) (.nil ?_))))
  exact ⟨k7, zAg _, ⟨z03 .i64 (x8 + 1), _, h63, O53, (zAe s14 s54), rfl⟩⟩
 have h61 := z05 g60 h51
 refine .seq (.region (W.p2 (.int .i64 x49) (W.p1 (.int .i64 x49) (.nil (.ret ?_)))))
 obtain rfl := zAa h61
 have h62 := z09 (z7t h6)
 obtain rfl := zAa h62
 exact z1b kr (v1 := (.int .i64 x49)) (by rfl) rt O53 (zAe s14 s54) rfl
def z08 (K : Nat) (p0 : List zAd) (p1 : zAd -> Option Bool) : Nat -> Int -> Option (Int ⊕ Unit)
  | 0, _ => none
  | k + 1, x5 => (if (decide (x5 < (p0.length : Int))) = true then ((idx p0 x5).bind fun x16 => ((p1 x16).bind fun x20 => (if x20 = true then some (.inl x5) else z08 K p0 p1 k (z03 .i64 (x5 + 1))))) else some (.inr ()))
def z0l (K : Nat) (p0 : List zAd) (p1 : zAd -> Option Bool) : Option Int := (zbs (z08 K p0 p1 K 0) (tu1 fun a42 => some a42) (tu0 (some (-1))))
theorem z3h (v0 : Value) (p0 : List zAd) (hp0 : (rSl rS).rep G [v0] p0) (v1 : Value) (p1 : zAd -> Option Bool) (hp1 : FnOk Tryz.prog G v1 (fun _ vs (x : (zAd)) => vs = [.string x]) (fun _ v (rr : (Bool)) => v = .bool rr) p1) (O : Ow G H (L)) (r : Int) (h : z0l K p0 p1 = some r) :
    CR Tryz.prog 143 [v0, v1] G H (L) (fun v G' _ => v = .int .i64 r) := by
 unfold z0l at h
 refine CR.og (n := 19) (fn := Tryz.f143) (by kernel_rfl) rfl rfl fun R kr => (.seq (.region (W.p1 (.int .i64 0) (.nil (.seq (.seq ?_))))))
 refine .region (W.p2 v0 (W.pv (.int .i64 (p0.length : Int)) (z0k ov (z0d hp0) (z04 el45)) (W.p2 (.int .i64 0) (.nil ?_))))
 obtain ⟨q1, h2, h3⟩ := z3j h
 refine AW.midT (fun σ' H' => ∃  (G' : GM), (.inr ()) = q1 /\ Ow G' H' (L) /\ GM.le G G') ?_ ?_
 rotate_left
 .rintro σ34 H35 fr36 ⟨G37, rfl, O38, s39⟩
  have h41 := z7a (z9l h3)
  refine .seq (.region (W.p1 (.int .i64 (-1)) (.nil (.ret ?_))))
  obtain rfl := zAa h41
  exact z1b kr (v1 := (.int .i64 (-1))) (by rfl) rt O38 s39 rfl
 refine .block (AW.loop (α := Nat) (fun k' σ' H' => ∃ (y1 : Int) (G' : GM), z08 K p0 p1 k' y1 = some q1 /\ Ow G' H' (L) /\ GM.le G G' /\ σ' 8 = .int .i64 y1) (fun k' => k') K ⟨0, _, h2, O, (zAf _), rfl⟩ ?_)
 rintro k4
 rintro σ6 H7 fr8 ⟨x5, G9, h12, O10, s11, t13⟩
 rcases k4 with _ | k4
 .exact z07 h12
 rw [z08] at h12
 refine .seq (.region (W.q3 (.bool (decide (x5 < (p0.length : Int)))) t13 ((fr8 7 rfl).trans rfl) (.nil (.seq (.cond (b := decide (x5 < (p0.length : Int))) rfl rfl (fun g14 => ?_) (fun g14 => ?_))))))
 rotate_left
 .have h33 := z0h g14 h12
  refine .exit ?_
  obtain rfl := zAa h33
  exact ⟨_, rfl, O10, s11⟩
 have h15 := z05 g14 h12
 refine .skip (.seq (.block (.seq (.region (W.q2 _ t13 (W.p1 (.int .i64 x5) ?_))))))
 refine .nil (.seq (.region (W.q2 v1 ((fr8 1 rfl).trans rfl) (W.q2 v0 ((fr8 0 rfl).trans rfl) (W.p2 (.int .i64 x5) ?_)))))
 obtain ⟨x16, i17, h18⟩ := z01 h15
 have j19 := z0a i17
 refine W.pv (z1o v0 (x5.toNat * 1)) (z2f el45 sz22 ov ov (z0d (RT.mono _ s11 hp0)) j19.1 j19.2.1) (W.load1 (v := (.string x16)) (r := []) rfl rfl ag22 (z0z rfl (At.str (At.le (At.le (z2g hp0 j19.2.2) s11 s11) (zAf _) O10.fro))) ?_)
 obtain ⟨x20, i21, h22⟩ := z01 h18
 refine W.ln (Lo.callF (x0 := x16) rfl rfl (FnOk.le hp1 s11) (mc rfl mn) rfl i21 O10) ?_
 rintro v27 H28 ⟨G23, O24, s25, sm26, rfl⟩
 refine .nil (.cond (b := x20) rfl rfl (fun g29 => ?_) (fun g29 => ?_))
 rotate_left
 .have h32 := z0h g29 h22
  refine .skip (.region (W.r3 (.int .i64 (z03 .i64 (x5 + 1))) t13 (W.p2 (.int .i64 (z03 .i64 (x5 + 1))) (.nil ?_))))
  exact ⟨k4, zAg _, ⟨z03 .i64 (x5 + 1), _, h32, O24, (zAe s11 s25), rfl⟩⟩
 have h30 := z05 g29 h22
 refine .seq (.region (W.p2 (.int .i64 x5) (W.p1 (.int .i64 x5) (.nil (.ret ?_)))))
 obtain rfl := zAa h30
 have h31 := z09 (z7t h3)
 obtain rfl := zAa h31
 exact z1b kr (v1 := (.int .i64 x5)) (by rfl) rt O24 (zAe s11 s25) rfl
def z0g (K : Nat) (p0 : List zAd) (p1 : zAd -> Option Bool) : Option Bool := ((z0l K p0 p1).bind fun x1 => some (decide (x1 >= 0)))
theorem z35 (v0 : Value) (p0 : List zAd) (hp0 : (rSl rS).rep G [v0] p0) (v1 : Value) (p1 : zAd -> Option Bool) (hp1 : FnOk Tryz.prog G v1 (fun _ vs (x : (zAd)) => vs = [.string x]) (fun _ v (rr : (Bool)) => v = .bool rr) p1) (O : Ow G H (L)) (r : Bool) (h : z0g K p0 p1 = some r) :
    CR Tryz.prog 87 [v0, v1] G H (L) (fun v G' _ => v = .bool r) := by
 unfold z0g at h
 refine CR.og (n := 9) (fn := Tryz.f87) (by kernel_rfl) rfl rfl fun R kr => (.seq (.region (W.p1 (.bool false) (.nil (.seq (.region ?_))))))
 refine W.p2 v0 (W.p2 v1 ?_)
 obtain ⟨x1, i2, h3⟩ := z01 h
 refine W.ln (Lo.cP rfl (fn := Tryz.f143) (by kernel_rfl) rfl (mc rfl (mc rfl mn)) O (fun L' O' => z3h K v0 p0 hp0 v1 p1 hp1 O' _ i2)) ?_
 rintro v10 H11 ⟨G4, O5, s6, sm9, rfl⟩
 refine W.p3 (.bool (decide (x1 >= 0))) (W.p1 (.bool (decide (x1 >= 0))) (.nil (.ret ?_)))
 obtain rfl := zAa h3
 exact z1b kr (v1 := (.bool (decide (x1 >= 0)))) (by rfl) rt O5 s6 rfl
def z5l (K : Nat) (p0 : zAd) : Option Bool := some (decide ((p0.size : Int) > 12))
theorem zau (p0 : zAd) (O : Ow G H (L)) (r : Bool) (h : z5l K p0 = some r) :
    CR Tryz.prog 88 [(.string p0)] G H (L) (fun v G' _ => v = .bool r) := by
 unfold z5l at h
 refine CR.og (n := 6) (fn := Tryz.f88) (by kernel_rfl) rfl rfl fun R kr => (.seq (.region (W.p1 (.bool false) (.nil (.seq (.region ?_))))))
 refine W.p2 (.string p0) (W.pv (.int .i64 (p0.size : Int)) (z18 ov un22) (W.p3 (.bool (decide ((p0.size : Int) > 12))) (W.p1 (.bool (decide ((p0.size : Int) > 12))) (.nil (.ret ?_)))))
 obtain rfl := zAa h
 exact z1b kr (v1 := (.bool (decide ((p0.size : Int) > 12)))) (by rfl) rt O (zAf _) rfl
def z2k (K : Nat) (p0 : Int) (x16 : List (List zAd)) : Nat -> Int -> Option (Bool ⊕ Unit)
  | 0, _ => none
  | k + 1, x31 => (if (decide (x31 < (x16.length : Int))) = true then ((idx x16 x31).bind fun x42 => (Option.bind ((if (decide ((x42.length : Int) > p0)) = true then some true else ((z0g K x42 (fun x => z5l K x)).bind fun x56 => some x56))) (tu1 fun x67 => (if x67 = true then some (.inl true) else z2k K p0 x16 k (z03 .i64 (x31 + 1)))))) else some (.inr ()))
def z36 (K : Nat) (p0 : Int) (p1 : List (List (List zAd))) : Nat -> Int -> Option (Bool ⊕ Unit)
  | 0, _ => none
  | k + 1, x5 => (if (decide (x5 < (p1.length : Int))) = true then ((idx p1 x5).bind fun x16 => (if (decide ((x16.length : Int) > p0)) = true then some (.inl true) else (zbs (z2k K p0 x16 K 0) (tu1 fun a91 => some (.inl a91)) (tu0 (z36 K p0 p1 k (z03 .i64 (x5 + 1))))))) else some (.inr ()))
def z6k (K : Nat) (p0 : Int) (p1 : List (List (List zAd))) : Option Bool := (zbs (z36 K p0 p1 K 0) (tu1 fun a101 => some a101) (tu0 (some false)))
theorem zcy (p0 : Int) (v1 : Value) (p1 : List (List (List zAd))) (hp1 : (rSl (rSl (rSl rS))).rep G [v1] p1) (O : Ow G H (L)) (r : Bool) (h : z6k K p0 p1 = some r) :
    CR Tryz.prog 32 [(.int .i64 p0), v1] G H (L) (fun v G' _ => v = .bool r) := by
 unfold z6k at h
 refine CR.og (n := 35) (fn := Tryz.f32) (by kernel_rfl) rfl rfl fun R kr => (.seq (.region (W.p1 (.bool false) (.nil (.seq (.seq ?_))))))
 refine .region (W.p2 v1 (W.pv (.int .i64 (p1.length : Int)) (z0k ov (z0d hp1) (z04 zoy)) (W.p2 (.int .i64 0) (.nil ?_))))
 obtain ⟨q1, h2, h3⟩ := z3j h
 refine AW.midT (fun σ' H' => ∃  (G' : GM), (.inr ()) = q1 /\ Ow G' H' (L) /\ GM.le G G') ?_ ?_
 rotate_left
 .rintro σ93 H94 fr95 ⟨G96, rfl, O97, s98⟩
  have h100 := z7a (z9l h3)
  refine .seq (.region (W.p1 (.bool false) (.nil (.ret ?_))))
  obtain rfl := zAa h100
  exact z1b kr (v1 := (.bool false)) (by rfl) rt O97 s98 rfl
 refine .block (AW.loop (α := Nat) (fun k' σ' H' => ∃ (y1 : Int) (G' : GM), z36 K p0 p1 k' y1 = some q1 /\ Ow G' H' (L) /\ GM.le G G' /\ σ' 11 = .int .i64 y1) (fun k' => k') K ⟨0, _, h2, O, (zAf _), rfl⟩ ?_)
 rintro k4
 rintro σ6 H7 fr8 ⟨x5, G9, h12, O10, s11, t13⟩
 rcases k4 with _ | k4
 .exact z07 h12
 rw [z36] at h12
 refine .seq (.region (W.q3 (.bool (decide (x5 < (p1.length : Int)))) t13 ((fr8 10 rfl).trans rfl) (.nil (.seq (.cond (b := decide (x5 < (p1.length : Int))) rfl rfl (fun g14 => ?_) (fun g14 => ?_))))))
 rotate_left
 .have h92 := z0h g14 h12
  refine .exit ?_
  obtain rfl := zAa h92
  exact ⟨_, rfl, O10, s11⟩
 have h15 := z05 g14 h12
 refine .skip (.seq (.block (.seq (.region ?_))))
 obtain ⟨x16, i17, h18⟩ := z01 h15
 have j19 := z0a i17
 refine W.pv (z1o v1 (x5.toNat * 1)) (z2f zoy sz44 (ou ((fr8 9 rfl).trans rfl)) (ou t13) (z0d (RT.mono _ s11 hp1)) j19.1 j19.2.1) ?_
 obtain ⟨w20, p21, f22⟩ := At.sl (At.le (z2g hp1 j19.2.2) s11 s11)
 replace p21 := PtG.le p21 O10.fro
 refine W.load1 (v := w20) (r := []) rfl rfl ag44 (z0z rfl p21) (W.p1 w20 (.nil (.seq (.seq (.region (W.p2 w20 ?_))))))
 refine W.pv (.int .i64 (x16.length : Int)) (z0k ov (z0d f22) (z04 el44)) (W.q2 (.int .i64 p0) ((fr8 0 rfl).trans rfl) (W.p3 (.bool (decide ((x16.length : Int) > p0))) (.nil (.cond (b := decide ((x16.length : Int) > p0)) rfl rfl (fun g23 => ?_) (fun g23 => ?_)))))
 .have h24 := z05 g23 h18
  refine .seq (.region (W.p1 (.bool true) (.nil (.ret ?_))))
  obtain rfl := zAa h24
  have h25 := z09 (z7t h3)
  obtain rfl := zAa h25
  exact z1b kr (v1 := (.bool true)) (by rfl) rt O10 s11 rfl
 have h26 := z0h g23 h18
 refine .skip (.seq (.region (W.p2 w20 (W.pv (.int .i64 (x16.length : Int)) (z0k ov (z0d f22) (z04 el44)) (W.p2 (.int .i64 0) (.nil ?_))))))
 obtain ⟨q27, h28, h29⟩ := z3j h26
 refine AW.midT (fun σ' H' => ∃  (G' : GM), (.inr ()) = q27 /\ Ow G' H' (L) /\ GM.le G9 G') ?_ ?_
 rotate_left
 .rintro σ83 H84 fr85 ⟨G86, rfl, O87, s88⟩
  have h90 := z7a (z9l h29)
  refine .region (W.q3 (.int .i64 (z03 .i64 (x5 + 1))) ((fr85 11 rfl).trans t13) rfl (W.p2 (.int .i64 (z03 .i64 (x5 + 1))) (.nil ?_)))
  exact ⟨k4, zAg _, ⟨z03 .i64 (x5 + 1), _, h90, O87, (zAe s11 s88), rfl⟩⟩
 refine .block (AW.loop (α := Nat) (fun k' σ' H' => ∃ (y1 : Int) (G' : GM), z2k K p0 x16 k' y1 = some q27 /\ Ow G' H' (L) /\ GM.le G9 G' /\ σ' 21 = .int .i64 y1) (fun k' => k') K ⟨0, _, h28, O10, (zAf _), rfl⟩ ?_)
 rintro k30
 rintro σ32 H33 fr34 ⟨x31, G35, h38, O36, s37, t39⟩
 rcases k30 with _ | k30
 .exact z07 h38
 rw [z2k] at h38
 refine .seq (.region (W.q3 (.bool (decide (x31 < (x16.length : Int)))) t39 ((fr34 20 rfl).trans rfl) (.nil (.seq (.cond (b := decide (x31 < (x16.length : Int))) rfl rfl (fun g40 => ?_) (fun g40 => ?_))))))
 rotate_left
 .have h82 := z0h g40 h38
  refine .exit ?_
  obtain rfl := zAa h82
  exact ⟨_, rfl, O36, s37⟩
 have h41 := z05 g40 h38
 refine .skip (.seq (.block (.seq (.region ?_))))
 obtain ⟨x42, i43, h44⟩ := z01 h41
 have j45 := z0a i43
 refine W.pv (z1o w20 (x31.toNat * 1)) (z2f el44 sz45 (ou ((fr34 19 rfl).trans rfl)) (ou t39) (z0d (RT.mono _ s37 f22)) j45.1 j45.2.1) ?_
 obtain ⟨w46, p47, f48⟩ := At.sl (At.le (z2g f22 j45.2.2) s37 s37)
 replace p47 := PtG.le p47 O36.fro
 refine W.load1 (v := w46) (r := []) rfl rfl ag45 (z0z rfl p47) (W.p1 w46 (.nil (.seq ?_)))
 obtain ⟨q49, h50, h51⟩ := z01 h44
 refine AW.midT (fun σ' H' => ∃ (y1 : Bool) (G' : GM), y1 = q49 /\ Ow G' H' (L) /\ GM.le G35 G' /\ σ' 32 = .bool y1) ?_ ?_
 rotate_left
 .rintro σ68 H69 fr70 ⟨x67, G71, rfl, O72, s73, t75⟩
  have h76 := z09 h51
  refine .cond (b := x67) rfl t75 (fun g77 => ?_) (fun g77 => ?_)
  rotate_left
  .have h81 := z0h g77 h76
   refine .skip (.region (W.q3 (.int .i64 (z03 .i64 (x31 + 1))) ((fr70 21 rfl).trans t39) rfl (W.p2 (.int .i64 (z03 .i64 (x31 + 1))) (.nil ?_))))
   exact ⟨k30, zAg _, ⟨z03 .i64 (x31 + 1), _, h81, O72, (zAe s37 s73), rfl⟩⟩
  have h78 := z05 g77 h76
  refine .seq (.region (W.p1 (.bool true) (.nil (.ret ?_))))
  obtain rfl := zAa h78
  have h79 := z09 (z7t h29)
  obtain rfl := zAa h79
  have h80 := z09 (z7t h3)
  obtain rfl := zAa h80
  exact z1b kr (v1 := (.bool true)) (by rfl) rt O72 (zAe s11 (zAe s37 s73)) rfl
 refine .region (W.p2 w46 (W.pv (.int .i64 (x42.length : Int)) (z0k ov (z0d f48) (z04 el45)) (W.q2 (.int .i64 p0) ((fr34 0 rfl).trans ((fr8 0 rfl).trans rfl)) (W.p3 (.bool (decide ((x42.length : Int) > p0))) (W.p2 (.bool (decide ((x42.length : Int) > p0))) (W.splitAt (t := 29) (b := decide ((x42.length : Int) > p0)) rfl (fun g52 gv53 => ?_) (fun g52 gv53 => ?_)))))))
 .have h54 := z05 g52 h50
  refine W.q6 rfl gv53 (W.q6 rfl gv53 (W.q4 (.bool true) gv53 rfl (.nil ?_)))
  obtain rfl := zAa h54
  exact ⟨true, _, rfl, O36, (zAf _), rfl⟩
 have h55 := z0h g52 h50
 refine W.q2 (hg := gk rfl rfl gv53 rfl) w46 rfl ?_
 obtain ⟨x56, i57, h58⟩ := z01 h55
 refine W.lo (gk rfl rfl gv53 rfl) rfl (Lo.cP rfl (fn := Tryz.f87) (by kernel_rfl) rfl (mc rfl (mc rfl mn)) O36 (fun L' O' => z35 K w46 x42 f48 (.func (.func 88) #[] #[]) (fun x => z5l K x) ⟨88, _, _, Tryz.f88, rfl, by kernel_rfl, rfl, fun G1 H L vs x r hG O hA hF => by obtain rfl := hA; exact zau K x O _ hF⟩ O' _ i57)) ?_
 rintro v65 H66 ⟨G59, O60, s61, sm64, rfl⟩
 refine W.q5 (.bool x56) gv53 rfl (.nil ?_)
 obtain rfl := zAa h58
 exact ⟨x56, _, rfl, O60, s61, rfl⟩
def z8q (K : Nat) (p0 : List (List zAd)) : Option Int := (if (decide ((p0.length : Int) > 0)) = true then ((idx p0 0).bind fun x3 => some (x3.length : Int)) else some 0)
theorem zds (v0 : Value) (p0 : List (List zAd)) (hp0 : (rSl (rSl rS)).rep G [v0] p0) (O : Ow G H (L)) (r : Int) (h : z8q K p0 = some r) :
    CR Tryz.prog 31 [v0] G H (L) (fun v G' _ => v = .int .i64 r) := by
 unfold z8q at h
 refine CR.og (n := 10) (fn := Tryz.f31) (by kernel_rfl) rfl rfl fun R kr => (.seq (.region (W.p1 (.int .i64 0) (.nil (.seq (.seq ?_))))))
 refine .region (W.p2 v0 (W.pv (.int .i64 (p0.length : Int)) (z0k ov (z0d hp0) (z04 el44)) (W.p3 (.bool (decide ((p0.length : Int) > 0))) (.nil (.cond (b := decide ((p0.length : Int) > 0)) rfl rfl (fun g1 => ?_) (fun g1 => ?_))))))
 rotate_left
 .have h10 := z0h g1 h
  refine .skip (.seq (.region (W.p1 (.int .i64 0) (.nil (.ret ?_)))))
  obtain rfl := zAa h10
  exact z1b kr (v1 := (.int .i64 0)) (by rfl) rt O (zAf _) rfl
 have h2 := z05 g1 h
 refine .seq (.region (W.p2 v0 ?_))
 obtain ⟨x3, i4, h5⟩ := z01 h2
 have j6 := z0a i4
 refine W.pv (z1o v0 (Int.toNat 0 * 1)) (z2f el44 sz45 ov ov (z0d hp0) j6.1 j6.2.1) ?_
 obtain ⟨w7, p8, f9⟩ := At.sl (z2g hp0 j6.2.2)
 replace p8 := PtG.le p8 O.fro
 refine W.load1 (v := w7) (r := []) rfl rfl ag45 (z0z rfl p8) (W.pv (.int .i64 (x3.length : Int)) (z0k ov (z0d f9) (z04 el45)) (W.p1 (.int .i64 (x3.length : Int)) (.nil (.ret ?_))))
 obtain rfl := zAa h5
 exact z1b kr (v1 := (.int .i64 (x3.length : Int))) (by rfl) rt O (zAf _) rfl
def z2q (K : Nat) (x1 : Int) (x13 : zAd) : Nat -> Int -> Option ((Bool × zAd × zAd) ⊕ Unit)
  | 0, _ => none
  | k + 1, x27 => (if (decide (x27 < (x13.size : Int))) = true then ((bidx x13 x27).bind fun x38 => (if (x38 == 47) = true then ((ssl x13 0 x27).bind fun x48 => ((ssl x13 (z03 .i64 (x27 + 1)) (x13.size : Int)).bind fun x51 => some (.inl ((x1 == 45), x48, x51)))) else z2q K x1 x13 k (z03 .i64 (x27 + 1)))) else some (.inr ()))
def z4m (K : Nat) (p0 : zAd) : Option (Bool × zAd × zAd) := ((bidx p0 0).bind fun x1 => (Option.bind ((if (x1 == 45) = true then ((ssl p0 1 (p0.size : Int)).bind fun x9 => some x9) else some p0)) (tu1 fun x13 => (zbs (z2q K x1 x13 K 0) (tu3 fun a65 a66 a67 => some (a65, a66, a67)) (tu0 (some ((x1 == 45), x13, (⟨#[49]⟩ : zAd))))))))
theorem z5m (p0 : zAd) (O : Ow G H (L)) (r : Bool × zAd × zAd) (h : z4m K p0 = some r) :
    CR Tryz.prog 61 [(.string p0)] G H (L) (fun v G' _ => v = .tuple #[.bool r.1, .string r.2.1, .string r.2.2]) := by
 unfold z4m at h
 refine CR.og (n := 35) (fn := Tryz.f61) (by kernel_rfl) rfl rfl fun R kr => (.seq (.region (W.p1 (.bool false) (W.p1 (.string (⟨#[]⟩ : zAd)) (W.p1 (.string (⟨#[]⟩ : zAd)) (.nil ?_))))))
 refine .seq (.region (W.p2 (.string p0) (W.p1 (.string p0) (.nil (.seq (.region ?_))))))
 refine W.p2 (.string p0) ?_
 obtain ⟨x1, i2, h3⟩ := z01 h
 refine W.pv (.int .u8 x1) (z8h un9 ov ov i2) (W.p3 (.bool (x1 == 45)) (W.p1 (.bool (x1 == 45)) (.nil (.seq (.seq (.region ?_))))))
 refine W.p2 (.bool (x1 == 45)) (.nil ?_)
 obtain ⟨q4, h5, h6⟩ := z01 h3
 refine AW.midT (fun σ' H' => ∃ (y1 : zAd) (G' : GM), y1 = q4 /\ Ow G' H' (L) /\ GM.le G G' /\ σ' 5 = .string y1) ?_ ?_
 .refine .cond (b := (x1 == 45)) rfl rfl (fun g7 => ?_) (fun g7 => ?_)
  rotate_left
  .have h12 := z0h g7 h5
   refine .skip ?_
   obtain rfl := zAa h12
   exact ⟨p0, _, rfl, O, (zAf _), rfl⟩
  have h8 := z05 g7 h5
  refine .region (W.p2 (.string p0) ?_)
  obtain ⟨x9, i10, h11⟩ := z01 h8
  refine W.pv (.string x9) (zct un9 ov ov i10) (W.p1 (.string x9) (.nil ?_))
  obtain rfl := zAa h11
  exact ⟨x9, _, rfl, O, (zAf _), rfl⟩
 rintro σ14 H15 fr16 ⟨x13, G17, rfl, O18, s19, t21⟩
 have h22 := z09 h6
 refine .seq (.seq (.region (W.q2 _ t21 (W.pv (.int .i64 (x13.size : Int)) (z18 ov un9) (W.p2 (.int .i64 0) (.nil ?_))))))
 obtain ⟨q23, h24, h25⟩ := z3j h22
 refine AW.midT (fun σ' H' => ∃  (G' : GM), (.inr ()) = q23 /\ Ow G' H' (L) /\ GM.le G17 G') ?_ ?_
 rotate_left
 .rintro σ57 H58 fr59 ⟨G60, rfl, O61, s62⟩
  have h64 := z7a (z9l h25)
  refine .seq (.region (W.q2 (.bool (x1 == 45)) ((fr59 6 rfl).trans ((fr16 6 rfl).trans rfl)) (W.q2 _ ((fr59 5 rfl).trans t21) (W.p1 (.bool (x1 == 45)) (W.p1 (.string x13) (W.p1 (.string (⟨#[49]⟩ : zAd)) ?_))))))
  refine .nil (.ret ?_)
  obtain rfl := zAa h64
  exact zn1 kr (v1 := (.bool (x1 == 45))) (v2 := (.string x13)) (v3 := (.string (⟨#[49]⟩ : zAd))) (by rfl) rt rt rt O61 (zAe s19 s62) rfl
 refine .block (AW.loop (α := Nat) (fun k' σ' H' => ∃ (y1 : Int) (G' : GM), z2q K x1 x13 k' y1 = some q23 /\ Ow G' H' (L) /\ GM.le G17 G' /\ σ' 17 = .int .i64 y1) (fun k' => k') K ⟨0, _, h24, O18, (zAf _), rfl⟩ ?_)
 rintro k26
 rintro σ28 H29 fr30 ⟨x27, G31, h34, O32, s33, t35⟩
 rcases k26 with _ | k26
 .exact z07 h34
 rw [z2q] at h34
 refine .seq (.region (W.q3 (.bool (decide (x27 < (x13.size : Int)))) t35 ((fr30 16 rfl).trans rfl) (.nil (.seq (.cond (b := decide (x27 < (x13.size : Int))) rfl rfl (fun g36 => ?_) (fun g36 => ?_))))))
 rotate_left
 .have h56 := z0h g36 h34
  refine .exit ?_
  obtain rfl := zAa h56
  exact ⟨_, rfl, O32, s33⟩
 have h37 := z05 g36 h34
 refine .skip (.seq (.block (.seq (.region (W.q2 _ t35 (W.p1 (.int .i64 x27) ?_))))))
 refine .nil (.seq (.region (W.q2 _ ((fr30 5 rfl).trans t21) (W.p2 (.int .i64 x27) ?_))))
 obtain ⟨x38, i39, h40⟩ := z01 h37
 refine W.pv (.int .u8 x38) (z8h un9 ov ov i39) (W.p3 (.bool (x38 == 47)) (.nil (.cond (b := (x38 == 47)) rfl rfl (fun g41 => ?_) (fun g41 => ?_))))
 rotate_left
 .have h55 := z0h g41 h40
  refine .skip (.region (W.r3 (.int .i64 (z03 .i64 (x27 + 1))) t35 (W.p2 (.int .i64 (z03 .i64 (x27 + 1))) (.nil ?_))))
  exact ⟨k26, zAg _, ⟨z03 .i64 (x27 + 1), _, h55, O32, s33, rfl⟩⟩
 have h42 := z05 g41 h40
 refine .seq (.draw2 (M := [0, 0, 0, 6, 0, 0, 32, 112, 1, 271, 1023]) mixed (by kernel_rfl) (by kernel_rfl) fun H43 N47 x44 F46 => ?_)
 have O45 := O32.ext x44
 refine D2.q2 (.bool (x1 == 45)) ((fr30 6 rfl).trans ((fr16 6 rfl).trans rfl)) (D2.q2 _ ((fr30 5 rfl).trans t21) (D2.p2 (.int .i64 x27) ?_))
 obtain ⟨x48, i49, h50⟩ := z01 h42
 refine D2.pv (.string x48) (zhd un9 ov ov i49) (D2.q2 _ ((fr30 5 rfl).trans t21) (D2.p2 (.int .i64 x27) (D2.p3 (.int .i64 (z03 .i64 (x27 + 1))) ?_)))
 obtain ⟨x51, i52, h53⟩ := z01 h50
 refine D2.pv (.string x51) (zct un9 ov ov i52) (D2.p1 (.bool (x1 == 45)) (D2.p1 (.string x48) (D2.p1 (.string x51) (.nil (.ret ?_)))))
 obtain rfl := zAa h53
 have h54 := zen (z7t h25)
 obtain rfl := zAa h54
 exact zn1 kr (v1 := (.bool (x1 == 45))) (v2 := (.string x48)) (v3 := (.string x51)) (by rfl) rt rt rt O45 (zAe s19 s33) rfl
def z2l (K : Nat) (p1 : zAd) (x15 : Int) (x26 : Int) : Nat -> List Int -> Int -> Option (List Int)
  | 0, _, _ => none
  | k + 1, x41, x42 => (if (decide (x42 < (p1.size : Int))) = true then ((idx x41 (z03 .i64 (x15 + x42))).bind fun x58 => ((z4l K p1 x42).bind fun x62 => ((idx x41 (z03 .i64 (x15 + x42))).bind fun x73 => z2l K p1 x15 x26 k (List.set x41 (Int.toNat (z03 .i64 (x15 + x42))) (z03 .i64 (x58 + (z03 .i64 (x26 * x62))))) (z03 .i64 (x42 + 1))))) else some x41)
def z27 (K : Nat) (x91 : List Int) : Nat -> List Int -> Int -> Option (List Int)
  | 0, _, _ => none
  | k + 1, x102, x103 => (if (decide (x103 < (x91.length : Int))) = true then (Option.bind (((idx x102 x103).bind fun x117 => (if (decide (x117 > 9)) = true then ((idx x102 (z03 .i64 (x103 + 1))).bind fun x128 => ((idx x102 x103).bind fun x132 => ((idx x102 (z03 .i64 (x103 + 1))).bind fun x136 => ((idx (List.set x102 (Int.toNat (z03 .i64 (x103 + 1))) (z03 .i64 (x128 + (z03 .i64 (Int.tdiv x132 10))))) x103).bind fun x144 => ((idx (List.set x102 (Int.toNat (z03 .i64 (x103 + 1))) (z03 .i64 (x128 + (z03 .i64 (Int.tdiv x132 10))))) x103).bind fun x148 => some (List.set (List.set x102 (Int.toNat (z03 .i64 (x103 + 1))) (z03 .i64 (x128 + (z03 .i64 (Int.tdiv x132 10))))) (x103.toNat) (Int.tmod x144 10))))))) else some x102))) (tu1 fun x157 => z27 K x91 k x157 (z03 .i64 (x103 + 1)))) else some x102)
def z2m (K : Nat) (p0 : zAd) (p1 : zAd) : Nat -> List Int -> Int -> Option (List Int)
  | 0, _, _ => none
  | k + 1, x14, x15 => (if (decide (x15 < (p0.size : Int))) = true then ((z4l K p0 x15).bind fun x26 => (Option.bind (z2l K p1 x15 x26 K x14 0) (tu1 fun x82 => ((lsl x82 0 (z03 .i64 ((x82.length : Int) - 1))).bind fun x91 => (Option.bind (z27 K x91 K x82 0) (tu1 fun x167 => z2m K p0 p1 k x167 (z03 .i64 (x15 + 1)))))))) else some x14)
def z46 (K : Nat) (p0 : zAd) (p1 : zAd) : Option zAd := (lt (z03 .i64 ((z03 .i64 ((p0.size : Int) + (p1.size : Int))) + 1)) fun x1 => (if 0 <= x1 /\ x1 <= x1 /\ x1 <= 16777216 then (Option.bind (z2m K p0 p1 K (List.replicate (x1.toNat) 0) 0) (tu1 fun x177 => ((z84 K x177).bind fun x186 => some x186))) else none))
theorem z4x (p0 : zAd) (p1 : zAd) (O : Ow G H (L)) (r : zAd) (h : z46 K p0 p1 = some r) :
    CR Tryz.prog 94 [(.string p0), (.string p1)] G H (L) (fun v G' _ => v = .string r) := by
 unfold z46 at h
 refine CR.og (n := 80) (fn := Tryz.f94) (by kernel_rfl) rfl rfl fun R kr => (.seq (.region (W.p1 (.string (⟨#[]⟩ : zAd)) (.nil (.seq (.region ?_))))))
 refine W.p2 (.string p0) (W.pv (.int .i64 (p0.size : Int)) (z18 ov un9) (W.p2 (.string p1) (W.pv (.int .i64 (p1.size : Int)) (z18 ov un9) (W.p3 (.int .i64 (z03 .i64 ((p0.size : Int) + (p1.size : Int)))) (W.p3 (.int .i64 (z03 .i64 ((z03 .i64 ((p0.size : Int) + (p1.size : Int))) + 1))) ?_)))))
 obtain ⟨x1, e2, h3⟩ := z60 h
 obtain ⟨g5, h6⟩ := z2n h3
 refine W.ln (Lo.makeSlice (r := (rI .i64)) (x0 := 0) (a := x1) (c := x1) rfl zb1 ze3 sz3 (by kernel_rfl) rfl by3 (by decide) (congrArg (Value.int .i64) e2) (congrArg (Value.int .i64) e2) g5 (zI .i64) O) ?_
 rintro v8 H9 ⟨O4, sm7⟩
 refine W.p1 v8 (.nil (.seq (.seq (.region (W.p2 (.string p0) (W.pv (.int .i64 (p0.size : Int)) (z18 ov un9) ?_))))))
 refine W.p2 (.int .i64 0) (.nil ?_)
 obtain ⟨q10, h11, h12⟩ := z01 h6
 refine AW.midT (fun σ' H' => ∃ (y1 : List Int) (G' : GM), y1 = q10 /\ Ow G' H' (eSl v8 3 (rI .i64) y1 :: L) /\ GM.le G G') ?_ ?_
 rotate_left
 .rintro σ178 H179 fr180 ⟨x177, G181, rfl, O182, s183⟩
  have h185 := z09 h12
  refine .seq (.region (W.q2 v8 ((fr180 5 rfl).trans rfl) ?_))
  obtain ⟨x186, i187, h188⟩ := z01 h185
  refine W.ln (Lo.callB (j := 0) rfl rfl (fn := Tryz.f150) (by kernel_rfl) rfl (mc rfl mn) O182 (fun G' L' hG O' hB => z98 K v8 x177 hB O' _ i187)) ?_
  rintro v195 H196 ⟨G189, O190, s191, sm194, rfl⟩
  refine W.p1 (.string x186) (.nil (.ret ?_))
  have O197 := O190.drop 0
  obtain rfl := zAa h188
  exact z1b kr (v1 := (.string x186)) (by rfl) rt O197 (zAe s183 s191) rfl
 refine .block (AW.loop (α := Nat) (fun k' σ' H' => ∃ (y1 : List Int) (y2 : Int) (G' : GM), z2m K p0 p1 k' y1 y2 = some q10 /\ Ow G' H' (eSl v8 3 (rI .i64) y1 :: L) /\ GM.le G G' /\ σ' 19 = .int .i64 y2) (fun k' => k') K ⟨(List.replicate (x1.toNat) 0), 0, _, h11, O4, (zAf _), rfl⟩ ?_)
 rintro k13
 rintro σ16 H17 fr18 ⟨x14, x15, G19, h22, O20, s21, t23⟩
 rcases k13 with _ | k13
 .exact z07 h22
 rw [z2m] at h22
 refine .seq (.region (W.q3 (.bool (decide (x15 < (p0.size : Int)))) t23 ((fr18 18 rfl).trans rfl) (.nil (.seq (.cond (b := decide (x15 < (p0.size : Int))) rfl rfl (fun g24 => ?_) (fun g24 => ?_))))))
 rotate_left
 .have h176 := z0h g24 h22
  refine .exit ?_
  obtain rfl := zAa h176
  exact ⟨x14, _, rfl, O20, s21⟩
 have h25 := z05 g24 h22
 refine .skip (.seq (.block (.seq (.region (W.q2 _ t23 (W.p1 (.int .i64 x15) ?_))))))
 refine .nil (.seq (.region (W.q2 (.string p0) ((fr18 0 rfl).trans rfl) (W.p2 (.int .i64 x15) ?_))))
 obtain ⟨x26, i27, h28⟩ := z01 h25
 refine W.ln (Lo.cP rfl (fn := Tryz.f149) (by kernel_rfl) rfl (mc rfl (mc rfl mn)) O20 (fun L' O' => z4g K p0 x15 O' _ i27)) ?_
 rintro v35 H36 ⟨G29, O30, s31, sm34, rfl⟩
 refine W.p1 (.int .i64 x26) (.nil (.seq (.seq (.region (W.q2 (.string p1) ((fr18 1 rfl).trans rfl) (W.pv (.int .i64 (p1.size : Int)) (z18 ov un9) ?_))))))
 refine W.p2 (.int .i64 0) (.nil ?_)
 obtain ⟨q37, h38, h39⟩ := z01 h28
 refine AW.midT (fun σ' H' => ∃ (y1 : List Int) (G' : GM), y1 = q37 /\ Ow G' H' (eSl v8 3 (rI .i64) y1 :: L) /\ GM.le G29 G') ?_ ?_
 .refine .block (AW.loop (α := Nat) (fun k' σ' H' => ∃ (y1 : List Int) (y2 : Int) (G' : GM), z2l K p1 x15 x26 k' y1 y2 = some q37 /\ Ow G' H' (eSl v8 3 (rI .i64) y1 :: L) /\ GM.le G29 G' /\ σ' 27 = .int .i64 y2) (fun k' => k') K ⟨x14, 0, _, h38, O30, (zAf _), rfl⟩ ?_)
  rintro k40
  rintro σ43 H44 fr45 ⟨x41, x42, G46, h49, O47, s48, t50⟩
  rcases k40 with _ | k40
  .exact z07 h49
  rw [z2l] at h49
  refine .seq (.region (W.q3 (.bool (decide (x42 < (p1.size : Int)))) t50 ((fr45 26 rfl).trans rfl) (.nil (.seq (.cond (b := decide (x42 < (p1.size : Int))) rfl rfl (fun g51 => ?_) (fun g51 => ?_))))))
  rotate_left
  .have h81 := z0h g51 h49
   refine .exit ?_
   obtain rfl := zAa h81
   exact ⟨x41, _, rfl, O47, s48⟩
  have h52 := z05 g51 h49
  refine .skip (.seq (.block (.seq (.region (W.q2 _ t50 (W.p1 (.int .i64 x42) ?_))))))
  refine .nil (.draw2 (M := [0, 0, 0, 6, 15, 31, 0, 0, 0, 384, 960, 2047, 4095, 8191]) mixed (by kernel_rfl) (by kernel_rfl) fun H53 N57 x54 F56 => ?_)
  have O55 := O47.ext x54
  refine D2.q2 v8 ((fr45 5 rfl).trans ((fr18 5 rfl).trans rfl)) (D2.q2 (.int .i64 x15) ((fr45 6 rfl).trans rfl) (D2.p2 (.int .i64 x42) (D2.p3 (.int .i64 (z03 .i64 (x15 + x42))) ?_)))
  obtain ⟨x58, i59, h60⟩ := z01 h52
  have j61 := z0a i59
  refine D2.pv (z1o v8 (Int.toNat (z03 .i64 (x15 + x42)) * 1)) (z2f zb1 sz3 ov ov (O55.slLen (j := 0) rfl) j61.1 j61.2.1) (D2.load1' (v := (.int .i64 x58)) (r := []) rfl rfl ag3 (z0z rfl (At.int (O55.atSl (j := 0) rfl j61.2.2))) z06 (D2.q2 (.int .i64 x26) ((fr45 7 rfl).trans rfl) (D2.q2 (.string p1) ((fr45 1 rfl).trans ((fr18 1 rfl).trans rfl)) (D2.p2 (.int .i64 x42) ?_))))
  obtain ⟨x62, i63, h64⟩ := z01 h60
  refine D2.lo rfl rfl (Lo.cP rfl (fn := Tryz.f149) (by kernel_rfl) rfl (mc rfl (mc rfl mn)) O55 (fun L' O' => z4g K p1 x42 O' _ i63)) ?_ z06 ?_ ?_
  .rintro v71 H72 ⟨G65, O66, s67, sm70, rfl⟩; exact (faR1 (.inr (sm70 _ (Or.inr ⟨0, _, rfl, (O55.footSl (j := 0) rfl j61.2.2)⟩))) z06)
  .rintro v71 H72 ⟨G65, O66, s67, sm70, rfl⟩; exact z06
  rintro v71 H72 ⟨G65, O66, s67, sm70, rfl⟩
  refine D2.p3 (.int .i64 (z03 .i64 (x26 * x62))) (D2.p3 (.int .i64 (z03 .i64 (x58 + (z03 .i64 (x26 * x62))))) ?_)
  obtain ⟨x73, i74, h75⟩ := z01 h64
  have j76 := z0a i74
  refine D2.pv (z1o v8 (Int.toNat (z03 .i64 (x15 + x42)) * 1)) (z2f zb1 sz3 ov ov (O66.slLen (j := 0) rfl) j76.1 j76.2.1) (D2.lo rfl rfl (Lo.storeSl0 (j := 0) (y0 := z03 .i64 (x58 + (z03 .i64 (x26 * x62)))) (v := (.int .i64 (z03 .i64 (x58 + (z03 .i64 (x26 * x62)))))) rfl j76.2.2  rfl sz3 rfl rfl rfl O66) ?_ (z0j (by decide) z06) ?_ ?_)
  .rintro v79 H80 ⟨O77, sm78⟩; exact (faR1 (.inl (by decide)) z06)
  .rintro v79 H80 ⟨O77, sm78⟩; exact z06
  rintro v79 H80 ⟨O77, sm78⟩
  refine .nil (.region (W.r3 (.int .i64 (z03 .i64 (x42 + 1))) t50 (W.p2 (.int .i64 (z03 .i64 (x42 + 1))) (.nil ?_))))
  exact ⟨k40, zAg _, ⟨(List.set x41 (Int.toNat (z03 .i64 (x15 + x42))) (z03 .i64 (x58 + (z03 .i64 (x26 * x62))))), z03 .i64 (x42 + 1), _, h75, O77, (zAe s48 s67), rfl⟩⟩
 rintro σ83 H84 fr85 ⟨x82, G86, rfl, O87, s88⟩
 have h90 := z09 h39
 refine .seq (.region (W.q2 v8 ((fr85 5 rfl).trans ((fr18 5 rfl).trans rfl)) (W.q2 v8 ((fr85 5 rfl).trans ((fr18 5 rfl).trans rfl)) (W.pv (.int .i64 (x82.length : Int)) (z0k ov (O87.slLen (j := 0) rfl) (z04 zb1)) (W.p3 (.int .i64 (z03 .i64 ((x82.length : Int) - 1))) ?_)))))
 obtain ⟨x91, i92, h93⟩ := z01 h90
 obtain ⟨w94, e96, f97⟩ := O87.view (j := 0) rfl zb1 sz3 i92
 refine W.pv w94 (e96 ov ov) (W.pv (.int .i64 (x91.length : Int)) (z0k ov f97 (z04 zb1)) (W.p2 (.int .i64 0) (.nil ?_)))
 obtain ⟨q98, h99, h100⟩ := z01 h93
 refine AW.midT (fun σ' H' => ∃ (y1 : List Int) (G' : GM), y1 = q98 /\ Ow G' H' (eSl v8 3 (rI .i64) y1 :: L) /\ GM.le G86 G') ?_ ?_
 rotate_left
 .rintro σ168 H169 fr170 ⟨x167, G171, rfl, O172, s173⟩
  have h175 := z09 h100
  refine .region (W.q3 (.int .i64 (z03 .i64 (x15 + 1))) ((fr170 19 rfl).trans ((fr85 19 rfl).trans t23)) rfl (W.p2 (.int .i64 (z03 .i64 (x15 + 1))) (.nil ?_)))
  exact ⟨k13, zAg _, ⟨x167, z03 .i64 (x15 + 1), _, h175, O172, (zAe s21 (zAe s31 (zAe s88 s173))), rfl⟩⟩
 refine .block (AW.loop (α := Nat) (fun k' σ' H' => ∃ (y1 : List Int) (y2 : Int) (G' : GM), z27 K x91 k' y1 y2 = some q98 /\ Ow G' H' (eSl v8 3 (rI .i64) y1 :: L) /\ GM.le G86 G' /\ σ' 50 = .int .i64 y2) (fun k' => k') K ⟨x82, 0, _, h99, O87, (zAf _), rfl⟩ ?_)
 rintro k101
 rintro σ104 H105 fr106 ⟨x102, x103, G107, h110, O108, s109, t111⟩
 rcases k101 with _ | k101
 .exact z07 h110
 rw [z27] at h110
 refine .seq (.region (W.q3 (.bool (decide (x103 < (x91.length : Int)))) t111 ((fr106 49 rfl).trans rfl) (.nil (.seq (.cond (b := decide (x103 < (x91.length : Int))) rfl rfl (fun g112 => ?_) (fun g112 => ?_))))))
 rotate_left
 .have h166 := z0h g112 h110
  refine .exit ?_
  obtain rfl := zAa h166
  exact ⟨x102, _, rfl, O108, s109⟩
 have h113 := z05 g112 h110
 refine .skip (.seq ?_)
 obtain ⟨q114, h115, h116⟩ := z01 h113
 refine AW.midT (fun σ' H' => ∃ (y1 : List Int) (G' : GM), y1 = q114 /\ Ow G' H' (eSl v8 3 (rI .i64) y1 :: L) /\ GM.le G107 G') ?_ ?_
 rotate_left
 .rintro σ158 H159 fr160 ⟨x157, G161, rfl, O162, s163⟩
  have h165 := z09 h116
  refine .region (W.q3 (.int .i64 (z03 .i64 (x103 + 1))) ((fr160 50 rfl).trans t111) rfl (W.p2 (.int .i64 (z03 .i64 (x103 + 1))) (.nil ?_)))
  exact ⟨k101, zAg _, ⟨x157, z03 .i64 (x103 + 1), _, h165, O162, (zAe s109 s163), rfl⟩⟩
 refine .block (.seq (.region (W.q2 _ t111 (W.p1 (.int .i64 x103) (.nil (.seq ?_))))))
 refine .region (W.q2 v8 ((fr106 5 rfl).trans ((fr85 5 rfl).trans ((fr18 5 rfl).trans rfl))) (W.p2 (.int .i64 x103) ?_))
 obtain ⟨x117, i118, h119⟩ := z01 h115
 have j120 := z0a i118
 refine W.pv (z1o v8 (x103.toNat * 1)) (z2f zb1 sz3 ov ov (O108.slLen (j := 0) rfl) j120.1 j120.2.1) (W.load1 (v := (.int .i64 x117)) (r := []) rfl rfl ag3 (z0z rfl (At.int (O108.atSl (j := 0) rfl j120.2.2))) (W.p3 (.bool (decide (x117 > 9))) (.nil (.cond (b := decide (x117 > 9)) rfl rfl (fun g121 => ?_) (fun g121 => ?_)))))
 rotate_left
 .have h156 := z0h g121 h119
  refine .skip ?_
  obtain rfl := zAa h156
  exact ⟨x102, _, rfl, O108, (zAf _)⟩
 have h122 := z05 g121 h119
 refine .seq (.draw2 (M := [0, 0, 2, 7, 15, 0, 0, 96, 224, 480, 1023, 2047, 4095]) mixed (by kernel_rfl) (by kernel_rfl) fun H123 N127 x124 F126 => ?_)
 have O125 := O108.ext x124
 refine D2.q2 v8 ((fr106 5 rfl).trans ((fr85 5 rfl).trans ((fr18 5 rfl).trans rfl))) (D2.p2 (.int .i64 x103) (D2.p3 (.int .i64 (z03 .i64 (x103 + 1))) ?_))
 obtain ⟨x128, i129, h130⟩ := z01 h122
 have j131 := z0a i129
 refine D2.pv (z1o v8 (Int.toNat (z03 .i64 (x103 + 1)) * 1)) (z2f zb1 sz3 ov ov (O125.slLen (j := 0) rfl) j131.1 j131.2.1) (D2.load1' (v := (.int .i64 x128)) (r := []) rfl rfl ag3 (z0z rfl (At.int (O125.atSl (j := 0) rfl j131.2.2))) z06 (D2.q2 v8 ((fr106 5 rfl).trans ((fr85 5 rfl).trans ((fr18 5 rfl).trans rfl))) (D2.p2 (.int .i64 x103) ?_)))
 obtain ⟨x132, i133, h134⟩ := z01 h130
 have j135 := z0a i133
 refine D2.pv (z1o v8 (x103.toNat * 1)) (z2f zb1 sz3 ov ov (O125.slLen (j := 0) rfl) j135.1 j135.2.1) (D2.load1' (v := (.int .i64 x132)) (r := []) rfl rfl ag3 (z0z rfl (At.int (O125.atSl (j := 0) rfl j135.2.2))) z06 (D2.pv (.int .i64 (z03 .i64 (Int.tdiv x132 10))) (zh4 (by decide) ov ov) (D2.p3 (.int .i64 (z03 .i64 (x128 + (z03 .i64 (Int.tdiv x132 10))))) ?_)))
 obtain ⟨x136, i137, h138⟩ := z01 h134
 have j139 := z0a i137
 refine D2.pv (z1o v8 (Int.toNat (z03 .i64 (x103 + 1)) * 1)) (z2f zb1 sz3 ov ov (O125.slLen (j := 0) rfl) j139.1 j139.2.1) (D2.lo rfl rfl (Lo.storeSl0 (j := 0) (y0 := z03 .i64 (x128 + (z03 .i64 (Int.tdiv x132 10)))) (v := (.int .i64 (z03 .i64 (x128 + (z03 .i64 (Int.tdiv x132 10)))))) rfl j139.2.2  rfl sz3 rfl rfl rfl O125) ?_ z06 ?_ ?_)
 .rintro v142 H143 ⟨O140, sm141⟩; exact (faR1 (.inl (by decide)) (faR1 (.inl (by decide)) z06))
 .rintro v142 H143 ⟨O140, sm141⟩; exact z06
 rintro v142 H143 ⟨O140, sm141⟩
 refine .nil (.region (W.q2 v8 ((fr106 5 rfl).trans ((fr85 5 rfl).trans ((fr18 5 rfl).trans rfl))) (W.p2 (.int .i64 x103) ?_)))
 obtain ⟨x144, i145, h146⟩ := z01 h138
 have j147 := z0a i145
 refine W.pv (z1o v8 (x103.toNat * 1)) (z2f zb1 sz3 ov ov (O140.slLen (j := 0) rfl) j147.1 j147.2.1) (W.load1 (v := (.int .i64 x144)) (r := []) rfl rfl ag3 (z0z rfl (At.int (O140.atSl (j := 0) rfl j147.2.2))) (W.pv (.int .i64 (Int.tmod x144 10)) (zh5 (by decide) ov ov) ?_))
 obtain ⟨x148, i149, h150⟩ := z01 h146
 have j151 := z0a i149
 refine W.pv (z1o v8 (x103.toNat * 1)) (z2f zb1 sz3 ov ov (O140.slLen (j := 0) rfl) j151.1 j151.2.1) (W.ln (Lo.storeSl0 (j := 0) (y0 := Int.tmod x144 10) (v := (.int .i64 (Int.tmod x144 10))) rfl j151.2.2  rfl sz3 rfl rfl rfl O140) ?_)
 rintro v154 H155 ⟨O152, sm153⟩
 refine .nil ?_
 obtain rfl := zAa h150
 exact ⟨(List.set (List.set x102 (Int.toNat (z03 .i64 (x103 + 1))) (z03 .i64 (x128 + (z03 .i64 (Int.tdiv x132 10))))) (x103.toNat) (Int.tmod x144 10)), _, rfl, O152, (zAf _)⟩
def z5t (K : Nat) (p0 : Bool) (p1 : zAd) (p2 : zAd) : Option zAd := (if (sEq p1 (⟨#[48]⟩ : zAd)) = true then some (⟨#[48]⟩ : zAd) else ((z6j K p1 p2).bind fun x4 => ((z5j K p1 x4).bind fun x15 => ((z5j K p2 x4).bind fun x26 => (Option.bind ((if p0 = true then (if ((⟨#[45]⟩ : zAd)).size + (x15.1).size <= 4611686018427387904 then some ((⟨#[45]⟩ : zAd) ++ x15.1) else none) else some x15.1)) (tu1 fun x45 => (if (sEq x26.1 (⟨#[49]⟩ : zAd)) = true then some x45 else (if (x45).size + ((⟨#[47]⟩ : zAd)).size <= 4611686018427387904 then (if ((x45 ++ (⟨#[47]⟩ : zAd))).size + (x26.1).size <= 4611686018427387904 then some ((x45 ++ (⟨#[47]⟩ : zAd)) ++ x26.1) else none) else none))))))))
theorem z6u (p0 : Bool) (p1 : zAd) (p2 : zAd) (O : Ow G H (L)) (r : zAd) (h : z5t K p0 p1 p2 = some r) :
    CR Tryz.prog 95 [(.bool p0), (.string p1), (.string p2)] G H (L) (fun v G' _ => v = .string r) := by
 unfold z5t at h
 refine CR.og (n := 35) (fn := Tryz.f95) (by kernel_rfl) rfl rfl fun R kr => (.seq (.region (W.p1 (.string (⟨#[]⟩ : zAd)) (.nil (.seq (.seq ?_))))))
 refine .region (W.p2 (.string p1) (W.pv (.bool (sEq p1 (⟨#[48]⟩ : zAd))) (z7u ov ov) (.nil (.cond (b := sEq p1 (⟨#[48]⟩ : zAd)) rfl rfl (fun g1 => ?_) (fun g1 => ?_)))))
 .have h2 := z05 g1 h
  refine .seq (.region (W.p1 (.string (⟨#[48]⟩ : zAd)) (.nil (.ret ?_))))
  obtain rfl := zAa h2
  exact z1b kr (v1 := (.string (⟨#[48]⟩ : zAd))) (by rfl) rt O (zAf _) rfl
 have h3 := z0h g1 h
 refine .skip (.seq (.region (W.p2 (.string p1) (W.p2 (.string p2) ?_))))
 obtain ⟨x4, i5, h6⟩ := z01 h3
 refine W.ln (Lo.cP rfl (fn := Tryz.f60) (by kernel_rfl) rfl (mc rfl (mc rfl mn)) O (fun L' O' => z9g K p1 p2 O' _ i5)) ?_
 rintro v13 H14 ⟨G7, O8, s9, sm12, rfl⟩
 refine W.p1 (.string x4) (.nil (.seq (.region (W.p2 (.string p1) (W.p2 (.string x4) ?_)))))
 obtain ⟨x15, i16, h17⟩ := z01 h6
 refine W.ln (Lo.cP rfl (fn := Tryz.f129) (by kernel_rfl) rfl (mc rfl (mc rfl mn)) O8 (fun L' O' => z7f K p1 x4 O' _ i16)) ?_
 rintro v24 H25 ⟨G18, O19, s20, sm23, rfl⟩
 refine W.p2 (.tuple #[(.string x15.1), (.string x15.2)]) (W.pv (.string x15.1) (z0b ov rfl) (W.pv (.string x15.2) (z0b ov rfl) (W.p1 (.string x15.1) (.nil (.seq (.region ?_))))))
 refine W.p2 (.string p2) (W.p2 (.string x4) ?_)
 obtain ⟨x26, i27, h28⟩ := z01 h17
 refine W.ln (Lo.cP rfl (fn := Tryz.f129) (by kernel_rfl) rfl (mc rfl (mc rfl mn)) O19 (fun L' O' => z7f K p2 x4 O' _ i27)) ?_
 rintro v35 H36 ⟨G29, O30, s31, sm34, rfl⟩
 refine W.p2 (.tuple #[(.string x26.1), (.string x26.2)]) (W.pv (.string x26.1) (z0b ov rfl) (W.pv (.string x26.2) (z0b ov rfl) (W.p1 (.string x26.1) (.nil (.seq (.seq ?_))))))
 refine .region (W.p2 (.bool p0) (.nil ?_))
 obtain ⟨q37, h38, h39⟩ := z01 h28
 refine AW.midT (fun σ' H' => ∃ (y1 : zAd) (G' : GM), y1 = q37 /\ Ow G' H' (L) /\ GM.le G29 G' /\ σ' 1 = .string y1) ?_ ?_
 .refine .cond (b := p0) rfl rfl (fun g40 => ?_) (fun g40 => ?_)
  rotate_left
  .have h44 := z0h g40 h38
   refine .skip ?_
   obtain rfl := zAa h44
   exact ⟨x15.1, _, rfl, O30, (zAf _), rfl⟩
  have h41 := z05 g40 h38
  refine .region (W.p2 (.string x15.1) ?_)
  obtain ⟨g42, h43⟩ := z2n h41
  refine W.pv (.string ((⟨#[45]⟩ : zAd) ++ x15.1)) (zao g42 ov ov) (W.p1 (.string ((⟨#[45]⟩ : zAd) ++ x15.1)) (.nil ?_))
  obtain rfl := zAa h43
  exact ⟨((⟨#[45]⟩ : zAd) ++ x15.1), _, rfl, O30, (zAf _), rfl⟩
 rintro σ46 H47 fr48 ⟨x45, G49, rfl, O50, s51, t53⟩
 have h54 := z09 h39
 refine .seq (.seq (.region (W.q2 (.string x26.1) ((fr48 2 rfl).trans rfl) (W.pv (.bool (sEq x26.1 (⟨#[49]⟩ : zAd))) (z7u ov ov) (.nil (.cond (b := sEq x26.1 (⟨#[49]⟩ : zAd)) rfl rfl (fun g55 => ?_) (fun g55 => ?_)))))))
 .have h56 := z05 g55 h54
  refine .seq (.region (W.q2 _ t53 (W.p1 (.string x45) (.nil (.ret ?_)))))
  obtain rfl := zAa h56
  exact z1b kr (v1 := (.string x45)) (by rfl) rt O50 (zAe s9 (zAe s20 (zAe s31 s51))) rfl
 have h57 := z0h g55 h54
 refine .skip (.seq (.region (W.q2 _ t53 ?_)))
 obtain ⟨g58, h59⟩ := z2n h57
 refine W.pv (.string (x45 ++ (⟨#[47]⟩ : zAd))) (zao g58 ov ov) (W.q2 (.string x26.1) ((fr48 2 rfl).trans rfl) ?_)
 obtain ⟨g60, h61⟩ := z2n h59
 refine W.pv (.string ((x45 ++ (⟨#[47]⟩ : zAd)) ++ x26.1)) (zao g60 ov ov) (W.p1 (.string ((x45 ++ (⟨#[47]⟩ : zAd)) ++ x26.1)) (.nil (.ret ?_)))
 obtain rfl := zAa h61
 exact z1b kr (v1 := (.string ((x45 ++ (⟨#[47]⟩ : zAd)) ++ x26.1))) (by rfl) rt O50 (zAe s9 (zAe s20 (zAe s31 s51))) rfl
def z7g (K : Nat) (p0 : zAd) (p1 : zAd) : Option zAd := ((z4m K p0).bind fun x1 => ((z4m K p1).bind fun x12 => ((z46 K x1.2.1 x12.2.1).bind fun x23 => ((z46 K x1.2.2 x12.2.2).bind fun x34 => ((z5t K (!(x1.1 == x12.1)) x23 x34).bind fun x45 => some x45)))))
theorem zcz (p0 : zAd) (p1 : zAd) (O : Ow G H (L)) (r : zAd) (h : z7g K p0 p1 = some r) :
    CR Tryz.prog 42 [(.string p0), (.string p1)] G H (L) (fun v G' _ => v = .string r) := by
 unfold z7g at h
 refine CR.og (n := 33) (fn := Tryz.f42) (by kernel_rfl) rfl rfl fun R kr => (.seq (.region (W.p1 (.string (⟨#[]⟩ : zAd)) (.nil (.seq (.region ?_))))))
 refine W.p2 (.string p0) ?_
 obtain ⟨x1, i2, h3⟩ := z01 h
 refine W.ln (Lo.cP rfl (fn := Tryz.f61) (by kernel_rfl) rfl (mc rfl mn) O (fun L' O' => z5m K p0 O' _ i2)) ?_
 rintro v10 H11 ⟨G4, O5, s6, sm9, rfl⟩
 refine W.p2 (.tuple #[(.bool x1.1), (.string x1.2.1), (.string x1.2.2)]) (W.pv (.bool x1.1) (z0b ov rfl) (W.pv (.string x1.2.1) (z0b ov rfl) (W.pv (.string x1.2.2) (z0b ov rfl) (W.p1 (.bool x1.1) (W.p1 (.string x1.2.1) (W.p1 (.string x1.2.2) ?_))))))
 refine .nil (.seq (.region (W.p2 (.string p1) ?_)))
 obtain ⟨x12, i13, h14⟩ := z01 h3
 refine W.ln (Lo.cP rfl (fn := Tryz.f61) (by kernel_rfl) rfl (mc rfl mn) O5 (fun L' O' => z5m K p1 O' _ i13)) ?_
 rintro v21 H22 ⟨G15, O16, s17, sm20, rfl⟩
 refine W.p2 (.tuple #[(.bool x12.1), (.string x12.2.1), (.string x12.2.2)]) (W.pv (.bool x12.1) (z0b ov rfl) (W.pv (.string x12.2.1) (z0b ov rfl) (W.pv (.string x12.2.2) (z0b ov rfl) (W.p1 (.bool x12.1) (W.p1 (.string x12.2.1) (W.p1 (.string x12.2.2) ?_))))))
 refine .nil (.seq (.region (W.p2 (.bool x1.1) (W.p2 (.bool x12.1) (W.pv (.bool (!(x1.1 == x12.1))) (zdo ov ov un4) (W.p2 (.string x1.2.1) ?_))))))
 refine W.p2 (.string x12.2.1) ?_
 obtain ⟨x23, i24, h25⟩ := z01 h14
 refine W.ln (Lo.cP rfl (fn := Tryz.f94) (by kernel_rfl) rfl (mc rfl (mc rfl mn)) O16 (fun L' O' => z4x K x1.2.1 x12.2.1 O' _ i24)) ?_
 rintro v32 H33 ⟨G26, O27, s28, sm31, rfl⟩
 refine W.p2 (.string x1.2.2) (W.p2 (.string x12.2.2) ?_)
 obtain ⟨x34, i35, h36⟩ := z01 h25
 refine W.ln (Lo.cP rfl (fn := Tryz.f94) (by kernel_rfl) rfl (mc rfl (mc rfl mn)) O27 (fun L' O' => z4x K x1.2.2 x12.2.2 O' _ i35)) ?_
 rintro v43 H44 ⟨G37, O38, s39, sm42, rfl⟩
 obtain ⟨x45, i46, h47⟩ := z01 h36
 refine W.ln (Lo.cP rfl (fn := Tryz.f95) (by kernel_rfl) rfl (mc rfl (mc rfl (mc rfl mn))) O38 (fun L' O' => z6u K (!(x1.1 == x12.1)) x23 x34 O' _ i46)) ?_
 rintro v54 H55 ⟨G48, O49, s50, sm53, rfl⟩
 refine W.p1 (.string x45) (.nil (.ret ?_))
 obtain rfl := zAa h47
 exact z1b kr (v1 := (.string x45)) (by rfl) rt O49 (zAe s6 (zAe s17 (zAe s28 (zAe s39 s50)))) rfl
def z5n (K : Nat) (p0 : zAd) : Option zAd := ((z4m K p0).bind fun x1 => ((z5t K (!x1.1) x1.2.1 x1.2.2).bind fun x12 => some x12))
theorem zd0 (p0 : zAd) (O : Ow G H (L)) (r : zAd) (h : z5n K p0 = some r) :
    CR Tryz.prog 111 [(.string p0)] G H (L) (fun v G' _ => v = .string r) := by
 unfold z5n at h
 refine CR.og (n := 17) (fn := Tryz.f111) (by kernel_rfl) rfl rfl fun R kr => (.seq (.region (W.p1 (.string (⟨#[]⟩ : zAd)) (.nil (.seq (.region ?_))))))
 refine W.p2 (.string p0) ?_
 obtain ⟨x1, i2, h3⟩ := z01 h
 refine W.ln (Lo.cP rfl (fn := Tryz.f61) (by kernel_rfl) rfl (mc rfl mn) O (fun L' O' => z5m K p0 O' _ i2)) ?_
 rintro v10 H11 ⟨G4, O5, s6, sm9, rfl⟩
 refine W.p2 (.tuple #[(.bool x1.1), (.string x1.2.1), (.string x1.2.2)]) (W.pv (.bool x1.1) (z0b ov rfl) (W.pv (.string x1.2.1) (z0b ov rfl) (W.pv (.string x1.2.2) (z0b ov rfl) (W.p1 (.bool x1.1) (W.p1 (.string x1.2.1) (W.p1 (.string x1.2.2) ?_))))))
 refine .nil (.seq (.region (W.p2 (.bool x1.1) (W.pv (.bool (!x1.1)) (zbq (a := x1.1) ov) (W.p2 (.string x1.2.1) (W.p2 (.string x1.2.2) ?_))))))
 obtain ⟨x12, i13, h14⟩ := z01 h3
 refine W.ln (Lo.cP rfl (fn := Tryz.f95) (by kernel_rfl) rfl (mc rfl (mc rfl (mc rfl mn))) O5 (fun L' O' => z6u K (!x1.1) x1.2.1 x1.2.2 O' _ i13)) ?_
 rintro v21 H22 ⟨G15, O16, s17, sm20, rfl⟩
 refine W.p1 (.string x12) (.nil (.ret ?_))
 obtain rfl := zAa h14
 exact z1b kr (v1 := (.string x12)) (by rfl) rt O16 (zAe s6 s17) rfl
def z1z (K : Nat) (p0 : zAd) (p1 : zAd) : Nat -> List Int -> Int -> Int -> Option (List Int)
  | 0, _, _, _ => none
  | k + 1, x6, x7, x8 => (Option.bind ((if (decide (x8 < (p0.size : Int))) = true then some true else (if (decide (x8 < (p1.size : Int))) = true then some true else some (decide (x7 > 0))))) (tu1 fun x29 => (if x29 = true then ((z4l K p0 x8).bind fun x41 => ((z4l K p1 x8).bind fun x52 => (if x6.length + List.length [Int.tmod (z03 .i64 ((z03 .i64 (x41 + x52)) + x7)) 10] <= 16777216 then (lt (z03 .i64 (Int.tdiv (z03 .i64 ((z03 .i64 (x41 + x52)) + x7)) 10)) fun x76 => z1z K p0 p1 k (x6 ++ [Int.tmod (z03 .i64 ((z03 .i64 (x41 + x52)) + x7)) 10]) x76 (z03 .i64 (x8 + 1))) else none))) else some x6)))
def z7h (K : Nat) (p0 : zAd) (p1 : zAd) : Option zAd := (Option.bind (z1z K p0 p1 K [] 0 0) (tu1 fun x81 => ((z84 K x81).bind fun x90 => some x90)))
theorem zd1 (p0 : zAd) (p1 : zAd) (O : Ow G H (L)) (r : zAd) (h : z7h K p0 p1 = some r) :
    CR Tryz.prog 96 [(.string p0), (.string p1)] G H (L) (fun v G' _ => v = .string r) := by
 unfold z7h at h
 refine CR.og (n := 43) (fn := Tryz.f96) (by kernel_rfl) rfl rfl fun R kr => (.seq (.region (W.p1 (.string (⟨#[]⟩ : zAd)) (.nil (.seq (.region ?_))))))
 refine W.p1 (.slice none 0 0) (.nil (.seq (.region (W.p1 (.int .i64 0) (.nil (.seq ?_))))))
 refine .seq (.region (W.p1 (.int .i64 0) (.nil ?_)))
 obtain ⟨q1, h2, h3⟩ := z01 h
 refine AW.midT (fun σ' H' => ∃ (y1 : List Int) (G' : GM), y1 = q1 /\ Ow G' H' (eSl (σ' 5) 3 (rI .i64) y1 :: L) /\ GM.le G G') ?_ ?_
 rotate_left
 .rintro σ82 H83 fr84 ⟨x81, G85, rfl, O86, s87⟩
  have h89 := z09 h3
  refine .seq (.region (W.p2 (σ82 5) ?_))
  obtain ⟨x90, i91, h92⟩ := z01 h89
  refine W.ln (Lo.callB (j := 0) rfl rfl (fn := Tryz.f150) (by kernel_rfl) rfl (mc rfl mn) O86 (fun G' L' hG O' hB => z98 K (σ82 5) x81 hB O' _ i91)) ?_
  rintro v99 H100 ⟨G93, O94, s95, sm98, rfl⟩
  refine W.p1 (.string x90) (.nil (.ret ?_))
  have O101 := O94.drop 0
  obtain rfl := zAa h92
  exact z1b kr (v1 := (.string x90)) (by rfl) rt O101 (zAe s87 s95) rfl
 refine .block ?_
 have O4 := O.nilSl 3 (rI .i64)
 refine AW.loop (α := Nat) (fun k' σ' H' => ∃ (y1 : List Int) (y2 : Int) (y3 : Int) (G' : GM), z1z K p0 p1 k' y1 y2 y3 = some q1 /\ Ow G' H' (eSl (σ' 5) 3 (rI .i64) y1 :: L) /\ GM.le G G' /\ σ' 6 = .int .i64 y2 /\ σ' 7 = .int .i64 y3) (fun k' => k') K ⟨[], 0, 0, _, h2, O4, (zAf _), rfl, rfl⟩ ?_
 rintro k5
 rintro σ9 H10 fr11 ⟨x6, x7, x8, G12, h15, O13, s14, t16, t17⟩
 rcases k5 with _ | k5
 .exact z07 h15
 rw [z1z] at h15
 refine .seq (.seq ?_)
 obtain ⟨q18, h19, h20⟩ := z01 h15
 refine AW.midT (fun σ' H' => ∃ (y1 : Bool) (G' : GM), y1 = q18 /\ Ow G' H' (eSl (σ9 5) 3 (rI .i64) x6 :: L) /\ GM.le G12 G' /\ σ' 22 = .bool y1) ?_ ?_
 .refine .region (W.q2 _ t17 (W.q2 (.string p0) ((fr11 0 rfl).trans rfl) (W.pv (.int .i64 (p0.size : Int)) (z18 ov un9) (W.p3 (.bool (decide (x8 < (p0.size : Int)))) (W.p2 (.bool (decide (x8 < (p0.size : Int)))) (W.splitAt (t := 13) (b := decide (x8 < (p0.size : Int))) rfl (fun g21 gv22 => ?_) (fun g21 gv22 => ?_)))))))
  .have h23 := z05 g21 h19
   refine W.q6 rfl gv22 (W.q6 rfl gv22 (W.q6 rfl gv22 (W.q6 rfl gv22 (W.q4 (.bool true) gv22 rfl (W.p2 (.bool true) (W.q6 rfl rfl ?_))))))
   refine W.q6 rfl rfl (W.q4 (.bool true) rfl rfl (.nil ?_))
   obtain rfl := zAa h23
   exact ⟨true, _, rfl, O13, (zAf _), rfl⟩
  have h24 := z0h g21 h19
  refine W.q2 (hg := gk rfl rfl gv22 rfl) _ t17 (W.q2 (hg := gk rfl rfl gv22 rfl) (.string p1) ((fr11 1 rfl).trans rfl) (W.pure (v := (.int .i64 (p1.size : Int))) (gk rfl rfl gv22 rfl) rfl (z18 ov un9) (W.q3 (hg := gk rfl rfl gv22 rfl) (.bool (decide (x8 < (p1.size : Int)))) rfl rfl (W.q5 (.bool (decide (x8 < (p1.size : Int)))) gv22 rfl (W.p2 (.bool (decide (x8 < (p1.size : Int)))) (W.splitAt (t := 19) (b := decide (x8 < (p1.size : Int))) rfl (fun g25 gv26 => ?_) (fun g25 gv26 => ?_)))))))
  .have h27 := z05 g25 h24
   refine W.q6 rfl gv26 (W.q6 rfl gv26 (W.q4 (.bool true) gv26 rfl (.nil ?_)))
   obtain rfl := zAa h27
   exact ⟨true, _, rfl, O13, (zAf _), rfl⟩
  have h28 := z0h g25 h24
  refine W.q2 (hg := gk rfl rfl gv26 rfl) _ t16 (W.q3 (hg := gk rfl rfl gv26 rfl) (.bool (decide (x7 > 0))) rfl rfl (W.q5 (.bool (decide (x7 > 0))) gv26 rfl (.nil ?_)))
  obtain rfl := zAa h28
  exact ⟨decide (x7 > 0), _, rfl, O13, (zAf _), rfl⟩
 rintro σ30 H31 fr32 ⟨x29, G33, rfl, O34, s35, t37⟩
 have h38 := z09 h20
 refine .cond (b := x29) rfl t37 (fun g39 => ?_) (fun g39 => ?_)
 rotate_left
 .have h80 := z0h g39 h38
  refine .exit ?_
  obtain rfl := zAa h80
  exact ⟨x6, _, rfl, (Ow.reval (j := 0) O34 rfl ((fr32 5 rfl).trans rfl)), (zAe s14 s35)⟩
 have h40 := z05 g39 h38
 refine .skip (.seq (.block (.seq (.region (W.q2 (.string p0) ((fr32 0 rfl).trans ((fr11 0 rfl).trans rfl)) (W.q2 _ ((fr32 7 rfl).trans t17) ?_))))))
 obtain ⟨x41, i42, h43⟩ := z01 h40
 refine W.ln (Lo.cP rfl (fn := Tryz.f149) (by kernel_rfl) rfl (mc rfl (mc rfl mn)) O34 (fun L' O' => z4g K p0 x8 O' _ i42)) ?_
 rintro v50 H51 ⟨G44, O45, s46, sm49, rfl⟩
 refine W.q2 (.string p1) ((fr32 1 rfl).trans ((fr11 1 rfl).trans rfl)) (W.q2 _ ((fr32 7 rfl).trans t17) ?_)
 obtain ⟨x52, i53, h54⟩ := z01 h43
 refine W.ln (Lo.cP rfl (fn := Tryz.f149) (by kernel_rfl) rfl (mc rfl (mc rfl mn)) O45 (fun L' O' => z4g K p1 x8 O' _ i53)) ?_
 rintro v61 H62 ⟨G55, O56, s57, sm60, rfl⟩
 refine W.p3 (.int .i64 (z03 .i64 (x41 + x52))) (W.q2 _ ((fr32 6 rfl).trans t16) (W.p3 (.int .i64 (z03 .i64 ((z03 .i64 (x41 + x52)) + x7))) (W.p1 (.int .i64 (z03 .i64 ((z03 .i64 (x41 + x52)) + x7))) (.nil (.seq (.region ?_))))))
 refine W.q2 (σ9 5) ((fr32 5 rfl).trans rfl) (W.p2 (.int .i64 (z03 .i64 ((z03 .i64 (x41 + x52)) + x7))) (W.pv (.int .i64 (Int.tmod (z03 .i64 ((z03 .i64 (x41 + x52)) + x7)) 10)) (zh5 (by decide) ov ov) (W.ln (Lo.buildSlice (r := (rI .i64)) (vs := [(.int .i64 (Int.tmod (z03 .i64 ((z03 .i64 (x41 + x52)) + x7)) 10))]) (xs := [Int.tmod (z03 .i64 ((z03 .i64 (x41 + x52)) + x7)) 10]) zb1 ze3 sz3 (by kernel_rfl) rfl (qc rfl qn) rfl (.cons rfl .nil) O56) ?_)))
 rintro v65 H66 ⟨O63, sm64⟩
 obtain ⟨es68, e69, e70⟩ := z68 (j := 0) rfl O63
 obtain ⟨g71, h72⟩ := z2n h54
 refine W.ln (Lo.append (j := 1) (v := (σ9 5)) rfl rfl zb1 zpl ze3 sz3 by3 (by decide) (by decide) rfl e69 e70 g71 O63) ?_
 rintro v74 H75 ⟨O67, sm73⟩
 refine W.p1 v74 (.nil (.region (W.p2 (.int .i64 (z03 .i64 ((z03 .i64 (x41 + x52)) + x7))) (W.pv (.int .i64 (z03 .i64 (Int.tdiv (z03 .i64 ((z03 .i64 (x41 + x52)) + x7)) 10))) (zh4 (by decide) ov ov) ?_))))
 obtain ⟨x76, e77, h78⟩ := z60 h72
 refine W.q1 _ (congrArg (Value.int .i64) e77) (.nil (.region (W.q2 _ ((fr32 7 rfl).trans t17) (W.p3 (.int .i64 (z03 .i64 (x8 + 1))) (W.p1 (.int .i64 (z03 .i64 (x8 + 1))) (.nil ?_))))))
 have O79 := O67.drop 0
 exact ⟨k5, zAg _, ⟨(x6 ++ [Int.tmod (z03 .i64 ((z03 .i64 (x41 + x52)) + x7)) 10]), x76, z03 .i64 (x8 + 1), _, h78, O79, (zAe s14 (zAe s35 (zAe s46 s57))), rfl, rfl⟩⟩
def z5o (K : Nat) (p0 : zAd) (p1 : zAd) : Option zAd := ((z4m K p0).bind fun x1 => ((z4m K p1).bind fun x12 => ((z46 K x1.2.1 x12.2.2).bind fun x23 => ((z46 K x12.2.1 x1.2.2).bind fun x34 => ((z46 K x1.2.2 x12.2.2).bind fun x45 => (if (x1.1 == x12.1) = true then ((z7h K x23 x34).bind fun x58 => ((z5t K x1.1 x58 x45).bind fun x69 => some x69)) else ((z6h K x23 x34).bind fun x81 => (Option.bind ((if (decide (x81 < 0)) = true then some (x12.1, x34, x23) else some (x1.1, x23, x34))) (tu3 fun x98 x99 x100 => ((z6i K x99 x100).bind fun x112 => ((z5t K x98 x112 x45).bind fun x123 => some x123)))))))))))
theorem zd2 (p0 : zAd) (p1 : zAd) (O : Ow G H (L)) (r : zAd) (h : z5o K p0 p1 = some r) :
    CR Tryz.prog 41 [(.string p0), (.string p1)] G H (L) (fun v G' _ => v = .string r) := by
 unfold z5o at h
 refine CR.og (n := 57) (fn := Tryz.f41) (by kernel_rfl) rfl rfl fun R kr => (.seq (.region (W.p1 (.string (⟨#[]⟩ : zAd)) (.nil (.seq (.region ?_))))))
 refine W.p2 (.string p0) ?_
 obtain ⟨x1, i2, h3⟩ := z01 h
 refine W.ln (Lo.cP rfl (fn := Tryz.f61) (by kernel_rfl) rfl (mc rfl mn) O (fun L' O' => z5m K p0 O' _ i2)) ?_
 rintro v10 H11 ⟨G4, O5, s6, sm9, rfl⟩
 refine W.p2 (.tuple #[(.bool x1.1), (.string x1.2.1), (.string x1.2.2)]) (W.pv (.bool x1.1) (z0b ov rfl) (W.pv (.string x1.2.1) (z0b ov rfl) (W.pv (.string x1.2.2) (z0b ov rfl) (W.p1 (.bool x1.1) (W.p1 (.string x1.2.1) (W.p1 (.string x1.2.2) ?_))))))
 refine .nil (.seq (.region (W.p2 (.string p1) ?_)))
 obtain ⟨x12, i13, h14⟩ := z01 h3
 refine W.ln (Lo.cP rfl (fn := Tryz.f61) (by kernel_rfl) rfl (mc rfl mn) O5 (fun L' O' => z5m K p1 O' _ i13)) ?_
 rintro v21 H22 ⟨G15, O16, s17, sm20, rfl⟩
 refine W.p2 (.tuple #[(.bool x12.1), (.string x12.2.1), (.string x12.2.2)]) (W.pv (.bool x12.1) (z0b ov rfl) (W.pv (.string x12.2.1) (z0b ov rfl) (W.pv (.string x12.2.2) (z0b ov rfl) (W.p1 (.bool x12.1) (W.p1 (.string x12.2.1) (W.p1 (.string x12.2.2) ?_))))))
 refine .nil (.seq (.region (W.p2 (.string x1.2.1) (W.p2 (.string x12.2.2) ?_))))
 obtain ⟨x23, i24, h25⟩ := z01 h14
 refine W.ln (Lo.cP rfl (fn := Tryz.f94) (by kernel_rfl) rfl (mc rfl (mc rfl mn)) O16 (fun L' O' => z4x K x1.2.1 x12.2.2 O' _ i24)) ?_
 rintro v32 H33 ⟨G26, O27, s28, sm31, rfl⟩
 refine W.p2 (.string x12.2.1) (W.p2 (.string x1.2.2) ?_)
 obtain ⟨x34, i35, h36⟩ := z01 h25
 refine W.ln (Lo.cP rfl (fn := Tryz.f94) (by kernel_rfl) rfl (mc rfl (mc rfl mn)) O27 (fun L' O' => z4x K x12.2.1 x1.2.2 O' _ i35)) ?_
 rintro v43 H44 ⟨G37, O38, s39, sm42, rfl⟩
 refine W.p2 (.string x1.2.2) (W.p2 (.string x12.2.2) ?_)
 obtain ⟨x45, i46, h47⟩ := z01 h36
 refine W.ln (Lo.cP rfl (fn := Tryz.f94) (by kernel_rfl) rfl (mc rfl (mc rfl mn)) O38 (fun L' O' => z4x K x1.2.2 x12.2.2 O' _ i46)) ?_
 rintro v54 H55 ⟨G48, O49, s50, sm53, rfl⟩
 refine W.p1 (.string x23) (W.p1 (.string x34) (W.p1 (.string x45) (.nil (.seq (.seq (.region ?_))))))
 refine W.p2 (.bool x1.1) (W.p2 (.bool x12.1) (W.pv (.bool (x1.1 == x12.1)) (zgw ov ov un4) (.nil (.cond (b := (x1.1 == x12.1)) rfl rfl (fun g56 => ?_) (fun g56 => ?_)))))
 .have h57 := z05 g56 h47
  refine .seq (.region (W.p2 (.bool x1.1) (W.p2 (.string x23) (W.p2 (.string x34) ?_))))
  obtain ⟨x58, i59, h60⟩ := z01 h57
  refine W.ln (Lo.cP rfl (fn := Tryz.f96) (by kernel_rfl) rfl (mc rfl (mc rfl mn)) O49 (fun L' O' => zd1 K x23 x34 O' _ i59)) ?_
  rintro v67 H68 ⟨G61, O62, s63, sm66, rfl⟩
  refine W.p2 (.string x45) ?_
  obtain ⟨x69, i70, h71⟩ := z01 h60
  refine W.ln (Lo.cP rfl (fn := Tryz.f95) (by kernel_rfl) rfl (mc rfl (mc rfl (mc rfl mn))) O62 (fun L' O' => z6u K x1.1 x58 x45 O' _ i70)) ?_
  rintro v78 H79 ⟨G72, O73, s74, sm77, rfl⟩
  refine W.p1 (.string x69) (.nil (.ret ?_))
  obtain rfl := zAa h71
  exact z1b kr (v1 := (.string x69)) (by rfl) rt O73 (zAe s6 (zAe s17 (zAe s28 (zAe s39 (zAe s50 (zAe s63 s74)))))) rfl
 have h80 := z0h g56 h47
 refine .skip (.seq (.seq (.region (W.p2 (.string x23) (W.p2 (.string x34) ?_)))))
 obtain ⟨x81, i82, h83⟩ := z01 h80
 refine W.ln (Lo.cP rfl (fn := Tryz.f97) (by kernel_rfl) rfl (mc rfl (mc rfl mn)) O49 (fun L' O' => z9e K x23 x34 O' _ i82)) ?_
 rintro v90 H91 ⟨G84, O85, s86, sm89, rfl⟩
 refine W.p3 (.bool (decide (x81 < 0))) (.nil ?_)
 obtain ⟨q92, h93, h94⟩ := z01 h83
 refine AW.midT (fun σ' H' => ∃ (y1 : Bool) (y2 : zAd) (y3 : zAd) (G' : GM), (y1, y2, y3) = q92 /\ Ow G' H' (L) /\ GM.le G84 G' /\ σ' 5 = .bool y1 /\ σ' 11 = .string y2 /\ σ' 12 = .string y3) ?_ ?_
 .refine .cond (b := decide (x81 < 0)) rfl rfl (fun g95 => ?_) (fun g95 => ?_)
  rotate_left
  .have h97 := z0h g95 h93
   refine .skip ?_
   obtain rfl := zAa h97
   exact ⟨x1.1, x23, x34, _, rfl, O85, (zAf _), rfl, rfl, rfl⟩
  have h96 := z05 g95 h93
  refine .region (W.p2 (.string x34) (W.p2 (.string x23) (W.p2 (.bool x12.1) (W.p1 (.string x34) (W.p1 (.string x23) (W.p1 (.bool x12.1) ?_))))))
  refine .nil ?_
  obtain rfl := zAa h96
  exact ⟨x12.1, x34, x23, _, rfl, O85, (zAf _), rfl, rfl, rfl⟩
 rintro σ101 H102 fr103 ⟨x98, x99, x100, G104, rfl, O105, s106, t108, t109, t110⟩
 have h111 := zen h94
 refine .seq (.region (W.q2 _ t108 (W.q2 _ t109 (W.q2 _ t110 ?_))))
 obtain ⟨x112, i113, h114⟩ := z01 h111
 refine W.ln (Lo.cP rfl (fn := Tryz.f98) (by kernel_rfl) rfl (mc rfl (mc rfl mn)) O105 (fun L' O' => z9f K x99 x100 O' _ i113)) ?_
 rintro v121 H122 ⟨G115, O116, s117, sm120, rfl⟩
 refine W.q2 (.string x45) ((fr103 13 rfl).trans rfl) ?_
 obtain ⟨x123, i124, h125⟩ := z01 h114
 refine W.ln (Lo.cP rfl (fn := Tryz.f95) (by kernel_rfl) rfl (mc rfl (mc rfl (mc rfl mn))) O116 (fun L' O' => z6u K x98 x112 x45 O' _ i124)) ?_
 rintro v132 H133 ⟨G126, O127, s128, sm131, rfl⟩
 refine W.p1 (.string x123) (.nil (.ret ?_))
 obtain rfl := zAa h125
 exact z1b kr (v1 := (.string x123)) (by rfl) rt O127 (zAe s6 (zAe s17 (zAe s28 (zAe s39 (zAe s50 (zAe s86 (zAe s106 (zAe s117 s128)))))))) rfl
end Go.Am.Tryz
