/- Typed functions with the same answers as the program's, and the walks that show it. -/
import Derived.Test.YtdogeclnbdldaaaGreatDoorG2Z9
import Derived.Test.YtdogeclnbdldaaaGreatDoorG17Z9
set_option maxRecDepth 100000
set_option maxHeartbeats 8000000
set_option linter.unusedVariables false
set_option linter.unusedSimpArgs false
namespace Go.Am.Tryz
open Go Go.Am Go.Proofs
variable (K : Nat) {G : GM} {H : AH} {L : List Pc}
theorem zpe {G : GM}   : ∃ cs : List Value, (∀ {s : List Value} {d : Tmp} {ty : TypeId} {pos : String} {af : Array Edge} {g : Option (Nat × Bool)} {ps : Array (Nat × Operand)}, zfi s ps.toList = some [] -> z1t Tryz.prog s ⟨some d, .build 96 ps, ty, pos, af, g⟩ = some (.agg cs.toArray)) /\ T_Q.rep G cs (Q.mk false [] []) := by
  refine ⟨_, fun {s d ty pos af g ps} hps => zh0 pl96 ze96 zo96 hps ?_, z_Q G⟩
  rfl
def z55 (K : Nat) (p0 : Bool) (p1 : List Int) (p2 : List Int) : Option Q := (if ((p1.length : Int) == 0) = true then some (Q.mk false [] []) else ((z5b K p1 p2).bind fun x20 => ((z7c K 1).bind fun x33 => ((z3t K x20 x33).bind fun x46 => (Option.bind ((if (decide (x46 > 0)) = true then ((z3v K p1 x20).bind fun x62 => ((z3v K p2 x20).bind fun x77 => some (x62.1, x77.1))) else some (p1, p2))) (tu2 fun x93 x94 => some (Q.mk p0 x93 x94)))))))
theorem z5k (p0 : Bool) (v1 : Value) (p1 : List Int) (hp1 : (rSl (rI .u32)).rep G [v1] p1) (v2 : Value) (p2 : List Int) (hp2 : (rSl (rI .u32)).rep G [v2] p2) (O : Ow G H (L)) (r : Q) (h : z55 K p0 p1 p2 = some r) :
    CR Tryz.prog 138 [(.bool p0), v1, v2] G H (L) (fun v G' _ => ∃ (w0 : List Value), v = .agg w0.toArray /\ T_Q.rep G' w0 r) := by
 unfold z55 at h
 refine CR.og (n := 35) (fn := Tryz.f138) (by kernel_rfl) rfl rfl fun R kr => (.seq (.region (W.ln (Lo.alloc (r := T_Q) (x0 := (Q.mk false [] [])) ze96 (by kernel_rfl) z_Q O) ?_)))
 rintro v4 H5 ⟨b2, rfl, O1, sm3⟩
 refine .nil (.seq (.seq (.region (W.p2 v1 (W.pv (.int .i64 (p1.length : Int)) (z0i ov (z0c hp1) (z04 el94)) (W.p3 (.bool ((p1.length : Int) == 0)) ?_))))))
 refine .nil (.cond (b := ((p1.length : Int) == 0)) rfl rfl (fun g6 => ?_) (fun g6 => ?_))
 .have h7 := z05 g6 h
  refine .seq (.region ?_)
  obtain ⟨c8, e10, f9⟩ := zpe
  refine W.pv (.agg c8.toArray) (e10 (z76 rfl qn')) (W.ln (Lo.storeVar (j := 0) (s := T_Q) (y0 := (Q.mk false [] [])) (v := (.agg c8.toArray)) (o := 0) rfl ((Put.at (Put.self _) _ _)) rfl sz96 rfl (by omega) rfl f9 O1) ?_)
  rintro v13 H14 ⟨O11, sm12⟩
  refine .nil (.ret ?_)
  obtain ⟨c15, p16, f17⟩ := (O11.atVar (j := 0) rfl)
  have O18 := O11.drop 0
  obtain rfl := zAa h7
  exact z1q kr (v1 := (.agg c15.toArray)) (by rfl) (z3o (p := (.pointer (some ⟨b2, 0, none⟩))) (by rfl) ag96 sz96 (by exact rfl) p16 (RT.len _ f17)) O18 (zAf _) ⟨c15, rfl, f17⟩
 have h19 := z0j g6 h
 refine .skip (.seq (.seq (.region (W.p2 v1 (W.p2 v2 ?_)))))
 obtain ⟨x20, i21, h22⟩ := z01 h19
 refine W.ln (Lo.cP rfl (fn := Tryz.f134) (by kernel_rfl) rfl (mc rfl (mc rfl mn)) O1 (fun L' O' => z8j K v1 p1 hp1 v2 p2 hp2 O' _ i21)) ?_
 rintro v31 H32 ⟨G23, O24, s25, sm30, ⟨w27, rfl, f28⟩⟩
 refine W.p1 w27 (.nil (.seq (.region (W.p2 w27 ?_))))
 obtain ⟨x33, i34, h35⟩ := z01 h22
 refine W.ln (Lo.callPF (ps := []) (pw := fun w => [eSl w 181 (rI .u32) x33]) rfl (fn := Tryz.f136) (by kernel_rfl) rfl (mc rfl mn) O24 (fun L' O' => z7n K 1 O' _ i34)) ?_
 rintro v44 H45 ⟨w41, G36, O37, s38, sm43, rfl⟩
 obtain ⟨x46, i47, h48⟩ := z01 h35
 refine W.ln (Lo.callB (j := 0) rfl rfl (fn := Tryz.f135) (by kernel_rfl) rfl (mc rfl (mc rfl mn)) O37 (fun G' L' hG O' hB => z54 K w27 x20 (RT.mono _ hG (RT.mono _ s38 f28)) w41 x33 hB O' _ i47)) ?_
 rintro v55 H56 ⟨G49, O50, s51, sm54, rfl⟩
 refine W.p3 (.bool (decide (x46 > 0))) (.nil ?_)
 obtain ⟨q57, h58, h59⟩ := z01 h48
 refine AW.midT (fun σ' H' => ∃ (y1 : List Int) (y2 : List Int) (G' : GM), (y1, y2) = q57 /\ Ow G' H' (eSl w41 181 (rI .u32) x33 :: eVar b2 96 T_Q (Q.mk false [] []) :: L) /\ GM.le G49 G' /\ (rSl (rI .u32)).rep G' [σ' 1] y1 /\ (rSl (rI .u32)).rep G' [σ' 2] y2) ?_ ?_
 rotate_left
 .rintro σ95 H96 fr97 ⟨x93, x94, G98, rfl, O99, s100, f102, f103⟩
  have h104 := z52 h59
  refine .seq (.region (W.q2 (.bool p0) ((fr97 0 rfl).trans rfl) (W.p2 (σ95 1) (W.p2 (σ95 2) ?_))))
  obtain ⟨c105, e107, f106⟩ := zab ((.bool p0)) ((σ95 1)) ((σ95 2)) (rfl) ((z4z f102)) ((z4z f103))
  refine W.pv (.agg c105.toArray) (e107 (z76 rfl (qc' rfl (qc' rfl (qc' rfl qn'))))) (W.ln (Lo.storeVar (j := 1) (s := T_Q) (y0 := (Q.mk p0 x93 x94)) (v := (.agg c105.toArray)) (o := 0) rfl ((Put.at (Put.self _) _ _)) rfl sz96 ((fr97 6 rfl).trans rfl) (by omega) rfl f106 O99) ?_)
  rintro v110 H111 ⟨O108, sm109⟩
  refine .nil (.ret ?_)
  obtain ⟨c112, p113, f114⟩ := (O108.atVar (j := 1) rfl)
  have O116 := (O108.drop 0).drop 0
  obtain rfl := zAa h104
  exact z1q kr (v1 := (.agg c112.toArray)) (by rfl) (z3o (p := (.pointer (some ⟨b2, 0, none⟩))) (by rfl) ag96 sz96 (by exact ((fr97 6 rfl).trans rfl)) p113 (RT.len _ f114)) O116 (zAe s25 (zAe s38 (zAe s51 s100))) ⟨c112, rfl, f114⟩
 refine .cond (b := decide (x46 > 0)) rfl rfl (fun g60 => ?_) (fun g60 => ?_)
 rotate_left
 .have h92 := z0j g60 h58
  refine .skip ?_
  obtain rfl := zAa h92
  exact ⟨p1, p2, _, rfl, O50, (zAf _), (RT.mono _ (zAe s25 (zAe s38 s51)) hp1), (RT.mono _ (zAe s25 (zAe s38 s51)) hp2)⟩
 have h61 := z05 g60 h58
 refine .seq (.region (W.p2 v1 (W.p2 w27 ?_)))
 obtain ⟨x62, i63, h64⟩ := z01 h61
 refine W.ln (Lo.cP rfl (fn := Tryz.f166) (by kernel_rfl) rfl (mc rfl (mc rfl mn)) O50 (fun L' O' => z6q K v1 p1 (RT.mono _ (zAe s25 (zAe s38 s51)) hp1) w27 x20 (RT.mono _ (zAe s38 s51) f28) O' _ i63)) ?_
 rintro v75 H76 ⟨G65, O66, s67, sm74, ⟨w69, w71, rfl, f70, f72⟩⟩
 refine W.p2 (.tuple #[w69, w71]) (W.pv w69 (z0b ov rfl) (W.pv w71 (z0b ov rfl) (W.p1 w69 (.nil (.region (W.p2 v2 ?_))))))
 refine W.p2 w27 ?_
 obtain ⟨x77, i78, h79⟩ := z01 h64
 refine W.ln (Lo.cP rfl (fn := Tryz.f166) (by kernel_rfl) rfl (mc rfl (mc rfl mn)) O66 (fun L' O' => z6q K v2 p2 (RT.mono _ (zAe s25 (zAe s38 (zAe s51 s67))) hp2) w27 x20 (RT.mono _ (zAe s38 (zAe s51 s67)) f28) O' _ i78)) ?_
 rintro v90 H91 ⟨G80, O81, s82, sm89, ⟨w84, w86, rfl, f85, f87⟩⟩
 refine W.p2 (.tuple #[w84, w86]) (W.pv w84 (z0b ov rfl) (W.pv w86 (z0b ov rfl) (W.p1 w84 (.nil ?_))))
 obtain rfl := zAa h79
 exact ⟨x62.1, x77.1, _, rfl, O81, (zAe s67 s82), (RT.mono _ s82 f70), f85⟩
def z69 (K : Nat) (p0 : Q) (p1 : Q) : Option Q := (Option.bind ((if ((List.length p0.num : Int) == 0) = true then some true else some ((List.length p1.num : Int) == 0))) (tu1 fun x29 => (if x29 = true then some (Q.mk false [] []) else ((z18 K p1).bind fun x66 => ((z23 K p0.num x66).bind fun x79 => ((z18 K p0).bind fun x95 => ((z23 K x95 p1.num).bind fun x111 => ((z55 K (!(p0.neg == p1.neg)) x79 x111).bind fun x132 => some x132))))))))
theorem zc0 (v0 : List Value) (p0 : Q) (hp0 : T_Q.rep G v0 p0) (v1 : List Value) (p1 : Q) (hp1 : T_Q.rep G v1 p1) (O : Ow G H (L)) (r : Q) (h : z69 K p0 p1 = some r) :
    CR Tryz.prog 71 [.agg v0.toArray, .agg v1.toArray] G H (L) (fun v G' _ => ∃ (w0 : List Value), v = .agg w0.toArray /\ T_Q.rep G' w0 r) := by
 unfold z69 at h
 refine CR.og (n := 32) (fn := Tryz.f71) (by kernel_rfl) rfl rfl fun R kr => (.seq (.region (W.ln (Lo.box (r := T_Q) (x0 := p0) (v := (.agg v0.toArray)) rfl rfl hp0 O) ?_)))
 rintro v4 H5 ⟨b2, rfl, O1, sm3⟩
 refine W.ln (Lo.box (r := T_Q) (x0 := p1) (v := (.agg v1.toArray)) rfl rfl hp1 O1) ?_
 rintro v9 H10 ⟨b7, rfl, O6, sm8⟩
 refine W.ln (Lo.alloc (r := T_Q) (x0 := (Q.mk false [] [])) ze96 (by kernel_rfl) z_Q O6) ?_
 rintro v14 H15 ⟨b12, rfl, O11, sm13⟩
 refine .nil (.seq (.seq ?_))
 obtain ⟨q16, h17, h18⟩ := z01 h
 refine AW.midT (fun σ' H' => ∃ (y1 : Bool) (G' : GM), y1 = q16 /\ Ow G' H' (eVar b12 96 T_Q (Q.mk false [] []) :: eVar b7 96 T_Q p1 :: eVar b2 96 T_Q p0 :: L) /\ GM.le G G' /\ σ' 14 = .bool y1) ?_ ?_
 .refine .region (W.pv (padd (.pointer (some ⟨b2, 0, none⟩)) 1) (z3x z83 ov (O11.atVar (j := 2) rfl)) ?_)
  obtain ⟨w19, p20, f21⟩ := At.sl (At.proj (O11.atVar (j := 2) rfl) z5i)
  refine W.load1 (v := w19) (r := []) rfl rfl ag94 (z0t rfl p20) (W.pv (.int .i64 (List.length p0.num : Int)) (z0i ov (z0c f21) (z04 el94)) (W.p3 (.bool ((List.length p0.num : Int) == 0)) (W.p2 (.bool ((List.length p0.num : Int) == 0)) (W.splitAt (t := 9) (b := ((List.length p0.num : Int) == 0)) rfl (fun g22 gv23 => ?_) (fun g22 gv23 => ?_)))))
  .have h24 := z05 g22 h17
   refine W.q6 rfl gv23 (W.q6 rfl gv23 (W.q6 rfl gv23 (W.q6 rfl gv23 (W.q4 (.bool true) gv23 rfl (.nil ?_)))))
   obtain rfl := zAa h24
   exact ⟨true, _, rfl, O11, (zAf _), rfl⟩
  have h25 := z0j g22 h17
  refine W.pure (v := (padd (.pointer (some ⟨b7, 0, none⟩)) 1)) (gk rfl rfl gv23 rfl) rfl (z3x z83 ov (O11.atVar (j := 1) rfl)) ?_
  obtain ⟨w26, p27, f28⟩ := At.sl (At.proj (O11.atVar (j := 1) rfl) z5i)
  refine W.load1 (v := w26) (r := []) (gk rfl rfl gv23 rfl) rfl ag94 (z0t rfl p27) (W.pure (v := (.int .i64 (List.length p1.num : Int))) (gk rfl rfl gv23 rfl) rfl (z0i ov (z0c f28) (z04 el94)) (W.q3 (hg := gk rfl rfl gv23 rfl) (.bool ((List.length p1.num : Int) == 0)) rfl rfl (W.q5 (.bool ((List.length p1.num : Int) == 0)) gv23 rfl (.nil ?_))))
  obtain rfl := zAa h25
  exact ⟨((List.length p1.num : Int) == 0), _, rfl, O11, (zAf _), rfl⟩
 rintro σ30 H31 fr32 ⟨x29, G33, rfl, O34, s35, t37⟩
 have h38 := z09 h18
 refine .cond (b := x29) rfl t37 (fun g39 => ?_) (fun g39 => ?_)
 .have h40 := z05 g39 h38
  refine .seq (.region ?_)
  obtain ⟨c41, e43, f42⟩ := zpe
  refine W.pv (.agg c41.toArray) (e43 (z76 rfl qn')) (W.ln (Lo.storeVar (j := 0) (s := T_Q) (y0 := (Q.mk false [] [])) (v := (.agg c41.toArray)) (o := 0) rfl ((Put.at (Put.self _) _ _)) rfl sz96 ((fr32 4 rfl).trans rfl) (by omega) rfl f42 O34) ?_)
  rintro v46 H47 ⟨O44, sm45⟩
  refine .nil (.ret ?_)
  obtain ⟨c48, p49, f50⟩ := (O44.atVar (j := 0) rfl)
  have O53 := ((O44.drop 0).drop 0).drop 0
  obtain rfl := zAa h40
  exact z1q kr (v1 := (.agg c48.toArray)) (by rfl) (z3o (p := (.pointer (some ⟨b12, 0, none⟩))) (by rfl) ag96 sz96 (by exact ((fr32 4 rfl).trans rfl)) p49 (RT.len _ f50)) O53 s35 ⟨c48, rfl, f50⟩
 have h54 := z0j g39 h38
 refine .skip (.seq (.draw2 (M := [0, 1, 0, 4, 15, 0, 32, 0, 128, 480, 0, 2016, 0, 4096, 16352, 32767, 65535]) mixed (by kernel_rfl) (by kernel_rfl) fun H55 N59 x56 F58 => ?_))
 have O57 := O34.ext x56
 refine D2.pv (padd (.pointer (some ⟨b2, 0, none⟩)) 0) (z3x za7 (ou ((fr32 2 rfl).trans rfl)) (O57.atVar (j := 2) rfl)) (D2.load1' (v := (.bool p0.neg)) (r := []) rfl rfl ag4 (z0t rfl (At.bool (At.proj (O57.atVar (j := 2) rfl) z7d))) z06 (D2.pv (padd (.pointer (some ⟨b7, 0, none⟩)) 0) (z3x za7 (ou ((fr32 3 rfl).trans rfl)) (O57.atVar (j := 1) rfl)) (D2.load1' (v := (.bool p1.neg)) (r := []) rfl rfl ag4 (z0t rfl (At.bool (At.proj (O57.atVar (j := 1) rfl) z7d))) z06 (D2.pv (.bool (!(p0.neg == p1.neg))) (zdo ov ov un4) (D2.pv (padd (.pointer (some ⟨b2, 0, none⟩)) 1) (z3x z83 (ou ((fr32 2 rfl).trans rfl)) (O57.atVar (j := 2) rfl)) ?_)))))
 obtain ⟨w60, p61, f62⟩ := At.sl (At.proj (O57.atVar (j := 2) rfl) z5i)
 refine D2.load1' (v := w60) (r := []) rfl rfl ag94 (z0t rfl p61) z06 ?_
 obtain ⟨c63, p64, f65⟩ := (O57.atVar (j := 1) rfl)
 refine D2.loadA' (cs := c63) rfl rfl ag96 sz96 (z0t ((fr32 3 rfl).trans rfl) p64) (RT.len _ f65) z06 ?_
 obtain ⟨x66, i67, h68⟩ := z01 h54
 refine D2.lo rfl rfl (Lo.cP rfl (fn := Tryz.f140) (by kernel_rfl) rfl (mc rfl mn) O57 (fun L' O' => z1j K c63 p1 f65 O' _ i67)) ?_ z06 ?_ ?_
 .rintro v77 H78 ⟨G69, O70, s71, sm76, ⟨w73, rfl, f74⟩⟩; exact (faR1 (.inl (by decide)) (faR1 (.inr (sm76 _ (Or.inr ⟨2, _, rfl, List.mem_singleton.2 rfl⟩))) (faR1 (.inr (sm76 _ (Or.inr ⟨1, _, rfl, List.mem_singleton.2 rfl⟩))) (faR1 (.inr (sm76 _ (Or.inr ⟨2, _, rfl, List.mem_singleton.2 rfl⟩))) z06))))
 .rintro v77 H78 ⟨G69, O70, s71, sm76, ⟨w73, rfl, f74⟩⟩; exact z06
 rintro v77 H78 ⟨G69, O70, s71, sm76, ⟨w73, rfl, f74⟩⟩
 obtain ⟨x79, i80, h81⟩ := z01 h68
 refine D2.lo rfl rfl (Lo.callPF (ps := []) (pw := fun w => [eSl w 181 (rI .u32) x79]) rfl (fn := Tryz.f139) (by kernel_rfl) rfl (mc rfl (mc rfl mn)) O70 (fun L' O' => z1u K w60 p0.num (RT.mono _ s71 f62) w73 x66 f74 O' _ i80)) ?_ (z0h (by decide) z06) ?_ ?_
 .rintro v90 H91 ⟨w87, G82, O83, s84, sm89, rfl⟩; exact (faR1 (.inl (by decide)) (faR1 (.inl (by decide)) (faR1 (.inr (sm89 _ (Or.inr ⟨1, _, rfl, List.mem_singleton.2 rfl⟩))) (faR1 (.inr (sm89 _ (Or.inr ⟨2, _, rfl, List.mem_singleton.2 rfl⟩))) z06))))
 .rintro v90 H91 ⟨w87, G82, O83, s84, sm89, rfl⟩; exact z06
 rintro v90 H91 ⟨w87, G82, O83, s84, sm89, rfl⟩
 obtain ⟨c92, p93, f94⟩ := (O83.atVar (j := 3) rfl)
 refine D2.loadA' (cs := c92) rfl rfl ag96 sz96 (z0t ((fr32 2 rfl).trans rfl) p93) (RT.len _ f94) (z8g (zn0 ((fr32 2 rfl).trans rfl) (sm89 _ (Or.inr ⟨2, _, rfl, List.mem_singleton.2 rfl⟩))) (z8g (zn0 ((fr32 2 rfl).trans rfl) (sm76 _ (Or.inr ⟨2, _, rfl, List.mem_singleton.2 rfl⟩))) z06)) ?_
 obtain ⟨x95, i96, h97⟩ := z01 h81
 refine D2.lo rfl rfl (Lo.cP rfl (fn := Tryz.f140) (by kernel_rfl) rfl (mc rfl mn) O83 (fun L' O' => z1j K c92 p0 f94 O' _ i96)) ?_ (z0h (by decide) (z0h (by decide) z06)) ?_ ?_
 .rintro v106 H107 ⟨G98, O99, s100, sm105, ⟨w102, rfl, f103⟩⟩; exact (faR1 (.inl (by decide)) (faR1 (.inl (by decide)) (faR1 (.inl (by decide)) (faR1 (.inr (sm105 _ (Or.inr ⟨2, _, rfl, List.mem_singleton.2 rfl⟩))) (faR1 (.inr (sm105 _ (Or.inr ⟨3, _, rfl, List.mem_singleton.2 rfl⟩))) z06)))))
 .rintro v106 H107 ⟨G98, O99, s100, sm105, ⟨w102, rfl, f103⟩⟩; exact z06
 rintro v106 H107 ⟨G98, O99, s100, sm105, ⟨w102, rfl, f103⟩⟩
 refine D2.pv (padd (.pointer (some ⟨b7, 0, none⟩)) 1) (z3x z83 (ou ((fr32 3 rfl).trans rfl)) (O99.atVar (j := 2) rfl)) ?_
 obtain ⟨w108, p109, f110⟩ := At.sl (At.proj (O99.atVar (j := 2) rfl) z5i)
 refine D2.load1' (v := w108) (r := []) rfl rfl ag94 (z0t rfl p109) (z8g (sm105 _ (Or.inr ⟨2, _, rfl, List.mem_singleton.2 rfl⟩)) (z8g (sm89 _ (Or.inr ⟨1, _, rfl, List.mem_singleton.2 rfl⟩)) (z8g (sm76 _ (Or.inr ⟨1, _, rfl, List.mem_singleton.2 rfl⟩)) z06))) ?_
 obtain ⟨x111, i112, h113⟩ := z01 h97
 refine D2.lo rfl rfl (Lo.callPF (ps := []) (pw := fun w => [eSl w 181 (rI .u32) x111]) rfl (fn := Tryz.f139) (by kernel_rfl) rfl (mc rfl (mc rfl mn)) O99 (fun L' O' => z1u K w102 x95 f103 w108 p1.num f110 O' _ i112)) ?_ (z0h (by decide) (z0h (by decide) (z0h (by decide) z06))) ?_ ?_
 .rintro v122 H123 ⟨w119, G114, O115, s116, sm121, rfl⟩; exact (faR1 (.inl (by decide)) (faR1 (.inl (by decide)) (faR1 (.inl (by decide)) (faR1 (.inl (by decide)) (faR1 (.inr (sm121 _ (Or.inr ⟨2, _, rfl, List.mem_singleton.2 rfl⟩))) (faR1 (.inr (sm121 _ (Or.inr ⟨3, _, rfl, List.mem_singleton.2 rfl⟩))) z06))))))
 .rintro v122 H123 ⟨w119, G114, O115, s116, sm121, rfl⟩; exact z06
 rintro v122 H123 ⟨w119, G114, O115, s116, sm121, rfl⟩
 obtain ⟨G124, O125, s126, f127⟩ := O115.frzSl (j := 1) rfl
 obtain ⟨G128, O129, s130, f131⟩ := O125.frzSl (j := 0) rfl
 obtain ⟨x132, i133, h134⟩ := z01 h113
 refine D2.lo rfl rfl (Lo.cP rfl (fn := Tryz.f138) (by kernel_rfl) rfl (mc rfl (mc rfl (mc rfl mn))) O129 (fun L' O' => z5k K (!(p0.neg == p1.neg)) w87 x79 (RT.mono _ s130 f127) w119 x111 f131 O' _ i133)) ?_ (z0h (by decide) (z0h (by decide) (z0h (by decide) (z0h (by decide) z06)))) ?_ ?_
 .rintro v143 H144 ⟨G135, O136, s137, sm142, ⟨c139, rfl, f140⟩⟩; exact (faR1 (.inl (by decide)) (faR1 (.inl (by decide)) (faR1 (.inl (by decide)) (faR1 (.inl (by decide)) (faR1 (.inl (by decide)) (faR1 (.inl (by decide)) z06))))))
 .rintro v143 H144 ⟨G135, O136, s137, sm142, ⟨c139, rfl, f140⟩⟩; exact z06
 rintro v143 H144 ⟨G135, O136, s137, sm142, ⟨c139, rfl, f140⟩⟩
 refine D2.lo rfl rfl (Lo.storeVar (j := 0) (s := T_Q) (y0 := x132) (v := (.agg c139.toArray)) (o := 0) rfl ((Put.at (Put.self _) _ _)) rfl sz96 ((fr32 4 rfl).trans rfl) (by omega) rfl f140 O136) ?_ (z0h (by decide) (z0h (by decide) (z0h (by decide) (z0h (by decide) (z0h (by decide) z06))))) ?_ ?_
 .rintro v147 H148 ⟨O145, sm146⟩; exact (faR1 (.inl (by decide)) (faR1 (.inl (by decide)) (faR1 (.inl (by decide)) (faR1 (.inl (by decide)) (faR1 (.inl (by decide)) (faR1 (.inl (by decide)) z06))))))
 .rintro v147 H148 ⟨O145, sm146⟩; exact z06
 rintro v147 H148 ⟨O145, sm146⟩
 refine .nil (.ret ?_)
 obtain ⟨c149, p150, f151⟩ := (O145.atVar (j := 0) rfl)
 have O154 := ((O145.drop 0).drop 0).drop 0
 obtain rfl := zAa h134
 exact z1q kr (v1 := (.agg c149.toArray)) (by rfl) (z3o (p := (.pointer (some ⟨b12, 0, none⟩))) (by rfl) ag96 sz96 (by exact ((fr32 4 rfl).trans rfl)) p150 (RT.len _ f151)) O154 (zAe s35 (zAe s71 (zAe s84 (zAe s100 (zAe s116 (zAe s126 (zAe s130 s137))))))) ⟨c149, rfl, f151⟩
def z6a (K : Nat) (p0 : Q) (p1 : Q) : Option Q := (Option.bind ((if ((List.length p0.num : Int) == 0) = true then some true else some ((List.length p1.num : Int) == 0))) (tu1 fun x29 => (if x29 = true then some (Q.mk false [] []) else ((z23 K p0.num p1.num).bind fun x66 => ((z18 K p0).bind fun x82 => ((z18 K p1).bind fun x98 => ((z23 K x82 x98).bind fun x111 => ((z55 K (!(p0.neg == p1.neg)) x66 x111).bind fun x132 => some x132))))))))
theorem zc1 (v0 : List Value) (p0 : Q) (hp0 : T_Q.rep G v0 p0) (v1 : List Value) (p1 : Q) (hp1 : T_Q.rep G v1 p1) (O : Ow G H (L)) (r : Q) (h : z6a K p0 p1 = some r) :
    CR Tryz.prog 92 [.agg v0.toArray, .agg v1.toArray] G H (L) (fun v G' _ => ∃ (w0 : List Value), v = .agg w0.toArray /\ T_Q.rep G' w0 r) := by
 unfold z6a at h
 refine CR.og (n := 32) (fn := Tryz.f92) (by kernel_rfl) rfl rfl fun R kr => (.seq (.region (W.ln (Lo.box (r := T_Q) (x0 := p0) (v := (.agg v0.toArray)) rfl rfl hp0 O) ?_)))
 rintro v4 H5 ⟨b2, rfl, O1, sm3⟩
 refine W.ln (Lo.box (r := T_Q) (x0 := p1) (v := (.agg v1.toArray)) rfl rfl hp1 O1) ?_
 rintro v9 H10 ⟨b7, rfl, O6, sm8⟩
 refine W.ln (Lo.alloc (r := T_Q) (x0 := (Q.mk false [] [])) ze96 (by kernel_rfl) z_Q O6) ?_
 rintro v14 H15 ⟨b12, rfl, O11, sm13⟩
 refine .nil (.seq (.seq ?_))
 obtain ⟨q16, h17, h18⟩ := z01 h
 refine AW.midT (fun σ' H' => ∃ (y1 : Bool) (G' : GM), y1 = q16 /\ Ow G' H' (eVar b12 96 T_Q (Q.mk false [] []) :: eVar b7 96 T_Q p1 :: eVar b2 96 T_Q p0 :: L) /\ GM.le G G' /\ σ' 14 = .bool y1) ?_ ?_
 .refine .region (W.pv (padd (.pointer (some ⟨b2, 0, none⟩)) 1) (z3x z83 ov (O11.atVar (j := 2) rfl)) ?_)
  obtain ⟨w19, p20, f21⟩ := At.sl (At.proj (O11.atVar (j := 2) rfl) z5i)
  refine W.load1 (v := w19) (r := []) rfl rfl ag94 (z0t rfl p20) (W.pv (.int .i64 (List.length p0.num : Int)) (z0i ov (z0c f21) (z04 el94)) (W.p3 (.bool ((List.length p0.num : Int) == 0)) (W.p2 (.bool ((List.length p0.num : Int) == 0)) (W.splitAt (t := 9) (b := ((List.length p0.num : Int) == 0)) rfl (fun g22 gv23 => ?_) (fun g22 gv23 => ?_)))))
  .have h24 := z05 g22 h17
   refine W.q6 rfl gv23 (W.q6 rfl gv23 (W.q6 rfl gv23 (W.q6 rfl gv23 (W.q4 (.bool true) gv23 rfl (.nil ?_)))))
   obtain rfl := zAa h24
   exact ⟨true, _, rfl, O11, (zAf _), rfl⟩
  have h25 := z0j g22 h17
  refine W.pure (v := (padd (.pointer (some ⟨b7, 0, none⟩)) 1)) (gk rfl rfl gv23 rfl) rfl (z3x z83 ov (O11.atVar (j := 1) rfl)) ?_
  obtain ⟨w26, p27, f28⟩ := At.sl (At.proj (O11.atVar (j := 1) rfl) z5i)
  refine W.load1 (v := w26) (r := []) (gk rfl rfl gv23 rfl) rfl ag94 (z0t rfl p27) (W.pure (v := (.int .i64 (List.length p1.num : Int))) (gk rfl rfl gv23 rfl) rfl (z0i ov (z0c f28) (z04 el94)) (W.q3 (hg := gk rfl rfl gv23 rfl) (.bool ((List.length p1.num : Int) == 0)) rfl rfl (W.q5 (.bool ((List.length p1.num : Int) == 0)) gv23 rfl (.nil ?_))))
  obtain rfl := zAa h25
  exact ⟨((List.length p1.num : Int) == 0), _, rfl, O11, (zAf _), rfl⟩
 rintro σ30 H31 fr32 ⟨x29, G33, rfl, O34, s35, t37⟩
 have h38 := z09 h18
 refine .cond (b := x29) rfl t37 (fun g39 => ?_) (fun g39 => ?_)
 .have h40 := z05 g39 h38
  refine .seq (.region ?_)
  obtain ⟨c41, e43, f42⟩ := zpe
  refine W.pv (.agg c41.toArray) (e43 (z76 rfl qn')) (W.ln (Lo.storeVar (j := 0) (s := T_Q) (y0 := (Q.mk false [] [])) (v := (.agg c41.toArray)) (o := 0) rfl ((Put.at (Put.self _) _ _)) rfl sz96 ((fr32 4 rfl).trans rfl) (by omega) rfl f42 O34) ?_)
  rintro v46 H47 ⟨O44, sm45⟩
  refine .nil (.ret ?_)
  obtain ⟨c48, p49, f50⟩ := (O44.atVar (j := 0) rfl)
  have O53 := ((O44.drop 0).drop 0).drop 0
  obtain rfl := zAa h40
  exact z1q kr (v1 := (.agg c48.toArray)) (by rfl) (z3o (p := (.pointer (some ⟨b12, 0, none⟩))) (by rfl) ag96 sz96 (by exact ((fr32 4 rfl).trans rfl)) p49 (RT.len _ f50)) O53 s35 ⟨c48, rfl, f50⟩
 have h54 := z0j g39 h38
 refine .skip (.seq (.draw2 (M := [0, 1, 0, 4, 15, 0, 32, 0, 128, 480, 0, 2016, 0, 8160, 16352, 32767, 65535]) mixed (by kernel_rfl) (by kernel_rfl) fun H55 N59 x56 F58 => ?_))
 have O57 := O34.ext x56
 refine D2.pv (padd (.pointer (some ⟨b2, 0, none⟩)) 0) (z3x za7 (ou ((fr32 2 rfl).trans rfl)) (O57.atVar (j := 2) rfl)) (D2.load1' (v := (.bool p0.neg)) (r := []) rfl rfl ag4 (z0t rfl (At.bool (At.proj (O57.atVar (j := 2) rfl) z7d))) z06 (D2.pv (padd (.pointer (some ⟨b7, 0, none⟩)) 0) (z3x za7 (ou ((fr32 3 rfl).trans rfl)) (O57.atVar (j := 1) rfl)) (D2.load1' (v := (.bool p1.neg)) (r := []) rfl rfl ag4 (z0t rfl (At.bool (At.proj (O57.atVar (j := 1) rfl) z7d))) z06 (D2.pv (.bool (!(p0.neg == p1.neg))) (zdo ov ov un4) (D2.pv (padd (.pointer (some ⟨b2, 0, none⟩)) 1) (z3x z83 (ou ((fr32 2 rfl).trans rfl)) (O57.atVar (j := 2) rfl)) ?_)))))
 obtain ⟨w60, p61, f62⟩ := At.sl (At.proj (O57.atVar (j := 2) rfl) z5i)
 refine D2.load1' (v := w60) (r := []) rfl rfl ag94 (z0t rfl p61) z06 (D2.pv (padd (.pointer (some ⟨b7, 0, none⟩)) 1) (z3x z83 (ou ((fr32 3 rfl).trans rfl)) (O57.atVar (j := 1) rfl)) ?_)
 obtain ⟨w63, p64, f65⟩ := At.sl (At.proj (O57.atVar (j := 1) rfl) z5i)
 refine D2.load1' (v := w63) (r := []) rfl rfl ag94 (z0t rfl p64) z06 ?_
 obtain ⟨x66, i67, h68⟩ := z01 h54
 refine D2.lo rfl rfl (Lo.callPF (ps := []) (pw := fun w => [eSl w 181 (rI .u32) x66]) rfl (fn := Tryz.f139) (by kernel_rfl) rfl (mc rfl (mc rfl mn)) O57 (fun L' O' => z1u K w60 p0.num f62 w63 p1.num f65 O' _ i67)) ?_ z06 ?_ ?_
 .rintro v77 H78 ⟨w74, G69, O70, s71, sm76, rfl⟩; exact (faR1 (.inl (by decide)) (faR1 (.inl (by decide)) (faR1 (.inr (sm76 _ (Or.inr ⟨1, _, rfl, List.mem_singleton.2 rfl⟩))) (faR1 (.inr (sm76 _ (Or.inr ⟨2, _, rfl, List.mem_singleton.2 rfl⟩))) z06))))
 .rintro v77 H78 ⟨w74, G69, O70, s71, sm76, rfl⟩; exact z06
 rintro v77 H78 ⟨w74, G69, O70, s71, sm76, rfl⟩
 obtain ⟨c79, p80, f81⟩ := (O70.atVar (j := 3) rfl)
 refine D2.loadA' (cs := c79) rfl rfl ag96 sz96 (z0t ((fr32 2 rfl).trans rfl) p80) (RT.len _ f81) (z8g (zn0 ((fr32 2 rfl).trans rfl) (sm76 _ (Or.inr ⟨2, _, rfl, List.mem_singleton.2 rfl⟩))) z06) ?_
 obtain ⟨x82, i83, h84⟩ := z01 h68
 refine D2.lo rfl rfl (Lo.cP rfl (fn := Tryz.f140) (by kernel_rfl) rfl (mc rfl mn) O70 (fun L' O' => z1j K c79 p0 f81 O' _ i83)) ?_ (z0h (by decide) z06) ?_ ?_
 .rintro v93 H94 ⟨G85, O86, s87, sm92, ⟨w89, rfl, f90⟩⟩; exact (faR1 (.inl (by decide)) (faR1 (.inl (by decide)) (faR1 (.inl (by decide)) (faR1 (.inr (sm92 _ (Or.inr ⟨2, _, rfl, List.mem_singleton.2 rfl⟩))) (faR1 (.inr (sm92 _ (Or.inr ⟨3, _, rfl, List.mem_singleton.2 rfl⟩))) z06)))))
 .rintro v93 H94 ⟨G85, O86, s87, sm92, ⟨w89, rfl, f90⟩⟩; exact z06
 rintro v93 H94 ⟨G85, O86, s87, sm92, ⟨w89, rfl, f90⟩⟩
 obtain ⟨c95, p96, f97⟩ := (O86.atVar (j := 2) rfl)
 refine D2.loadA' (cs := c95) rfl rfl ag96 sz96 (z0t ((fr32 3 rfl).trans rfl) p96) (RT.len _ f97) (z8g (zn0 ((fr32 3 rfl).trans rfl) (sm92 _ (Or.inr ⟨2, _, rfl, List.mem_singleton.2 rfl⟩))) (z8g (zn0 ((fr32 3 rfl).trans rfl) (sm76 _ (Or.inr ⟨1, _, rfl, List.mem_singleton.2 rfl⟩))) z06)) ?_
 obtain ⟨x98, i99, h100⟩ := z01 h84
 refine D2.lo rfl rfl (Lo.cP rfl (fn := Tryz.f140) (by kernel_rfl) rfl (mc rfl mn) O86 (fun L' O' => z1j K c95 p1 f97 O' _ i99)) ?_ (z0h (by decide) (z0h (by decide) z06)) ?_ ?_
 .rintro v109 H110 ⟨G101, O102, s103, sm108, ⟨w105, rfl, f106⟩⟩; exact (faR1 (.inl (by decide)) (faR1 (.inl (by decide)) (faR1 (.inl (by decide)) (faR1 (.inl (by decide)) (faR1 (.inr (sm108 _ (Or.inr ⟨2, _, rfl, List.mem_singleton.2 rfl⟩))) (faR1 (.inr (sm108 _ (Or.inr ⟨3, _, rfl, List.mem_singleton.2 rfl⟩))) z06))))))
 .rintro v109 H110 ⟨G101, O102, s103, sm108, ⟨w105, rfl, f106⟩⟩; exact z06
 rintro v109 H110 ⟨G101, O102, s103, sm108, ⟨w105, rfl, f106⟩⟩
 obtain ⟨x111, i112, h113⟩ := z01 h100
 refine D2.lo rfl rfl (Lo.callPF (ps := []) (pw := fun w => [eSl w 181 (rI .u32) x111]) rfl (fn := Tryz.f139) (by kernel_rfl) rfl (mc rfl (mc rfl mn)) O102 (fun L' O' => z1u K w89 x82 (RT.mono _ s103 f90) w105 x98 f106 O' _ i112)) ?_ (z0h (by decide) (z0h (by decide) (z0h (by decide) z06))) ?_ ?_
 .rintro v122 H123 ⟨w119, G114, O115, s116, sm121, rfl⟩; exact (faR1 (.inl (by decide)) (faR1 (.inl (by decide)) (faR1 (.inl (by decide)) (faR1 (.inl (by decide)) (faR1 (.inr (sm121 _ (Or.inr ⟨2, _, rfl, List.mem_singleton.2 rfl⟩))) (faR1 (.inr (sm121 _ (Or.inr ⟨3, _, rfl, List.mem_singleton.2 rfl⟩))) z06))))))
 .rintro v122 H123 ⟨w119, G114, O115, s116, sm121, rfl⟩; exact z06
 rintro v122 H123 ⟨w119, G114, O115, s116, sm121, rfl⟩
 obtain ⟨G124, O125, s126, f127⟩ := O115.frzSl (j := 1) rfl
 obtain ⟨G128, O129, s130, f131⟩ := O125.frzSl (j := 0) rfl
 obtain ⟨x132, i133, h134⟩ := z01 h113
 refine D2.lo rfl rfl (Lo.cP rfl (fn := Tryz.f138) (by kernel_rfl) rfl (mc rfl (mc rfl (mc rfl mn))) O129 (fun L' O' => z5k K (!(p0.neg == p1.neg)) w74 x66 (RT.mono _ s130 f127) w119 x111 f131 O' _ i133)) ?_ (z0h (by decide) (z0h (by decide) (z0h (by decide) (z0h (by decide) z06)))) ?_ ?_
 .rintro v143 H144 ⟨G135, O136, s137, sm142, ⟨c139, rfl, f140⟩⟩; exact (faR1 (.inl (by decide)) (faR1 (.inl (by decide)) (faR1 (.inl (by decide)) (faR1 (.inl (by decide)) (faR1 (.inl (by decide)) (faR1 (.inl (by decide)) z06))))))
 .rintro v143 H144 ⟨G135, O136, s137, sm142, ⟨c139, rfl, f140⟩⟩; exact z06
 rintro v143 H144 ⟨G135, O136, s137, sm142, ⟨c139, rfl, f140⟩⟩
 refine D2.lo rfl rfl (Lo.storeVar (j := 0) (s := T_Q) (y0 := x132) (v := (.agg c139.toArray)) (o := 0) rfl ((Put.at (Put.self _) _ _)) rfl sz96 ((fr32 4 rfl).trans rfl) (by omega) rfl f140 O136) ?_ (z0h (by decide) (z0h (by decide) (z0h (by decide) (z0h (by decide) (z0h (by decide) z06))))) ?_ ?_
 .rintro v147 H148 ⟨O145, sm146⟩; exact (faR1 (.inl (by decide)) (faR1 (.inl (by decide)) (faR1 (.inl (by decide)) (faR1 (.inl (by decide)) (faR1 (.inl (by decide)) (faR1 (.inl (by decide)) z06))))))
 .rintro v147 H148 ⟨O145, sm146⟩; exact z06
 rintro v147 H148 ⟨O145, sm146⟩
 refine .nil (.ret ?_)
 obtain ⟨c149, p150, f151⟩ := (O145.atVar (j := 0) rfl)
 have O154 := ((O145.drop 0).drop 0).drop 0
 obtain rfl := zAa h134
 exact z1q kr (v1 := (.agg c149.toArray)) (by rfl) (z3o (p := (.pointer (some ⟨b12, 0, none⟩))) (by rfl) ag96 sz96 (by exact ((fr32 4 rfl).trans rfl)) p150 (RT.len _ f151)) O154 (zAe s35 (zAe s71 (zAe s87 (zAe s103 (zAe s116 (zAe s126 (zAe s130 s137))))))) ⟨c149, rfl, f151⟩
def z6b (K : Nat) (p0 : Q) : Option Q := (if ((List.length p0.num : Int) == 0) = true then some p0 else some (Q.mk (!p0.neg) p0.num p0.den))
theorem zc2 (v0 : List Value) (p0 : Q) (hp0 : T_Q.rep G v0 p0) (O : Ow G H (L)) (r : Q) (h : z6b K p0 = some r) :
    CR Tryz.prog 109 [.agg v0.toArray] G H (L) (fun v G' _ => ∃ (w0 : List Value), v = .agg w0.toArray /\ T_Q.rep G' w0 r) := by
 unfold z6b at h
 refine CR.og (n := 16) (fn := Tryz.f109) (by kernel_rfl) rfl rfl fun R kr => (.seq (.region (W.ln (Lo.box (r := T_Q) (x0 := p0) (v := (.agg v0.toArray)) rfl rfl hp0 O) ?_)))
 rintro v4 H5 ⟨b2, rfl, O1, sm3⟩
 refine W.ln (Lo.alloc (r := T_Q) (x0 := (Q.mk false [] [])) ze96 (by kernel_rfl) z_Q O1) ?_
 rintro v9 H10 ⟨b7, rfl, O6, sm8⟩
 refine .nil (.seq (.seq (.region (W.pv (padd (.pointer (some ⟨b2, 0, none⟩)) 1) (z3x z83 ov (O6.atVar (j := 1) rfl)) ?_))))
 obtain ⟨w11, p12, f13⟩ := At.sl (At.proj (O6.atVar (j := 1) rfl) z5i)
 refine W.load1 (v := w11) (r := []) rfl rfl ag94 (z0t rfl p12) (W.pv (.int .i64 (List.length p0.num : Int)) (z0i ov (z0c f13) (z04 el94)) (W.p3 (.bool ((List.length p0.num : Int) == 0)) (.nil (.cond (b := ((List.length p0.num : Int) == 0)) rfl rfl (fun g14 => ?_) (fun g14 => ?_)))))
 .have h15 := z05 g14 h
  refine .seq (.region ?_)
  obtain ⟨c16, p17, f18⟩ := (O6.atVar (j := 1) rfl)
  refine W.loadA (cs := c16) rfl rfl ag96 sz96 (z0t rfl p17) (RT.len _ f18) (W.ln (Lo.storeVar (j := 0) (s := T_Q) (y0 := p0) (v := (.agg c16.toArray)) (o := 0) rfl ((Put.at (Put.self _) _ _)) rfl sz96 rfl (by omega) rfl f18 O6) ?_)
  rintro v21 H22 ⟨O19, sm20⟩
  refine .nil (.ret ?_)
  obtain ⟨c23, p24, f25⟩ := (O19.atVar (j := 0) rfl)
  have O27 := (O19.drop 0).drop 0
  obtain rfl := zAa h15
  exact z1q kr (v1 := (.agg c23.toArray)) (by rfl) (z3o (p := (.pointer (some ⟨b7, 0, none⟩))) (by rfl) ag96 sz96 (by exact rfl) p24 (RT.len _ f25)) O27 (zAf _) ⟨c23, rfl, f25⟩
 have h28 := z0j g14 h
 refine .skip (.seq (.region (W.pv (padd (.pointer (some ⟨b2, 0, none⟩)) 0) (z3x za7 ov (O6.atVar (j := 1) rfl)) (W.load1 (v := (.bool p0.neg)) (r := []) rfl rfl ag4 (z0t rfl (At.bool (At.proj (O6.atVar (j := 1) rfl) z7d))) (W.pv (.bool (!p0.neg)) (zbu (a := p0.neg) ov) (W.pv (padd (.pointer (some ⟨b2, 0, none⟩)) 1) (z3x z83 ov (O6.atVar (j := 1) rfl)) ?_))))))
 obtain ⟨w29, p30, f31⟩ := At.sl (At.proj (O6.atVar (j := 1) rfl) z5i)
 refine W.load1 (v := w29) (r := []) rfl rfl ag94 (z0t rfl p30) (W.pv (padd (.pointer (some ⟨b2, 0, none⟩)) 2) (z3x zjm ov (O6.atVar (j := 1) rfl)) ?_)
 obtain ⟨w32, p33, f34⟩ := At.sl (At.proj (O6.atVar (j := 1) rfl) zhf)
 refine W.load1 (v := w32) (r := []) rfl rfl ag94 (z0t rfl p33) ?_
 obtain ⟨c35, e37, f36⟩ := zab ((.bool (!p0.neg))) (w29) (w32) (rfl) ((z4z f31)) ((z4z f34))
 refine W.pv (.agg c35.toArray) (e37 (z76 rfl (qc' rfl (qc' rfl (qc' rfl qn'))))) (W.ln (Lo.storeVar (j := 0) (s := T_Q) (y0 := (Q.mk (!p0.neg) p0.num p0.den)) (v := (.agg c35.toArray)) (o := 0) rfl ((Put.at (Put.self _) _ _)) rfl sz96 rfl (by omega) rfl f36 O6) ?_)
 rintro v40 H41 ⟨O38, sm39⟩
 refine .nil (.ret ?_)
 obtain ⟨c42, p43, f44⟩ := (O38.atVar (j := 0) rfl)
 have O46 := (O38.drop 0).drop 0
 obtain rfl := zAa h28
 exact z1q kr (v1 := (.agg c42.toArray)) (by rfl) (z3o (p := (.pointer (some ⟨b7, 0, none⟩))) (by rfl) ag96 sz96 (by exact rfl) p43 (RT.len _ f44)) O46 (zAf _) ⟨c42, rfl, f44⟩
def z1w (K : Nat) (x7 : List Int) (x8 : List Int) : Nat -> List Int -> Int -> Int -> Option (List Int × Int)
  | 0, _, _, _ => none
  | k + 1, x29, x30, x31 => (if (decide (x31 < (x7.length : Int))) = true then ((idx x7 x31).bind fun x43 => (Option.bind ((if (decide (x31 < (x8.length : Int))) = true then ((idx x8 x31).bind fun x52 => some (z02 .u32 ((z02 .u32 (x43 + x30)) + x52))) else some (z02 .u32 (x43 + x30)))) (tu1 fun x57 => (if x29.length + List.length [Int.tmod x57 1000000000] <= 16777216 then z1w K x7 x8 k (x29 ++ [Int.tmod x57 1000000000]) (z02 .u32 (Int.tdiv x57 1000000000)) (z02 .i64 (x31 + 1)) else none)))) else some (x29, x30))
def z6c (K : Nat) (p0 : List Int) (p1 : List Int) : Option (List Int) := (Option.bind ((if (decide ((p0.length : Int) < (p1.length : Int))) = true then some (p1, p0) else some (p0, p1))) (tu2 fun x7 x8 => (if 0 <= (0 : Int) /\ (0 : Int) <= (z02 .i64 ((x7.length : Int) + 1)) /\ (z02 .i64 ((x7.length : Int) + 1)) <= 16777216 then (Option.bind (z1w K x7 x8 K (List.replicate (Int.toNat 0) 0) 0 0) (tu2 fun x82 x83 => (Option.bind ((if (decide (x83 > 0)) = true then (if x82.length + List.length [x83] <= 16777216 then some (x82 ++ [x83]) else none) else some x82)) (tu1 fun x113 => some x113)))) else none)))
theorem zc3 (v0 : Value) (p0 : List Int) (hp0 : (rSl (rI .u32)).rep G [v0] p0) (v1 : Value) (p1 : List Int) (hp1 : (rSl (rI .u32)).rep G [v1] p1) (O : Ow G H (L)) (r : List Int) (h : z6c K p0 p1 = some r) :
    CRF Tryz.prog 146 [v0, v1] G H (fun w0 => (eSl w0 181 (rI .u32) r :: L)) (fun w0 v G' => w0 = v) := by
 unfold z6c at h
 refine CRF.og (n := 55) (fn := Tryz.f146) (by kernel_rfl) rfl rfl fun R kr => (.seq (.region (W.p1 (.slice none 0 0) (.nil (.seq (.seq ?_))))))
 refine .region (W.p2 v0 (W.pv (.int .i64 (p0.length : Int)) (z0i ov (z0c hp0) (z04 el94)) (W.p2 v1 (W.pv (.int .i64 (p1.length : Int)) (z0i ov (z0c hp1) (z04 el94)) (W.p3 (.bool (decide ((p0.length : Int) < (p1.length : Int)))) (.nil ?_))))))
 obtain ⟨q1, h2, h3⟩ := z01 h
 refine AW.midT (fun σ' H' => ∃ (y1 : List Int) (y2 : List Int) (G' : GM), (y1, y2) = q1 /\ Ow G' H' (L) /\ GM.le G G' /\ (rSl (rI .u32)).rep G' [σ' 0] y1 /\ (rSl (rI .u32)).rep G' [σ' 1] y2) ?_ ?_
 .refine .cond (b := decide ((p0.length : Int) < (p1.length : Int))) rfl rfl (fun g4 => ?_) (fun g4 => ?_)
  rotate_left
  .have h6 := z0j g4 h2
   refine .skip ?_
   obtain rfl := zAa h6
   exact ⟨p0, p1, _, rfl, O, (zAf _), hp0, hp1⟩
  have h5 := z05 g4 h2
  refine .region (W.p2 v1 (W.p2 v0 (W.p1 v1 (W.p1 v0 (.nil ?_)))))
  obtain rfl := zAa h5
  exact ⟨p1, p0, _, rfl, O, (zAf _), hp1, hp0⟩
 rintro σ9 H10 fr11 ⟨x7, x8, G12, rfl, O13, s14, f16, f17⟩
 have h18 := z52 h3
 refine .seq (.region (W.p2 (σ9 0) (W.pv (.int .i64 (x7.length : Int)) (z0i ov (z0c f16) (z04 el94)) (W.p3 (.int .i64 (z02 .i64 ((x7.length : Int) + 1))) ?_))))
 obtain ⟨g20, h21⟩ := z2l h18
 refine W.ln (Lo.makeSlice (r := (rI .u32)) (x0 := 0) (a := 0) (c := (z02 .i64 ((x7.length : Int) + 1))) rfl el94 zb9 z3y (by kernel_rfl) rfl zhc (by decide) rfl rfl g20 (zI .u32) O13) ?_
 rintro v23 H24 ⟨O19, sm22⟩
 refine W.p1 v23 (.nil (.seq (.region (W.p1 (.int .u32 0) (.nil (.seq ?_))))))
 refine .seq (.region (W.p2 (σ9 0) (W.pv (.int .i64 (x7.length : Int)) (z0i ov (z0c f16) (z04 el94)) (W.p2 (.int .i64 0) (.nil ?_)))))
 obtain ⟨q25, h26, h27⟩ := z01 h21
 refine AW.midT (fun σ' H' => ∃ (y1 : List Int) (y2 : Int) (G' : GM), (y1, y2) = q25 /\ Ow G' H' (eSl (σ' 5) 181 (rI .u32) y1 :: L) /\ GM.le G12 G' /\ σ' 6 = .int .u32 y2) ?_ ?_
 rotate_left
 .rintro σ84 H85 fr86 ⟨x82, x83, G87, rfl, O88, s89, t91⟩
  have h92 := z52 h27
  refine .seq (.seq (.region (W.q2 _ t91 (W.p3 (.bool (decide (x83 > 0))) (.nil ?_)))))
  obtain ⟨q93, h94, h95⟩ := z01 h92
  refine AW.midT (fun σ' H' => ∃ (y1 : List Int) (G' : GM), y1 = q93 /\ Ow G' H' (eSl (σ' 5) 181 (rI .u32) y1 :: L) /\ GM.le G87 G') ?_ ?_
  rotate_left
  .rintro σ114 H115 fr116 ⟨x113, G117, rfl, O118, s119⟩
   have h121 := z09 h95
   refine .seq (.region (W.p2 (σ114 5) (W.p1 (σ114 5) (.nil (.ret ?_)))))
   obtain rfl := zAa h121
   exact zat kr (σ114 5) (v1 := (σ114 5)) (by rfl) rt O118 (zAe s14 (zAe s89 s119)) rfl
  refine .cond (b := decide (x83 > 0)) rfl rfl (fun g96 => ?_) (fun g96 => ?_)
  rotate_left
  .have h112 := z0j g96 h94
   refine .skip ?_
   obtain rfl := zAa h112
   exact ⟨x82, _, rfl, O88, (zAf _)⟩
  have h97 := z05 g96 h94
  refine .region (W.p2 (σ84 5) (W.q2 _ t91 (W.ln (Lo.buildSlice (r := (rI .u32)) (vs := [(.int .u32 x83)]) (xs := [x83]) el94 zb9 z3y (by kernel_rfl) rfl (qc rfl qn) rfl (.cons rfl .nil) O88) ?_)))
  rintro v100 H101 ⟨O98, sm99⟩
  obtain ⟨es103, e104, e105⟩ := z4p (j := 0) rfl O98
  obtain ⟨g106, h107⟩ := z2l h97
  refine W.ln (Lo.append (j := 1) (v := (σ84 5)) rfl rfl el94 ni94 zb9 z3y zhc (by decide) (by decide) rfl e104 e105 g106 O98) ?_
  rintro v109 H110 ⟨O102, sm108⟩
  refine W.p1 v109 (.nil ?_)
  have O111 := O102.drop 0
  obtain rfl := zAa h107
  exact ⟨(x82 ++ [x83]), _, rfl, O111, (zAf _)⟩
 refine .block (AW.loop (α := Nat) (fun k' σ' H' => ∃ (y1 : List Int) (y2 : Int) (y3 : Int) (G' : GM), z1w K x7 x8 k' y1 y2 y3 = some q25 /\ Ow G' H' (eSl (σ' 5) 181 (rI .u32) y1 :: L) /\ GM.le G12 G' /\ σ' 6 = .int .u32 y2 /\ σ' 22 = .int .i64 y3) (fun k' => k') K ⟨(List.replicate (Int.toNat 0) 0), 0, 0, _, h26, O19, (zAf _), rfl, rfl⟩ ?_)
 rintro k28
 rintro σ32 H33 fr34 ⟨x29, x30, x31, G35, h38, O36, s37, t39, t40⟩
 rcases k28 with _ | k28
 .exact z07 h38
 rw [z1w] at h38
 refine .seq (.region (W.q3 (.bool (decide (x31 < (x7.length : Int)))) t40 ((fr34 21 rfl).trans rfl) (.nil (.seq (.cond (b := decide (x31 < (x7.length : Int))) rfl rfl (fun g41 => ?_) (fun g41 => ?_))))))
 rotate_left
 .have h81 := z0j g41 h38
  refine .exit ?_
  obtain rfl := zAa h81
  exact ⟨x29, x30, _, rfl, O36, s37, t39⟩
 have h42 := z05 g41 h38
 refine .skip (.seq (.block (.seq (.region (W.q2 _ t40 ?_)))))
 obtain ⟨x43, i44, h45⟩ := z01 h42
 have j46 := z0a i44
 refine W.pv (z1m (σ9 0) (x31.toNat * 1)) (z2e el94 z3y (ou ((fr34 20 rfl).trans rfl)) (ou t40) (z0c (RT.mono _ s37 f16)) j46.1 j46.2.1) (W.load1 (v := (.int .u32 x43)) (r := []) rfl rfl z98 (z0t rfl (At.int (At.le (At.le (z2f f16 j46.2.2) s37 s37) (zAf _) O36.fro))) (W.p1 (.int .i64 x31) (W.p1 (.int .u32 x43) (.nil (.seq (.region ?_))))))
 refine W.p2 (.int .u32 x43) (W.q2 _ t39 (W.p3 (.int .u32 (z02 .u32 (x43 + x30))) (W.p1 (.int .u32 (z02 .u32 (x43 + x30))) (.nil (.seq (.seq ?_))))))
 refine .region (W.p2 (.int .i64 x31) (W.q2 (σ9 1) ((fr34 1 rfl).trans rfl) (W.pv (.int .i64 (x8.length : Int)) (z0i ov (z0c (RT.mono _ s37 f17)) (z04 el94)) (W.p3 (.bool (decide (x31 < (x8.length : Int)))) (.nil ?_)))))
 obtain ⟨q47, h48, h49⟩ := z01 h45
 refine AW.midT (fun σ' H' => ∃ (y1 : Int) (G' : GM), y1 = q47 /\ Ow G' H' (eSl (σ32 5) 181 (rI .u32) x29 :: L) /\ GM.le G35 G' /\ σ' 8 = .int .u32 y1) ?_ ?_
 .refine .cond (b := decide (x31 < (x8.length : Int))) rfl rfl (fun g50 => ?_) (fun g50 => ?_)
  rotate_left
  .have h56 := z0j g50 h48
   refine .skip ?_
   obtain rfl := zAa h56
   exact ⟨z02 .u32 (x43 + x30), _, rfl, O36, (zAf _), rfl⟩
  have h51 := z05 g50 h48
  refine .region (W.p2 (.int .u32 (z02 .u32 (x43 + x30))) (W.q2 (σ9 1) ((fr34 1 rfl).trans rfl) (W.p2 (.int .i64 x31) ?_)))
  obtain ⟨x52, i53, h54⟩ := z01 h51
  have j55 := z0a i53
  refine W.pv (z1m (σ9 1) (x31.toNat * 1)) (z2e el94 z3y ov ov (z0c (RT.mono _ s37 f17)) j55.1 j55.2.1) (W.load1 (v := (.int .u32 x52)) (r := []) rfl rfl z98 (z0t rfl (At.int (At.le (At.le (z2f f17 j55.2.2) s37 s37) (zAf _) O36.fro))) (W.p3 (.int .u32 (z02 .u32 ((z02 .u32 (x43 + x30)) + x52))) (W.p1 (.int .u32 (z02 .u32 ((z02 .u32 (x43 + x30)) + x52))) (.nil ?_))))
  obtain rfl := zAa h54
  exact ⟨z02 .u32 ((z02 .u32 (x43 + x30)) + x52), _, rfl, O36, (zAf _), rfl⟩
 rintro σ58 H59 fr60 ⟨x57, G61, rfl, O62, s63, t65⟩
 have h66 := z09 h49
 refine .seq (.region (W.q2 _ t65 (W.pv (.int .u32 (z02 .u32 (Int.tdiv x57 1000000000))) (ziu (by decide) ov ov) (W.p1 (.int .u32 (z02 .u32 (Int.tdiv x57 1000000000))) (.nil (.region ?_))))))
 refine W.q2 (σ32 5) ((fr60 5 rfl).trans rfl) (W.q2 _ t65 (W.pv (.int .u32 (Int.tmod x57 1000000000)) (ziv (by decide) ov ov) (W.ln (Lo.buildSlice (r := (rI .u32)) (vs := [(.int .u32 (Int.tmod x57 1000000000))]) (xs := [Int.tmod x57 1000000000]) el94 zb9 z3y (by kernel_rfl) rfl (qc rfl qn) rfl (.cons rfl .nil) O62) ?_)))
 rintro v69 H70 ⟨O67, sm68⟩
 obtain ⟨es72, e73, e74⟩ := z4p (j := 0) rfl O67
 obtain ⟨g75, h76⟩ := z2l h66
 refine W.ln (Lo.append (j := 1) (v := (σ32 5)) rfl rfl el94 ni94 zb9 z3y zhc (by decide) (by decide) rfl e73 e74 g75 O67) ?_
 rintro v78 H79 ⟨O71, sm77⟩
 refine W.p1 v78 (.nil (.region (W.q3 (.int .i64 (z02 .i64 (x31 + 1))) ((fr60 22 rfl).trans t40) rfl (W.p2 (.int .i64 (z02 .i64 (x31 + 1))) (.nil ?_)))))
 have O80 := O71.drop 0
 exact ⟨k28, zAg _, ⟨(x29 ++ [Int.tmod x57 1000000000]), z02 .u32 (Int.tdiv x57 1000000000), z02 .i64 (x31 + 1), _, h76, O80, (zAe s37 s63), rfl, rfl⟩⟩
def z1x (K : Nat) (p0 : List Int) (p1 : List Int) : Nat -> List Int -> Int -> Int -> Option (List Int)
  | 0, _, _, _ => none
  | k + 1, x11, x12, x13 => (if (decide (x13 < (p0.length : Int))) = true then ((idx p0 x13).bind fun x25 => (Option.bind ((if (decide (x13 < (p1.length : Int))) = true then ((idx p1 x13).bind fun x34 => (lt (z02 .i64 ((z02 .i64 ((IntKind.wrap .i64 x25) - x12)) - (IntKind.wrap .i64 x34))) fun x38 => some x38)) else some (z02 .i64 ((IntKind.wrap .i64 x25) - x12)))) (tu1 fun x42 => (Option.bind ((if (decide (x42 < 0)) = true then some (1, z02 .i64 (x42 + 1000000000)) else some (0, x42))) (tu2 fun x58 x59 => ((idx x11 x13).bind fun x70 => z1x K p0 p1 k (List.set x11 (x13.toNat) (IntKind.wrap .u32 x59)) x58 (z02 .i64 (x13 + 1)))))))) else some x11)
def z5e (K : Nat) (p0 : List Int) (p1 : List Int) : Option (List Int) := (if 0 <= (p0.length : Int) /\ (p0.length : Int) <= (p0.length : Int) /\ (p0.length : Int) <= 16777216 then (Option.bind (z1x K p0 p1 K (List.replicate (Int.toNat (p0.length : Int)) 0) 0 0) (tu1 fun x79 => ((z1n K x79).bind fun x88 => some x88))) else none)
theorem z8k (v0 : Value) (p0 : List Int) (hp0 : (rSl (rI .u32)).rep G [v0] p0) (v1 : Value) (p1 : List Int) (hp1 : (rSl (rI .u32)).rep G [v1] p1) (O : Ow G H (L)) (r : List Int) (h : z5e K p0 p1 = some r) :
    CRF Tryz.prog 147 [v0, v1] G H (fun w0 => (eSl w0 181 (rI .u32) r :: L)) (fun w0 v G' => w0 = v) := by
 unfold z5e at h
 refine CRF.og (n := 47) (fn := Tryz.f147) (by kernel_rfl) rfl rfl fun R kr => (.seq (.region (W.p1 (.slice none 0 0) (.nil (.seq (.region ?_))))))
 refine W.p2 v0 (W.pv (.int .i64 (p0.length : Int)) (z0i ov (z0c hp0) (z04 el94)) ?_)
 obtain ⟨g2, h3⟩ := z2l h
 refine W.ln (Lo.makeSlice (r := (rI .u32)) (x0 := 0) (a := (p0.length : Int)) (c := (p0.length : Int)) rfl el94 zb9 z3y (by kernel_rfl) rfl zhc (by decide) rfl rfl g2 (zI .u32) O) ?_
 rintro v5 H6 ⟨O1, sm4⟩
 refine W.p1 v5 (.nil (.seq (.region (W.p1 (.int .i64 0) (.nil (.seq ?_))))))
 refine .seq (.region (W.p2 v0 (W.pv (.int .i64 (p0.length : Int)) (z0i ov (z0c hp0) (z04 el94)) (W.p2 (.int .i64 0) (.nil ?_)))))
 obtain ⟨q7, h8, h9⟩ := z01 h3
 refine AW.midT (fun σ' H' => ∃ (y1 : List Int) (G' : GM), y1 = q7 /\ Ow G' H' (eSl v5 181 (rI .u32) y1 :: L) /\ GM.le G G') ?_ ?_
 rotate_left
 .rintro σ80 H81 fr82 ⟨x79, G83, rfl, O84, s85⟩
  have h87 := z09 h9
  refine .seq (.region (W.q2 v5 ((fr82 5 rfl).trans rfl) ?_))
  obtain ⟨x88, i89, h90⟩ := z01 h87
  refine W.ln (Lo.callPF (ps := [eSl v5 181 (rI .u32) x79]) (pw := fun w => [eSl w 181 (rI .u32) x88]) rfl (fn := Tryz.f165) (by kernel_rfl) rfl (mc rfl mn) O84 (fun L' O' => z2h K v5 x79 O' _ i89)) ?_
  rintro v99 H100 ⟨w96, G91, O92, s93, sm98, rfl⟩
  refine W.p1 w96 (.nil (.ret ?_))
  obtain rfl := zAa h90
  exact zat kr w96 (v1 := w96) (by rfl) rt O92 (zAe s85 s93) rfl
 refine .block (AW.loop (α := Nat) (fun k' σ' H' => ∃ (y1 : List Int) (y2 : Int) (y3 : Int) (G' : GM), z1x K p0 p1 k' y1 y2 y3 = some q7 /\ Ow G' H' (eSl v5 181 (rI .u32) y1 :: L) /\ GM.le G G' /\ σ' 6 = .int .i64 y2 /\ σ' 14 = .int .i64 y3) (fun k' => k') K ⟨(List.replicate (Int.toNat (p0.length : Int)) 0), 0, 0, _, h8, O1, (zAf _), rfl, rfl⟩ ?_)
 rintro k10
 rintro σ14 H15 fr16 ⟨x11, x12, x13, G17, h20, O18, s19, t21, t22⟩
 rcases k10 with _ | k10
 .exact z07 h20
 rw [z1x] at h20
 refine .seq (.region (W.q3 (.bool (decide (x13 < (p0.length : Int)))) t22 ((fr16 13 rfl).trans rfl) (.nil (.seq (.cond (b := decide (x13 < (p0.length : Int))) rfl rfl (fun g23 => ?_) (fun g23 => ?_))))))
 rotate_left
 .have h78 := z0j g23 h20
  refine .exit ?_
  obtain rfl := zAa h78
  exact ⟨x11, _, rfl, O18, s19⟩
 have h24 := z05 g23 h20
 refine .skip (.seq (.block (.seq (.region (W.q2 _ t22 (W.p1 (.int .i64 x13) ?_))))))
 refine .nil (.seq (.region (W.q2 v0 ((fr16 0 rfl).trans rfl) (W.p2 (.int .i64 x13) ?_))))
 obtain ⟨x25, i26, h27⟩ := z01 h24
 have j28 := z0a i26
 refine W.pv (z1m v0 (x13.toNat * 1)) (z2e el94 z3y ov ov (z0c (RT.mono _ s19 hp0)) j28.1 j28.2.1) (W.load1 (v := (.int .u32 x25)) (r := []) rfl rfl z98 (z0t rfl (At.int (At.le (At.le (z2f hp0 j28.2.2) s19 s19) (zAf _) O18.fro))) (W.pv (.int .i64 (IntKind.wrap .i64 x25)) (z3n z8v in2 ov) (W.q2 _ t21 (W.p3 (.int .i64 (z02 .i64 ((IntKind.wrap .i64 x25) - x12))) (W.p1 (.int .i64 (z02 .i64 ((IntKind.wrap .i64 x25) - x12))) (.nil ?_))))))
 refine .seq (.seq (.region (W.p2 (.int .i64 x13) (W.q2 v1 ((fr16 1 rfl).trans rfl) (W.pv (.int .i64 (p1.length : Int)) (z0i ov (z0c (RT.mono _ s19 hp1)) (z04 el94)) (W.p3 (.bool (decide (x13 < (p1.length : Int)))) ?_))))))
 refine .nil ?_
 obtain ⟨q29, h30, h31⟩ := z01 h27
 refine AW.midT (fun σ' H' => ∃ (y1 : Int) (G' : GM), y1 = q29 /\ Ow G' H' (eSl v5 181 (rI .u32) x11 :: L) /\ GM.le G17 G' /\ σ' 8 = .int .i64 y1) ?_ ?_
 .refine .cond (b := decide (x13 < (p1.length : Int))) rfl rfl (fun g32 => ?_) (fun g32 => ?_)
  rotate_left
  .have h41 := z0j g32 h30
   refine .skip ?_
   obtain rfl := zAa h41
   exact ⟨z02 .i64 ((IntKind.wrap .i64 x25) - x12), _, rfl, O18, (zAf _), rfl⟩
  have h33 := z05 g32 h30
  refine .region (W.p2 (.int .i64 (z02 .i64 ((IntKind.wrap .i64 x25) - x12))) (W.q2 v1 ((fr16 1 rfl).trans rfl) (W.p2 (.int .i64 x13) ?_)))
  obtain ⟨x34, i35, h36⟩ := z01 h33
  have j37 := z0a i35
  refine W.pv (z1m v1 (x13.toNat * 1)) (z2e el94 z3y ov ov (z0c (RT.mono _ s19 hp1)) j37.1 j37.2.1) (W.load1 (v := (.int .u32 x34)) (r := []) rfl rfl z98 (z0t rfl (At.int (At.le (At.le (z2f hp1 j37.2.2) s19 s19) (zAf _) O18.fro))) (W.pv (.int .i64 (IntKind.wrap .i64 x34)) (z3n z8v in2 ov) (W.p3 (.int .i64 (z02 .i64 ((z02 .i64 ((IntKind.wrap .i64 x25) - x12)) - (IntKind.wrap .i64 x34)))) ?_)))
  obtain ⟨x38, e39, h40⟩ := z67 h36
  refine W.q1 _ (congrArg (Value.int .i64) e39) (.nil ?_)
  obtain rfl := zAa h40
  exact ⟨x38, _, rfl, O18, (zAf _), rfl⟩
 rintro σ43 H44 fr45 ⟨x42, G46, rfl, O47, s48, t50⟩
 have h51 := z09 h31
 refine .seq (.region (W.p1 (.int .i64 0) (.nil (.seq (.seq (.region ?_))))))
 refine W.q2 _ t50 (W.p3 (.bool (decide (x42 < 0))) (.nil ?_))
 obtain ⟨q52, h53, h54⟩ := z01 h51
 refine AW.midT (fun σ' H' => ∃ (y1 : Int) (y2 : Int) (G' : GM), (y1, y2) = q52 /\ Ow G' H' (eSl v5 181 (rI .u32) x11 :: L) /\ GM.le G46 G' /\ σ' 6 = .int .i64 y1 /\ σ' 8 = .int .i64 y2) ?_ ?_
 .refine .cond (b := decide (x42 < 0)) rfl rfl (fun g55 => ?_) (fun g55 => ?_)
  rotate_left
  .have h57 := z0j g55 h53
   refine .skip ?_
   obtain rfl := zAa h57
   exact ⟨0, x42, _, rfl, O47, (zAf _), rfl, t50⟩
  have h56 := z05 g55 h53
  refine .seq (.region (W.q2 _ t50 (W.p3 (.int .i64 (z02 .i64 (x42 + 1000000000))) (W.p1 (.int .i64 (z02 .i64 (x42 + 1000000000))) (.nil (.region ?_))))))
  refine W.p1 (.int .i64 1) (.nil ?_)
  obtain rfl := zAa h56
  exact ⟨1, z02 .i64 (x42 + 1000000000), _, rfl, O47, (zAf _), rfl, rfl⟩
 rintro σ60 H61 fr62 ⟨x58, x59, G63, rfl, O64, s65, t67, t68⟩
 have h69 := z52 h54
 refine .region (W.q2 v5 ((fr62 5 rfl).trans ((fr45 5 rfl).trans ((fr16 5 rfl).trans rfl))) (W.q2 (.int .i64 x13) ((fr62 7 rfl).trans ((fr45 7 rfl).trans rfl)) (W.q2 _ t68 (W.pv (.int .u32 (IntKind.wrap .u32 x59)) (z3n in2 z8v ov) ?_))))
 obtain ⟨x70, i71, h72⟩ := z01 h69
 have j73 := z0a i71
 refine W.pv (z1m v5 (x13.toNat * 1)) (z2e el94 z3y ov ov (O64.slLen (j := 0) rfl) j73.1 j73.2.1) (W.ln (Lo.storeSl0 (j := 0) (y0 := IntKind.wrap .u32 x59) (v := (.int .u32 (IntKind.wrap .u32 x59))) rfl j73.2.2  rfl z3y rfl rfl rfl O64) ?_)
 rintro v76 H77 ⟨O74, sm75⟩
 refine .nil (.region (W.q3 (.int .i64 (z02 .i64 (x13 + 1))) ((fr62 14 rfl).trans ((fr45 14 rfl).trans t22)) rfl (W.p2 (.int .i64 (z02 .i64 (x13 + 1))) (.nil ?_))))
 exact ⟨k10, zAg _, ⟨(List.set x11 (x13.toNat) (IntKind.wrap .u32 x59)), x58, z02 .i64 (x13 + 1), _, h72, O74, (zAe s19 (zAe s48 s65)), t67, rfl⟩⟩
def z6d (K : Nat) (p0 : Q) (p1 : Q) : Option Q := (if ((List.length p0.num : Int) == 0) = true then some p1 else (if ((List.length p1.num : Int) == 0) = true then some p0 else ((z18 K p1).bind fun x65 => ((z23 K p0.num x65).bind fun x78 => ((z18 K p0).bind fun x97 => ((z23 K p1.num x97).bind fun x110 => ((z18 K p0).bind fun x131 => ((z18 K p1).bind fun x147 => ((z23 K x131 x147).bind fun x160 => (if (p0.neg == p1.neg) = true then ((z6c K x78 x110).bind fun x188 => ((z55 K p0.neg x188 x160).bind fun x209 => some x209)) else ((z3t K x78 x110).bind fun x241 => (if (decide (x241 >= 0)) = true then ((z5e K x78 x110).bind fun x259 => ((z55 K p0.neg x259 x160).bind fun x280 => some x280)) else ((z5e K x110 x78).bind fun x309 => ((z55 K p1.neg x309 x160).bind fun x330 => some x330))))))))))))))
theorem zc4 (v0 : List Value) (p0 : Q) (hp0 : T_Q.rep G v0 p0) (v1 : List Value) (p1 : Q) (hp1 : T_Q.rep G v1 p1) (O : Ow G H (L)) (r : Q) (h : z6d K p0 p1 = some r) :
    CR Tryz.prog 91 [.agg v0.toArray, .agg v1.toArray] G H (L) (fun v G' _ => ∃ (w0 : List Value), v = .agg w0.toArray /\ T_Q.rep G' w0 r) := by
 unfold z6d at h
 refine CR.og (n := 65) (fn := Tryz.f91) (by kernel_rfl) rfl rfl fun R kr => (.seq (.region (W.ln (Lo.box (r := T_Q) (x0 := p0) (v := (.agg v0.toArray)) rfl rfl hp0 O) ?_)))
 rintro v4 H5 ⟨b2, rfl, O1, sm3⟩
 refine W.ln (Lo.box (r := T_Q) (x0 := p1) (v := (.agg v1.toArray)) rfl rfl hp1 O1) ?_
 rintro v9 H10 ⟨b7, rfl, O6, sm8⟩
 refine W.ln (Lo.alloc (r := T_Q) (x0 := (Q.mk false [] [])) ze96 (by kernel_rfl) z_Q O6) ?_
 rintro v14 H15 ⟨b12, rfl, O11, sm13⟩
 refine .nil (.seq (.block (.seq (.region (W.pv (padd (.pointer (some ⟨b2, 0, none⟩)) 1) (z3x z83 ov (O11.atVar (j := 2) rfl)) ?_)))))
 obtain ⟨w16, p17, f18⟩ := At.sl (At.proj (O11.atVar (j := 2) rfl) z5i)
 refine W.load1 (v := w16) (r := []) rfl rfl ag94 (z0t rfl p17) (W.pv (.int .i64 (List.length p0.num : Int)) (z0i ov (z0c f18) (z04 el94)) (W.p3 (.bool ((List.length p0.num : Int) == 0)) (W.p1 (.bool ((List.length p0.num : Int) == 0)) (.nil (.cond (b := ((List.length p0.num : Int) == 0)) rfl rfl (fun g19 => ?_) (fun g19 => ?_))))))
 .have h20 := z05 g19 h
  refine .seq (.region ?_)
  obtain ⟨c21, p22, f23⟩ := (O11.atVar (j := 1) rfl)
  refine W.loadA (cs := c21) rfl rfl ag96 sz96 (z0t rfl p22) (RT.len _ f23) (W.ln (Lo.storeVar (j := 0) (s := T_Q) (y0 := p1) (v := (.agg c21.toArray)) (o := 0) rfl ((Put.at (Put.self _) _ _)) rfl sz96 rfl (by omega) rfl f23 O11) ?_)
  rintro v26 H27 ⟨O24, sm25⟩
  refine .nil (.ret ?_)
  obtain ⟨c28, p29, f30⟩ := (O24.atVar (j := 0) rfl)
  have O33 := ((O24.drop 0).drop 0).drop 0
  obtain rfl := zAa h20
  exact z1q kr (v1 := (.agg c28.toArray)) (by rfl) (z3o (p := (.pointer (some ⟨b12, 0, none⟩))) (by rfl) ag96 sz96 (by exact rfl) p29 (RT.len _ f30)) O33 (zAf _) ⟨c28, rfl, f30⟩
 have h34 := z0j g19 h
 refine .seq (.region (W.pv (padd (.pointer (some ⟨b7, 0, none⟩)) 1) (z3x z83 ov (O11.atVar (j := 1) rfl)) ?_))
 obtain ⟨w35, p36, f37⟩ := At.sl (At.proj (O11.atVar (j := 1) rfl) z5i)
 refine W.load1 (v := w35) (r := []) rfl rfl ag94 (z0t rfl p36) (W.pv (.int .i64 (List.length p1.num : Int)) (z0i ov (z0c f37) (z04 el94)) (W.p3 (.bool ((List.length p1.num : Int) == 0)) (W.p1 (.bool ((List.length p1.num : Int) == 0)) (.nil (.cond (b := ((List.length p1.num : Int) == 0)) rfl rfl (fun g38 => ?_) (fun g38 => ?_))))))
 .have h39 := z05 g38 h34
  refine .seq (.region ?_)
  obtain ⟨c40, p41, f42⟩ := (O11.atVar (j := 2) rfl)
  refine W.loadA (cs := c40) rfl rfl ag96 sz96 (z0t rfl p41) (RT.len _ f42) (W.ln (Lo.storeVar (j := 0) (s := T_Q) (y0 := p0) (v := (.agg c40.toArray)) (o := 0) rfl ((Put.at (Put.self _) _ _)) rfl sz96 rfl (by omega) rfl f42 O11) ?_)
  rintro v45 H46 ⟨O43, sm44⟩
  refine .nil (.ret ?_)
  obtain ⟨c47, p48, f49⟩ := (O43.atVar (j := 0) rfl)
  have O52 := ((O43.drop 0).drop 0).drop 0
  obtain rfl := zAa h39
  exact z1q kr (v1 := (.agg c47.toArray)) (by rfl) (z3o (p := (.pointer (some ⟨b12, 0, none⟩))) (by rfl) ag96 sz96 (by exact rfl) p48 (RT.len _ f49)) O52 (zAf _) ⟨c47, rfl, f49⟩
 have h53 := z0j g38 h34
 refine .skip (.seq (.draw2 (M := [0, 1, 0, 4, 15, 0, 32, 0, 159, 511, 1023, 2047]) mixed (by kernel_rfl) (by kernel_rfl) fun H54 N58 x55 F57 => ?_))
 have O56 := O11.ext x55
 refine D2.pv (padd (.pointer (some ⟨b2, 0, none⟩)) 1) (z3x z83 ov (O56.atVar (j := 2) rfl)) ?_
 obtain ⟨w59, p60, f61⟩ := At.sl (At.proj (O56.atVar (j := 2) rfl) z5i)
 refine D2.load1' (v := w59) (r := []) rfl rfl ag94 (z0t rfl p60) z06 ?_
 obtain ⟨c62, p63, f64⟩ := (O56.atVar (j := 1) rfl)
 refine D2.loadA' (cs := c62) rfl rfl ag96 sz96 (z0t rfl p63) (RT.len _ f64) z06 ?_
 obtain ⟨x65, i66, h67⟩ := z01 h53
 refine D2.lo rfl rfl (Lo.cP rfl (fn := Tryz.f140) (by kernel_rfl) rfl (mc rfl mn) O56 (fun L' O' => z1j K c62 p1 f64 O' _ i66)) ?_ z06 ?_ ?_
 .rintro v76 H77 ⟨G68, O69, s70, sm75, ⟨w72, rfl, f73⟩⟩; exact (faR1 (.inl (by decide)) (faR1 (.inr (sm75 _ (Or.inr ⟨2, _, rfl, List.mem_singleton.2 rfl⟩))) z06))
 .rintro v76 H77 ⟨G68, O69, s70, sm75, ⟨w72, rfl, f73⟩⟩; exact z06
 rintro v76 H77 ⟨G68, O69, s70, sm75, ⟨w72, rfl, f73⟩⟩
 obtain ⟨x78, i79, h80⟩ := z01 h67
 refine D2.lo rfl rfl (Lo.callPF (ps := []) (pw := fun w => [eSl w 181 (rI .u32) x78]) rfl (fn := Tryz.f139) (by kernel_rfl) rfl (mc rfl (mc rfl mn)) O69 (fun L' O' => z1u K w59 p0.num (RT.mono _ s70 f61) w72 x65 f73 O' _ i79)) ?_ (z0h (by decide) z06) ?_ ?_
 .rintro v89 H90 ⟨w86, G81, O82, s83, sm88, rfl⟩; exact (faR1 (.inl (by decide)) (faR1 (.inl (by decide)) z06))
 .rintro v89 H90 ⟨w86, G81, O82, s83, sm88, rfl⟩; exact z06
 rintro v89 H90 ⟨w86, G81, O82, s83, sm88, rfl⟩
 refine D2.pv (padd (.pointer (some ⟨b7, 0, none⟩)) 1) (z3x z83 ov (O82.atVar (j := 2) rfl)) ?_
 obtain ⟨w91, p92, f93⟩ := At.sl (At.proj (O82.atVar (j := 2) rfl) z5i)
 refine D2.load1' (v := w91) (r := []) rfl rfl ag94 (z0t rfl p92) (z8g (sm88 _ (Or.inr ⟨1, _, rfl, List.mem_singleton.2 rfl⟩)) (z8g (sm75 _ (Or.inr ⟨1, _, rfl, List.mem_singleton.2 rfl⟩)) z06)) ?_
 obtain ⟨c94, p95, f96⟩ := (O82.atVar (j := 3) rfl)
 refine D2.loadA' (cs := c94) rfl rfl ag96 sz96 (z0t rfl p95) (RT.len _ f96) (z8g (sm88 _ (Or.inr ⟨2, _, rfl, List.mem_singleton.2 rfl⟩)) (z8g (sm75 _ (Or.inr ⟨2, _, rfl, List.mem_singleton.2 rfl⟩)) z06)) ?_
 obtain ⟨x97, i98, h99⟩ := z01 h80
 refine D2.lo rfl rfl (Lo.cP rfl (fn := Tryz.f140) (by kernel_rfl) rfl (mc rfl mn) O82 (fun L' O' => z1j K c94 p0 f96 O' _ i98)) ?_ (z0h (by decide) (z0h (by decide) z06)) ?_ ?_
 .rintro v108 H109 ⟨G100, O101, s102, sm107, ⟨w104, rfl, f105⟩⟩; exact (faR1 (.inl (by decide)) (faR1 (.inr (sm107 _ (Or.inr ⟨2, _, rfl, List.mem_singleton.2 rfl⟩))) (faR1 (.inl (by decide)) (faR1 (.inl (by decide)) z06))))
 .rintro v108 H109 ⟨G100, O101, s102, sm107, ⟨w104, rfl, f105⟩⟩; exact z06
 rintro v108 H109 ⟨G100, O101, s102, sm107, ⟨w104, rfl, f105⟩⟩
 obtain ⟨x110, i111, h112⟩ := z01 h99
 refine D2.lo rfl rfl (Lo.callPF (ps := []) (pw := fun w => [eSl w 181 (rI .u32) x110]) rfl (fn := Tryz.f139) (by kernel_rfl) rfl (mc rfl (mc rfl mn)) O101 (fun L' O' => z1u K w91 p1.num (RT.mono _ s102 f93) w104 x97 f105 O' _ i111)) ?_ (z0h (by decide) (z0h (by decide) (z0h (by decide) z06))) ?_ ?_
 .rintro v121 H122 ⟨w118, G113, O114, s115, sm120, rfl⟩; exact (faR1 (.inl (by decide)) (faR1 (.inl (by decide)) (faR1 (.inl (by decide)) (faR1 (.inl (by decide)) z06))))
 .rintro v121 H122 ⟨w118, G113, O114, s115, sm120, rfl⟩; exact z06
 rintro v121 H122 ⟨w118, G113, O114, s115, sm120, rfl⟩
 refine D2.p1 w86 (D2.p1 w118 (.nil (.seq (.draw2 (M := [0, 1, 0, 7, 15, 31]) mixed (by kernel_rfl) (by kernel_rfl) fun H123 N127 x124 F126 => ?_))))
 have O125 := O114.ext x124
 obtain ⟨c128, p129, f130⟩ := (O125.atVar (j := 4) rfl)
 refine D2.loadA' (cs := c128) rfl rfl ag96 sz96 (z0t rfl p129) (RT.len _ f130) z06 ?_
 obtain ⟨x131, i132, h133⟩ := z01 h112
 refine D2.lo rfl rfl (Lo.cP rfl (fn := Tryz.f140) (by kernel_rfl) rfl (mc rfl mn) O125 (fun L' O' => z1j K c128 p0 f130 O' _ i132)) ?_ z06 ?_ ?_
 .rintro v142 H143 ⟨G134, O135, s136, sm141, ⟨w138, rfl, f139⟩⟩; exact (faR1 (.inl (by decide)) z06)
 .rintro v142 H143 ⟨G134, O135, s136, sm141, ⟨w138, rfl, f139⟩⟩; exact z06
 rintro v142 H143 ⟨G134, O135, s136, sm141, ⟨w138, rfl, f139⟩⟩
 obtain ⟨c144, p145, f146⟩ := (O135.atVar (j := 3) rfl)
 refine D2.loadA' (cs := c144) rfl rfl ag96 sz96 (z0t rfl p145) (RT.len _ f146) (z8g (sm141 _ (Or.inr ⟨3, _, rfl, List.mem_singleton.2 rfl⟩)) z06) ?_
 obtain ⟨x147, i148, h149⟩ := z01 h133
 refine D2.lo rfl rfl (Lo.cP rfl (fn := Tryz.f140) (by kernel_rfl) rfl (mc rfl mn) O135 (fun L' O' => z1j K c144 p1 f146 O' _ i148)) ?_ (z0h (by decide) z06) ?_ ?_
 .rintro v158 H159 ⟨G150, O151, s152, sm157, ⟨w154, rfl, f155⟩⟩; exact (faR1 (.inl (by decide)) (faR1 (.inl (by decide)) z06))
 .rintro v158 H159 ⟨G150, O151, s152, sm157, ⟨w154, rfl, f155⟩⟩; exact z06
 rintro v158 H159 ⟨G150, O151, s152, sm157, ⟨w154, rfl, f155⟩⟩
 obtain ⟨x160, i161, h162⟩ := z01 h149
 refine D2.lo rfl rfl (Lo.callPF (ps := []) (pw := fun w => [eSl w 181 (rI .u32) x160]) rfl (fn := Tryz.f139) (by kernel_rfl) rfl (mc rfl (mc rfl mn)) O151 (fun L' O' => z1u K w138 x131 (RT.mono _ s152 f139) w154 x147 f155 O' _ i161)) ?_ (z0h (by decide) (z0h (by decide) z06)) ?_ ?_
 .rintro v171 H172 ⟨w168, G163, O164, s165, sm170, rfl⟩; exact (faR1 (.inl (by decide)) (faR1 (.inl (by decide)) z06))
 .rintro v171 H172 ⟨w168, G163, O164, s165, sm170, rfl⟩; exact z06
 rintro v171 H172 ⟨w168, G163, O164, s165, sm170, rfl⟩
 refine D2.p1 w168 (.nil (.seq (.seq (.region (W.pv (padd (.pointer (some ⟨b2, 0, none⟩)) 0) (z3x za7 ov (O164.atVar (j := 5) rfl)) (W.load1 (v := (.bool p0.neg)) (r := []) rfl rfl ag4 (z0t rfl (At.bool (At.proj (O164.atVar (j := 5) rfl) z7d))) ?_))))))
 refine W.pv (padd (.pointer (some ⟨b7, 0, none⟩)) 0) (z3x za7 ov (O164.atVar (j := 4) rfl)) (W.load1 (v := (.bool p1.neg)) (r := []) rfl rfl ag4 (z0t rfl (At.bool (At.proj (O164.atVar (j := 4) rfl) z7d))) (W.pv (.bool (p0.neg == p1.neg)) (zgw ov ov un4) (.nil (.cond (b := (p0.neg == p1.neg)) rfl rfl (fun g173 => ?_) (fun g173 => ?_)))))
 .have h174 := z05 g173 h162
  refine .seq (.draw2 (M := [0, 1, 0, 0, 12, 0, 63, 127]) mixed (by kernel_rfl) (by kernel_rfl) fun H175 N179 x176 F178 => ?_)
  have O177 := O164.ext x176
  refine D2.pv (padd (.pointer (some ⟨b2, 0, none⟩)) 0) (z3x za7 ov (O177.atVar (j := 5) rfl)) (D2.load1' (v := (.bool p0.neg)) (r := []) rfl rfl ag4 (z0t rfl (At.bool (At.proj (O177.atVar (j := 5) rfl) z7d))) z06 (D2.p2 w86 (D2.p2 w118 ?_)))
  obtain ⟨G180, O181, s182, f183⟩ := O177.frzSl (j := 2) rfl
  obtain ⟨G184, O185, s186, f187⟩ := O181.frzSl (j := 1) rfl
  obtain ⟨x188, i189, h190⟩ := z01 h174
  refine D2.lo rfl rfl (Lo.callPF (ps := []) (pw := fun w => [eSl w 181 (rI .u32) x188]) rfl (fn := Tryz.f146) (by kernel_rfl) rfl (mc rfl (mc rfl mn)) O185 (fun L' O' => zc3 K w86 x78 (RT.mono _ s186 f183) w118 x110 f187 O' _ i189)) ?_ z06 ?_ ?_
  .rintro v199 H200 ⟨w196, G191, O192, s193, sm198, rfl⟩; exact (faR1 (.inr (sm198 _ (Or.inr ⟨3, _, rfl, List.mem_singleton.2 rfl⟩))) z06)
  .rintro v199 H200 ⟨w196, G191, O192, s193, sm198, rfl⟩; exact z06
  rintro v199 H200 ⟨w196, G191, O192, s193, sm198, rfl⟩
  refine D2.p2 w168 ?_
  obtain ⟨G201, O202, s203, f204⟩ := O192.frzSl (j := 0) rfl
  obtain ⟨G205, O206, s207, f208⟩ := O202.frzSl (j := 0) rfl
  obtain ⟨x209, i210, h211⟩ := z01 h190
  refine D2.lo rfl rfl (Lo.cP rfl (fn := Tryz.f138) (by kernel_rfl) rfl (mc rfl (mc rfl (mc rfl mn))) O206 (fun L' O' => z5k K p0.neg w196 x188 (RT.mono _ s207 f204) w168 x160 f208 O' _ i210)) ?_ (z0h (by decide) z06) ?_ ?_
  .rintro v220 H221 ⟨G212, O213, s214, sm219, ⟨c216, rfl, f217⟩⟩; exact (faR1 (.inl (by decide)) z06)
  .rintro v220 H221 ⟨G212, O213, s214, sm219, ⟨c216, rfl, f217⟩⟩; exact z06
  rintro v220 H221 ⟨G212, O213, s214, sm219, ⟨c216, rfl, f217⟩⟩
  refine D2.lo rfl rfl (Lo.storeVar (j := 0) (s := T_Q) (y0 := x209) (v := (.agg c216.toArray)) (o := 0) rfl ((Put.at (Put.self _) _ _)) rfl sz96 rfl (by omega) rfl f217 O213) ?_ (z0h (by decide) (z0h (by decide) z06)) ?_ ?_
  .rintro v224 H225 ⟨O222, sm223⟩; exact (faR1 (.inl (by decide)) z06)
  .rintro v224 H225 ⟨O222, sm223⟩; exact z06
  rintro v224 H225 ⟨O222, sm223⟩
  refine .nil (.ret ?_)
  obtain ⟨c226, p227, f228⟩ := (O222.atVar (j := 0) rfl)
  have O231 := ((O222.drop 0).drop 0).drop 0
  obtain rfl := zAa h211
  exact z1q kr (v1 := (.agg c226.toArray)) (by rfl) (z3o (p := (.pointer (some ⟨b12, 0, none⟩))) (by rfl) ag96 sz96 (by exact rfl) p227 (RT.len _ f228)) O231 (zAe s70 (zAe s83 (zAe s102 (zAe s115 (zAe s136 (zAe s152 (zAe s165 (zAe s182 (zAe s186 (zAe s193 (zAe s203 (zAe s207 s214)))))))))))) ⟨c226, rfl, f228⟩
 have h232 := z0j g173 h162
 refine .skip (.seq (.seq (.region (W.p2 w86 (W.p2 w118 ?_)))))
 obtain ⟨G233, O234, s235, f236⟩ := O164.frzSl (j := 2) rfl
 obtain ⟨G237, O238, s239, f240⟩ := O234.frzSl (j := 1) rfl
 obtain ⟨x241, i242, h243⟩ := z01 h232
 refine W.ln (Lo.cP rfl (fn := Tryz.f135) (by kernel_rfl) rfl (mc rfl (mc rfl mn)) O238 (fun L' O' => z54 K w86 x78 (RT.mono _ s239 f236) w118 x110 f240 O' _ i242)) ?_
 rintro v250 H251 ⟨G244, O245, s246, sm249, rfl⟩
 refine W.p3 (.bool (decide (x241 >= 0))) (.nil (.cond (b := decide (x241 >= 0)) rfl rfl (fun g252 => ?_) (fun g252 => ?_)))
 .have h253 := z05 g252 h243
  refine .seq (.draw2 (M := [0, 1, 0, 0, 12, 0, 63, 127]) mixed (by kernel_rfl) (by kernel_rfl) fun H254 N258 x255 F257 => ?_)
  have O256 := O245.ext x255
  refine D2.pv (padd (.pointer (some ⟨b2, 0, none⟩)) 0) (z3x za7 ov (O256.atVar (j := 3) rfl)) (D2.load1' (v := (.bool p0.neg)) (r := []) rfl rfl ag4 (z0t rfl (At.bool (At.proj (O256.atVar (j := 3) rfl) z7d))) z06 (D2.p2 w86 (D2.p2 w118 ?_)))
  obtain ⟨x259, i260, h261⟩ := z01 h253
  refine D2.lo rfl rfl (Lo.callPF (ps := []) (pw := fun w => [eSl w 181 (rI .u32) x259]) rfl (fn := Tryz.f147) (by kernel_rfl) rfl (mc rfl (mc rfl mn)) O256 (fun L' O' => z8k K w86 x78 (RT.mono _ (zAe s239 s246) f236) w118 x110 (RT.mono _ s246 f240) O' _ i260)) ?_ z06 ?_ ?_
  .rintro v270 H271 ⟨w267, G262, O263, s264, sm269, rfl⟩; exact (faR1 (.inr (sm269 _ (Or.inr ⟨3, _, rfl, List.mem_singleton.2 rfl⟩))) z06)
  .rintro v270 H271 ⟨w267, G262, O263, s264, sm269, rfl⟩; exact z06
  rintro v270 H271 ⟨w267, G262, O263, s264, sm269, rfl⟩
  refine D2.p2 w168 ?_
  obtain ⟨G272, O273, s274, f275⟩ := O263.frzSl (j := 0) rfl
  obtain ⟨G276, O277, s278, f279⟩ := O273.frzSl (j := 0) rfl
  obtain ⟨x280, i281, h282⟩ := z01 h261
  refine D2.lo rfl rfl (Lo.cP rfl (fn := Tryz.f138) (by kernel_rfl) rfl (mc rfl (mc rfl (mc rfl mn))) O277 (fun L' O' => z5k K p0.neg w267 x259 (RT.mono _ s278 f275) w168 x160 f279 O' _ i281)) ?_ (z0h (by decide) z06) ?_ ?_
  .rintro v291 H292 ⟨G283, O284, s285, sm290, ⟨c287, rfl, f288⟩⟩; exact (faR1 (.inl (by decide)) z06)
  .rintro v291 H292 ⟨G283, O284, s285, sm290, ⟨c287, rfl, f288⟩⟩; exact z06
  rintro v291 H292 ⟨G283, O284, s285, sm290, ⟨c287, rfl, f288⟩⟩
  refine D2.lo rfl rfl (Lo.storeVar (j := 0) (s := T_Q) (y0 := x280) (v := (.agg c287.toArray)) (o := 0) rfl ((Put.at (Put.self _) _ _)) rfl sz96 rfl (by omega) rfl f288 O284) ?_ (z0h (by decide) (z0h (by decide) z06)) ?_ ?_
  .rintro v295 H296 ⟨O293, sm294⟩; exact (faR1 (.inl (by decide)) z06)
  .rintro v295 H296 ⟨O293, sm294⟩; exact z06
  rintro v295 H296 ⟨O293, sm294⟩
  refine .nil (.ret ?_)
  obtain ⟨c297, p298, f299⟩ := (O293.atVar (j := 0) rfl)
  have O302 := ((O293.drop 0).drop 0).drop 0
  obtain rfl := zAa h282
  exact z1q kr (v1 := (.agg c297.toArray)) (by rfl) (z3o (p := (.pointer (some ⟨b12, 0, none⟩))) (by rfl) ag96 sz96 (by exact rfl) p298 (RT.len _ f299)) O302 (zAe s70 (zAe s83 (zAe s102 (zAe s115 (zAe s136 (zAe s152 (zAe s165 (zAe s235 (zAe s239 (zAe s246 (zAe s264 (zAe s274 (zAe s278 s285))))))))))))) ⟨c297, rfl, f299⟩
 have h303 := z0j g252 h243
 refine .skip (.seq (.draw2 (M := [0, 1, 0, 0, 12, 0, 63, 127]) mixed (by kernel_rfl) (by kernel_rfl) fun H304 N308 x305 F307 => ?_))
 have O306 := O245.ext x305
 refine D2.pv (padd (.pointer (some ⟨b7, 0, none⟩)) 0) (z3x za7 ov (O306.atVar (j := 2) rfl)) (D2.load1' (v := (.bool p1.neg)) (r := []) rfl rfl ag4 (z0t rfl (At.bool (At.proj (O306.atVar (j := 2) rfl) z7d))) z06 (D2.p2 w118 (D2.p2 w86 ?_)))
 obtain ⟨x309, i310, h311⟩ := z01 h303
 refine D2.lo rfl rfl (Lo.callPF (ps := []) (pw := fun w => [eSl w 181 (rI .u32) x309]) rfl (fn := Tryz.f147) (by kernel_rfl) rfl (mc rfl (mc rfl mn)) O306 (fun L' O' => z8k K w118 x110 (RT.mono _ s246 f240) w86 x78 (RT.mono _ (zAe s239 s246) f236) O' _ i310)) ?_ z06 ?_ ?_
 .rintro v320 H321 ⟨w317, G312, O313, s314, sm319, rfl⟩; exact (faR1 (.inr (sm319 _ (Or.inr ⟨2, _, rfl, List.mem_singleton.2 rfl⟩))) z06)
 .rintro v320 H321 ⟨w317, G312, O313, s314, sm319, rfl⟩; exact z06
 rintro v320 H321 ⟨w317, G312, O313, s314, sm319, rfl⟩
 refine D2.p2 w168 ?_
 obtain ⟨G322, O323, s324, f325⟩ := O313.frzSl (j := 0) rfl
 obtain ⟨G326, O327, s328, f329⟩ := O323.frzSl (j := 0) rfl
 obtain ⟨x330, i331, h332⟩ := z01 h311
 refine D2.lo rfl rfl (Lo.cP rfl (fn := Tryz.f138) (by kernel_rfl) rfl (mc rfl (mc rfl (mc rfl mn))) O327 (fun L' O' => z5k K p1.neg w317 x309 (RT.mono _ s328 f325) w168 x160 f329 O' _ i331)) ?_ (z0h (by decide) z06) ?_ ?_
 .rintro v341 H342 ⟨G333, O334, s335, sm340, ⟨c337, rfl, f338⟩⟩; exact (faR1 (.inl (by decide)) z06)
 .rintro v341 H342 ⟨G333, O334, s335, sm340, ⟨c337, rfl, f338⟩⟩; exact z06
 rintro v341 H342 ⟨G333, O334, s335, sm340, ⟨c337, rfl, f338⟩⟩
 refine D2.lo rfl rfl (Lo.storeVar (j := 0) (s := T_Q) (y0 := x330) (v := (.agg c337.toArray)) (o := 0) rfl ((Put.at (Put.self _) _ _)) rfl sz96 rfl (by omega) rfl f338 O334) ?_ (z0h (by decide) (z0h (by decide) z06)) ?_ ?_
 .rintro v345 H346 ⟨O343, sm344⟩; exact (faR1 (.inl (by decide)) z06)
 .rintro v345 H346 ⟨O343, sm344⟩; exact z06
 rintro v345 H346 ⟨O343, sm344⟩
 refine .nil (.ret ?_)
 obtain ⟨c347, p348, f349⟩ := (O343.atVar (j := 0) rfl)
 have O352 := ((O343.drop 0).drop 0).drop 0
 obtain rfl := zAa h332
 exact z1q kr (v1 := (.agg c347.toArray)) (by rfl) (z3o (p := (.pointer (some ⟨b12, 0, none⟩))) (by rfl) ag96 sz96 (by exact rfl) p348 (RT.len _ f349)) O352 (zAe s70 (zAe s83 (zAe s102 (zAe s115 (zAe s136 (zAe s152 (zAe s165 (zAe s235 (zAe s239 (zAe s246 (zAe s314 (zAe s324 (zAe s328 s335))))))))))))) ⟨c347, rfl, f349⟩
def z6e (K : Nat) (p0 : Q) (p1 : Q) : Option Q := ((z6b K p1).bind fun x27 => ((z6d K p0 x27).bind fun x40 => some x40))
theorem zc5 (v0 : List Value) (p0 : Q) (hp0 : T_Q.rep G v0 p0) (v1 : List Value) (p1 : Q) (hp1 : T_Q.rep G v1 p1) (O : Ow G H (L)) (r : Q) (h : z6e K p0 p1 = some r) :
    CR Tryz.prog 69 [.agg v0.toArray, .agg v1.toArray] G H (L) (fun v G' _ => ∃ (w0 : List Value), v = .agg w0.toArray /\ T_Q.rep G' w0 r) := by
 unfold z6e at h
 refine CR.og (n := 9) (fn := Tryz.f69) (by kernel_rfl) rfl rfl fun R kr => (.seq (.region (W.ln (Lo.box (r := T_Q) (x0 := p0) (v := (.agg v0.toArray)) rfl rfl hp0 O) ?_)))
 rintro v4 H5 ⟨b2, rfl, O1, sm3⟩
 refine W.ln (Lo.box (r := T_Q) (x0 := p1) (v := (.agg v1.toArray)) rfl rfl hp1 O1) ?_
 rintro v9 H10 ⟨b7, rfl, O6, sm8⟩
 refine W.ln (Lo.alloc (r := T_Q) (x0 := (Q.mk false [] [])) ze96 (by kernel_rfl) z_Q O6) ?_
 rintro v14 H15 ⟨b12, rfl, O11, sm13⟩
 refine .nil (.seq (.draw2 (M := [0, 0, 2, 7, 15]) mixed (by kernel_rfl) (by kernel_rfl) fun H16 N20 x17 F19 => ?_))
 have O18 := O11.ext x17
 obtain ⟨c21, p22, f23⟩ := (O18.atVar (j := 2) rfl)
 refine D2.loadA' (cs := c21) rfl rfl ag96 sz96 (z0t rfl p22) (RT.len _ f23) z06 ?_
 obtain ⟨c24, p25, f26⟩ := (O18.atVar (j := 1) rfl)
 refine D2.loadA' (cs := c24) rfl rfl ag96 sz96 (z0t rfl p25) (RT.len _ f26) z06 ?_
 obtain ⟨x27, i28, h29⟩ := z01 h
 refine D2.lo rfl rfl (Lo.cP rfl (fn := Tryz.f109) (by kernel_rfl) rfl (mc rfl mn) O18 (fun L' O' => zc2 K c24 p1 f26 O' _ i28)) ?_ z06 ?_ ?_
 .rintro v38 H39 ⟨G30, O31, s32, sm37, ⟨c34, rfl, f35⟩⟩; exact (faR1 (.inl (by decide)) (faR1 (.inr (sm37 _ (Or.inr ⟨2, _, rfl, List.mem_singleton.2 rfl⟩))) z06))
 .rintro v38 H39 ⟨G30, O31, s32, sm37, ⟨c34, rfl, f35⟩⟩; exact z06
 rintro v38 H39 ⟨G30, O31, s32, sm37, ⟨c34, rfl, f35⟩⟩
 obtain ⟨x40, i41, h42⟩ := z01 h29
 refine D2.lo rfl rfl (Lo.cP rfl (fn := Tryz.f91) (by kernel_rfl) rfl (mc rfl (mc rfl mn)) O31 (fun L' O' => zc4 K c21 p0 (RT.mono _ s32 f23) c34 x27 f35 O' _ i41)) ?_ (z0h (by decide) z06) ?_ ?_
 .rintro v51 H52 ⟨G43, O44, s45, sm50, ⟨c47, rfl, f48⟩⟩; exact (faR1 (.inl (by decide)) (faR1 (.inl (by decide)) z06))
 .rintro v51 H52 ⟨G43, O44, s45, sm50, ⟨c47, rfl, f48⟩⟩; exact z06
 rintro v51 H52 ⟨G43, O44, s45, sm50, ⟨c47, rfl, f48⟩⟩
 refine D2.lo rfl rfl (Lo.storeVar (j := 0) (s := T_Q) (y0 := x40) (v := (.agg c47.toArray)) (o := 0) rfl ((Put.at (Put.self _) _ _)) rfl sz96 rfl (by omega) rfl f48 O44) ?_ (z0h (by decide) (z0h (by decide) z06)) ?_ ?_
 .rintro v55 H56 ⟨O53, sm54⟩; exact (faR1 (.inl (by decide)) (faR1 (.inl (by decide)) z06))
 .rintro v55 H56 ⟨O53, sm54⟩; exact z06
 rintro v55 H56 ⟨O53, sm54⟩
 refine .nil (.ret ?_)
 obtain ⟨c57, p58, f59⟩ := (O53.atVar (j := 0) rfl)
 have O62 := ((O53.drop 0).drop 0).drop 0
 obtain rfl := zAa h42
 exact z1q kr (v1 := (.agg c57.toArray)) (by rfl) (z3o (p := (.pointer (some ⟨b12, 0, none⟩))) (by rfl) ag96 sz96 (by exact rfl) p58 (RT.len _ f59)) O62 (zAe s32 s45) ⟨c57, rfl, f59⟩
def z1k (K : Nat) (p1 : Int) (x10 : Q) (x30 : List Q) : Nat -> List (List Q) -> Int -> Option (List (List Q))
  | 0, _, _ => none
  | k + 1, x44, x45 => (if (decide (x45 < (x30.length : Int))) = true then ((idx x44 p1).bind fun x61 => ((idx x44 p1).bind fun x69 => ((idx x69 x45).bind fun x78 => ((z69 K x78 x10).bind fun x88 => ((idx x61 x45).bind fun x103 => z1k K p1 x10 x30 k (List.set x44 (p1.toNat) (List.set x61 (x45.toNat) x88)) (z02 .i64 (x45 + 1))))))) else some x44)
def z1l (K : Nat) (p1 : Int) (x127 : Int) (x150 : Q) (x206 : List Q) : Nat -> List (List Q) -> Int -> Option (List (List Q))
  | 0, _, _ => none
  | k + 1, x220, x221 => (if (decide (x221 < (x206.length : Int))) = true then ((idx x220 x127).bind fun x237 => ((idx x220 x127).bind fun x245 => ((idx x245 x221).bind fun x254 => ((idx x220 p1).bind fun x265 => ((idx x265 x221).bind fun x274 => ((z6a K x150 x274).bind fun x282 => ((z6e K x254 x282).bind fun x295 => ((idx x237 x221).bind fun x309 => z1l K p1 x127 x150 x206 k (List.set x220 (x127.toNat) (List.set x237 (x221.toNat) x295)) (z02 .i64 (x221 + 1)))))))))) else some x220)
def z0x (K : Nat) (p1 : Int) (p2 : Int) (x113 : List (List Q)) : Nat -> List (List Q) -> Int -> Option (List (List Q))
  | 0, _, _ => none
  | k + 1, x126, x127 => (if (decide (x127 < (x113.length : Int))) = true then (Option.bind (((idx x126 x127).bind fun x141 => ((idx x141 p2).bind fun x150 => (Option.bind ((if (x127 == p1) = true then some true else ((z37 K x150).bind fun x181 => some (x181 == 0)))) (tu1 fun x192 => (if x192 = true then some x126 else ((idx x126 x127).bind fun x206 => (Option.bind (z1l K p1 x127 x150 x206 K x126 0) (tu1 fun x319 => some x319))))))))) (tu1 fun x329 => z0x K p1 p2 x113 k x329 (z02 .i64 (x127 + 1)))) else some x126)
def z4u (K : Nat) (p0 : List (List Q)) (p1 : Int) (p2 : Int) : Option (List (List Q)) := ((idx p0 p1).bind fun x1 => ((idx x1 p2).bind fun x10 => ((idx p0 p1).bind fun x30 => (Option.bind (z1k K p1 x10 x30 K p0 0) (tu1 fun x113 => (Option.bind (z0x K p1 p2 x113 K x113 0) (tu1 fun x339 => some x339)))))))
theorem zad (v0 : Value) (ws0 : List Value) (p0 : List (List Q)) (p1 : Int) (p2 : Int) (O : Ow G H (z27 v0 111 ws0 [] 96 T_Q p0 :: L)) (r : List (List Q)) (h : z4u K p0 p1 p2 = some r) :
    CRF Tryz.prog 151 [v0, (.int .i64 p1), (.int .i64 p2)] G H (fun wl => (z27 v0 111 (tlT wl) [] 96 T_Q r :: L)) (fun wl v G' => v = .tuple #[]) := by
 unfold z4u at h
 refine CRF.og (n := 95) (fn := Tryz.f151) (by kernel_rfl) rfl rfl fun R kr => (.seq (.region (W.p2 v0 (W.p2 (.int .i64 p1) ?_))))
 obtain ⟨x1, i2, h3⟩ := z01 h
 have j4 := z0a i2
 refine W.pv (z1m v0 (p1.toNat * 1)) (z2e zb8 zci ov ov (O.rowsLen (j := 0) rfl) j4.1 j4.2.1) ?_
 obtain ⟨w5, e6, p7, k8⟩ := O.rowVal (j := 0) rfl j4.2.2
 refine W.load1 (v := w5) (r := []) rfl rfl zg2 (z0t rfl p7) (W.p2 (.int .i64 p2) ?_)
 have O9 := O.takeRow (j := 0) rfl e6 j4.2.2 List.not_mem_nil
 obtain ⟨x10, i11, h12⟩ := z01 h3
 have j13 := z0a i11
 refine W.pv (z1m w5 (p2.toNat * 3)) (z2e zg3 sz96 ov ov (O9.slLen (j := 0) rfl) j13.1 j13.2.1) ?_
 obtain ⟨c14, p15, f16⟩ := (O9.atSl (j := 0) rfl j13.2.2)
 refine W.loadA (cs := c14) rfl rfl ag96 sz96 (z0t rfl p15) (RT.len _ f16) (W.ln (Lo.alloc (r := T_Q) (x0 := (Q.mk false [] [])) ze96 (by kernel_rfl) z_Q O9) ?_)
 rintro v20 H21 ⟨b18, rfl, O17, sm19⟩
 refine W.ln (Lo.storeVar (j := 0) (s := T_Q) (y0 := x10) (v := (.agg c14.toArray)) (o := 0) rfl ((Put.at (Put.self _) _ _)) rfl sz96 rfl (by omega) rfl f16 O17) ?_
 rintro v24 H25 ⟨O22, sm23⟩
 refine .nil (.seq (.seq (.region (W.p2 v0 (W.p2 (.int .i64 p1) ?_)))))
 have O26 : Ow G H25 (z27 v0 111 ws0 [p1.toNat] 96 T_Q p0 :: eVar b18 96 T_Q x10 :: eSl w5 96 T_Q x1 :: L) := O22.front (j := 2) rfl
 have O27 : Ow G H25 (eVar b18 96 T_Q x10 :: z27 v0 111 ws0 [p1.toNat] 96 T_Q p0 :: eSl w5 96 T_Q x1 :: L) := O26.front (j := 1) rfl
 have O28 : Ow G H25 (eSl w5 96 T_Q x1 :: eVar b18 96 T_Q x10 :: z27 v0 111 ws0 [p1.toNat] 96 T_Q p0 :: L) := O27.front (j := 2) rfl
 have O29 := O28.putRow0 (j := 1) rfl e6 j4.2.2
 obtain ⟨x30, i31, h32⟩ := z01 h12
 have j33 := z0a i31
 refine W.pv (z1m v0 (p1.toNat * 1)) (z2e zb8 zci ov ov (O29.rowsLen (j := 1) rfl) j33.1 j33.2.1) ?_
 obtain ⟨w34, e35, p36, k37⟩ := O29.rowVal (j := 1) rfl j33.2.2
 refine W.load1 (v := w34) (r := []) rfl rfl zg2 (z0t rfl p36) ?_
 have O38 := O29.takeRow (j := 1) rfl e35 j33.2.2 List.not_mem_nil
 refine W.pv (.int .i64 (x30.length : Int)) (z0i ov (O38.slLen (j := 0) rfl) (z04 zg3)) (W.p2 (.int .i64 0) (.nil ?_))
 have O39 := O38.putRow0 (j := 1) rfl e35 j33.2.2
 obtain ⟨q40, h41, h42⟩ := z01 h32
 refine AW.midT (fun σ' H' => ∃ (y1 : List (List Q)) (G' : GM), y1 = q40 /\ Ow G' H' (eVar b18 96 T_Q x10 :: z27 v0 111 ws0 [] 96 T_Q y1 :: L) /\ GM.le G G') ?_ ?_
 .refine .block (AW.loop (α := Nat) (fun k' σ' H' => ∃ (y1 : List (List Q)) (y2 : Int) (G' : GM), z1k K p1 x10 x30 k' y1 y2 = some q40 /\ Ow G' H' (eVar b18 96 T_Q x10 :: z27 v0 111 ws0 [] 96 T_Q y1 :: L) /\ GM.le G G' /\ σ' 23 = .int .i64 y2) (fun k' => k') K ⟨p0, 0, _, h41, O39, (zAf _), rfl⟩ ?_)
  rintro k43
  rintro σ46 H47 fr48 ⟨x44, x45, G49, h52, O50, s51, t53⟩
  rcases k43 with _ | k43
  .exact z07 h52
  rw [z1k] at h52
  refine .seq (.region (W.q3 (.bool (decide (x45 < (x30.length : Int)))) t53 ((fr48 22 rfl).trans rfl) (.nil (.seq (.cond (b := decide (x45 < (x30.length : Int))) rfl rfl (fun g54 => ?_) (fun g54 => ?_))))))
  rotate_left
  .have h112 := z0j g54 h52
   refine .exit ?_
   obtain rfl := zAa h112
   exact ⟨x44, _, rfl, O50, s51⟩
  have h55 := z05 g54 h52
  refine .skip (.seq (.block (.seq (.region (W.q2 _ t53 (W.p1 (.int .i64 x45) ?_))))))
  refine .nil (.draw2 (M := [0, 0, 3, 7, 0, 0, 0, 96, 224, 0, 992, 2016, 0, 8160, 16383, 32767]) mixed (by kernel_rfl) (by kernel_rfl) fun H56 N60 x57 F59 => ?_)
  have O58 := O50.ext x57
  refine D2.q2 v0 ((fr48 0 rfl).trans rfl) (D2.q2 (.int .i64 p1) ((fr48 1 rfl).trans rfl) ?_)
  obtain ⟨x61, i62, h63⟩ := z01 h55
  have j64 := z0a i62
  refine D2.pv (z1m v0 (p1.toNat * 1)) (z2e zb8 zci ov ov (O58.rowsLen (j := 1) rfl) j64.1 j64.2.1) ?_
  obtain ⟨w65, e66, p67, k68⟩ := O58.rowVal (j := 1) rfl j64.2.2
  refine D2.load1' (v := w65) (r := []) rfl rfl zg2 (z0t rfl p67) z06 (D2.p2 (.int .i64 x45) (D2.q2 v0 ((fr48 0 rfl).trans rfl) (D2.q2 (.int .i64 p1) ((fr48 1 rfl).trans rfl) ?_)))
  obtain ⟨x69, i70, h71⟩ := z01 h63
  have j72 := z0a i70
  refine D2.pv (z1m v0 (p1.toNat * 1)) (z2e zb8 zci ov ov (O58.rowsLen (j := 1) rfl) j72.1 j72.2.1) ?_
  obtain ⟨w73, e74, p75, k76⟩ := O58.rowVal (j := 1) rfl j72.2.2
  refine D2.load1' (v := w73) (r := []) rfl rfl zg2 (z0t rfl p75) z06 (D2.p2 (.int .i64 x45) ?_)
  have O77 := O58.takeRow (j := 1) rfl e74 j72.2.2 List.not_mem_nil
  obtain ⟨x78, i79, h80⟩ := z01 h71
  have j81 := z0a i79
  refine D2.pv (z1m w73 (x45.toNat * 3)) (z2e zg3 sz96 ov ov (O77.slLen (j := 0) rfl) j81.1 j81.2.1) ?_
  obtain ⟨c82, p83, f84⟩ := (O77.atSl (j := 0) rfl j81.2.2)
  refine D2.loadA' (cs := c82) rfl rfl ag96 sz96 (z0t rfl p83) (RT.len _ f84) z06 ?_
  obtain ⟨c85, p86, f87⟩ := (O77.atVar (j := 1) rfl)
  refine D2.loadA' (cs := c85) rfl rfl ag96 sz96 (z0t ((fr48 6 rfl).trans rfl) p86) (RT.len _ f87) z06 ?_
  obtain ⟨x88, i89, h90⟩ := z01 h80
  refine D2.lo rfl rfl (Lo.cP rfl (fn := Tryz.f71) (by kernel_rfl) rfl (mc rfl (mc rfl mn)) O77 (fun L' O' => zc0 K c82 x78 f84 c85 x10 f87 O' _ i89)) ?_ z06 ?_ ?_
  .rintro v99 H100 ⟨G91, O92, s93, sm98, ⟨c95, rfl, f96⟩⟩; exact (faR1 (.inl (by decide)) (faR1 (.inl (by decide)) (faR1 (.inl (by decide)) (faR1 (.inr (sm98 _ (Or.inr ⟨2, _, rfl, (O77.footRows (j := 2) rfl j64.2.2)⟩))) z06))))
  .rintro v99 H100 ⟨G91, O92, s93, sm98, ⟨c95, rfl, f96⟩⟩; exact z06
  rintro v99 H100 ⟨G91, O92, s93, sm98, ⟨c95, rfl, f96⟩⟩
  have O101 := O92.putRow0 (j := 1) rfl e74 j72.2.2
  have O102 := O101.takeRow (j := 1) rfl e66 j64.2.2 List.not_mem_nil
  obtain ⟨x103, i104, h105⟩ := z01 h90
  have j106 := z0a i104
  refine D2.pv (z1m w65 (x45.toNat * 3)) (z2e zg3 sz96 ov ov (O102.slLen (j := 0) rfl) j106.1 j106.2.1) (D2.lo rfl rfl (Lo.storeSl0 (j := 0) (y0 := x88) (v := (.agg c95.toArray)) rfl j106.2.2  rfl sz96 rfl rfl f96 O102) ?_ (z0h (by decide) z06) ?_ ?_)
  .rintro v109 H110 ⟨O107, sm108⟩; exact (faR1 (.inl (by decide)) (faR1 (.inl (by decide)) (faR1 (.inl (by decide)) (faR1 (.inl (by decide)) z06))))
  .rintro v109 H110 ⟨O107, sm108⟩; exact z06
  rintro v109 H110 ⟨O107, sm108⟩
  refine .nil (.region (W.r3 (.int .i64 (z02 .i64 (x45 + 1))) t53 (W.p2 (.int .i64 (z02 .i64 (x45 + 1))) (.nil ?_))))
  have O111 := O107.putRow (j := 1) rfl e66
  exact ⟨k43, zAg _, ⟨(List.set x44 (p1.toNat) (List.set x61 (x45.toNat) x88)), z02 .i64 (x45 + 1), _, h105, O111, (zAe s51 s93), rfl⟩⟩
 rintro σ114 H115 fr116 ⟨x113, G117, rfl, O118, s119⟩
 have h121 := z09 h42
 refine .seq (.region (W.q2 v0 ((fr116 0 rfl).trans rfl) (W.pv (.int .i64 (x113.length : Int)) (z0i ov (O118.rowsLen (j := 1) rfl) (z04 zb8)) (W.p2 (.int .i64 0) (.nil ?_)))))
 obtain ⟨q122, h123, h124⟩ := z01 h121
 refine AW.midT (fun σ' H' => ∃ (y1 : List (List Q)) (G' : GM), y1 = q122 /\ Ow G' H' (eVar b18 96 T_Q x10 :: z27 v0 111 ws0 [] 96 T_Q y1 :: L) /\ GM.le G117 G') ?_ ?_
 rotate_left
 .rintro σ340 H341 fr342 ⟨x339, G343, rfl, O344, s345⟩
  have h347 := z09 h124
  have O348 := O344.drop 0
  obtain rfl := zAa h347
  exact zpa kr (.tuple ⟨.nilFunc :: ws0⟩)  (by rfl)  O348 (zAe s119 s345) rfl
 refine .block (AW.loop (α := Nat) (fun k' σ' H' => ∃ (y1 : List (List Q)) (y2 : Int) (G' : GM), z0x K p1 p2 x113 k' y1 y2 = some q122 /\ Ow G' H' (eVar b18 96 T_Q x10 :: z27 v0 111 ws0 [] 96 T_Q y1 :: L) /\ GM.le G117 G' /\ σ' 44 = .int .i64 y2) (fun k' => k') K ⟨x113, 0, _, h123, O118, (zAf _), rfl⟩ ?_)
 rintro k125
 rintro σ128 H129 fr130 ⟨x126, x127, G131, h134, O132, s133, t135⟩
 rcases k125 with _ | k125
 .exact z07 h134
 rw [z0x] at h134
 refine .seq (.region (W.q3 (.bool (decide (x127 < (x113.length : Int)))) t135 ((fr130 43 rfl).trans rfl) (.nil (.seq (.cond (b := decide (x127 < (x113.length : Int))) rfl rfl (fun g136 => ?_) (fun g136 => ?_))))))
 rotate_left
 .have h338 := z0j g136 h134
  refine .exit ?_
  obtain rfl := zAa h338
  exact ⟨x126, _, rfl, O132, s133⟩
 have h137 := z05 g136 h134
 refine .skip (.seq ?_)
 obtain ⟨q138, h139, h140⟩ := z01 h137
 refine AW.midT (fun σ' H' => ∃ (y1 : List (List Q)) (G' : GM), y1 = q138 /\ Ow G' H' (eVar b18 96 T_Q x10 :: z27 v0 111 ws0 [] 96 T_Q y1 :: L) /\ GM.le G131 G') ?_ ?_
 rotate_left
 .rintro σ330 H331 fr332 ⟨x329, G333, rfl, O334, s335⟩
  have h337 := z09 h140
  refine .region (W.q3 (.int .i64 (z02 .i64 (x127 + 1))) ((fr332 44 rfl).trans t135) rfl (W.p2 (.int .i64 (z02 .i64 (x127 + 1))) (.nil ?_)))
  exact ⟨k125, zAg _, ⟨x329, z02 .i64 (x127 + 1), _, h337, O334, (zAe s133 s335), rfl⟩⟩
 refine .block (.seq (.region (W.q2 _ t135 (W.p1 (.int .i64 x127) (.nil (.seq ?_))))))
 refine .region (W.q2 v0 ((fr130 0 rfl).trans ((fr116 0 rfl).trans rfl)) (W.p2 (.int .i64 x127) ?_))
 obtain ⟨x141, i142, h143⟩ := z01 h139
 have j144 := z0a i142
 refine W.pv (z1m v0 (x127.toNat * 1)) (z2e zb8 zci ov ov (O132.rowsLen (j := 1) rfl) j144.1 j144.2.1) ?_
 obtain ⟨w145, e146, p147, k148⟩ := O132.rowVal (j := 1) rfl j144.2.2
 refine W.load1 (v := w145) (r := []) rfl rfl zg2 (z0t rfl p147) (W.q2 (.int .i64 p2) ((fr130 2 rfl).trans ((fr116 2 rfl).trans rfl)) ?_)
 have O149 := O132.takeRow (j := 1) rfl e146 j144.2.2 List.not_mem_nil
 obtain ⟨x150, i151, h152⟩ := z01 h143
 have j153 := z0a i151
 refine W.pv (z1m w145 (p2.toNat * 3)) (z2e zg3 sz96 ov ov (O149.slLen (j := 0) rfl) j153.1 j153.2.1) ?_
 obtain ⟨c154, p155, f156⟩ := (O149.atSl (j := 0) rfl j153.2.2)
 refine W.loadA (cs := c154) rfl rfl ag96 sz96 (z0t rfl p155) (RT.len _ f156) (W.ln (Lo.alloc (r := T_Q) (x0 := (Q.mk false [] [])) ze96 (by kernel_rfl) z_Q O149) ?_)
 rintro v160 H161 ⟨b158, rfl, O157, sm159⟩
 refine W.ln (Lo.storeVar (j := 0) (s := T_Q) (y0 := x150) (v := (.agg c154.toArray)) (o := 0) rfl ((Put.at (Put.self _) _ _)) rfl sz96 rfl (by omega) rfl f156 O157) ?_
 rintro v164 H165 ⟨O162, sm163⟩
 refine .nil (.seq (.seq ?_))
 have O166 : Ow G131 H165 (z27 v0 111 ws0 [x127.toNat] 96 T_Q x126 :: eVar b158 96 T_Q x150 :: eSl w145 96 T_Q x141 :: eVar b18 96 T_Q x10 :: L) := O162.front (j := 3) rfl
 have O167 : Ow G131 H165 (eVar b18 96 T_Q x10 :: z27 v0 111 ws0 [x127.toNat] 96 T_Q x126 :: eVar b158 96 T_Q x150 :: eSl w145 96 T_Q x141 :: L) := O166.front (j := 3) rfl
 have O168 : Ow G131 H165 (eVar b158 96 T_Q x150 :: eVar b18 96 T_Q x10 :: z27 v0 111 ws0 [x127.toNat] 96 T_Q x126 :: eSl w145 96 T_Q x141 :: L) := O167.front (j := 2) rfl
 have O169 : Ow G131 H165 (eSl w145 96 T_Q x141 :: eVar b158 96 T_Q x150 :: eVar b18 96 T_Q x10 :: z27 v0 111 ws0 [x127.toNat] 96 T_Q x126 :: L) := O168.front (j := 3) rfl
 have O170 := O169.putRow0 (j := 2) rfl e146 j144.2.2
 obtain ⟨q171, h172, h173⟩ := z01 h152
 refine AW.midT (fun σ' H' => ∃ (y1 : Bool) (G' : GM), y1 = q171 /\ Ow G' H' (eVar b158 96 T_Q x150 :: eVar b18 96 T_Q x10 :: z27 v0 111 ws0 [] 96 T_Q x126 :: L) /\ GM.le G131 G' /\ σ' 61 = .bool y1) ?_ ?_
 .refine .region (W.p2 (.int .i64 x127) (W.q2 (.int .i64 p1) ((fr130 1 rfl).trans ((fr116 1 rfl).trans rfl)) (W.p3 (.bool (x127 == p1)) (W.p2 (.bool (x127 == p1)) (W.splitAt (t := 57) (b := (x127 == p1)) rfl (fun g174 gv175 => ?_) (fun g174 gv175 => ?_))))))
  .have h176 := z05 g174 h172
   refine W.q6 rfl gv175 (W.q6 rfl gv175 (W.q6 rfl gv175 (W.q4 (.bool true) gv175 rfl (.nil ?_))))
   obtain rfl := zAa h176
   exact ⟨true, _, rfl, O170, (zAf _), rfl⟩
  have h177 := z0j g174 h172
  obtain ⟨c178, p179, f180⟩ := (O170.atVar (j := 0) rfl)
  refine W.loadA (cs := c178) (gk rfl rfl gv175 rfl) rfl ag96 sz96 (z0t rfl p179) (RT.len _ f180) ?_
  obtain ⟨x181, i182, h183⟩ := z01 h177
  refine W.lo (gk rfl rfl gv175 rfl) rfl (Lo.cP rfl (fn := Tryz.f108) (by kernel_rfl) rfl (mc rfl mn) O170 (fun L' O' => z7w K c178 x150 f180 O' _ i182)) ?_
  rintro v190 H191 ⟨G184, O185, s186, sm189, rfl⟩
  refine W.q3 (hg := gk rfl rfl gv175 rfl) (.bool (x181 == 0)) rfl rfl (W.q5 (.bool (x181 == 0)) gv175 rfl (.nil ?_))
  obtain rfl := zAa h183
  exact ⟨(x181 == 0), _, rfl, O185, s186, rfl⟩
 rintro σ193 H194 fr195 ⟨x192, G196, rfl, O197, s198, t200⟩
 have h201 := z09 h173
 refine .cond (b := x192) rfl t200 (fun g202 => ?_) (fun g202 => ?_)
 .have h203 := z05 g202 h201
  refine .exit ?_
  have O204 := O197.drop 0
  obtain rfl := zAa h203
  exact ⟨x126, _, rfl, O204, s198⟩
 have h205 := z0j g202 h201
 refine .skip (.seq (.region (W.q2 v0 ((fr195 0 rfl).trans ((fr130 0 rfl).trans ((fr116 0 rfl).trans rfl))) (W.q2 (.int .i64 x127) ((fr195 8 rfl).trans rfl) ?_))))
 obtain ⟨x206, i207, h208⟩ := z01 h205
 have j209 := z0a i207
 refine W.pv (z1m v0 (x127.toNat * 1)) (z2e zb8 zci ov ov (O197.rowsLen (j := 2) rfl) j209.1 j209.2.1) ?_
 obtain ⟨w210, e211, p212, k213⟩ := O197.rowVal (j := 2) rfl j209.2.2
 refine W.load1 (v := w210) (r := []) rfl rfl zg2 (z0t rfl p212) ?_
 have O214 := O197.takeRow (j := 2) rfl e211 j209.2.2 List.not_mem_nil
 refine W.pv (.int .i64 (x206.length : Int)) (z0i ov (O214.slLen (j := 0) rfl) (z04 zg3)) (W.p2 (.int .i64 0) (.nil ?_))
 have O215 := O214.putRow0 (j := 2) rfl e211 j209.2.2
 obtain ⟨q216, h217, h218⟩ := z01 h208
 refine AW.midT (fun σ' H' => ∃ (y1 : List (List Q)) (G' : GM), y1 = q216 /\ Ow G' H' (eVar b158 96 T_Q x150 :: eVar b18 96 T_Q x10 :: z27 v0 111 ws0 [] 96 T_Q y1 :: L) /\ GM.le G196 G') ?_ ?_
 rotate_left
 .rintro σ320 H321 fr322 ⟨x319, G323, rfl, O324, s325⟩
  have h327 := z09 h218
  have O328 := O324.drop 0
  obtain rfl := zAa h327
  exact ⟨x319, _, rfl, O328, (zAe s198 s325)⟩
 refine .block (AW.loop (α := Nat) (fun k' σ' H' => ∃ (y1 : List (List Q)) (y2 : Int) (G' : GM), z1l K p1 x127 x150 x206 k' y1 y2 = some q216 /\ Ow G' H' (eVar b158 96 T_Q x150 :: eVar b18 96 T_Q x10 :: z27 v0 111 ws0 [] 96 T_Q y1 :: L) /\ GM.le G196 G' /\ σ' 67 = .int .i64 y2) (fun k' => k') K ⟨x126, 0, _, h217, O215, (zAf _), rfl⟩ ?_)
 rintro k219
 rintro σ222 H223 fr224 ⟨x220, x221, G225, h228, O226, s227, t229⟩
 rcases k219 with _ | k219
 .exact z07 h228
 rw [z1l] at h228
 refine .seq (.region (W.q3 (.bool (decide (x221 < (x206.length : Int)))) t229 ((fr224 66 rfl).trans rfl) (.nil (.seq (.cond (b := decide (x221 < (x206.length : Int))) rfl rfl (fun g230 => ?_) (fun g230 => ?_))))))
 rotate_left
 .have h318 := z0j g230 h228
  refine .exit ?_
  obtain rfl := zAa h318
  exact ⟨x220, _, rfl, O226, s227⟩
 have h231 := z05 g230 h228
 refine .skip (.seq (.block (.seq (.region (W.q2 _ t229 (W.p1 (.int .i64 x221) ?_))))))
 refine .nil (.draw2 (M := [0, 0, 3, 7, 0, 0, 0, 96, 224, 0, 992, 2016, 0, 0, 0, 24576, 57344, 0, 253952, 516096, 1044480, 2097120, 4194303, 8388607]) mixed (by kernel_rfl) (by kernel_rfl) fun H232 N236 x233 F235 => ?_)
 have O234 := O226.ext x233
 refine D2.q2 v0 ((fr224 0 rfl).trans ((fr195 0 rfl).trans ((fr130 0 rfl).trans ((fr116 0 rfl).trans rfl)))) (D2.q2 (.int .i64 x127) ((fr224 8 rfl).trans ((fr195 8 rfl).trans rfl)) ?_)
 obtain ⟨x237, i238, h239⟩ := z01 h231
 have j240 := z0a i238
 refine D2.pv (z1m v0 (x127.toNat * 1)) (z2e zb8 zci ov ov (O234.rowsLen (j := 2) rfl) j240.1 j240.2.1) ?_
 obtain ⟨w241, e242, p243, k244⟩ := O234.rowVal (j := 2) rfl j240.2.2
 refine D2.load1' (v := w241) (r := []) rfl rfl zg2 (z0t rfl p243) z06 (D2.p2 (.int .i64 x221) (D2.q2 v0 ((fr224 0 rfl).trans ((fr195 0 rfl).trans ((fr130 0 rfl).trans ((fr116 0 rfl).trans rfl)))) (D2.q2 (.int .i64 x127) ((fr224 8 rfl).trans ((fr195 8 rfl).trans rfl)) ?_)))
 obtain ⟨x245, i246, h247⟩ := z01 h239
 have j248 := z0a i246
 refine D2.pv (z1m v0 (x127.toNat * 1)) (z2e zb8 zci ov ov (O234.rowsLen (j := 2) rfl) j248.1 j248.2.1) ?_
 obtain ⟨w249, e250, p251, k252⟩ := O234.rowVal (j := 2) rfl j248.2.2
 refine D2.load1' (v := w249) (r := []) rfl rfl zg2 (z0t rfl p251) z06 (D2.p2 (.int .i64 x221) ?_)
 have O253 := O234.takeRow (j := 2) rfl e250 j248.2.2 List.not_mem_nil
 obtain ⟨x254, i255, h256⟩ := z01 h247
 have j257 := z0a i255
 refine D2.pv (z1m w249 (x221.toNat * 3)) (z2e zg3 sz96 ov ov (O253.slLen (j := 0) rfl) j257.1 j257.2.1) ?_
 obtain ⟨c258, p259, f260⟩ := (O253.atSl (j := 0) rfl j257.2.2)
 refine D2.loadA' (cs := c258) rfl rfl ag96 sz96 (z0t rfl p259) (RT.len _ f260) z06 ?_
 obtain ⟨c261, p262, f263⟩ := (O253.atVar (j := 1) rfl)
 refine D2.loadA' (cs := c261) rfl rfl ag96 sz96 (z0t ((fr224 9 rfl).trans ((fr195 9 rfl).trans rfl)) p262) (RT.len _ f263) z06 (D2.q2 v0 ((fr224 0 rfl).trans ((fr195 0 rfl).trans ((fr130 0 rfl).trans ((fr116 0 rfl).trans rfl)))) (D2.q2 (.int .i64 p1) ((fr224 1 rfl).trans ((fr195 1 rfl).trans ((fr130 1 rfl).trans ((fr116 1 rfl).trans rfl)))) ?_))
 have O264 := O253.putRow0 (j := 2) rfl e250 j248.2.2
 obtain ⟨x265, i266, h267⟩ := z01 h256
 have j268 := z0a i266
 refine D2.pv (z1m v0 (p1.toNat * 1)) (z2e zb8 zci ov ov (O264.rowsLen (j := 2) rfl) j268.1 j268.2.1) ?_
 obtain ⟨w269, e270, p271, k272⟩ := O264.rowVal (j := 2) rfl j268.2.2
 refine D2.load1' (v := w269) (r := []) rfl rfl zg2 (z0t rfl p271) z06 (D2.p2 (.int .i64 x221) ?_)
 have O273 := O264.takeRow (j := 2) rfl e270 j268.2.2 List.not_mem_nil
 obtain ⟨x274, i275, h276⟩ := z01 h267
 have j277 := z0a i275
 refine D2.pv (z1m w269 (x221.toNat * 3)) (z2e zg3 sz96 ov ov (O273.slLen (j := 0) rfl) j277.1 j277.2.1) ?_
 obtain ⟨c278, p279, f280⟩ := (O273.atSl (j := 0) rfl j277.2.2)
 refine D2.loadA' (cs := c278) rfl rfl ag96 sz96 (z0t rfl p279) (RT.len _ f280) z06 ?_
 have O281 := O273.putRow0 (j := 2) rfl e270 j268.2.2
 obtain ⟨x282, i283, h284⟩ := z01 h276
 refine D2.lo rfl rfl (Lo.cP rfl (fn := Tryz.f92) (by kernel_rfl) rfl (mc rfl (mc rfl mn)) O281 (fun L' O' => zc1 K c261 x150 f263 c278 x274 f280 O' _ i283)) ?_ z06 ?_ ?_
 .rintro v293 H294 ⟨G285, O286, s287, sm292, ⟨c289, rfl, f290⟩⟩; exact (faR1 (.inl (by decide)) (faR1 (.inl (by decide)) (faR1 (.inl (by decide)) (faR1 (.inr (sm292 _ (Or.inr ⟨2, _, rfl, (O281.footRowEl (j := 2) rfl e250 j248.2.2 j257.2.2)⟩))) (faR1 (.inr (sm292 _ (Or.inr ⟨2, _, rfl, (O281.footRows (j := 2) rfl j248.2.2)⟩))) (faR1 (.inr (sm292 _ (Or.inr ⟨2, _, rfl, (O281.footRows (j := 2) rfl j240.2.2)⟩))) z06))))))
 .rintro v293 H294 ⟨G285, O286, s287, sm292, ⟨c289, rfl, f290⟩⟩; exact z06
 rintro v293 H294 ⟨G285, O286, s287, sm292, ⟨c289, rfl, f290⟩⟩
 obtain ⟨x295, i296, h297⟩ := z01 h284
 refine D2.lo rfl rfl (Lo.cP rfl (fn := Tryz.f69) (by kernel_rfl) rfl (mc rfl (mc rfl mn)) O286 (fun L' O' => zc5 K c258 x254 (RT.mono _ s287 f260) c289 x282 f290 O' _ i296)) ?_ (z0h (by decide) z06) ?_ ?_
 .rintro v306 H307 ⟨G298, O299, s300, sm305, ⟨c302, rfl, f303⟩⟩; exact (faR1 (.inl (by decide)) (faR1 (.inl (by decide)) (faR1 (.inl (by decide)) (faR1 (.inl (by decide)) (faR1 (.inl (by decide)) (faR1 (.inr (sm305 _ (Or.inr ⟨2, _, rfl, (O286.footRows (j := 2) rfl j240.2.2)⟩))) z06))))))
 .rintro v306 H307 ⟨G298, O299, s300, sm305, ⟨c302, rfl, f303⟩⟩; exact z06
 rintro v306 H307 ⟨G298, O299, s300, sm305, ⟨c302, rfl, f303⟩⟩
 have O308 := O299.takeRow (j := 2) rfl e242 j240.2.2 List.not_mem_nil
 obtain ⟨x309, i310, h311⟩ := z01 h297
 have j312 := z0a i310
 refine D2.pv (z1m w241 (x221.toNat * 3)) (z2e zg3 sz96 ov ov (O308.slLen (j := 0) rfl) j312.1 j312.2.1) (D2.lo rfl rfl (Lo.storeSl0 (j := 0) (y0 := x295) (v := (.agg c302.toArray)) rfl j312.2.2  rfl sz96 rfl rfl f303 O308) ?_ (z0h (by decide) (z0h (by decide) z06)) ?_ ?_)
 .rintro v315 H316 ⟨O313, sm314⟩; exact (faR1 (.inl (by decide)) (faR1 (.inl (by decide)) (faR1 (.inl (by decide)) (faR1 (.inl (by decide)) (faR1 (.inl (by decide)) (faR1 (.inl (by decide)) z06))))))
 .rintro v315 H316 ⟨O313, sm314⟩; exact z06
 rintro v315 H316 ⟨O313, sm314⟩
 refine .nil (.region (W.r3 (.int .i64 (z02 .i64 (x221 + 1))) t229 (W.p2 (.int .i64 (z02 .i64 (x221 + 1))) (.nil ?_))))
 have O317 := O313.putRow (j := 2) rfl e242
 exact ⟨k219, zAg _, ⟨(List.set x220 (x127.toNat) (List.set x237 (x221.toNat) x295)), z02 .i64 (x221 + 1), _, h311, O317, (zAe s227 (zAe s287 s300)), rfl⟩⟩
def z24 (K : Nat) (x7 : List (List Q)) (x8 : Int) : Nat -> Int -> Option (Int)
  | 0, _ => none
  | k + 1, x44 => (Option.bind ((if (decide (x44 < (x7.length : Int))) = true then ((idx x7 x44).bind fun x59 => ((idx x59 x8).bind fun x68 => ((z37 K x68).bind fun x75 => some (x75 == 0)))) else some false)) (tu1 fun x88 => (if x88 = true then z24 K x7 x8 k (z02 .i64 (x44 + 1)) else some x44)))
def z0k (K : Nat) (p1 : Int) : Nat -> List Int -> List (List Q) -> Int -> Option (List (List Q) × List Int)
  | 0, _, _, _ => none
  | k + 1, x6, x7, x8 => (Option.bind ((if (decide (x8 < p1)) = true then some (decide ((x6.length : Int) < (x7.length : Int))) else some false)) (tu1 fun x25 => (if x25 = true then (Option.bind ((Option.bind (z24 K x7 x8 K (x6.length : Int)) (tu1 fun x101 => (if (x101 == (x7.length : Int)) = true then some (x6, x7) else ((idx x7 x101).bind fun x119 => ((idx x7 (x6.length : Int)).bind fun x127 => ((idx x7 (x6.length : Int)).bind fun x135 => ((idx x7 x101).bind fun x145 => ((z4u K (List.set (List.set x7 (Int.toNat (x6.length : Int)) x119) (x101.toNat) x127) (x6.length : Int) x8).bind fun x154 => (if x6.length + List.length [x8] <= 16777216 then some ((x6 ++ [x8]), x154) else none)))))))))) (tu2 fun x181 x182 => z0k K p1 k x181 x182 (z02 .i64 (x8 + 1)))) else some (x7, x6))))
def z3j (K : Nat) (p0 : List (List Q)) (p1 : Int) : Option (List Int × List (List Q)) := (Option.bind (z0k K p1 K [] p0 0) (tu2 fun x195 x196 => some (x196, x195)))
theorem z92 (v0 : Value) (ws0 : List Value) (p0 : List (List Q)) (p1 : Int) (O : Ow G H (z27 v0 111 ws0 [] 96 T_Q p0 :: L)) (r : List Int × List (List Q)) (h : z3j K p0 p1 = some r) :
    CRF Tryz.prog 103 [v0, (.int .i64 p1)] G H (fun w0 => (eSl (hdT w0) 3 (rI .i64) r.1 :: z27 v0 111 (tlT w0) [] 96 T_Q r.2 :: L)) (fun w0 v G' => v = hdT w0) := by
 unfold z3j at h
 refine CRF.og (n := 68) (fn := Tryz.f103) (by kernel_rfl) rfl rfl fun R kr => (.seq (.region (W.p1 (.slice none 0 0) (.nil (.seq (.region ?_))))))
 refine W.p1 (.slice none 0 0) (.nil (.seq (.seq (.region (W.p1 (.int .i64 0) (.nil ?_))))))
 obtain ⟨q1, h2, h3⟩ := z01 h
 refine AW.midT (fun σ' H' => ∃ (y1 : List (List Q)) (y2 : List Int) (ws_m0 : List Value) (G' : GM), (y1, y2) = q1 /\ Ow G' H' (z27 v0 111 ws_m0 [] 96 T_Q y1 :: eSl (σ' 5) 3 (rI .i64) y2 :: L) /\ GM.le G G') ?_ ?_
 rotate_left
 .rintro σ197 H198 fr199 ⟨x195, x196, ws204, G200, rfl, O201, s202⟩
  have h205 := z52 h3
  refine .seq (.region (W.p2 (σ197 5) (W.p1 (σ197 5) (.nil (.ret ?_)))))
  have O206 : Ow G200 H198 (z27 v0 111 ws204 [] 96 T_Q x195 :: eSl (σ197 5) 3 (rI .i64) x196 :: L) := O201.front (j := 0) rfl
  have O207 : Ow G200 H198 (eSl (σ197 5) 3 (rI .i64) x196 :: z27 v0 111 ws204 [] 96 T_Q x195 :: L) := O206.front (j := 1) rfl
  obtain rfl := zAa h205
  exact zat kr (.tuple ⟨(σ197 5) :: ws204⟩) (v1 := (σ197 5)) (by rfl) rt O207 s202 rfl
 refine .block ?_
 have O4 := O.nilSl 3 (rI .i64)
 refine AW.loop (α := Nat) (fun k' σ' H' => ∃ (y1 : List Int) (y2 : List (List Q)) (y3 : Int) (ws_m0 : List Value) (G' : GM), z0k K p1 k' y1 y2 y3 = some q1 /\ Ow G' H' (eSl (σ' 5) 3 (rI .i64) y1 :: z27 v0 111 ws_m0 [] 96 T_Q y2 :: L) /\ GM.le G G' /\ σ' 6 = .int .i64 y3) (fun k' => k') K ⟨[], p0, 0, ws0, _, h2, O4, (zAf _), rfl⟩ ?_
 rintro k5
 rintro σ9 H10 fr11 ⟨x6, x7, x8, ws16, G12, h15, O13, s14, t17⟩
 rcases k5 with _ | k5
 .exact z07 h15
 rw [z0k] at h15
 refine .seq (.seq ?_)
 obtain ⟨q18, h19, h20⟩ := z01 h15
 refine AW.midT (fun σ' H' => ∃ (y1 : Bool) (G' : GM), y1 = q18 /\ Ow G' H' (eSl (σ9 5) 3 (rI .i64) x6 :: z27 v0 111 ws16 [] 96 T_Q x7 :: L) /\ GM.le G12 G' /\ σ' 18 = .bool y1) ?_ ?_
 .refine .region (W.q2 _ t17 (W.q2 (.int .i64 p1) ((fr11 1 rfl).trans rfl) (W.p3 (.bool (decide (x8 < p1))) (W.p2 (.bool (decide (x8 < p1))) (W.splitAt (t := 12) (b := decide (x8 < p1)) rfl (fun g21 gv22 => ?_) (fun g21 gv22 => ?_))))))
  rotate_left
  .have h24 := z0j g21 h19
   refine W.q6 rfl gv22 (W.q6 rfl gv22 (W.q6 rfl gv22 (W.q6 rfl gv22 (W.q6 rfl gv22 (W.q5 (.bool false) gv22 rfl (.nil ?_))))))
   obtain rfl := zAa h24
   exact ⟨false, _, rfl, O13, (zAf _), rfl⟩
  have h23 := z05 g21 h19
  refine W.q2 (hg := gk rfl rfl gv22 rfl) (σ9 5) rfl (W.pure (v := (.int .i64 (x6.length : Int))) (gk rfl rfl gv22 rfl) rfl (z0i ov (O13.slLen (j := 0) rfl) (z04 z78)) (W.q2 (hg := gk rfl rfl gv22 rfl) v0 ((fr11 0 rfl).trans rfl) (W.pure (v := (.int .i64 (x7.length : Int))) (gk rfl rfl gv22 rfl) rfl (z0i ov (O13.rowsLen (j := 1) rfl) (z04 zb8)) (W.q3 (hg := gk rfl rfl gv22 rfl) (.bool (decide ((x6.length : Int) < (x7.length : Int)))) rfl rfl (W.q4 (.bool (decide ((x6.length : Int) < (x7.length : Int)))) gv22 rfl (.nil ?_))))))
  obtain rfl := zAa h23
  exact ⟨decide ((x6.length : Int) < (x7.length : Int)), _, rfl, O13, (zAf _), rfl⟩
 rintro σ26 H27 fr28 ⟨x25, G29, rfl, O30, s31, t33⟩
 have h34 := z09 h20
 refine .cond (b := x25) rfl t33 (fun g35 => ?_) (fun g35 => ?_)
 rotate_left
 .have h192 := z0j g35 h34
  refine .exit ?_
  have O193 : Ow G29 H27 (eSl (σ9 5) 3 (rI .i64) x6 :: z27 v0 111 ws16 [] 96 T_Q x7 :: L) := O30.front (j := 0) rfl
  have O194 : Ow G29 H27 (z27 v0 111 ws16 [] 96 T_Q x7 :: eSl (σ9 5) 3 (rI .i64) x6 :: L) := O193.front (j := 1) rfl
  obtain rfl := zAa h192
  exact ⟨x7, x6, ws16, _, rfl, (Ow.reval (j := 1) O194 rfl ((fr28 5 rfl).trans rfl)), (zAe s14 s31)⟩
 have h36 := z05 g35 h34
 refine .skip (.seq ?_)
 obtain ⟨q37, h38, h39⟩ := z01 h36
 refine AW.midT (fun σ' H' => ∃ (y1 : List Int) (y2 : List (List Q)) (ws_m0 : List Value) (G' : GM), (y1, y2) = q37 /\ Ow G' H' (eSl (σ' 5) 3 (rI .i64) y1 :: z27 v0 111 ws_m0 [] 96 T_Q y2 :: L) /\ GM.le G29 G') ?_ ?_
 rotate_left
 .rintro σ183 H184 fr185 ⟨x181, x182, ws190, G186, rfl, O187, s188⟩
  have h191 := z52 h39
  refine .region (W.q2 _ ((fr185 6 rfl).trans ((fr28 6 rfl).trans t17)) (W.p3 (.int .i64 (z02 .i64 (x8 + 1))) (W.p1 (.int .i64 (z02 .i64 (x8 + 1))) (.nil ?_))))
  exact ⟨k5, zAg _, ⟨x181, x182, z02 .i64 (x8 + 1), ws190, _, h191, O187, (zAe s14 (zAe s31 s188)), rfl⟩⟩
 refine .block (.seq (.region (W.q2 (σ9 5) ((fr28 5 rfl).trans rfl) (W.pv (.int .i64 (x6.length : Int)) (z0i ov (O30.slLen (j := 0) rfl) (z04 z78)) (W.p1 (.int .i64 (x6.length : Int)) (.nil ?_))))))
 refine .seq (.region (W.p2 (.int .i64 (x6.length : Int)) (W.p1 (.int .i64 (x6.length : Int)) (.nil (.seq ?_)))))
 obtain ⟨q40, h41, h42⟩ := z01 h38
 refine AW.midT (fun σ' H' => ∃ (y1 : Int) (G' : GM), y1 = q40 /\ Ow G' H' (eSl (σ9 5) 3 (rI .i64) x6 :: z27 v0 111 ws16 [] 96 T_Q x7 :: L) /\ GM.le G29 G' /\ σ' 8 = .int .i64 y1) ?_ ?_
 .refine .block (AW.loop (α := Nat) (fun k' σ' H' => ∃ (y1 : Int) (G' : GM), z24 K x7 x8 k' y1 = some q40 /\ Ow G' H' (eSl (σ9 5) 3 (rI .i64) x6 :: z27 v0 111 ws16 [] 96 T_Q x7 :: L) /\ GM.le G29 G' /\ σ' 8 = .int .i64 y1) (fun k' => k') K ⟨(x6.length : Int), _, h41, O30, (zAf _), rfl⟩ ?_)
  rintro k43
  rintro σ45 H46 fr47 ⟨x44, G48, h51, O49, s50, t52⟩
  rcases k43 with _ | k43
  .exact z07 h51
  rw [z24] at h51
  refine .seq (.seq ?_)
  obtain ⟨q53, h54, h55⟩ := z01 h51
  refine AW.midT (fun σ' H' => ∃ (y1 : Bool) (G' : GM), y1 = q53 /\ Ow G' H' (eSl (σ9 5) 3 (rI .i64) x6 :: z27 v0 111 ws16 [] 96 T_Q x7 :: L) /\ GM.le G48 G' /\ σ' 38 = .bool y1) ?_ ?_
  rotate_left
  .rintro σ89 H90 fr91 ⟨x88, G92, rfl, O93, s94, t96⟩
   have h97 := z09 h55
   refine .cond (b := x88) rfl t96 (fun g98 => ?_) (fun g98 => ?_)
   rotate_left
   .have h100 := z0j g98 h97
    refine .exit ?_
    obtain rfl := zAa h100
    exact ⟨x44, _, rfl, O93, (zAe s50 s94), ((fr91 8 rfl).trans t52)⟩
   have h99 := z05 g98 h97
   refine .skip (.block (.region (W.q2 _ ((fr91 8 rfl).trans t52) (W.p3 (.int .i64 (z02 .i64 (x44 + 1))) (W.p1 (.int .i64 (z02 .i64 (x44 + 1))) (.nil ?_))))))
   exact ⟨k43, zAg _, ⟨z02 .i64 (x44 + 1), _, h99, O93, (zAe s50 s94), rfl⟩⟩
  refine .region (W.q2 _ t52 (W.q2 v0 ((fr47 0 rfl).trans ((fr28 0 rfl).trans ((fr11 0 rfl).trans rfl))) (W.pv (.int .i64 (x7.length : Int)) (z0i ov (O49.rowsLen (j := 1) rfl) (z04 zb8)) (W.p3 (.bool (decide (x44 < (x7.length : Int)))) (W.p2 (.bool (decide (x44 < (x7.length : Int)))) (W.splitAt (t := 28) (b := decide (x44 < (x7.length : Int))) rfl (fun g56 gv57 => ?_) (fun g56 gv57 => ?_)))))))
  rotate_left
  .have h87 := z0j g56 h54
   refine W.q6 rfl gv57 (W.q6 rfl gv57 (W.q6 rfl gv57 (W.q6 rfl gv57 (W.q6 rfl gv57 (W.q6 rfl gv57 (W.q6 rfl gv57 ?_))))))
   refine W.q6 rfl gv57 (W.q6 rfl gv57 (W.q5 (.bool false) gv57 rfl (.nil ?_)))
   obtain rfl := zAa h87
   exact ⟨false, _, rfl, O49, (zAf _), rfl⟩
  have h58 := z05 g56 h54
  refine W.q2 (hg := gk rfl rfl gv57 rfl) v0 ((fr47 0 rfl).trans ((fr28 0 rfl).trans ((fr11 0 rfl).trans rfl))) (W.q2 (hg := gk rfl rfl gv57 rfl) _ t52 ?_)
  obtain ⟨x59, i60, h61⟩ := z01 h58
  have j62 := z0a i60
  refine W.pure (v := (z1m v0 (x44.toNat * 1))) (gk rfl rfl gv57 rfl) rfl (z2e zb8 zci ov ov (O49.rowsLen (j := 1) rfl) j62.1 j62.2.1) ?_
  obtain ⟨w63, e64, p65, k66⟩ := O49.rowVal (j := 1) rfl j62.2.2
  refine W.load1 (v := w63) (r := []) (gk rfl rfl gv57 rfl) rfl zg2 (z0t rfl p65) (W.q2 (hg := gk rfl rfl gv57 rfl) _ ((fr47 6 rfl).trans ((fr28 6 rfl).trans t17)) ?_)
  have O67 := O49.takeRow (j := 1) rfl e64 j62.2.2 List.not_mem_nil
  obtain ⟨x68, i69, h70⟩ := z01 h61
  have j71 := z0a i69
  refine W.pure (v := (z1m w63 (x8.toNat * 3))) (gk rfl rfl gv57 rfl) rfl (z2e zg3 sz96 ov ov (O67.slLen (j := 0) rfl) j71.1 j71.2.1) ?_
  obtain ⟨c72, p73, f74⟩ := (O67.atSl (j := 0) rfl j71.2.2)
  refine W.loadA (cs := c72) (gk rfl rfl gv57 rfl) rfl ag96 sz96 (z0t rfl p73) (RT.len _ f74) ?_
  obtain ⟨x75, i76, h77⟩ := z01 h70
  refine W.lo (gk rfl rfl gv57 rfl) rfl (Lo.cP rfl (fn := Tryz.f108) (by kernel_rfl) rfl (mc rfl mn) O67 (fun L' O' => z7w K c72 x68 f74 O' _ i76)) ?_
  rintro v84 H85 ⟨G78, O79, s80, sm83, rfl⟩
  refine W.q3 (hg := gk rfl rfl gv57 rfl) (.bool (x75 == 0)) rfl rfl (W.q4 (.bool (x75 == 0)) gv57 rfl (.nil ?_))
  have O86 := O79.putRow0 (j := 1) rfl e64 j62.2.2
  obtain rfl := zAa h77
  exact ⟨(x75 == 0), _, rfl, O86, s80, rfl⟩
 rintro σ102 H103 fr104 ⟨x101, G105, rfl, O106, s107, t109⟩
 have h110 := z09 h42
 refine .seq (.seq (.region (W.q2 _ t109 (W.q2 v0 ((fr104 0 rfl).trans ((fr28 0 rfl).trans ((fr11 0 rfl).trans rfl))) (W.pv (.int .i64 (x7.length : Int)) (z0i ov (O106.rowsLen (j := 1) rfl) (z04 zb8)) (W.p3 (.bool (x101 == (x7.length : Int))) ?_))))))
 refine .nil (.cond (b := (x101 == (x7.length : Int))) rfl rfl (fun g111 => ?_) (fun g111 => ?_))
 .have h112 := z05 g111 h110
  refine .exit ?_
  obtain rfl := zAa h112
  exact ⟨x6, x7, ws16, _, rfl, (Ow.reval (j := 0) O106 rfl ((fr104 5 rfl).trans ((fr28 5 rfl).trans rfl))), s107⟩
 have h113 := z0j g111 h110
 refine .skip (.seq (.draw2 (M := [0, 0, 0, 0, 0, 0, 48, 112, 0, 0, 768, 1792, 4083, 8179, 16383, 32767]) mixed (by kernel_rfl) (by kernel_rfl) fun H114 N118 x115 F117 => ?_))
 have O116 := O106.ext x115
 refine D2.q2 v0 ((fr104 0 rfl).trans ((fr28 0 rfl).trans ((fr11 0 rfl).trans rfl))) (D2.q2 (.int .i64 (x6.length : Int)) ((fr104 7 rfl).trans rfl) (D2.q2 v0 ((fr104 0 rfl).trans ((fr28 0 rfl).trans ((fr11 0 rfl).trans rfl))) (D2.q2 _ t109 (D2.q2 v0 ((fr104 0 rfl).trans ((fr28 0 rfl).trans ((fr11 0 rfl).trans rfl))) (D2.q2 _ t109 ?_)))))
 obtain ⟨x119, i120, h121⟩ := z01 h113
 have j122 := z0a i120
 refine D2.pv (z1m v0 (x101.toNat * 1)) (z2e zb8 zci ov ov (O116.rowsLen (j := 1) rfl) j122.1 j122.2.1) ?_
 obtain ⟨w123, e124, p125, k126⟩ := O116.rowVal (j := 1) rfl j122.2.2
 refine D2.load1' (v := w123) (r := []) rfl rfl zg2 (z0t rfl p125) z06 (D2.q2 v0 ((fr104 0 rfl).trans ((fr28 0 rfl).trans ((fr11 0 rfl).trans rfl))) (D2.q2 (.int .i64 (x6.length : Int)) ((fr104 7 rfl).trans rfl) ?_))
 obtain ⟨x127, i128, h129⟩ := z01 h121
 have j130 := z0a i128
 refine D2.pv (z1m v0 (Int.toNat (x6.length : Int) * 1)) (z2e zb8 zci ov ov (O116.rowsLen (j := 1) rfl) j130.1 j130.2.1) ?_
 obtain ⟨w131, e132, p133, k134⟩ := O116.rowVal (j := 1) rfl j130.2.2
 refine D2.load1' (v := w131) (r := []) rfl rfl zg2 (z0t rfl p133) z06 ?_
 obtain ⟨x135, i136, h137⟩ := z01 h129
 have j138 := z0a i136
 refine D2.pv (z1m v0 (Int.toNat (x6.length : Int) * 1)) (z2e zb8 zci ov ov (O116.rowsLen (j := 1) rfl) j138.1 j138.2.1) ?_
 have e139 := O116.rowCells (j := 1) rfl e124 List.not_mem_nil
 have O140 := O116.takeRow (j := 1) rfl e132 j130.2.2 List.not_mem_nil
 refine D2.lo rfl rfl (Lo.storeRow (j := 2) (i := Int.toNat (x6.length : Int)) rfl (zAi j138.2.2).1 rfl zci rfl rfl e139.1 e139.2 O140) ?_ z06 ?_ ?_
 .rintro v143 H144 ⟨O141, sm142⟩; exact (faR1 (.inl (by decide)) (faR1 (.inl (by decide)) z06))
 .rintro v143 H144 ⟨O141, sm142⟩; exact z06
 rintro v143 H144 ⟨O141, sm142⟩
 obtain ⟨x145, i146, h147⟩ := z01 h137
 have j148 := z0a i146
 refine D2.pv (z1m v0 (x101.toNat * 1)) (z2e zb8 zci ov ov (O141.rowsLen (j := 2) rfl) j148.1 j148.2.1) (D2.lo rfl rfl (Lo.swapRow (j := 1) (a := Int.toNat (x6.length : Int)) (b := x101.toNat) (xb := x119) rfl (zlq e132) (zlt e124) j122.2.2 (fun e => by have q := e124; rw [<- e, e132] at q; exact (zAa q).symm) rfl zci rfl rfl O141) ?_ (z0h (by decide) z06) ?_ ?_)
 .rintro v151 H152 ⟨O149, sm150⟩; exact (faR1 (.inl (by decide)) (faR1 (.inl (by decide)) z06))
 .rintro v151 H152 ⟨O149, sm150⟩; exact z06
 rintro v151 H152 ⟨O149, sm150⟩
 refine .nil (.seq (.region (W.q2 v0 ((fr104 0 rfl).trans ((fr28 0 rfl).trans ((fr11 0 rfl).trans rfl))) (W.q2 (.int .i64 (x6.length : Int)) ((fr104 7 rfl).trans rfl) (W.q2 _ ((fr104 6 rfl).trans ((fr28 6 rfl).trans t17)) ?_)))))
 have O153 : Ow G105 H152 (z27 v0 111 (List.set (List.set ws16 (Int.toNat (x6.length : Int)) w123) (x101.toNat) w131) [] 96 T_Q (List.set (List.set x7 (Int.toNat (x6.length : Int)) x119) (x101.toNat) x127) :: eSl (σ9 5) 3 (rI .i64) x6 :: L) := O149.front (j := 1) rfl
 obtain ⟨x154, i155, h156⟩ := z01 h147
 refine W.ln (Lo.callPF (ps := [z27 v0 111 (List.set (List.set ws16 (Int.toNat (x6.length : Int)) w123) (x101.toNat) w131) [] 96 T_Q (List.set (List.set x7 (Int.toNat (x6.length : Int)) x119) (x101.toNat) x127)]) (pw := fun w => [z27 v0 111 (tlT w) [] 96 T_Q x154]) rfl (fn := Tryz.f151) (by kernel_rfl) rfl (mc rfl (mc rfl (mc rfl mn))) O153 (fun L' O' => zad K v0 (List.set (List.set ws16 (Int.toNat (x6.length : Int)) w123) (x101.toNat) w131) (List.set (List.set x7 (Int.toNat (x6.length : Int)) x119) (x101.toNat) x127) (x6.length : Int) x8 O' _ i155)) ?_
 rintro v163 H164 ⟨w161, G157, O158, s159, sm162, rfl⟩
 refine .nil (.region (W.q2 (σ9 5) ((fr104 5 rfl).trans ((fr28 5 rfl).trans rfl)) (W.q2 _ ((fr104 6 rfl).trans ((fr28 6 rfl).trans t17)) (W.ln (Lo.buildSlice (r := (rI .i64)) (vs := [(.int .i64 x8)]) (xs := [x8]) z78 ze3 sz3 (by kernel_rfl) rfl (qc rfl qn) rfl (.cons rfl .nil) O158) ?_))))
 rintro v167 H168 ⟨O165, sm166⟩
 obtain ⟨es170, e171, e172⟩ := z4p (j := 0) rfl O165
 obtain ⟨g173, h174⟩ := z2l h156
 refine W.ln (Lo.append (j := 2) (v := (σ9 5)) rfl rfl z78 zn3 ze3 sz3 by3 (by decide) (by decide) rfl e171 e172 g173 O165) ?_
 rintro v176 H177 ⟨O169, sm175⟩
 refine W.p1 v176 (.nil ?_)
 have O178 := O169.drop 0
 have O179 : Ow G157 H177 (z27 v0 111 (tlT w161) [] 96 T_Q x154 :: eSl v176 3 (rI .i64) (x6 ++ [x8]) :: L) := O178.front (j := 0) rfl
 have O180 : Ow G157 H177 (eSl v176 3 (rI .i64) (x6 ++ [x8]) :: z27 v0 111 (tlT w161) [] 96 T_Q x154 :: L) := O179.front (j := 1) rfl
 obtain rfl := zAa h174
 exact ⟨(x6 ++ [x8]), x154, (tlT w161), _, rfl, O180, (zAe s107 s159)⟩
def z3q (K : Nat) (p0 : List (List zAd)) : Option (Int × Int) := ((z45 K p0).bind fun x1 => (if (x1 != 0) = true then some (0, x1) else ((z68 K p0).bind fun x15 => ((z46 K p0).bind fun x28 => ((z3j K x15 x28).bind fun x39 => some ((x39.1.length : Int), 0))))))
theorem zaw (v0 : Value) (p0 : List (List zAd)) (hp0 : (rSl (rSl rS)).rep G [v0] p0) (O : Ow G H (L)) (r : Int × Int) (h : z3q K p0 = some r) :
    CR Tryz.prog 44 [v0] G H (L) (fun v G' _ => v = .tuple #[.int .i64 r.1, .int .i64 r.2]) := by
 unfold z3q at h
 refine CR.og (n := 16) (fn := Tryz.f44) (by kernel_rfl) rfl rfl fun R kr => (.seq (.region (W.p1 (.int .i64 0) (W.p1 (.int .i64 0) (.nil (.seq ?_))))))
 refine .seq (.region (W.p2 v0 ?_))
 obtain ⟨x1, i2, h3⟩ := z01 h
 refine W.ln (Lo.cP rfl (fn := Tryz.f78) (by kernel_rfl) rfl (mc rfl mn) O (fun L' O' => z9l K v0 p0 hp0 O' _ i2)) ?_
 rintro v10 H11 ⟨G4, O5, s6, sm9, rfl⟩
 refine W.p1 (.int .i64 x1) (.nil (.seq (.region (W.p2 (.int .i64 x1) (W.p3 (.bool (x1 != 0)) (.nil ?_))))))
 refine .cond (b := (x1 != 0)) rfl rfl (fun g12 => ?_) (fun g12 => ?_)
 .have h13 := z05 g12 h3
  refine .seq (.region (W.p2 (.int .i64 x1) (W.p1 (.int .i64 0) (W.p1 (.int .i64 x1) (.nil (.ret ?_))))))
  obtain rfl := zAa h13
  exact ziw kr (v1 := (.int .i64 0)) (v2 := (.int .i64 x1)) (by rfl) rt rt O5 s6 rfl
 have h14 := z0j g12 h3
 refine .skip (.seq (.region (W.p2 v0 ?_)))
 obtain ⟨x15, i16, h17⟩ := z01 h14
 refine W.ln (Lo.callPF (ps := []) (pw := fun w => [z27 (hdT w) 111 (tlT w) [] 96 T_Q x15]) rfl (fn := Tryz.f82) (by kernel_rfl) rfl (mc rfl mn) O5 (fun L' O' => zbz K v0 p0 (RT.mono _ s6 hp0) O' _ i16)) ?_
 rintro v26 H27 ⟨w23, G18, O19, s20, sm25, rfl⟩
 refine W.p2 v0 ?_
 obtain ⟨x28, i29, h30⟩ := z01 h17
 refine W.ln (Lo.cP rfl (fn := Tryz.f80) (by kernel_rfl) rfl (mc rfl mn) O19 (fun L' O' => z9m K v0 p0 (RT.mono _ (zAe s6 s20) hp0) O' _ i29)) ?_
 rintro v37 H38 ⟨G31, O32, s33, sm36, rfl⟩
 obtain ⟨x39, i40, h41⟩ := z01 h30
 refine W.ln (Lo.callPF (ps := [z27 (hdT w23) 111 (tlT w23) [] 96 T_Q x15]) (pw := fun w => [eSl (hdT w) 3 (rI .i64) x39.1, z27 (hdT w23) 111 (tlT w) [] 96 T_Q x39.2]) rfl (fn := Tryz.f103) (by kernel_rfl) rfl (mc rfl (mc rfl mn)) O32 (fun L' O' => z92 K (hdT w23) (tlT w23) x15 x28 O' _ i40)) ?_
 rintro v50 H51 ⟨w47, G42, O43, s44, sm49, rfl⟩
 refine W.pv (.int .i64 (x39.1.length : Int)) (z0i ov (O43.slLen (j := 0) rfl) (z04 z78)) (W.p1 (.int .i64 (x39.1.length : Int)) (W.p1 (.int .i64 0) (.nil (.ret ?_))))
 have O53 := (O43.drop 0).drop 0
 obtain rfl := zAa h41
 exact ziw kr (v1 := (.int .i64 (x39.1.length : Int))) (v2 := (.int .i64 0)) (by rfl) rt rt O53 (zAe s6 (zAe s20 (zAe s33 s44))) rfl
def z0y (K : Nat) (p0 : zAd) : Nat -> Int -> Option (Int ⊕ Unit)
  | 0, _ => none
  | k + 1, x8 => (if (decide (x8 < (p0.size : Int))) = true then (Option.bind (((bidx p0 x8).bind fun x22 => (if (decide (x22 < 48)) = true then some true else ((bidx p0 x8).bind fun x29 => some (decide (x29 > 57)))))) (tu1 fun x32 => (if x32 = true then some (.inl 5) else z0y K p0 k (z02 .i64 (x8 + 1))))) else some (.inr ()))
def z4d (K : Nat) (p0 : zAd) : Option Int := (if ((p0.size : Int) == 0) = true then some 5 else (zbw (z0y K p0 K 0) (tu1 fun a81 => some a81) (tu0 (Option.bind ((if (decide ((p0.size : Int) > 1)) = true then ((bidx p0 0).bind fun x61 => some (x61 == 48)) else some false)) (tu1 fun x65 => (if x65 = true then some 5 else (if (decide ((p0.size : Int) > 2000)) = true then some 2 else some 0)))))))
theorem z7x (p0 : zAd) (O : Ow G H (L)) (r : Int) (h : z4d K p0 = some r) :
    CR Tryz.prog 59 [(.string p0)] G H (L) (fun v G' _ => v = .int .i64 r) := by
 unfold z4d at h
 refine CR.og (n := 34) (fn := Tryz.f59) (by kernel_rfl) rfl rfl fun R kr => (.seq (.region (W.p1 (.int .i64 0) (.nil (.seq (.seq ?_))))))
 refine .region (W.p2 (.string p0) (W.pv (.int .i64 (p0.size : Int)) (z1h ov un9) (W.p3 (.bool ((p0.size : Int) == 0)) (.nil (.cond (b := ((p0.size : Int) == 0)) rfl rfl (fun g1 => ?_) (fun g1 => ?_))))))
 .have h2 := z05 g1 h
  refine .seq (.region (W.p1 (.int .i64 5) (.nil (.ret ?_))))
  obtain rfl := zAa h2
  exact z1q kr (v1 := (.int .i64 5)) (by rfl) rt O (zAf _) rfl
 have h3 := z0j g1 h
 refine .skip (.seq (.seq (.region (W.p1 (.int .i64 0) (.nil ?_)))))
 obtain ⟨q4, h5, h6⟩ := z3m h3
 refine AW.midT (fun σ' H' => ∃  (G' : GM), (.inr ()) = q4 /\ Ow G' H' (L) /\ GM.le G G') ?_ ?_
 rotate_left
 .rintro σ47 H48 fr49 ⟨G50, rfl, O51, s52⟩
  have h54 := z6y (z9i h6)
  refine .seq (.seq ?_)
  obtain ⟨q55, h56, h57⟩ := z01 h54
  refine AW.midT (fun σ' H' => ∃ (y1 : Bool) (G' : GM), y1 = q55 /\ Ow G' H' (L) /\ GM.le G50 G' /\ σ' 30 = .bool y1) ?_ ?_
  .refine .region (W.q2 (.string p0) ((fr49 0 rfl).trans rfl) (W.pv (.int .i64 (p0.size : Int)) (z1h ov un9) (W.p3 (.bool (decide ((p0.size : Int) > 1))) (W.p2 (.bool (decide ((p0.size : Int) > 1))) (W.splitAt (t := 26) (b := decide ((p0.size : Int) > 1)) rfl (fun g58 gv59 => ?_) (fun g58 gv59 => ?_))))))
   rotate_left
   .have h64 := z0j g58 h56
    refine W.q6 rfl gv59 (W.q6 rfl gv59 (W.q6 rfl gv59 (W.q5 (.bool false) gv59 rfl (.nil ?_))))
    obtain rfl := zAa h64
    exact ⟨false, _, rfl, O51, (zAf _), rfl⟩
   have h60 := z05 g58 h56
   refine W.q2 (hg := gk rfl rfl gv59 rfl) (.string p0) ((fr49 0 rfl).trans rfl) ?_
   obtain ⟨x61, i62, h63⟩ := z01 h60
   refine W.pure (v := (.int .u8 x61)) (gk rfl rfl gv59 rfl) rfl (za5 un9 ov ov i62) (W.q3 (hg := gk rfl rfl gv59 rfl) (.bool (x61 == 48)) rfl rfl (W.q4 (.bool (x61 == 48)) gv59 rfl (.nil ?_)))
   obtain rfl := zAa h63
   exact ⟨(x61 == 48), _, rfl, O51, (zAf _), rfl⟩
  rintro σ66 H67 fr68 ⟨x65, G69, rfl, O70, s71, t73⟩
  have h74 := z09 h57
  refine .cond (b := x65) rfl t73 (fun g75 => ?_) (fun g75 => ?_)
  .have h76 := z05 g75 h74
   refine .seq (.region (W.p1 (.int .i64 5) (.nil (.ret ?_))))
   obtain rfl := zAa h76
   exact z1q kr (v1 := (.int .i64 5)) (by rfl) rt O70 (zAe s52 s71) rfl
  have h77 := z0j g75 h74
  refine .skip (.seq (.seq (.region (W.q2 (.string p0) ((fr68 0 rfl).trans ((fr49 0 rfl).trans rfl)) (W.pv (.int .i64 (p0.size : Int)) (z1h ov un9) (W.p3 (.bool (decide ((p0.size : Int) > 2000))) ?_))))))
  refine .nil (.cond (b := decide ((p0.size : Int) > 2000)) rfl rfl (fun g78 => ?_) (fun g78 => ?_))
  .have h79 := z05 g78 h77
   refine .seq (.region (W.p1 (.int .i64 2) (.nil (.ret ?_))))
   obtain rfl := zAa h79
   exact z1q kr (v1 := (.int .i64 2)) (by rfl) rt O70 (zAe s52 s71) rfl
  have h80 := z0j g78 h77
  refine .skip (.seq (.region (W.p1 (.int .i64 0) (.nil (.ret ?_)))))
  obtain rfl := zAa h80
  exact z1q kr (v1 := (.int .i64 0)) (by rfl) rt O70 (zAe s52 s71) rfl
 refine .block (AW.loop (α := Nat) (fun k' σ' H' => ∃ (y1 : Int) (G' : GM), z0y K p0 k' y1 = some q4 /\ Ow G' H' (L) /\ GM.le G G' /\ σ' 3 = .int .i64 y1) (fun k' => k') K ⟨0, _, h5, O, (zAf _), rfl⟩ ?_)
 rintro k7
 rintro σ9 H10 fr11 ⟨x8, G12, h15, O13, s14, t16⟩
 rcases k7 with _ | k7
 .exact z07 h15
 rw [z0y] at h15
 refine .seq (.seq (.region (W.q2 _ t16 (W.q2 (.string p0) ((fr11 0 rfl).trans rfl) (W.pv (.int .i64 (p0.size : Int)) (z1h ov un9) (W.p3 (.bool (decide (x8 < (p0.size : Int)))) ?_))))))
 refine .nil (.cond (b := decide (x8 < (p0.size : Int))) rfl rfl (fun g17 => ?_) (fun g17 => ?_))
 rotate_left
 .have h46 := z0j g17 h15
  refine .exit ?_
  obtain rfl := zAa h46
  exact ⟨_, rfl, O13, s14⟩
 have h18 := z05 g17 h15
 refine .skip (.seq (.block (.seq ?_)))
 obtain ⟨q19, h20, h21⟩ := z01 h18
 refine AW.midT (fun σ' H' => ∃ (y1 : Bool) (G' : GM), y1 = q19 /\ Ow G' H' (L) /\ GM.le G12 G' /\ σ' 22 = .bool y1) ?_ ?_
 rotate_left
 .rintro σ33 H34 fr35 ⟨x32, G36, rfl, O37, s38, t40⟩
  have h41 := z09 h21
  refine .cond (b := x32) rfl t40 (fun g42 => ?_) (fun g42 => ?_)
  .have h43 := z05 g42 h41
   refine .seq (.region (W.p1 (.int .i64 5) (.nil (.ret ?_))))
   obtain rfl := zAa h43
   have h44 := z09 (z7t h6)
   obtain rfl := zAa h44
   exact z1q kr (v1 := (.int .i64 5)) (by rfl) rt O37 (zAe s14 s38) rfl
  have h45 := z0j g42 h41
  refine .skip (.region (W.q2 _ ((fr35 3 rfl).trans t16) (W.p3 (.int .i64 (z02 .i64 (x8 + 1))) (W.p1 (.int .i64 (z02 .i64 (x8 + 1))) (.nil ?_)))))
  exact ⟨k7, zAg _, ⟨z02 .i64 (x8 + 1), _, h45, O37, (zAe s14 s38), rfl⟩⟩
 refine .region (W.q2 (.string p0) ((fr11 0 rfl).trans rfl) (W.q2 _ t16 ?_))
 obtain ⟨x22, i23, h24⟩ := z01 h20
 refine W.pv (.int .u8 x22) (za5 un9 ov ov i23) (W.p3 (.bool (decide (x22 < 48))) (W.p2 (.bool (decide (x22 < 48))) (W.splitAt (t := 17) (b := decide (x22 < 48)) rfl (fun g25 gv26 => ?_) (fun g25 gv26 => ?_))))
 .have h27 := z05 g25 h24
  refine W.q6 rfl gv26 (W.q6 rfl gv26 (W.q6 rfl gv26 (W.q6 rfl gv26 (W.q4 (.bool true) gv26 rfl (.nil ?_)))))
  obtain rfl := zAa h27
  exact ⟨true, _, rfl, O13, (zAf _), rfl⟩
 have h28 := z0j g25 h24
 refine W.q2 (hg := gk rfl rfl gv26 rfl) (.string p0) ((fr11 0 rfl).trans rfl) (W.q2 (hg := gk rfl rfl gv26 rfl) _ t16 ?_)
 obtain ⟨x29, i30, h31⟩ := z01 h28
 refine W.pure (v := (.int .u8 x29)) (gk rfl rfl gv26 rfl) rfl (za5 un9 ov ov i30) (W.q3 (hg := gk rfl rfl gv26 rfl) (.bool (decide (x29 > 57))) rfl rfl (W.q5 (.bool (decide (x29 > 57))) gv26 rfl (.nil ?_)))
 obtain rfl := zAa h31
 exact ⟨decide (x29 > 57), _, rfl, O13, (zAf _), rfl⟩
def z4e (K : Nat) : Nat -> zAd -> Option (zAd)
  | 0, _ => none
  | k + 1, x5 => (Option.bind ((if (decide ((x5.size : Int) > 1)) = true then ((bidx x5 0).bind fun x20 => some (x20 == 48)) else some false)) (tu1 fun x24 => (if x24 = true then ((ssl x5 1 (x5.size : Int)).bind fun x36 => z4e K k x36) else some x5)))
def z5t (K : Nat) (p0 : zAd) : Option zAd := (Option.bind (z4e K K p0) (tu1 fun x40 => some x40))
theorem z6r (p0 : zAd) (O : Ow G H (L)) (r : zAd) (h : z5t K p0 = some r) :
    CR Tryz.prog 162 [(.string p0)] G H (L) (fun v G' _ => v = .string r) := by
 unfold z5t at h
 refine CR.og (n := 14) (fn := Tryz.f162) (by kernel_rfl) rfl rfl fun R kr => (.seq (.region (W.p1 (.string (⟨#[]⟩ : zAd)) (.nil (.seq ?_)))))
 obtain ⟨q1, h2, h3⟩ := z01 h
 refine AW.midT (fun σ' H' => ∃ (y1 : zAd) (G' : GM), y1 = q1 /\ Ow G' H' (L) /\ GM.le G G' /\ σ' 0 = .string y1) ?_ ?_
 rotate_left
 .rintro σ41 H42 fr43 ⟨x40, G44, rfl, O45, s46, t48⟩
  have h49 := z09 h3
  refine .seq (.region (W.q2 _ t48 (W.p1 (.string x40) (.nil (.ret ?_)))))
  obtain rfl := zAa h49
  exact z1q kr (v1 := (.string x40)) (by rfl) rt O45 s46 rfl
 refine .block (AW.loop (α := Nat) (fun k' σ' H' => ∃ (y1 : zAd) (G' : GM), z4e K k' y1 = some q1 /\ Ow G' H' (L) /\ GM.le G G' /\ σ' 0 = .string y1) (fun k' => k') K ⟨p0, _, h2, O, (zAf _), rfl⟩ ?_)
 rintro k4
 rintro σ6 H7 fr8 ⟨x5, G9, h12, O10, s11, t13⟩
 rcases k4 with _ | k4
 .exact z07 h12
 rw [z4e] at h12
 refine .seq (.seq ?_)
 obtain ⟨q14, h15, h16⟩ := z01 h12
 refine AW.midT (fun σ' H' => ∃ (y1 : Bool) (G' : GM), y1 = q14 /\ Ow G' H' (L) /\ GM.le G9 G' /\ σ' 10 = .bool y1) ?_ ?_
 rotate_left
 .rintro σ25 H26 fr27 ⟨x24, G28, rfl, O29, s30, t32⟩
  have h33 := z09 h16
  refine .cond (b := x24) rfl t32 (fun g34 => ?_) (fun g34 => ?_)
  rotate_left
  .have h39 := z0j g34 h33
   refine .exit ?_
   obtain rfl := zAa h39
   exact ⟨x5, _, rfl, O29, (zAe s11 s30), ((fr27 0 rfl).trans t13)⟩
  have h35 := z05 g34 h33
  refine .skip (.block (.region (W.q2 _ ((fr27 0 rfl).trans t13) ?_)))
  obtain ⟨x36, i37, h38⟩ := z01 h35
  refine W.pv (.string x36) (zdr un9 ov ov i37) (W.p1 (.string x36) (.nil ?_))
  exact ⟨k4, zAg _, ⟨x36, _, h38, O29, (zAe s11 s30), rfl⟩⟩
 refine .region (W.q2 _ t13 (W.pv (.int .i64 (x5.size : Int)) (z1h ov un9) (W.p3 (.bool (decide ((x5.size : Int) > 1))) (W.p2 (.bool (decide ((x5.size : Int) > 1))) (W.splitAt (t := 6) (b := decide ((x5.size : Int) > 1)) rfl (fun g17 gv18 => ?_) (fun g17 gv18 => ?_))))))
 rotate_left
 .have h23 := z0j g17 h15
  refine W.q6 rfl gv18 (W.q6 rfl gv18 (W.q6 rfl gv18 (W.q5 (.bool false) gv18 rfl (.nil ?_))))
  obtain rfl := zAa h23
  exact ⟨false, _, rfl, O10, (zAf _), rfl⟩
 have h19 := z05 g17 h15
 refine W.q2 (hg := gk rfl rfl gv18 rfl) _ t13 ?_
 obtain ⟨x20, i21, h22⟩ := z01 h19
 refine W.pure (v := (.int .u8 x20)) (gk rfl rfl gv18 rfl) rfl (za5 un9 ov ov i21) (W.q3 (hg := gk rfl rfl gv18 rfl) (.bool (x20 == 48)) rfl rfl (W.q4 (.bool (x20 == 48)) gv18 rfl (.nil ?_)))
 obtain rfl := zAa h22
 exact ⟨(x20 == 48), _, rfl, O10, (zAf _), rfl⟩
def z6f (K : Nat) (p0 : zAd) (p1 : zAd) : Option Int := (if (decide ((p0.size : Int) < (p1.size : Int))) = true then some (-1) else (if (decide ((p0.size : Int) > (p1.size : Int))) = true then some 1 else (if (sLt p0 p1) = true then some (-1) else (if (!(sLt p0 p1 || sEq p0 p1)) = true then some 1 else some 0))))
theorem z9a (p0 : zAd) (p1 : zAd) (O : Ow G H (L)) (r : Int) (h : z6f K p0 p1 = some r) :
    CR Tryz.prog 97 [(.string p0), (.string p1)] G H (L) (fun v G' _ => v = .int .i64 r) := by
 unfold z6f at h
 refine CR.og (n := 25) (fn := Tryz.f97) (by kernel_rfl) rfl rfl fun R kr => (.seq (.region (W.p1 (.int .i64 0) (.nil (.seq (.block ?_))))))
 refine .seq (.region (W.p2 (.string p0) (W.pv (.int .i64 (p0.size : Int)) (z1h ov un9) (W.p2 (.string p1) (W.pv (.int .i64 (p1.size : Int)) (z1h ov un9) (W.p3 (.bool (decide ((p0.size : Int) < (p1.size : Int)))) ?_))))))
 refine W.p1 (.bool (decide ((p0.size : Int) < (p1.size : Int)))) (.nil (.cond (b := decide ((p0.size : Int) < (p1.size : Int))) rfl rfl (fun g1 => ?_) (fun g1 => ?_)))
 .have h2 := z05 g1 h
  refine .seq (.region (W.p1 (.int .i64 (-1)) (.nil (.ret ?_))))
  obtain rfl := zAa h2
  exact z1q kr (v1 := (.int .i64 (-1))) (by rfl) rt O (zAf _) rfl
 have h3 := z0j g1 h
 refine .seq (.region (W.p2 (.string p0) (W.pv (.int .i64 (p0.size : Int)) (z1h ov un9) (W.p2 (.string p1) (W.pv (.int .i64 (p1.size : Int)) (z1h ov un9) (W.p3 (.bool (decide ((p0.size : Int) > (p1.size : Int)))) ?_))))))
 refine W.p1 (.bool (decide ((p0.size : Int) > (p1.size : Int)))) (.nil (.cond (b := decide ((p0.size : Int) > (p1.size : Int))) rfl rfl (fun g4 => ?_) (fun g4 => ?_)))
 .have h5 := z05 g4 h3
  refine .seq (.region (W.p1 (.int .i64 1) (.nil (.ret ?_))))
  obtain rfl := zAa h5
  exact z1q kr (v1 := (.int .i64 1)) (by rfl) rt O (zAf _) rfl
 have h6 := z0j g4 h3
 refine .seq (.region (W.p2 (.string p0) (W.p2 (.string p1) (W.pv (.bool (sLt p0 p1)) (zp7 ov ov) (W.p1 (.bool (sLt p0 p1)) (.nil ?_))))))
 refine .cond (b := sLt p0 p1) rfl rfl (fun g7 => ?_) (fun g7 => ?_)
 .have h8 := z05 g7 h6
  refine .seq (.region (W.p1 (.int .i64 (-1)) (.nil (.ret ?_))))
  obtain rfl := zAa h8
  exact z1q kr (v1 := (.int .i64 (-1))) (by rfl) rt O (zAf _) rfl
 have h9 := z0j g7 h6
 refine .seq (.region (W.p2 (.string p0) (W.p2 (.string p1) (W.pv (.bool (!(sLt p0 p1 || sEq p0 p1))) (zp8 ov ov) (W.p1 (.bool (!(sLt p0 p1 || sEq p0 p1))) (.nil ?_))))))
 refine .cond (b := (!(sLt p0 p1 || sEq p0 p1))) rfl rfl (fun g10 => ?_) (fun g10 => ?_)
 .have h11 := z05 g10 h9
  refine .seq (.region (W.p1 (.int .i64 1) (.nil (.ret ?_))))
  obtain rfl := zAa h11
  exact z1q kr (v1 := (.int .i64 1)) (by rfl) rt O (zAf _) rfl
 have h12 := z0j g10 h9
 refine .skip (.seq (.region (W.p1 (.int .i64 0) (.nil (.ret ?_)))))
 obtain rfl := zAa h12
 exact z1q kr (v1 := (.int .i64 0)) (by rfl) rt O (zAf _) rfl
def z4k (K : Nat) (p0 : zAd) (p1 : Int) : Option Int := (if (decide (p1 < (p0.size : Int))) = true then ((bidx p0 (z02 .i64 ((z02 .i64 ((p0.size : Int) - 1)) - p1))).bind fun x3 => some (IntKind.wrap .i64 (z02 .u8 (x3 - 48)))) else some 0)
theorem z4f (p0 : zAd) (p1 : Int) (O : Ow G H (L)) (r : Int) (h : z4k K p0 p1 = some r) :
    CR Tryz.prog 149 [(.string p0), (.int .i64 p1)] G H (L) (fun v G' _ => v = .int .i64 r) := by
 unfold z4k at h
 refine CR.og (n := 18) (fn := Tryz.f149) (by kernel_rfl) rfl rfl fun R kr => (.seq (.region (W.p1 (.int .i64 0) (.nil (.seq (.seq ?_))))))
 refine .region (W.p2 (.int .i64 p1) (W.p2 (.string p0) (W.pv (.int .i64 (p0.size : Int)) (z1h ov un9) (W.p3 (.bool (decide (p1 < (p0.size : Int)))) (.nil (.cond (b := decide (p1 < (p0.size : Int))) rfl rfl (fun g1 => ?_) (fun g1 => ?_)))))))
 rotate_left
 .have h6 := z0j g1 h
  refine .skip (.seq (.region (W.p1 (.int .i64 0) (.nil (.ret ?_)))))
  obtain rfl := zAa h6
  exact z1q kr (v1 := (.int .i64 0)) (by rfl) rt O (zAf _) rfl
 have h2 := z05 g1 h
 refine .seq (.region (W.p2 (.string p0) (W.p2 (.string p0) (W.pv (.int .i64 (p0.size : Int)) (z1h ov un9) (W.p3 (.int .i64 (z02 .i64 ((p0.size : Int) - 1))) (W.p2 (.int .i64 p1) ?_))))))
 refine W.p3 (.int .i64 (z02 .i64 ((z02 .i64 ((p0.size : Int) - 1)) - p1))) ?_
 obtain ⟨x3, i4, h5⟩ := z01 h2
 refine W.pv (.int .u8 x3) (za5 un9 ov ov i4) (W.p3 (.int .u8 (z02 .u8 (x3 - 48))) (W.pv (.int .i64 (IntKind.wrap .i64 (z02 .u8 (x3 - 48)))) (z3n in5 in3 ov) (W.p1 (.int .i64 (IntKind.wrap .i64 (z02 .u8 (x3 - 48)))) (.nil (.ret ?_)))))
 obtain rfl := zAa h5
 exact z1q kr (v1 := (.int .i64 (IntKind.wrap .i64 (z02 .u8 (x3 - 48))))) (by rfl) rt O (zAf _) rfl
def z2n (K : Nat) (p0 : List Int) : Nat -> List Int -> Int -> Option (List Int)
  | 0, _, _ => none
  | k + 1, x11, x12 => (if (decide (x12 < (p0.length : Int))) = true then ((idx p0 x12).bind fun x23 => ((idx x11 (z02 .i64 ((z02 .i64 ((p0.length : Int) - 1)) - x12))).bind fun x27 => z2n K p0 k (List.set x11 (Int.toNat (z02 .i64 ((z02 .i64 ((p0.length : Int) - 1)) - x12))) (IntKind.wrap .u8 (z02 .i64 ((48 : Int) + x23)))) (z02 .i64 (x12 + 1)))) else some x11)
def z85 (K : Nat) (p0 : List Int) : Option zAd := (if 0 <= (p0.length : Int) /\ (p0.length : Int) <= (p0.length : Int) /\ (p0.length : Int) <= 16777216 then (Option.bind (z2n K p0 K (List.replicate (Int.toNat (p0.length : Int)) 0) 0) (tu1 fun x36 => (if 0 < x36.length then (if ((⟨#[48]⟩ : zAd)).size + ((strOfNums x36)).size <= 4611686018427387904 then ((z5t K ((⟨#[48]⟩ : zAd) ++ (strOfNums x36))).bind fun x52 => some x52) else none) else none))) else none)
theorem z93 (v0 : Value) (p0 : List Int) (hp0 : (rSl (rI .i64)).rep G [v0] p0) (O : Ow G H (L)) (r : zAd) (h : z85 K p0 = some r) :
    CR Tryz.prog 150 [v0] G H (L) (fun v G' _ => v = .string r) := by
 unfold z85 at h
 refine CR.og (n := 31) (fn := Tryz.f150) (by kernel_rfl) rfl rfl fun R kr => (.seq (.region (W.p1 (.string (⟨#[]⟩ : zAd)) (.nil (.seq (.region ?_))))))
 refine W.p2 v0 (W.pv (.int .i64 (p0.length : Int)) (z0i ov (z0c hp0) (z04 z78)) ?_)
 obtain ⟨g2, h3⟩ := z2l h
 refine W.ln (Lo.makeSlice (r := (rI .u8)) (x0 := 0) (a := (p0.length : Int)) (c := (p0.length : Int)) rfl zjn ze5 sz5 (by kernel_rfl) rfl by5 (by decide) rfl rfl g2 (zI .u8) O) ?_
 rintro v5 H6 ⟨O1, sm4⟩
 refine W.p1 v5 (.nil (.seq (.seq (.region (W.p2 v0 (W.pv (.int .i64 (p0.length : Int)) (z0i ov (z0c hp0) (z04 z78)) ?_))))))
 refine W.p2 (.int .i64 0) (.nil ?_)
 obtain ⟨q7, h8, h9⟩ := z01 h3
 refine AW.midT (fun σ' H' => ∃ (y1 : List Int) (G' : GM), y1 = q7 /\ Ow G' H' (eSl v5 5 (rI .u8) y1 :: L) /\ GM.le G G') ?_ ?_
 rotate_left
 .rintro σ37 H38 fr39 ⟨x36, G40, rfl, O41, s42⟩
  have h44 := z09 h9
  refine .seq (.region (W.q2 v5 ((fr39 3 rfl).trans rfl) ?_))
  obtain ⟨es45, e46, e47⟩ := z4p (j := 0) rfl O41
  obtain ⟨g48, h49⟩ := z2l h44
  refine W.bytesStr rfl rfl zjn in5 un9 e46 e47 g48 ?_
  obtain ⟨g50, h51⟩ := z2l h49
  refine W.pv (.string ((⟨#[48]⟩ : zAd) ++ (strOfNums x36))) (zdq g50 ov ov) ?_
  obtain ⟨x52, i53, h54⟩ := z01 h51
  refine W.ln (Lo.cP rfl (fn := Tryz.f162) (by kernel_rfl) rfl (mc rfl mn) O41 (fun L' O' => z6r K ((⟨#[48]⟩ : zAd) ++ (strOfNums x36)) O' _ i53)) ?_
  rintro v61 H62 ⟨G55, O56, s57, sm60, rfl⟩
  refine W.p1 (.string x52) (.nil (.ret ?_))
  have O63 := O56.drop 0
  obtain rfl := zAa h54
  exact z1q kr (v1 := (.string x52)) (by rfl) rt O63 (zAe s42 s57) rfl
 refine .block (AW.loop (α := Nat) (fun k' σ' H' => ∃ (y1 : List Int) (y2 : Int) (G' : GM), z2n K p0 k' y1 y2 = some q7 /\ Ow G' H' (eSl v5 5 (rI .u8) y1 :: L) /\ GM.le G G' /\ σ' 11 = .int .i64 y2) (fun k' => k') K ⟨(List.replicate (Int.toNat (p0.length : Int)) 0), 0, _, h8, O1, (zAf _), rfl⟩ ?_)
 rintro k10
 rintro σ13 H14 fr15 ⟨x11, x12, G16, h19, O17, s18, t20⟩
 rcases k10 with _ | k10
 .exact z07 h19
 rw [z2n] at h19
 refine .seq (.region (W.q3 (.bool (decide (x12 < (p0.length : Int)))) t20 ((fr15 10 rfl).trans rfl) (.nil (.seq (.cond (b := decide (x12 < (p0.length : Int))) rfl rfl (fun g21 => ?_) (fun g21 => ?_))))))
 rotate_left
 .have h35 := z0j g21 h19
  refine .exit ?_
  obtain rfl := zAa h35
  exact ⟨x11, _, rfl, O17, s18⟩
 have h22 := z05 g21 h19
 refine .skip (.seq (.block (.seq (.region (W.q2 _ t20 ?_)))))
 obtain ⟨x23, i24, h25⟩ := z01 h22
 have j26 := z0a i24
 refine W.pv (z1m v0 (x12.toNat * 1)) (z2e z78 sz3 (ou ((fr15 9 rfl).trans rfl)) (ou t20) (z0c (RT.mono _ s18 hp0)) j26.1 j26.2.1) (W.load1 (v := (.int .i64 x23)) (r := []) rfl rfl ag3 (z0t rfl (At.int (At.le (At.le (z2f hp0 j26.2.2) s18 s18) (zAf _) O17.fro))) (W.p1 (.int .i64 x12) (W.p1 (.int .i64 x23) (.nil (.region (W.q2 v5 ((fr15 3 rfl).trans rfl) ?_))))))
 refine W.q2 v0 ((fr15 0 rfl).trans rfl) (W.pv (.int .i64 (p0.length : Int)) (z0i ov (z0c (RT.mono _ s18 hp0)) (z04 z78)) (W.p3 (.int .i64 (z02 .i64 ((p0.length : Int) - 1))) (W.p2 (.int .i64 x12) (W.p3 (.int .i64 (z02 .i64 ((z02 .i64 ((p0.length : Int) - 1)) - x12))) (W.p2 (.int .i64 x23) (W.p3 (.int .i64 (z02 .i64 ((48 : Int) + x23))) ?_))))))
 refine W.pv (.int .u8 (IntKind.wrap .u8 (z02 .i64 ((48 : Int) + x23)))) (z3n in3 in5 ov) ?_
 obtain ⟨x27, i28, h29⟩ := z01 h25
 have j30 := z0a i28
 refine W.pv (z1m v5 (Int.toNat (z02 .i64 ((z02 .i64 ((p0.length : Int) - 1)) - x12)) * 1)) (z2e zjn sz5 ov ov (O17.slLen (j := 0) rfl) j30.1 j30.2.1) (W.ln (Lo.storeSl0 (j := 0) (y0 := IntKind.wrap .u8 (z02 .i64 ((48 : Int) + x23))) (v := (.int .u8 (IntKind.wrap .u8 (z02 .i64 ((48 : Int) + x23))))) rfl j30.2.2  rfl sz5 rfl rfl rfl O17) ?_)
 rintro v33 H34 ⟨O31, sm32⟩
 refine .nil (.region (W.r3 (.int .i64 (z02 .i64 (x12 + 1))) t20 (W.p2 (.int .i64 (z02 .i64 (x12 + 1))) (.nil ?_))))
 exact ⟨k10, zAg _, ⟨(List.set x11 (Int.toNat (z02 .i64 ((z02 .i64 ((p0.length : Int) - 1)) - x12))) (IntKind.wrap .u8 (z02 .i64 ((48 : Int) + x23)))), z02 .i64 (x12 + 1), _, h29, O31, s18, rfl⟩⟩
def z20 (K : Nat) (p0 : zAd) (p1 : zAd) : Nat -> List Int -> Int -> Int -> Option (List Int)
  | 0, _, _, _ => none
  | k + 1, x6, x7, x8 => (if (decide (x8 < (p0.size : Int))) = true then ((z4k K p0 x8).bind fun x20 => ((z4k K p1 x8).bind fun x31 => (Option.bind ((if (decide ((z02 .i64 ((z02 .i64 (x20 - x31)) - x7)) < 0)) = true then (lt (z02 .i64 ((z02 .i64 ((z02 .i64 (x20 - x31)) - x7)) + 10)) fun x47 => some (1, x47)) else some (0, z02 .i64 ((z02 .i64 (x20 - x31)) - x7)))) (tu2 fun x51 x52 => (if x6.length + List.length [x52] <= 16777216 then z20 K p0 p1 k (x6 ++ [x52]) x51 (z02 .i64 (x8 + 1)) else none))))) else some x6)
def z6g (K : Nat) (p0 : zAd) (p1 : zAd) : Option zAd := (Option.bind (z20 K p0 p1 K [] 0 0) (tu1 fun x78 => ((z85 K x78).bind fun x87 => some x87)))
theorem z9b (p0 : zAd) (p1 : zAd) (O : Ow G H (L)) (r : zAd) (h : z6g K p0 p1 = some r) :
    CR Tryz.prog 98 [(.string p0), (.string p1)] G H (L) (fun v G' _ => v = .string r) := by
 unfold z6g at h
 refine CR.og (n := 34) (fn := Tryz.f98) (by kernel_rfl) rfl rfl fun R kr => (.seq (.region (W.p1 (.string (⟨#[]⟩ : zAd)) (.nil (.seq (.region ?_))))))
 refine W.p1 (.slice none 0 0) (.nil (.seq (.region (W.p1 (.int .i64 0) (.nil (.seq ?_))))))
 refine .seq (.region (W.p2 (.string p0) (W.pv (.int .i64 (p0.size : Int)) (z1h ov un9) (W.p2 (.int .i64 0) (.nil ?_)))))
 obtain ⟨q1, h2, h3⟩ := z01 h
 refine AW.midT (fun σ' H' => ∃ (y1 : List Int) (G' : GM), y1 = q1 /\ Ow G' H' (eSl (σ' 5) 3 (rI .i64) y1 :: L) /\ GM.le G G') ?_ ?_
 rotate_left
 .rintro σ79 H80 fr81 ⟨x78, G82, rfl, O83, s84⟩
  have h86 := z09 h3
  refine .seq (.region (W.p2 (σ79 5) ?_))
  obtain ⟨x87, i88, h89⟩ := z01 h86
  refine W.ln (Lo.callB (j := 0) rfl rfl (fn := Tryz.f150) (by kernel_rfl) rfl (mc rfl mn) O83 (fun G' L' hG O' hB => z93 K (σ79 5) x78 hB O' _ i88)) ?_
  rintro v96 H97 ⟨G90, O91, s92, sm95, rfl⟩
  refine W.p1 (.string x87) (.nil (.ret ?_))
  have O98 := O91.drop 0
  obtain rfl := zAa h89
  exact z1q kr (v1 := (.string x87)) (by rfl) rt O98 (zAe s84 s92) rfl
 refine .block ?_
 have O4 := O.nilSl 3 (rI .i64)
 refine AW.loop (α := Nat) (fun k' σ' H' => ∃ (y1 : List Int) (y2 : Int) (y3 : Int) (G' : GM), z20 K p0 p1 k' y1 y2 y3 = some q1 /\ Ow G' H' (eSl (σ' 5) 3 (rI .i64) y1 :: L) /\ GM.le G G' /\ σ' 6 = .int .i64 y2 /\ σ' 11 = .int .i64 y3) (fun k' => k') K ⟨[], 0, 0, _, h2, O4, (zAf _), rfl, rfl⟩ ?_
 rintro k5
 rintro σ9 H10 fr11 ⟨x6, x7, x8, G12, h15, O13, s14, t16, t17⟩
 rcases k5 with _ | k5
 .exact z07 h15
 rw [z20] at h15
 refine .seq (.region (W.q3 (.bool (decide (x8 < (p0.size : Int)))) t17 ((fr11 10 rfl).trans rfl) (.nil (.seq (.cond (b := decide (x8 < (p0.size : Int))) rfl rfl (fun g18 => ?_) (fun g18 => ?_))))))
 rotate_left
 .have h77 := z0j g18 h15
  refine .exit ?_
  obtain rfl := zAa h77
  exact ⟨x6, _, rfl, O13, s14⟩
 have h19 := z05 g18 h15
 refine .skip (.seq (.block (.seq (.region (W.q2 _ t17 (W.p1 (.int .i64 x8) ?_))))))
 refine .nil (.seq (.region (W.q2 (.string p0) ((fr11 0 rfl).trans rfl) (W.p2 (.int .i64 x8) ?_))))
 obtain ⟨x20, i21, h22⟩ := z01 h19
 refine W.ln (Lo.cP rfl (fn := Tryz.f149) (by kernel_rfl) rfl (mc rfl (mc rfl mn)) O13 (fun L' O' => z4f K p0 x8 O' _ i21)) ?_
 rintro v29 H30 ⟨G23, O24, s25, sm28, rfl⟩
 refine W.q2 (.string p1) ((fr11 1 rfl).trans rfl) (W.p2 (.int .i64 x8) ?_)
 obtain ⟨x31, i32, h33⟩ := z01 h22
 refine W.ln (Lo.cP rfl (fn := Tryz.f149) (by kernel_rfl) rfl (mc rfl (mc rfl mn)) O24 (fun L' O' => z4f K p1 x8 O' _ i32)) ?_
 rintro v40 H41 ⟨G34, O35, s36, sm39, rfl⟩
 refine W.p3 (.int .i64 (z02 .i64 (x20 - x31))) (W.q2 _ t16 (W.p3 (.int .i64 (z02 .i64 ((z02 .i64 (x20 - x31)) - x7))) (W.p1 (.int .i64 (z02 .i64 ((z02 .i64 (x20 - x31)) - x7))) (.nil (.seq (.region ?_))))))
 refine W.p1 (.int .i64 0) (.nil (.seq (.seq (.region (W.p2 (.int .i64 (z02 .i64 ((z02 .i64 (x20 - x31)) - x7))) (W.p3 (.bool (decide ((z02 .i64 ((z02 .i64 (x20 - x31)) - x7)) < 0))) ?_))))))
 refine .nil ?_
 obtain ⟨q42, h43, h44⟩ := z01 h33
 refine AW.midT (fun σ' H' => ∃ (y1 : Int) (y2 : Int) (G' : GM), (y1, y2) = q42 /\ Ow G' H' (eSl (σ9 5) 3 (rI .i64) x6 :: L) /\ GM.le G34 G' /\ σ' 6 = .int .i64 y1 /\ σ' 8 = .int .i64 y2) ?_ ?_
 .refine .cond (b := decide ((z02 .i64 ((z02 .i64 (x20 - x31)) - x7)) < 0)) rfl rfl (fun g45 => ?_) (fun g45 => ?_)
  rotate_left
  .have h50 := z0j g45 h43
   refine .skip ?_
   obtain rfl := zAa h50
   exact ⟨0, z02 .i64 ((z02 .i64 (x20 - x31)) - x7), _, rfl, O35, (zAf _), rfl, rfl⟩
  have h46 := z05 g45 h43
  refine .region (W.p2 (.int .i64 (z02 .i64 ((z02 .i64 (x20 - x31)) - x7))) (W.p3 (.int .i64 (z02 .i64 ((z02 .i64 ((z02 .i64 (x20 - x31)) - x7)) + 10))) ?_))
  obtain ⟨x47, e48, h49⟩ := z67 h46
  refine W.q1 _ (congrArg (Value.int .i64) e48) (W.p1 (.int .i64 1) (.nil ?_))
  obtain rfl := zAa h49
  exact ⟨1, x47, _, rfl, O35, (zAf _), rfl, rfl⟩
 rintro σ53 H54 fr55 ⟨x51, x52, G56, rfl, O57, s58, t60, t61⟩
 have h62 := z52 h44
 refine .region (W.q2 (σ9 5) ((fr55 5 rfl).trans rfl) (W.q2 _ t61 (W.ln (Lo.buildSlice (r := (rI .i64)) (vs := [(.int .i64 x52)]) (xs := [x52]) z78 ze3 sz3 (by kernel_rfl) rfl (qc rfl qn) rfl (.cons rfl .nil) O57) ?_)))
 rintro v65 H66 ⟨O63, sm64⟩
 obtain ⟨es68, e69, e70⟩ := z4p (j := 0) rfl O63
 obtain ⟨g71, h72⟩ := z2l h62
 refine W.ln (Lo.append (j := 1) (v := (σ9 5)) rfl rfl z78 zn3 ze3 sz3 by3 (by decide) (by decide) rfl e69 e70 g71 O63) ?_
 rintro v74 H75 ⟨O67, sm73⟩
 refine W.p1 v74 (.nil (.region (W.q3 (.int .i64 (z02 .i64 (x8 + 1))) ((fr55 11 rfl).trans t17) rfl (W.p2 (.int .i64 (z02 .i64 (x8 + 1))) (.nil ?_)))))
 have O76 := O67.drop 0
 exact ⟨k5, zAg _, ⟨(x6 ++ [x52]), x51, z02 .i64 (x8 + 1), _, h72, O76, (zAe s14 (zAe s25 (zAe s36 s58))), t60, rfl⟩⟩
def z2p (K : Nat) (p1 : zAd) : Nat -> zAd -> Int -> Option (zAd × Int)
  | 0, _, _ => none
  | k + 1, x56, x57 => ((z6f K x56 p1).bind fun x67 => (if (decide (x67 >= 0)) = true then ((z6g K x56 p1).bind fun x80 => z2p K p1 k x80 (z02 .u8 (x57 + 1))) else some (x56, x57)))
def z2q (K : Nat) (p0 : zAd) (p1 : zAd) : Nat -> zAd -> zAd -> Int -> Option (zAd × zAd)
  | 0, _, _, _ => none
  | k + 1, x21, x22, x23 => (if (decide (x23 < (p0.size : Int))) = true then ((ssl p0 x23 (z02 .i64 (x23 + 1))).bind fun x36 => (if (x22).size + (x36).size <= 4611686018427387904 then ((z5t K (x22 ++ x36)).bind fun x41 => (Option.bind (z2p K p1 K x41 48) (tu2 fun x92 x93 => (if (x21).size + ((Utf8.encode x93)).size <= 4611686018427387904 then z2q K p0 p1 k (x21 ++ (Utf8.encode x93)) x92 (z02 .i64 (x23 + 1)) else none)))) else none)) else some (x21, x22))
def z5l (K : Nat) (p0 : zAd) (p1 : zAd) : Option (zAd × zAd) := ((ssl p0 0 (imin (p0.size : Int) (z02 .i64 ((p1.size : Int) - 1)))).bind fun x1 => (if ((⟨#[48]⟩ : zAd)).size + (x1).size <= 4611686018427387904 then ((z5t K ((⟨#[48]⟩ : zAd) ++ x1)).bind fun x6 => (Option.bind (z2q K p0 p1 K (⟨#[48]⟩ : zAd) x6 (imin (p0.size : Int) (z02 .i64 ((p1.size : Int) - 1)))) (tu2 fun x107 x108 => ((z5t K x107).bind fun x119 => some (x119, x108))))) else none))
theorem z7e (p0 : zAd) (p1 : zAd) (O : Ow G H (L)) (r : zAd × zAd) (h : z5l K p0 p1 = some r) :
    CR Tryz.prog 129 [(.string p0), (.string p1)] G H (L) (fun v G' _ => v = .tuple #[.string r.1, .string r.2]) := by
 unfold z5l at h
 refine CR.og (n := 53) (fn := Tryz.f129) (by kernel_rfl) rfl rfl fun R kr => (.seq (.region (W.p1 (.string (⟨#[]⟩ : zAd)) (W.p1 (.string (⟨#[]⟩ : zAd)) (.nil (.seq ?_))))))
 refine .region (W.p2 (.string p0) (W.pv (.int .i64 (p0.size : Int)) (z1h ov un9) (W.p2 (.string p1) (W.pv (.int .i64 (p1.size : Int)) (z1h ov un9) (W.p3 (.int .i64 (z02 .i64 ((p1.size : Int) - 1))) (W.pv (.int .i64 (imin (p0.size : Int) (z02 .i64 ((p1.size : Int) - 1)))) (zmz ov ov) ?_))))))
 refine W.p1 (.int .i64 (imin (p0.size : Int) (z02 .i64 ((p1.size : Int) - 1)))) (.nil (.seq (.region (W.p2 (.string p0) (W.p2 (.int .i64 (imin (p0.size : Int) (z02 .i64 ((p1.size : Int) - 1)))) ?_)))))
 obtain ⟨x1, i2, h3⟩ := z01 h
 refine W.pv (.string x1) (zha un9 ov ov i2) ?_
 obtain ⟨g4, h5⟩ := z2l h3
 refine W.pv (.string ((⟨#[48]⟩ : zAd) ++ x1)) (zdq g4 ov ov) ?_
 obtain ⟨x6, i7, h8⟩ := z01 h5
 refine W.ln (Lo.cP rfl (fn := Tryz.f162) (by kernel_rfl) rfl (mc rfl mn) O (fun L' O' => z6r K ((⟨#[48]⟩ : zAd) ++ x1) O' _ i7)) ?_
 rintro v15 H16 ⟨G9, O10, s11, sm14, rfl⟩
 refine W.p1 (.string (⟨#[48]⟩ : zAd)) (W.p1 (.string x6) (.nil (.seq (.seq (.region (W.p2 (.int .i64 (imin (p0.size : Int) (z02 .i64 ((p1.size : Int) - 1)))) ?_))))))
 refine W.p1 (.int .i64 (imin (p0.size : Int) (z02 .i64 ((p1.size : Int) - 1)))) (.nil ?_)
 obtain ⟨q17, h18, h19⟩ := z01 h8
 refine AW.midT (fun σ' H' => ∃ (y1 : zAd) (y2 : zAd) (G' : GM), (y1, y2) = q17 /\ Ow G' H' (L) /\ GM.le G9 G' /\ σ' 7 = .string y1 /\ σ' 8 = .string y2) ?_ ?_
 rotate_left
 .rintro σ109 H110 fr111 ⟨x107, x108, G112, rfl, O113, s114, t116, t117⟩
  have h118 := z52 h19
  refine .seq (.region (W.q2 _ t116 ?_))
  obtain ⟨x119, i120, h121⟩ := z01 h118
  refine W.ln (Lo.cP rfl (fn := Tryz.f162) (by kernel_rfl) rfl (mc rfl mn) O113 (fun L' O' => z6r K x107 O' _ i120)) ?_
  rintro v128 H129 ⟨G122, O123, s124, sm127, rfl⟩
  refine W.q2 _ t117 (W.p1 (.string x119) (W.p1 (.string x108) (.nil (.ret ?_))))
  obtain rfl := zAa h121
  exact ziw kr (v1 := (.string x119)) (v2 := (.string x108)) (by rfl) rt rt O123 (zAe s11 (zAe s114 s124)) rfl
 refine .block (AW.loop (α := Nat) (fun k' σ' H' => ∃ (y1 : zAd) (y2 : zAd) (y3 : Int) (G' : GM), z2q K p0 p1 k' y1 y2 y3 = some q17 /\ Ow G' H' (L) /\ GM.le G9 G' /\ σ' 7 = .string y1 /\ σ' 8 = .string y2 /\ σ' 9 = .int .i64 y3) (fun k' => k') K ⟨(⟨#[48]⟩ : zAd), x6, imin (p0.size : Int) (z02 .i64 ((p1.size : Int) - 1)), _, h18, O10, (zAf _), rfl, rfl, rfl⟩ ?_)
 rintro k20
 rintro σ24 H25 fr26 ⟨x21, x22, x23, G27, h30, O28, s29, t31, t32, t33⟩
 rcases k20 with _ | k20
 .exact z07 h30
 rw [z2q] at h30
 refine .seq (.seq (.region (W.q2 _ t33 (W.q2 (.string p0) ((fr26 0 rfl).trans rfl) (W.pv (.int .i64 (p0.size : Int)) (z1h ov un9) (W.p3 (.bool (decide (x23 < (p0.size : Int)))) ?_))))))
 refine .nil (.cond (b := decide (x23 < (p0.size : Int))) rfl rfl (fun g34 => ?_) (fun g34 => ?_))
 rotate_left
 .have h106 := z0j g34 h30
  refine .exit ?_
  obtain rfl := zAa h106
  exact ⟨x21, x22, _, rfl, O28, s29, t31, t32⟩
 have h35 := z05 g34 h30
 refine .skip (.seq (.block (.seq (.region (W.q2 _ t32 (W.q2 (.string p0) ((fr26 0 rfl).trans rfl) ?_))))))
 refine W.q2 _ t33 (W.q2 _ t33 (W.p3 (.int .i64 (z02 .i64 (x23 + 1))) ?_))
 obtain ⟨x36, i37, h38⟩ := z01 h35
 refine W.pv (.string x36) (zkt un9 ov ov ov i37) ?_
 obtain ⟨g39, h40⟩ := z2l h38
 refine W.pv (.string (x22 ++ x36)) (zdq g39 ov ov) ?_
 obtain ⟨x41, i42, h43⟩ := z01 h40
 refine W.ln (Lo.cP rfl (fn := Tryz.f162) (by kernel_rfl) rfl (mc rfl mn) O28 (fun L' O' => z6r K (x22 ++ x36) O' _ i42)) ?_
 rintro v50 H51 ⟨G44, O45, s46, sm49, rfl⟩
 refine W.p1 (.string x41) (.nil (.seq (.region (W.p1 (.int .u8 48) (.nil (.seq ?_))))))
 obtain ⟨q52, h53, h54⟩ := z01 h43
 refine AW.midT (fun σ' H' => ∃ (y1 : zAd) (y2 : Int) (G' : GM), (y1, y2) = q52 /\ Ow G' H' (L) /\ GM.le G44 G' /\ σ' 8 = .string y1 /\ σ' 10 = .int .u8 y2) ?_ ?_
 rotate_left
 .rintro σ94 H95 fr96 ⟨x92, x93, G97, rfl, O98, s99, t101, t102⟩
  have h103 := z52 h54
  refine .region (W.q2 _ ((fr96 7 rfl).trans t31) (W.q2 _ t102 (W.pv (.string (Utf8.encode x93)) (zlr in5 un9 ov) ?_)))
  obtain ⟨g104, h105⟩ := z2l h103
  refine W.pv (.string (x21 ++ (Utf8.encode x93))) (zdq g104 ov ov) (W.p1 (.string (x21 ++ (Utf8.encode x93))) (.nil (.region (W.q2 _ ((fr96 9 rfl).trans t33) (W.p3 (.int .i64 (z02 .i64 (x23 + 1))) (W.p1 (.int .i64 (z02 .i64 (x23 + 1))) ?_))))))
  refine .nil ?_
  exact ⟨k20, zAg _, ⟨(x21 ++ (Utf8.encode x93)), x92, z02 .i64 (x23 + 1), _, h105, O98, (zAe s29 (zAe s46 s99)), rfl, t101, rfl⟩⟩
 refine .block (AW.loop (α := Nat) (fun k' σ' H' => ∃ (y1 : zAd) (y2 : Int) (G' : GM), z2p K p1 k' y1 y2 = some q52 /\ Ow G' H' (L) /\ GM.le G44 G' /\ σ' 8 = .string y1 /\ σ' 10 = .int .u8 y2) (fun k' => k') K ⟨x41, 48, _, h53, O45, (zAf _), rfl, rfl⟩ ?_)
 rintro k55
 rintro σ58 H59 fr60 ⟨x56, x57, G61, h64, O62, s63, t65, t66⟩
 rcases k55 with _ | k55
 .exact z07 h64
 rw [z2p] at h64
 refine .seq (.seq (.region (W.q2 _ t65 (W.q2 (.string p1) ((fr60 1 rfl).trans ((fr26 1 rfl).trans rfl)) ?_))))
 obtain ⟨x67, i68, h69⟩ := z01 h64
 refine W.ln (Lo.cP rfl (fn := Tryz.f97) (by kernel_rfl) rfl (mc rfl (mc rfl mn)) O62 (fun L' O' => z9a K x56 p1 O' _ i68)) ?_
 rintro v76 H77 ⟨G70, O71, s72, sm75, rfl⟩
 refine W.p3 (.bool (decide (x67 >= 0))) (.nil (.cond (b := decide (x67 >= 0)) rfl rfl (fun g78 => ?_) (fun g78 => ?_)))
 rotate_left
 .have h91 := z0j g78 h69
  refine .exit ?_
  obtain rfl := zAa h91
  exact ⟨x56, x57, _, rfl, O71, (zAe s63 s72), t65, t66⟩
 have h79 := z05 g78 h69
 refine .skip (.block (.seq (.region (W.q2 _ t65 (W.q2 (.string p1) ((fr60 1 rfl).trans ((fr26 1 rfl).trans rfl)) ?_)))))
 obtain ⟨x80, i81, h82⟩ := z01 h79
 refine W.ln (Lo.cP rfl (fn := Tryz.f98) (by kernel_rfl) rfl (mc rfl (mc rfl mn)) O71 (fun L' O' => z9b K x56 p1 O' _ i81)) ?_
 rintro v89 H90 ⟨G83, O84, s85, sm88, rfl⟩
 refine W.p1 (.string x80) (.nil (.region (W.q2 _ t66 (W.p3 (.int .u8 (z02 .u8 (x57 + 1))) (W.p1 (.int .u8 (z02 .u8 (x57 + 1))) (.nil ?_))))))
 exact ⟨k55, zAg _, ⟨x80, z02 .u8 (x57 + 1), _, h82, O84, (zAe s63 (zAe s72 s85)), rfl, rfl⟩⟩
def z19 (K : Nat) : Nat -> zAd -> zAd -> Option (zAd)
  | 0, _, _ => none
  | k + 1, x5, x6 => (if (!(sEq x6 (⟨#[48]⟩ : zAd))) = true then ((z5l K x5 x6).bind fun x18 => z19 K k x6 x18.2) else some x5)
def z6h (K : Nat) (p0 : zAd) (p1 : zAd) : Option zAd := (Option.bind (z19 K K p0 p1) (tu1 fun x30 => some x30))
theorem z9c (p0 : zAd) (p1 : zAd) (O : Ow G H (L)) (r : zAd) (h : z6h K p0 p1 = some r) :
    CR Tryz.prog 60 [(.string p0), (.string p1)] G H (L) (fun v G' _ => v = .string r) := by
 unfold z6h at h
 refine CR.og (n := 18) (fn := Tryz.f60) (by kernel_rfl) rfl rfl fun R kr => (.seq (.region (W.p1 (.string (⟨#[]⟩ : zAd)) (.nil (.seq ?_)))))
 obtain ⟨q1, h2, h3⟩ := z01 h
 refine AW.midT (fun σ' H' => ∃ (y1 : zAd) (G' : GM), y1 = q1 /\ Ow G' H' (L) /\ GM.le G G' /\ σ' 0 = .string y1) ?_ ?_
 rotate_left
 .rintro σ31 H32 fr33 ⟨x30, G34, rfl, O35, s36, t38⟩
  have h39 := z09 h3
  refine .seq (.region (W.q2 _ t38 (W.p1 (.string x30) (.nil (.ret ?_)))))
  obtain rfl := zAa h39
  exact z1q kr (v1 := (.string x30)) (by rfl) rt O35 s36 rfl
 refine .block (AW.loop (α := Nat) (fun k' σ' H' => ∃ (y1 : zAd) (y2 : zAd) (G' : GM), z19 K k' y1 y2 = some q1 /\ Ow G' H' (L) /\ GM.le G G' /\ σ' 0 = .string y1 /\ σ' 1 = .string y2) (fun k' => k') K ⟨p0, p1, _, h2, O, (zAf _), rfl, rfl⟩ ?_)
 rintro k4
 rintro σ7 H8 fr9 ⟨x5, x6, G10, h13, O11, s12, t14, t15⟩
 rcases k4 with _ | k4
 .exact z07 h13
 rw [z19] at h13
 refine .seq (.seq (.region (W.q2 _ t15 (W.pv (.bool (!(sEq x6 (⟨#[48]⟩ : zAd)))) (zlp ov ov) (.nil (.cond (b := (!(sEq x6 (⟨#[48]⟩ : zAd)))) rfl rfl (fun g16 => ?_) (fun g16 => ?_)))))))
 rotate_left
 .have h29 := z0j g16 h13
  refine .exit ?_
  obtain rfl := zAa h29
  exact ⟨x5, _, rfl, O11, s12, t14⟩
 have h17 := z05 g16 h13
 refine .skip (.block (.seq (.region (W.q2 _ t14 (W.q2 _ t15 ?_)))))
 obtain ⟨x18, i19, h20⟩ := z01 h17
 refine W.ln (Lo.cP rfl (fn := Tryz.f129) (by kernel_rfl) rfl (mc rfl (mc rfl mn)) O11 (fun L' O' => z7e K x5 x6 O' _ i19)) ?_
 rintro v27 H28 ⟨G21, O22, s23, sm26, rfl⟩
 refine W.p2 (.tuple #[(.string x18.1), (.string x18.2)]) (W.pv (.string x18.1) (z0b ov rfl) (W.pv (.string x18.2) (z0b ov rfl) (W.p1 (.string x18.1) (W.p1 (.string x18.2) (.nil (.region ?_))))))
 refine W.q2 _ t15 (W.p2 (.string x18.2) (W.p1 (.string x6) (W.p1 (.string x18.2) (.nil ?_))))
 exact ⟨k4, zAg _, ⟨x6, x18.2, _, h20, O22, (zAe s12 s23), rfl, rfl⟩⟩
end Go.Am.Tryz
