/- Typed functions with the same answers as the program's, and the walks that show it. -/
import Derived.Test.YtdogeclnbdldaaaGreatDoorG2Z6
import Derived.Test.YtdogeclnbdldaaaGreatDoorG3Z6
set_option maxRecDepth 100000
set_option maxHeartbeats 8000000
set_option linter.unusedVariables false
set_option linter.unusedSimpArgs false
namespace Go.Am.Tryz
open Go Go.Am Go.Proofs
variable (K : Nat) {G : GM} {H : AH} {L : List Pc}
def z6l (K : Nat) (p0 : Q) (p1 : Q) : Option Q := (Option.bind ((if ((List.length p0.num : Int) == 0) = true then some true else some ((List.length p1.num : Int) == 0))) (tu1 fun x29 => (if x29 = true then some (Q.mk false ([] : List Int) ([] : List Int)) else ((z3c K p0.num p1.num).bind fun x66 => ((z23 K p0).bind fun x82 => ((z23 K p1).bind fun x98 => ((z3c K x82 x98).bind fun x111 => ((z73 K (!(p0.neg == p1.neg)) x66 x111).bind fun x132 => some x132))))))))
theorem z9w (v0 : List Value) (p0 : Q) (hp0 : T_Q.rep G v0 p0) (v1 : List Value) (p1 : Q) (hp1 : T_Q.rep G v1 p1) (O : Ow G H (L)) (r : Q) (h : z6l K p0 p1 = some r) :
    CR Tryz.prog 92 [.agg (List.toArray v0), .agg (List.toArray v1)] G H (L) (fun v G' _ => ∃ (w0 : List Value), v = .agg (List.toArray w0) /\ T_Q.rep G' w0 r) := by
 unfold z6l at h
 refine CR.og (n := 32) (fn := Tryz.f92) (by kernel_rfl) rfl rfl fun R kr => (.seq (.region (W.lo rfl rfl (Lo.box (r := T_Q) (x0 := p0) (v := (.agg (List.toArray v0))) rfl rfl hp0 O) ?_)))
 rintro v4 H5 ⟨b2, rfl, O1, sm3⟩
 refine W.lo rfl rfl (Lo.box (r := T_Q) (x0 := p1) (v := (.agg (List.toArray v1))) rfl rfl hp1 O1) ?_
 rintro v9 H10 ⟨b7, rfl, O6, sm8⟩
 refine W.lo rfl rfl (Lo.alloc (r := T_Q) (x0 := (Q.mk false ([] : List Int) ([] : List Int))) ze96 (by kernel_rfl) z_Q O6) ?_
 rintro v14 H15 ⟨b12, rfl, O11, sm13⟩
 refine .nil (.seq (.seq ?_))
 obtain ⟨q16, h17, h18⟩ := z00 h
 refine AW.midT (fun σ' H' => ∃ (y1 : Bool) (G' : GM), y1 = q16 /\ Ow G' H' (eVar b12 96 T_Q (Q.mk false ([] : List Int) ([] : List Int)) :: eVar b7 96 T_Q p1 :: eVar b2 96 T_Q p0 :: L) /\ GM.le G G' /\ σ' 14 = .bool y1) ?_ ?_
 .refine .region (W.pure (v := (padd (.pointer (some ⟨b2, 0, none⟩)) 1)) rfl rfl (z6s zbo (oo rfl rfl) (O11.atVar (j := 2) rfl)) ?_)
  obtain ⟨w19, p20, f21⟩ := At.sl (At.proj (O11.atVar (j := 2) rfl) z8m)
  refine W.load1 (v := w19) (r := []) rfl rfl ag94 (z15 rfl p20) (W.pure (v := (.int .i64 (List.length p0.num : Int))) rfl rfl (z0f (oo rfl rfl) (z0a f21) (z02 el94)) (W.q3 (.bool ((List.length p0.num : Int) == 0)) rfl rfl (W.q2 (.bool ((List.length p0.num : Int) == 0)) rfl (W.splitAt (t := 9) (b := ((List.length p0.num : Int) == 0)) rfl (fun g22 gv23 => ?_) (fun g22 gv23 => ?_)))))
  .have h24 := z03 g22 h17
   refine W.q6 rfl gv23 (W.q6 rfl gv23 (W.q6 rfl gv23 (W.q6 rfl gv23 (W.q4 (.bool true) gv23 rfl (.nil ?_)))))
   obtain rfl := zAa h24
   exact ⟨true, _, rfl, O11, (zAf _), rfl⟩
  have h25 := z0g g22 h17
  refine W.pure (v := (padd (.pointer (some ⟨b7, 0, none⟩)) 1)) (gk rfl rfl gv23 rfl) rfl (z6s zbo (oo rfl rfl) (O11.atVar (j := 1) rfl)) ?_
  obtain ⟨w26, p27, f28⟩ := At.sl (At.proj (O11.atVar (j := 1) rfl) z8m)
  refine W.load1 (v := w26) (r := []) (gk rfl rfl gv23 rfl) rfl ag94 (z15 rfl p27) (W.pure (v := (.int .i64 (List.length p1.num : Int))) (gk rfl rfl gv23 rfl) rfl (z0f (oo rfl rfl) (z0a f28) (z02 el94)) (W.q3 (hg := gk rfl rfl gv23 rfl) (.bool ((List.length p1.num : Int) == 0)) rfl rfl (W.q5 (.bool ((List.length p1.num : Int) == 0)) gv23 rfl (.nil ?_))))
  obtain rfl := zAa h25
  exact ⟨((List.length p1.num : Int) == 0), _, rfl, O11, (zAf _), rfl⟩
 rintro σ30 H31 fr32 ⟨x29, G33, rfl, O34, s35, t37⟩
 have h38 := z09 h18
 refine .cond (b := x29) rfl t37 (fun g39 => ?_) (fun g39 => ?_)
 .have h40 := z03 g39 h38
  refine .seq (.region ?_)
  obtain ⟨c41, e43, f42⟩ := zov
  refine W.pure (v := .agg (List.toArray c41)) rfl rfl (e43 (zac rfl qn')) (W.lo rfl rfl (Lo.storeVar (j := 0) (s := T_Q) (y0 := (Q.mk false ([] : List Int) ([] : List Int))) (v := (.agg (List.toArray c41))) (o := 0) rfl ((Put.at (Put.self _) _ _)) rfl sz96 ((fr32 4 rfl).trans rfl) (by omega) rfl f42 O34) ?_)
  rintro v46 H47 ⟨O44, sm45⟩
  refine .nil (.ret ?_)
  obtain ⟨c48, p49, f50⟩ := (O44.atVar (j := 0) rfl)
  have O51 : Ow G33 H47 (eVar b7 96 T_Q p1 :: eVar b2 96 T_Q p0 :: L) := O44.drop 0
  have O52 : Ow G33 H47 (eVar b2 96 T_Q p0 :: L) := O51.drop 0
  have O53 : Ow G33 H47 (L) := O52.drop 0
  obtain rfl := zAa h40
  exact z1h kr (v1 := (.agg (List.toArray c48))) (by rfl) (z6t (p := (.pointer (some ⟨b12, 0, none⟩))) (by rfl) ag96 sz96 (by exact ((fr32 4 rfl).trans rfl)) p49 (RT.len _ f50)) O53 s35 ⟨c48, rfl, f50⟩
 have h54 := z0g g39 h38
 refine .skip (.seq (.draw2 (M := [0, 1, 0, 4, 15, 0, 32, 0, 128, 480, 0, 2016, 0, 8160, 16352, 32767, 65535]) mixed (by kernel_rfl) (by kernel_rfl) fun H55 N59 x56 F58 => ?_))
 have O57 := O34.ext x56
 refine D2.pure (v := (padd (.pointer (some ⟨b2, 0, none⟩)) 0)) rfl rfl (z6s zea (oo rfl ((fr32 2 rfl).trans rfl)) (O57.atVar (j := 2) rfl)) (D2.load1' (v := (.bool p0.neg)) (r := []) rfl rfl ag4 (z15 rfl (At.bool (At.proj (O57.atVar (j := 2) rfl) zar))) z0b (D2.pure (v := (padd (.pointer (some ⟨b7, 0, none⟩)) 0)) rfl rfl (z6s zea (oo rfl ((fr32 3 rfl).trans rfl)) (O57.atVar (j := 1) rfl)) (D2.load1' (v := (.bool p1.neg)) (r := []) rfl rfl ag4 (z15 rfl (At.bool (At.proj (O57.atVar (j := 1) rfl) zar))) z0b (D2.pure (v := (.bool (!(p0.neg == p1.neg)))) rfl rfl (zf2 (oo rfl rfl) (oo rfl rfl) un4) (D2.pure (v := (padd (.pointer (some ⟨b2, 0, none⟩)) 1)) rfl rfl (z6s zbo (oo rfl ((fr32 2 rfl).trans rfl)) (O57.atVar (j := 2) rfl)) ?_)))))
 obtain ⟨w60, p61, f62⟩ := At.sl (At.proj (O57.atVar (j := 2) rfl) z8m)
 refine D2.load1' (v := w60) (r := []) rfl rfl ag94 (z15 rfl p61) z0b (D2.pure (v := (padd (.pointer (some ⟨b7, 0, none⟩)) 1)) rfl rfl (z6s zbo (oo rfl ((fr32 3 rfl).trans rfl)) (O57.atVar (j := 1) rfl)) ?_)
 obtain ⟨w63, p64, f65⟩ := At.sl (At.proj (O57.atVar (j := 1) rfl) z8m)
 refine D2.load1' (v := w63) (r := []) rfl rfl ag94 (z15 rfl p64) z0b ?_
 obtain ⟨x66, i67, h68⟩ := z00 h54
 refine D2.lo rfl rfl (Lo.callPF (ps := []) (pw := fun w => [eSl w 181 (rI .u32) x66]) rfl (fn := Tryz.f139) (by kernel_rfl) rfl (mc rfl (mc rfl mn)) O57 (fun L' O' => z3n K w60 p0.num f62 w63 p1.num f65 O' _ i67)) ?_ z0b ?_ ?_
 .rintro v77 H78 ⟨w74, G69, O70, s71, sm76, rfl⟩; exact (faR1 (.inl (by decide)) (faR1 (.inl (by decide)) (faR1 (.inr (sm76 _ (Or.inr ⟨1, _, rfl, List.mem_singleton.2 rfl⟩))) (faR1 (.inr (sm76 _ (Or.inr ⟨2, _, rfl, List.mem_singleton.2 rfl⟩))) z0b))))
 .rintro v77 H78 ⟨w74, G69, O70, s71, sm76, rfl⟩; exact z0b
 rintro v77 H78 ⟨w74, G69, O70, s71, sm76, rfl⟩
 obtain ⟨c79, p80, f81⟩ := (O70.atVar (j := 3) rfl)
 refine D2.loadA' (cs := c79) rfl rfl ag96 sz96 (z15 ((fr32 2 rfl).trans rfl) p80) (RT.len _ f81) (ze2 (znv ((fr32 2 rfl).trans rfl) (sm76 _ (Or.inr ⟨2, _, rfl, List.mem_singleton.2 rfl⟩))) z0b) ?_
 obtain ⟨x82, i83, h84⟩ := z00 h68
 refine D2.lo rfl rfl (Lo.cP rfl (fn := Tryz.f140) (by kernel_rfl) rfl (mc rfl mn) O70 (fun L' O' => z2s K c79 p0 f81 O' _ i83)) ?_ (z1i (by decide) z0b) ?_ ?_
 .rintro v93 H94 ⟨G85, O86, s87, sm92, ⟨w89, rfl, f90⟩⟩; exact (faR1 (.inl (by decide)) (faR1 (.inl (by decide)) (faR1 (.inl (by decide)) (faR1 (.inr (sm92 _ (Or.inr ⟨2, _, rfl, List.mem_singleton.2 rfl⟩))) (faR1 (.inr (sm92 _ (Or.inr ⟨3, _, rfl, List.mem_singleton.2 rfl⟩))) z0b)))))
 .rintro v93 H94 ⟨G85, O86, s87, sm92, ⟨w89, rfl, f90⟩⟩; exact z0b
 rintro v93 H94 ⟨G85, O86, s87, sm92, ⟨w89, rfl, f90⟩⟩
 obtain ⟨c95, p96, f97⟩ := (O86.atVar (j := 2) rfl)
 refine D2.loadA' (cs := c95) rfl rfl ag96 sz96 (z15 ((fr32 3 rfl).trans rfl) p96) (RT.len _ f97) (ze2 (znv ((fr32 3 rfl).trans rfl) (sm92 _ (Or.inr ⟨2, _, rfl, List.mem_singleton.2 rfl⟩))) (ze2 (znv ((fr32 3 rfl).trans rfl) (sm76 _ (Or.inr ⟨1, _, rfl, List.mem_singleton.2 rfl⟩))) z0b)) ?_
 obtain ⟨x98, i99, h100⟩ := z00 h84
 refine D2.lo rfl rfl (Lo.cP rfl (fn := Tryz.f140) (by kernel_rfl) rfl (mc rfl mn) O86 (fun L' O' => z2s K c95 p1 f97 O' _ i99)) ?_ (z1i (by decide) (z1i (by decide) z0b)) ?_ ?_
 .rintro v109 H110 ⟨G101, O102, s103, sm108, ⟨w105, rfl, f106⟩⟩; exact (faR1 (.inl (by decide)) (faR1 (.inl (by decide)) (faR1 (.inl (by decide)) (faR1 (.inl (by decide)) (faR1 (.inr (sm108 _ (Or.inr ⟨2, _, rfl, List.mem_singleton.2 rfl⟩))) (faR1 (.inr (sm108 _ (Or.inr ⟨3, _, rfl, List.mem_singleton.2 rfl⟩))) z0b))))))
 .rintro v109 H110 ⟨G101, O102, s103, sm108, ⟨w105, rfl, f106⟩⟩; exact z0b
 rintro v109 H110 ⟨G101, O102, s103, sm108, ⟨w105, rfl, f106⟩⟩
 obtain ⟨x111, i112, h113⟩ := z00 h100
 refine D2.lo rfl rfl (Lo.callPF (ps := []) (pw := fun w => [eSl w 181 (rI .u32) x111]) rfl (fn := Tryz.f139) (by kernel_rfl) rfl (mc rfl (mc rfl mn)) O102 (fun L' O' => z3n K w89 x82 (RT.mono _ s103 f90) w105 x98 f106 O' _ i112)) ?_ (z1i (by decide) (z1i (by decide) (z1i (by decide) z0b))) ?_ ?_
 .rintro v122 H123 ⟨w119, G114, O115, s116, sm121, rfl⟩; exact (faR1 (.inl (by decide)) (faR1 (.inl (by decide)) (faR1 (.inl (by decide)) (faR1 (.inl (by decide)) (faR1 (.inr (sm121 _ (Or.inr ⟨2, _, rfl, List.mem_singleton.2 rfl⟩))) (faR1 (.inr (sm121 _ (Or.inr ⟨3, _, rfl, List.mem_singleton.2 rfl⟩))) z0b))))))
 .rintro v122 H123 ⟨w119, G114, O115, s116, sm121, rfl⟩; exact z0b
 rintro v122 H123 ⟨w119, G114, O115, s116, sm121, rfl⟩
 obtain ⟨G124, O125, s126, f127⟩ := O115.frzSl (j := 1) rfl
 obtain ⟨G128, O129, s130, f131⟩ := O125.frzSl (j := 0) rfl
 obtain ⟨x132, i133, h134⟩ := z00 h113
 refine D2.lo rfl rfl (Lo.cP rfl (fn := Tryz.f138) (by kernel_rfl) rfl (mc rfl (mc rfl (mc rfl mn))) O129 (fun L' O' => z7v K (!(p0.neg == p1.neg)) w74 x66 (RT.mono _ s130 f127) w119 x111 f131 O' _ i133)) ?_ (z1i (by decide) (z1i (by decide) (z1i (by decide) (z1i (by decide) z0b)))) ?_ ?_
 .rintro v143 H144 ⟨G135, O136, s137, sm142, ⟨c139, rfl, f140⟩⟩; exact (faR1 (.inl (by decide)) (faR1 (.inl (by decide)) (faR1 (.inl (by decide)) (faR1 (.inl (by decide)) (faR1 (.inl (by decide)) (faR1 (.inl (by decide)) z0b))))))
 .rintro v143 H144 ⟨G135, O136, s137, sm142, ⟨c139, rfl, f140⟩⟩; exact z0b
 rintro v143 H144 ⟨G135, O136, s137, sm142, ⟨c139, rfl, f140⟩⟩
 refine D2.lo rfl rfl (Lo.storeVar (j := 0) (s := T_Q) (y0 := x132) (v := (.agg (List.toArray c139))) (o := 0) rfl ((Put.at (Put.self _) _ _)) rfl sz96 ((fr32 4 rfl).trans rfl) (by omega) rfl f140 O136) ?_ (z1i (by decide) (z1i (by decide) (z1i (by decide) (z1i (by decide) (z1i (by decide) z0b))))) ?_ ?_
 .rintro v147 H148 ⟨O145, sm146⟩; exact (faR1 (.inl (by decide)) (faR1 (.inl (by decide)) (faR1 (.inl (by decide)) (faR1 (.inl (by decide)) (faR1 (.inl (by decide)) (faR1 (.inl (by decide)) z0b))))))
 .rintro v147 H148 ⟨O145, sm146⟩; exact z0b
 rintro v147 H148 ⟨O145, sm146⟩
 refine .nil (.ret ?_)
 obtain ⟨c149, p150, f151⟩ := (O145.atVar (j := 0) rfl)
 have O152 : Ow G135 H148 (eVar b7 96 T_Q p1 :: eVar b2 96 T_Q p0 :: L) := O145.drop 0
 have O153 : Ow G135 H148 (eVar b2 96 T_Q p0 :: L) := O152.drop 0
 have O154 : Ow G135 H148 (L) := O153.drop 0
 obtain rfl := zAa h134
 exact z1h kr (v1 := (.agg (List.toArray c149))) (by rfl) (z6t (p := (.pointer (some ⟨b12, 0, none⟩))) (by rfl) ag96 sz96 (by exact ((fr32 4 rfl).trans rfl)) p150 (RT.len _ f151)) O154 (zAe s35 (zAe s71 (zAe s87 (zAe s103 (zAe s116 (zAe s126 (zAe s130 s137))))))) ⟨c149, rfl, f151⟩
def z2e (K : Nat) (x7 : List Int) (x8 : List Int) : Nat -> List Int -> Int -> Int -> Option (List Int × Int)
  | 0, _, _, _ => none
  | k + 1, x29, x30, x31 => (if (decide (x31 < (List.length x7 : Int))) = true then ((idx x7 x31).bind fun x43 => (Option.bind ((if (decide (x31 < (List.length x8 : Int))) = true then ((idx x8 x31).bind fun x52 => some (z04 .u32 ((z04 .u32 (x43 + x30)) + x52))) else some (z04 .u32 (x43 + x30)))) (tu1 fun x57 => (if List.length x29 + List.length [Int.tmod x57 1000000000] <= 16777216 then z2e K x7 x8 k (x29 ++ [Int.tmod x57 1000000000]) (z04 .u32 (Int.tdiv x57 1000000000)) (z04 .i64 (x31 + 1)) else none)))) else some (x29, x30))
def z7j (K : Nat) (p0 : List Int) (p1 : List Int) : Option (List Int) := (Option.bind ((if (decide ((List.length p0 : Int) < (List.length p1 : Int))) = true then some (p1, p0) else some (p0, p1))) (tu2 fun x7 x8 => (if 0 <= (0 : Int) /\ (0 : Int) <= (z04 .i64 ((List.length x7 : Int) + 1)) /\ (z04 .i64 ((List.length x7 : Int) + 1)) <= 16777216 then (Option.bind (z2e K x7 x8 K (List.replicate (Int.toNat 0) 0) 0 0) (tu2 fun x82 x83 => (Option.bind ((if (decide (x83 > 0)) = true then (if List.length x82 + List.length [x83] <= 16777216 then some (x82 ++ [x83]) else none) else some x82)) (tu1 fun x113 => some x113)))) else none)))
theorem zdg (v0 : Value) (p0 : List Int) (hp0 : (rSl (rI .u32)).rep G [v0] p0) (v1 : Value) (p1 : List Int) (hp1 : (rSl (rI .u32)).rep G [v1] p1) (O : Ow G H (L)) (r : List Int) (h : z7j K p0 p1 = some r) :
    CRF Tryz.prog 146 [v0, v1] G H (fun w0 => (eSl w0 181 (rI .u32) r :: L)) (fun w0 v G' => w0 = v) := by
 unfold z7j at h
 refine CRF.og (n := 55) (fn := Tryz.f146) (by kernel_rfl) rfl rfl fun R kr => (.seq (.region (W.q1 (.slice none 0 0) rfl (.nil (.seq (.seq ?_))))))
 refine .region (W.q2 v0 rfl (W.pure (v := (.int .i64 (List.length p0 : Int))) rfl rfl (z0f (oo rfl rfl) (z0a hp0) (z02 el94)) (W.q2 v1 rfl (W.pure (v := (.int .i64 (List.length p1 : Int))) rfl rfl (z0f (oo rfl rfl) (z0a hp1) (z02 el94)) (W.q3 (.bool (decide ((List.length p0 : Int) < (List.length p1 : Int)))) rfl rfl (.nil ?_))))))
 obtain ⟨q1, h2, h3⟩ := z00 h
 refine AW.midT (fun σ' H' => ∃ (y1 : List Int) (y2 : List Int) (G' : GM), (y1, y2) = q1 /\ Ow G' H' (L) /\ GM.le G G' /\ (rSl (rI .u32)).rep G' [σ' 0] y1 /\ (rSl (rI .u32)).rep G' [σ' 1] y2) ?_ ?_
 .refine .cond (b := decide ((List.length p0 : Int) < (List.length p1 : Int))) rfl rfl (fun g4 => ?_) (fun g4 => ?_)
  rotate_left
  .have h6 := z0g g4 h2
   refine .skip ?_
   obtain rfl := zAa h6
   exact ⟨p0, p1, _, rfl, O, (zAf _), hp0, hp1⟩
  have h5 := z03 g4 h2
  refine .region (W.q2 v1 rfl (W.q2 v0 rfl (W.q1 v1 rfl (W.q1 v0 rfl (.nil ?_)))))
  obtain rfl := zAa h5
  exact ⟨p1, p0, _, rfl, O, (zAf _), hp1, hp0⟩
 rintro σ9 H10 fr11 ⟨x7, x8, G12, rfl, O13, s14, f16, f17⟩
 have h18 := z6c h3
 refine .seq (.region (W.q2 (σ9 0) rfl (W.pure (v := (.int .i64 (List.length x7 : Int))) rfl rfl (z0f (oo rfl rfl) (z0a f16) (z02 el94)) (W.q3 (.int .i64 (z04 .i64 ((List.length x7 : Int) + 1))) rfl rfl ?_))))
 obtain ⟨g20, h21⟩ := z2p h18
 refine W.lo rfl rfl (Lo.makeSlice (r := (rI .u32)) (x0 := 0) (a := 0) (c := (z04 .i64 ((List.length x7 : Int) + 1))) rfl el94 zco z50 (by kernel_rfl) rfl zi9 (by decide) rfl rfl g20 (zI .u32) O13) ?_
 rintro v23 H24 ⟨O19, sm22⟩
 refine W.q1 v23 rfl (.nil (.seq (.region (W.q1 (.int .u32 0) rfl (.nil (.seq ?_))))))
 refine .seq (.region (W.q2 (σ9 0) rfl (W.pure (v := (.int .i64 (List.length x7 : Int))) rfl rfl (z0f (oo rfl rfl) (z0a f16) (z02 el94)) (W.q2 (.int .i64 0) rfl (.nil ?_)))))
 obtain ⟨q25, h26, h27⟩ := z00 h21
 refine AW.midT (fun σ' H' => ∃ (y1 : List Int) (y2 : Int) (G' : GM), (y1, y2) = q25 /\ Ow G' H' (eSl (σ' 5) 181 (rI .u32) y1 :: L) /\ GM.le G12 G' /\ σ' 6 = .int .u32 y2) ?_ ?_
 rotate_left
 .rintro σ84 H85 fr86 ⟨x82, x83, G87, rfl, O88, s89, t91⟩
  have h92 := z6c h27
  refine .seq (.seq (.region (W.q2 _ t91 (W.q3 (.bool (decide (x83 > 0))) rfl rfl (.nil ?_)))))
  obtain ⟨q93, h94, h95⟩ := z00 h92
  refine AW.midT (fun σ' H' => ∃ (y1 : List Int) (G' : GM), y1 = q93 /\ Ow G' H' (eSl (σ' 5) 181 (rI .u32) y1 :: L) /\ GM.le G87 G') ?_ ?_
  rotate_left
  .rintro σ114 H115 fr116 ⟨x113, G117, rfl, O118, s119⟩
   have h121 := z09 h95
   refine .seq (.region (W.q2 (σ114 5) rfl (W.q1 (σ114 5) rfl (.nil (.ret ?_)))))
   obtain rfl := zAa h121
   exact zdf kr (σ114 5) (v1 := (σ114 5)) (by rfl) (z07 (by rfl) (by exact rfl)) O118 (zAe s14 (zAe s89 s119)) rfl
  refine .cond (b := decide (x83 > 0)) rfl rfl (fun g96 => ?_) (fun g96 => ?_)
  rotate_left
  .have h112 := z0g g96 h94
   refine .skip ?_
   obtain rfl := zAa h112
   exact ⟨x82, _, rfl, O88, (zAf _)⟩
  have h97 := z03 g96 h94
  refine .region (W.q2 (σ84 5) rfl (W.q2 _ t91 (W.lo rfl rfl (Lo.buildSlice (r := (rI .u32)) (vs := [(.int .u32 x83)]) (xs := [x83]) el94 zco z50 (by kernel_rfl) rfl (qc rfl qn) rfl (.cons rfl .nil) O88) ?_)))
  rintro v100 H101 ⟨O98, sm99⟩
  obtain ⟨es103, e104, e105⟩ := z4n (j := 0) rfl O98
  obtain ⟨g106, h107⟩ := z2p h97
  refine W.lo rfl rfl (Lo.append (j := 1) (v := (σ84 5)) rfl rfl el94 ni94 zco z50 zi9 (by decide) (by decide) rfl e104 e105 g106 O98) ?_
  rintro v109 H110 ⟨O102, sm108⟩
  refine W.q1 v109 rfl (.nil ?_)
  have O111 : Ow G87 H110 (eSl v109 181 (rI .u32) (x82 ++ [x83]) :: L) := O102.drop 0
  obtain rfl := zAa h107
  exact ⟨(x82 ++ [x83]), _, rfl, O111, (zAf _)⟩
 refine .block (AW.loop (α := Nat) (fun k' σ' H' => ∃ (y1 : List Int) (y2 : Int) (y3 : Int) (G' : GM), z2e K x7 x8 k' y1 y2 y3 = some q25 /\ Ow G' H' (eSl (σ' 5) 181 (rI .u32) y1 :: L) /\ GM.le G12 G' /\ σ' 6 = .int .u32 y2 /\ σ' 22 = .int .i64 y3) (fun k' => k') K ⟨(List.replicate (Int.toNat 0) 0), 0, 0, _, h26, O19, (zAf _), rfl, rfl⟩ ?_)
 rintro k28
 rintro σ32 H33 fr34 ⟨x29, x30, x31, G35, h38, O36, s37, t39, t40⟩
 rcases k28 with _ | k28
 .exact z06 h38
 rw [z2e] at h38
 refine .seq (.region (W.q3 (.bool (decide (x31 < (List.length x7 : Int)))) t40 ((fr34 21 rfl).trans rfl) (.nil (.seq (.cond (b := decide (x31 < (List.length x7 : Int))) rfl rfl (fun g41 => ?_) (fun g41 => ?_))))))
 rotate_left
 .have h81 := z0g g41 h38
  refine .exit ?_
  obtain rfl := zAa h81
  exact ⟨x29, x30, _, rfl, O36, s37, t39⟩
 have h42 := z03 g41 h38
 refine .skip (.seq (.block (.seq (.region (W.q2 _ t40 ?_)))))
 obtain ⟨x43, i44, h45⟩ := z00 h42
 have j46 := z0d i44
 refine W.pure (v := (z1k (σ9 0) (Int.toNat x31 * 1))) rfl rfl (z26 el94 z50 (oo rfl ((fr34 20 rfl).trans rfl)) (oo rfl t40) (z0a (RT.mono _ s37 f16)) j46.1 j46.2.1) (W.load1 (v := (.int .u32 x43)) (r := []) rfl rfl zaf (z15 rfl (At.int (At.le (At.le (z17 f16 j46.2.2) s37 s37) (zAf _) O36.fro))) (W.q1 (.int .i64 x31) rfl (W.q1 (.int .u32 x43) rfl (.nil (.seq (.region ?_))))))
 refine W.q2 (.int .u32 x43) rfl (W.q2 _ t39 (W.q3 (.int .u32 (z04 .u32 (x43 + x30))) rfl rfl (W.q1 (.int .u32 (z04 .u32 (x43 + x30))) rfl (.nil (.seq (.seq ?_))))))
 refine .region (W.q2 (.int .i64 x31) rfl (W.q2 (σ9 1) ((fr34 1 rfl).trans rfl) (W.pure (v := (.int .i64 (List.length x8 : Int))) rfl rfl (z0f (oo rfl rfl) (z0a (RT.mono _ s37 f17)) (z02 el94)) (W.q3 (.bool (decide (x31 < (List.length x8 : Int)))) rfl rfl (.nil ?_)))))
 obtain ⟨q47, h48, h49⟩ := z00 h45
 refine AW.midT (fun σ' H' => ∃ (y1 : Int) (G' : GM), y1 = q47 /\ Ow G' H' (eSl (σ32 5) 181 (rI .u32) x29 :: L) /\ GM.le G35 G' /\ σ' 8 = .int .u32 y1) ?_ ?_
 .refine .cond (b := decide (x31 < (List.length x8 : Int))) rfl rfl (fun g50 => ?_) (fun g50 => ?_)
  rotate_left
  .have h56 := z0g g50 h48
   refine .skip ?_
   obtain rfl := zAa h56
   exact ⟨z04 .u32 (x43 + x30), _, rfl, O36, (zAf _), rfl⟩
  have h51 := z03 g50 h48
  refine .region (W.q2 (.int .u32 (z04 .u32 (x43 + x30))) rfl (W.q2 (σ9 1) ((fr34 1 rfl).trans rfl) (W.q2 (.int .i64 x31) rfl ?_)))
  obtain ⟨x52, i53, h54⟩ := z00 h51
  have j55 := z0d i53
  refine W.pure (v := (z1k (σ9 1) (Int.toNat x31 * 1))) rfl rfl (z26 el94 z50 (oo rfl rfl) (oo rfl rfl) (z0a (RT.mono _ s37 f17)) j55.1 j55.2.1) (W.load1 (v := (.int .u32 x52)) (r := []) rfl rfl zaf (z15 rfl (At.int (At.le (At.le (z17 f17 j55.2.2) s37 s37) (zAf _) O36.fro))) (W.q3 (.int .u32 (z04 .u32 ((z04 .u32 (x43 + x30)) + x52))) rfl rfl (W.q1 (.int .u32 (z04 .u32 ((z04 .u32 (x43 + x30)) + x52))) rfl (.nil ?_))))
  obtain rfl := zAa h54
  exact ⟨z04 .u32 ((z04 .u32 (x43 + x30)) + x52), _, rfl, O36, (zAf _), rfl⟩
 rintro σ58 H59 fr60 ⟨x57, G61, rfl, O62, s63, t65⟩
 have h66 := z09 h49
 refine .seq (.region (W.q2 _ t65 (W.pure (v := (.int .u32 (z04 .u32 (Int.tdiv x57 1000000000)))) rfl rfl (zi0 (by decide) (oo rfl rfl) (oo rfl rfl)) (W.q1 (.int .u32 (z04 .u32 (Int.tdiv x57 1000000000))) rfl (.nil (.region ?_))))))
 refine W.q2 (σ32 5) ((fr60 5 rfl).trans rfl) (W.q2 _ t65 (W.pure (v := (.int .u32 (Int.tmod x57 1000000000))) rfl rfl (zje (by decide) (oo rfl rfl) (oo rfl rfl)) (W.lo rfl rfl (Lo.buildSlice (r := (rI .u32)) (vs := [(.int .u32 (Int.tmod x57 1000000000))]) (xs := [Int.tmod x57 1000000000]) el94 zco z50 (by kernel_rfl) rfl (qc rfl qn) rfl (.cons rfl .nil) O62) ?_)))
 rintro v69 H70 ⟨O67, sm68⟩
 obtain ⟨es72, e73, e74⟩ := z4n (j := 0) rfl O67
 obtain ⟨g75, h76⟩ := z2p h66
 refine W.lo rfl rfl (Lo.append (j := 1) (v := (σ32 5)) rfl rfl el94 ni94 zco z50 zi9 (by decide) (by decide) rfl e73 e74 g75 O67) ?_
 rintro v78 H79 ⟨O71, sm77⟩
 refine W.q1 v78 rfl (.nil (.region (W.q3 (.int .i64 (z04 .i64 (x31 + 1))) ((fr60 22 rfl).trans t40) rfl (W.q2 (.int .i64 (z04 .i64 (x31 + 1))) rfl (.nil ?_)))))
 have O80 : Ow G61 H79 (eSl v78 181 (rI .u32) (x29 ++ [Int.tmod x57 1000000000]) :: L) := O71.drop 0
 exact ⟨k28, zAg _, ⟨(x29 ++ [Int.tmod x57 1000000000]), z04 .u32 (Int.tdiv x57 1000000000), z04 .i64 (x31 + 1), _, h76, O80, (zAe s37 s63), rfl, rfl⟩⟩
def z2f (K : Nat) (p0 : List Int) (p1 : List Int) : Nat -> List Int -> Int -> Int -> Option (List Int)
  | 0, _, _, _ => none
  | k + 1, x11, x12, x13 => (if (decide (x13 < (List.length p0 : Int))) = true then ((idx p0 x13).bind fun x25 => (Option.bind ((if (decide (x13 < (List.length p1 : Int))) = true then ((idx p1 x13).bind fun x34 => (lt (z04 .i64 ((z04 .i64 ((IntKind.wrap .i64 x25) - x12)) - (IntKind.wrap .i64 x34))) fun x38 => some x38)) else some (z04 .i64 ((IntKind.wrap .i64 x25) - x12)))) (tu1 fun x42 => (Option.bind ((if (decide (x42 < 0)) = true then some (1, z04 .i64 (x42 + 1000000000)) else some (0, x42))) (tu2 fun x58 x59 => ((idx x11 x13).bind fun x70 => z2f K p0 p1 k (List.set x11 (Int.toNat x13) (IntKind.wrap .u32 x59)) x58 (z04 .i64 (x13 + 1)))))))) else some x11)
def z6m (K : Nat) (p0 : List Int) (p1 : List Int) : Option (List Int) := (if 0 <= (List.length p0 : Int) /\ (List.length p0 : Int) <= (List.length p0 : Int) /\ (List.length p0 : Int) <= 16777216 then (Option.bind (z2f K p0 p1 K (List.replicate (Int.toNat (List.length p0 : Int)) 0) 0 0) (tu1 fun x79 => ((z27 K x79).bind fun x88 => some x88))) else none)
theorem z9x (v0 : Value) (p0 : List Int) (hp0 : (rSl (rI .u32)).rep G [v0] p0) (v1 : Value) (p1 : List Int) (hp1 : (rSl (rI .u32)).rep G [v1] p1) (O : Ow G H (L)) (r : List Int) (h : z6m K p0 p1 = some r) :
    CRF Tryz.prog 147 [v0, v1] G H (fun w0 => (eSl w0 181 (rI .u32) r :: L)) (fun w0 v G' => w0 = v) := by
 unfold z6m at h
 refine CRF.og (n := 47) (fn := Tryz.f147) (by kernel_rfl) rfl rfl fun R kr => (.seq (.region (W.q1 (.slice none 0 0) rfl (.nil (.seq (.region ?_))))))
 refine W.q2 v0 rfl (W.pure (v := (.int .i64 (List.length p0 : Int))) rfl rfl (z0f (oo rfl rfl) (z0a hp0) (z02 el94)) ?_)
 obtain ⟨g2, h3⟩ := z2p h
 refine W.lo rfl rfl (Lo.makeSlice (r := (rI .u32)) (x0 := 0) (a := (List.length p0 : Int)) (c := (List.length p0 : Int)) rfl el94 zco z50 (by kernel_rfl) rfl zi9 (by decide) rfl rfl g2 (zI .u32) O) ?_
 rintro v5 H6 ⟨O1, sm4⟩
 refine W.q1 v5 rfl (.nil (.seq (.region (W.q1 (.int .i64 0) rfl (.nil (.seq ?_))))))
 refine .seq (.region (W.q2 v0 rfl (W.pure (v := (.int .i64 (List.length p0 : Int))) rfl rfl (z0f (oo rfl rfl) (z0a hp0) (z02 el94)) (W.q2 (.int .i64 0) rfl (.nil ?_)))))
 obtain ⟨q7, h8, h9⟩ := z00 h3
 refine AW.midT (fun σ' H' => ∃ (y1 : List Int) (G' : GM), y1 = q7 /\ Ow G' H' (eSl v5 181 (rI .u32) y1 :: L) /\ GM.le G G') ?_ ?_
 rotate_left
 .rintro σ80 H81 fr82 ⟨x79, G83, rfl, O84, s85⟩
  have h87 := z09 h9
  refine .seq (.region (W.q2 v5 ((fr82 5 rfl).trans rfl) ?_))
  obtain ⟨x88, i89, h90⟩ := z00 h87
  refine W.lo rfl rfl (Lo.callPF (ps := [eSl v5 181 (rI .u32) x79]) (pw := fun w => [eSl w 181 (rI .u32) x88]) rfl (fn := Tryz.f165) (by kernel_rfl) rfl (mc rfl mn) O84 (fun L' O' => z30 K v5 x79 O' _ i89)) ?_
  rintro v99 H100 ⟨w96, G91, O92, s93, sm98, rfl⟩
  refine W.q1 w96 rfl (.nil (.ret ?_))
  obtain rfl := zAa h90
  exact zdf kr w96 (v1 := w96) (by rfl) (z07 (by rfl) (by exact rfl)) O92 (zAe s85 s93) rfl
 refine .block (AW.loop (α := Nat) (fun k' σ' H' => ∃ (y1 : List Int) (y2 : Int) (y3 : Int) (G' : GM), z2f K p0 p1 k' y1 y2 y3 = some q7 /\ Ow G' H' (eSl v5 181 (rI .u32) y1 :: L) /\ GM.le G G' /\ σ' 6 = .int .i64 y2 /\ σ' 14 = .int .i64 y3) (fun k' => k') K ⟨(List.replicate (Int.toNat (List.length p0 : Int)) 0), 0, 0, _, h8, O1, (zAf _), rfl, rfl⟩ ?_)
 rintro k10
 rintro σ14 H15 fr16 ⟨x11, x12, x13, G17, h20, O18, s19, t21, t22⟩
 rcases k10 with _ | k10
 .exact z06 h20
 rw [z2f] at h20
 refine .seq (.region (W.q3 (.bool (decide (x13 < (List.length p0 : Int)))) t22 ((fr16 13 rfl).trans rfl) (.nil (.seq (.cond (b := decide (x13 < (List.length p0 : Int))) rfl rfl (fun g23 => ?_) (fun g23 => ?_))))))
 rotate_left
 .have h78 := z0g g23 h20
  refine .exit ?_
  obtain rfl := zAa h78
  exact ⟨x11, _, rfl, O18, s19⟩
 have h24 := z03 g23 h20
 refine .skip (.seq (.block (.seq (.region (W.q2 _ t22 (W.q1 (.int .i64 x13) rfl ?_))))))
 refine .nil (.seq (.region (W.q2 v0 ((fr16 0 rfl).trans rfl) (W.q2 (.int .i64 x13) rfl ?_))))
 obtain ⟨x25, i26, h27⟩ := z00 h24
 have j28 := z0d i26
 refine W.pure (v := (z1k v0 (Int.toNat x13 * 1))) rfl rfl (z26 el94 z50 (oo rfl rfl) (oo rfl rfl) (z0a (RT.mono _ s19 hp0)) j28.1 j28.2.1) (W.load1 (v := (.int .u32 x25)) (r := []) rfl rfl zaf (z15 rfl (At.int (At.le (At.le (z17 hp0 j28.2.2) s19 s19) (zAf _) O18.fro))) (W.pure (v := (.int .i64 (IntKind.wrap .i64 x25))) rfl rfl (z4l z9s in2 (oo rfl rfl)) (W.q2 _ t21 (W.q3 (.int .i64 (z04 .i64 ((IntKind.wrap .i64 x25) - x12))) rfl rfl (W.q1 (.int .i64 (z04 .i64 ((IntKind.wrap .i64 x25) - x12))) rfl (.nil ?_))))))
 refine .seq (.seq (.region (W.q2 (.int .i64 x13) rfl (W.q2 v1 ((fr16 1 rfl).trans rfl) (W.pure (v := (.int .i64 (List.length p1 : Int))) rfl rfl (z0f (oo rfl rfl) (z0a (RT.mono _ s19 hp1)) (z02 el94)) (W.q3 (.bool (decide (x13 < (List.length p1 : Int)))) rfl rfl ?_))))))
 refine .nil ?_
 obtain ⟨q29, h30, h31⟩ := z00 h27
 refine AW.midT (fun σ' H' => ∃ (y1 : Int) (G' : GM), y1 = q29 /\ Ow G' H' (eSl v5 181 (rI .u32) x11 :: L) /\ GM.le G17 G' /\ σ' 8 = .int .i64 y1) ?_ ?_
 .refine .cond (b := decide (x13 < (List.length p1 : Int))) rfl rfl (fun g32 => ?_) (fun g32 => ?_)
  rotate_left
  .have h41 := z0g g32 h30
   refine .skip ?_
   obtain rfl := zAa h41
   exact ⟨z04 .i64 ((IntKind.wrap .i64 x25) - x12), _, rfl, O18, (zAf _), rfl⟩
  have h33 := z03 g32 h30
  refine .region (W.q2 (.int .i64 (z04 .i64 ((IntKind.wrap .i64 x25) - x12))) rfl (W.q2 v1 ((fr16 1 rfl).trans rfl) (W.q2 (.int .i64 x13) rfl ?_)))
  obtain ⟨x34, i35, h36⟩ := z00 h33
  have j37 := z0d i35
  refine W.pure (v := (z1k v1 (Int.toNat x13 * 1))) rfl rfl (z26 el94 z50 (oo rfl rfl) (oo rfl rfl) (z0a (RT.mono _ s19 hp1)) j37.1 j37.2.1) (W.load1 (v := (.int .u32 x34)) (r := []) rfl rfl zaf (z15 rfl (At.int (At.le (At.le (z17 hp1 j37.2.2) s19 s19) (zAf _) O18.fro))) (W.pure (v := (.int .i64 (IntKind.wrap .i64 x34))) rfl rfl (z4l z9s in2 (oo rfl rfl)) (W.q3 (.int .i64 (z04 .i64 ((z04 .i64 ((IntKind.wrap .i64 x25) - x12)) - (IntKind.wrap .i64 x34)))) rfl rfl ?_)))
  obtain ⟨x38, e39, h40⟩ := z7b h36
  refine W.q1 _ (congrArg (Value.int .i64) e39) (.nil ?_)
  obtain rfl := zAa h40
  exact ⟨x38, _, rfl, O18, (zAf _), rfl⟩
 rintro σ43 H44 fr45 ⟨x42, G46, rfl, O47, s48, t50⟩
 have h51 := z09 h31
 refine .seq (.region (W.q1 (.int .i64 0) rfl (.nil (.seq (.seq (.region ?_))))))
 refine W.q2 _ t50 (W.q3 (.bool (decide (x42 < 0))) rfl rfl (.nil ?_))
 obtain ⟨q52, h53, h54⟩ := z00 h51
 refine AW.midT (fun σ' H' => ∃ (y1 : Int) (y2 : Int) (G' : GM), (y1, y2) = q52 /\ Ow G' H' (eSl v5 181 (rI .u32) x11 :: L) /\ GM.le G46 G' /\ σ' 6 = .int .i64 y1 /\ σ' 8 = .int .i64 y2) ?_ ?_
 .refine .cond (b := decide (x42 < 0)) rfl rfl (fun g55 => ?_) (fun g55 => ?_)
  rotate_left
  .have h57 := z0g g55 h53
   refine .skip ?_
   obtain rfl := zAa h57
   exact ⟨0, x42, _, rfl, O47, (zAf _), rfl, t50⟩
  have h56 := z03 g55 h53
  refine .seq (.region (W.q2 _ t50 (W.q3 (.int .i64 (z04 .i64 (x42 + 1000000000))) rfl rfl (W.q1 (.int .i64 (z04 .i64 (x42 + 1000000000))) rfl (.nil (.region ?_))))))
  refine W.q1 (.int .i64 1) rfl (.nil ?_)
  obtain rfl := zAa h56
  exact ⟨1, z04 .i64 (x42 + 1000000000), _, rfl, O47, (zAf _), rfl, rfl⟩
 rintro σ60 H61 fr62 ⟨x58, x59, G63, rfl, O64, s65, t67, t68⟩
 have h69 := z6c h54
 refine .region (W.q2 v5 ((fr62 5 rfl).trans ((fr45 5 rfl).trans ((fr16 5 rfl).trans rfl))) (W.q2 (.int .i64 x13) ((fr62 7 rfl).trans ((fr45 7 rfl).trans rfl)) (W.q2 _ t68 (W.pure (v := (.int .u32 (IntKind.wrap .u32 x59))) rfl rfl (z4l in2 z9s (oo rfl rfl)) ?_))))
 obtain ⟨x70, i71, h72⟩ := z00 h69
 have j73 := z0d i71
 refine W.pure (v := (z1k v5 (Int.toNat x13 * 1))) rfl rfl (z26 el94 z50 (oo rfl rfl) (oo rfl rfl) (O64.slLen (j := 0) rfl) j73.1 j73.2.1) (W.lo rfl rfl (Lo.storeSl0 (j := 0) (y0 := IntKind.wrap .u32 x59) (v := (.int .u32 (IntKind.wrap .u32 x59))) rfl j73.2.2  rfl z50 rfl rfl rfl O64) ?_)
 rintro v76 H77 ⟨O74, sm75⟩
 refine .nil (.region (W.q3 (.int .i64 (z04 .i64 (x13 + 1))) ((fr62 14 rfl).trans ((fr45 14 rfl).trans t22)) rfl (W.q2 (.int .i64 (z04 .i64 (x13 + 1))) rfl (.nil ?_))))
 exact ⟨k10, zAg _, ⟨(List.set x11 (Int.toNat x13) (IntKind.wrap .u32 x59)), x58, z04 .i64 (x13 + 1), _, h72, O74, (zAe s19 (zAe s48 s65)), t67, rfl⟩⟩
def z6n (K : Nat) (p0 : Q) (p1 : Q) : Option Q := (if ((List.length p0.num : Int) == 0) = true then some p1 else (if ((List.length p1.num : Int) == 0) = true then some p0 else ((z23 K p1).bind fun x65 => ((z3c K p0.num x65).bind fun x78 => ((z23 K p0).bind fun x97 => ((z3c K p1.num x97).bind fun x110 => ((z23 K p0).bind fun x131 => ((z23 K p1).bind fun x147 => ((z3c K x131 x147).bind fun x160 => (if (p0.neg == p1.neg) = true then ((z7j K x78 x110).bind fun x188 => ((z73 K p0.neg x188 x160).bind fun x209 => some x209)) else ((z51 K x78 x110).bind fun x241 => (if (decide (x241 >= 0)) = true then ((z6m K x78 x110).bind fun x259 => ((z73 K p0.neg x259 x160).bind fun x280 => some x280)) else ((z6m K x110 x78).bind fun x309 => ((z73 K p1.neg x309 x160).bind fun x330 => some x330))))))))))))))
theorem z9y (v0 : List Value) (p0 : Q) (hp0 : T_Q.rep G v0 p0) (v1 : List Value) (p1 : Q) (hp1 : T_Q.rep G v1 p1) (O : Ow G H (L)) (r : Q) (h : z6n K p0 p1 = some r) :
    CR Tryz.prog 91 [.agg (List.toArray v0), .agg (List.toArray v1)] G H (L) (fun v G' _ => ∃ (w0 : List Value), v = .agg (List.toArray w0) /\ T_Q.rep G' w0 r) := by
 unfold z6n at h
 refine CR.og (n := 65) (fn := Tryz.f91) (by kernel_rfl) rfl rfl fun R kr => (.seq (.region (W.lo rfl rfl (Lo.box (r := T_Q) (x0 := p0) (v := (.agg (List.toArray v0))) rfl rfl hp0 O) ?_)))
 rintro v4 H5 ⟨b2, rfl, O1, sm3⟩
 refine W.lo rfl rfl (Lo.box (r := T_Q) (x0 := p1) (v := (.agg (List.toArray v1))) rfl rfl hp1 O1) ?_
 rintro v9 H10 ⟨b7, rfl, O6, sm8⟩
 refine W.lo rfl rfl (Lo.alloc (r := T_Q) (x0 := (Q.mk false ([] : List Int) ([] : List Int))) ze96 (by kernel_rfl) z_Q O6) ?_
 rintro v14 H15 ⟨b12, rfl, O11, sm13⟩
 refine .nil (.seq (.block (.seq (.region (W.pure (v := (padd (.pointer (some ⟨b2, 0, none⟩)) 1)) rfl rfl (z6s zbo (oo rfl rfl) (O11.atVar (j := 2) rfl)) ?_)))))
 obtain ⟨w16, p17, f18⟩ := At.sl (At.proj (O11.atVar (j := 2) rfl) z8m)
 refine W.load1 (v := w16) (r := []) rfl rfl ag94 (z15 rfl p17) (W.pure (v := (.int .i64 (List.length p0.num : Int))) rfl rfl (z0f (oo rfl rfl) (z0a f18) (z02 el94)) (W.q3 (.bool ((List.length p0.num : Int) == 0)) rfl rfl (W.q1 (.bool ((List.length p0.num : Int) == 0)) rfl (.nil (.cond (b := ((List.length p0.num : Int) == 0)) rfl rfl (fun g19 => ?_) (fun g19 => ?_))))))
 .have h20 := z03 g19 h
  refine .seq (.region ?_)
  obtain ⟨c21, p22, f23⟩ := (O11.atVar (j := 1) rfl)
  refine W.loadA (cs := c21) rfl rfl ag96 sz96 (z15 rfl p22) (RT.len _ f23) (W.lo rfl rfl (Lo.storeVar (j := 0) (s := T_Q) (y0 := p1) (v := (.agg (List.toArray c21))) (o := 0) rfl ((Put.at (Put.self _) _ _)) rfl sz96 rfl (by omega) rfl f23 O11) ?_)
  rintro v26 H27 ⟨O24, sm25⟩
  refine .nil (.ret ?_)
  obtain ⟨c28, p29, f30⟩ := (O24.atVar (j := 0) rfl)
  have O31 : Ow G H27 (eVar b7 96 T_Q p1 :: eVar b2 96 T_Q p0 :: L) := O24.drop 0
  have O32 : Ow G H27 (eVar b2 96 T_Q p0 :: L) := O31.drop 0
  have O33 : Ow G H27 (L) := O32.drop 0
  obtain rfl := zAa h20
  exact z1h kr (v1 := (.agg (List.toArray c28))) (by rfl) (z6t (p := (.pointer (some ⟨b12, 0, none⟩))) (by rfl) ag96 sz96 (by exact rfl) p29 (RT.len _ f30)) O33 (zAf _) ⟨c28, rfl, f30⟩
 have h34 := z0g g19 h
 refine .seq (.region (W.pure (v := (padd (.pointer (some ⟨b7, 0, none⟩)) 1)) rfl rfl (z6s zbo (oo rfl rfl) (O11.atVar (j := 1) rfl)) ?_))
 obtain ⟨w35, p36, f37⟩ := At.sl (At.proj (O11.atVar (j := 1) rfl) z8m)
 refine W.load1 (v := w35) (r := []) rfl rfl ag94 (z15 rfl p36) (W.pure (v := (.int .i64 (List.length p1.num : Int))) rfl rfl (z0f (oo rfl rfl) (z0a f37) (z02 el94)) (W.q3 (.bool ((List.length p1.num : Int) == 0)) rfl rfl (W.q1 (.bool ((List.length p1.num : Int) == 0)) rfl (.nil (.cond (b := ((List.length p1.num : Int) == 0)) rfl rfl (fun g38 => ?_) (fun g38 => ?_))))))
 .have h39 := z03 g38 h34
  refine .seq (.region ?_)
  obtain ⟨c40, p41, f42⟩ := (O11.atVar (j := 2) rfl)
  refine W.loadA (cs := c40) rfl rfl ag96 sz96 (z15 rfl p41) (RT.len _ f42) (W.lo rfl rfl (Lo.storeVar (j := 0) (s := T_Q) (y0 := p0) (v := (.agg (List.toArray c40))) (o := 0) rfl ((Put.at (Put.self _) _ _)) rfl sz96 rfl (by omega) rfl f42 O11) ?_)
  rintro v45 H46 ⟨O43, sm44⟩
  refine .nil (.ret ?_)
  obtain ⟨c47, p48, f49⟩ := (O43.atVar (j := 0) rfl)
  have O50 : Ow G H46 (eVar b7 96 T_Q p1 :: eVar b2 96 T_Q p0 :: L) := O43.drop 0
  have O51 : Ow G H46 (eVar b2 96 T_Q p0 :: L) := O50.drop 0
  have O52 : Ow G H46 (L) := O51.drop 0
  obtain rfl := zAa h39
  exact z1h kr (v1 := (.agg (List.toArray c47))) (by rfl) (z6t (p := (.pointer (some ⟨b12, 0, none⟩))) (by rfl) ag96 sz96 (by exact rfl) p48 (RT.len _ f49)) O52 (zAf _) ⟨c47, rfl, f49⟩
 have h53 := z0g g38 h34
 refine .skip (.seq (.draw2 (M := [0, 1, 0, 4, 15, 0, 32, 0, 159, 511, 1023, 2047]) mixed (by kernel_rfl) (by kernel_rfl) fun H54 N58 x55 F57 => ?_))
 have O56 := O11.ext x55
 refine D2.pure (v := (padd (.pointer (some ⟨b2, 0, none⟩)) 1)) rfl rfl (z6s zbo (oo rfl rfl) (O56.atVar (j := 2) rfl)) ?_
 obtain ⟨w59, p60, f61⟩ := At.sl (At.proj (O56.atVar (j := 2) rfl) z8m)
 refine D2.load1' (v := w59) (r := []) rfl rfl ag94 (z15 rfl p60) z0b ?_
 obtain ⟨c62, p63, f64⟩ := (O56.atVar (j := 1) rfl)
 refine D2.loadA' (cs := c62) rfl rfl ag96 sz96 (z15 rfl p63) (RT.len _ f64) z0b ?_
 obtain ⟨x65, i66, h67⟩ := z00 h53
 refine D2.lo rfl rfl (Lo.cP rfl (fn := Tryz.f140) (by kernel_rfl) rfl (mc rfl mn) O56 (fun L' O' => z2s K c62 p1 f64 O' _ i66)) ?_ z0b ?_ ?_
 .rintro v76 H77 ⟨G68, O69, s70, sm75, ⟨w72, rfl, f73⟩⟩; exact (faR1 (.inl (by decide)) (faR1 (.inr (sm75 _ (Or.inr ⟨2, _, rfl, List.mem_singleton.2 rfl⟩))) z0b))
 .rintro v76 H77 ⟨G68, O69, s70, sm75, ⟨w72, rfl, f73⟩⟩; exact z0b
 rintro v76 H77 ⟨G68, O69, s70, sm75, ⟨w72, rfl, f73⟩⟩
 obtain ⟨x78, i79, h80⟩ := z00 h67
 refine D2.lo rfl rfl (Lo.callPF (ps := []) (pw := fun w => [eSl w 181 (rI .u32) x78]) rfl (fn := Tryz.f139) (by kernel_rfl) rfl (mc rfl (mc rfl mn)) O69 (fun L' O' => z3n K w59 p0.num (RT.mono _ s70 f61) w72 x65 f73 O' _ i79)) ?_ (z1i (by decide) z0b) ?_ ?_
 .rintro v89 H90 ⟨w86, G81, O82, s83, sm88, rfl⟩; exact (faR1 (.inl (by decide)) (faR1 (.inl (by decide)) z0b))
 .rintro v89 H90 ⟨w86, G81, O82, s83, sm88, rfl⟩; exact z0b
 rintro v89 H90 ⟨w86, G81, O82, s83, sm88, rfl⟩
 refine D2.pure (v := (padd (.pointer (some ⟨b7, 0, none⟩)) 1)) rfl rfl (z6s zbo (oo rfl rfl) (O82.atVar (j := 2) rfl)) ?_
 obtain ⟨w91, p92, f93⟩ := At.sl (At.proj (O82.atVar (j := 2) rfl) z8m)
 refine D2.load1' (v := w91) (r := []) rfl rfl ag94 (z15 rfl p92) (ze2 (sm88 _ (Or.inr ⟨1, _, rfl, List.mem_singleton.2 rfl⟩)) (ze2 (sm75 _ (Or.inr ⟨1, _, rfl, List.mem_singleton.2 rfl⟩)) z0b)) ?_
 obtain ⟨c94, p95, f96⟩ := (O82.atVar (j := 3) rfl)
 refine D2.loadA' (cs := c94) rfl rfl ag96 sz96 (z15 rfl p95) (RT.len _ f96) (ze2 (sm88 _ (Or.inr ⟨2, _, rfl, List.mem_singleton.2 rfl⟩)) (ze2 (sm75 _ (Or.inr ⟨2, _, rfl, List.mem_singleton.2 rfl⟩)) z0b)) ?_
 obtain ⟨x97, i98, h99⟩ := z00 h80
 refine D2.lo rfl rfl (Lo.cP rfl (fn := Tryz.f140) (by kernel_rfl) rfl (mc rfl mn) O82 (fun L' O' => z2s K c94 p0 f96 O' _ i98)) ?_ (z1i (by decide) (z1i (by decide) z0b)) ?_ ?_
 .rintro v108 H109 ⟨G100, O101, s102, sm107, ⟨w104, rfl, f105⟩⟩; exact (faR1 (.inl (by decide)) (faR1 (.inr (sm107 _ (Or.inr ⟨2, _, rfl, List.mem_singleton.2 rfl⟩))) (faR1 (.inl (by decide)) (faR1 (.inl (by decide)) z0b))))
 .rintro v108 H109 ⟨G100, O101, s102, sm107, ⟨w104, rfl, f105⟩⟩; exact z0b
 rintro v108 H109 ⟨G100, O101, s102, sm107, ⟨w104, rfl, f105⟩⟩
 obtain ⟨x110, i111, h112⟩ := z00 h99
 refine D2.lo rfl rfl (Lo.callPF (ps := []) (pw := fun w => [eSl w 181 (rI .u32) x110]) rfl (fn := Tryz.f139) (by kernel_rfl) rfl (mc rfl (mc rfl mn)) O101 (fun L' O' => z3n K w91 p1.num (RT.mono _ s102 f93) w104 x97 f105 O' _ i111)) ?_ (z1i (by decide) (z1i (by decide) (z1i (by decide) z0b))) ?_ ?_
 .rintro v121 H122 ⟨w118, G113, O114, s115, sm120, rfl⟩; exact (faR1 (.inl (by decide)) (faR1 (.inl (by decide)) (faR1 (.inl (by decide)) (faR1 (.inl (by decide)) z0b))))
 .rintro v121 H122 ⟨w118, G113, O114, s115, sm120, rfl⟩; exact z0b
 rintro v121 H122 ⟨w118, G113, O114, s115, sm120, rfl⟩
 refine D2.q1 w86 rfl (D2.q1 w118 rfl (.nil (.seq (.draw2 (M := [0, 1, 0, 7, 15, 31]) mixed (by kernel_rfl) (by kernel_rfl) fun H123 N127 x124 F126 => ?_))))
 have O125 := O114.ext x124
 obtain ⟨c128, p129, f130⟩ := (O125.atVar (j := 4) rfl)
 refine D2.loadA' (cs := c128) rfl rfl ag96 sz96 (z15 rfl p129) (RT.len _ f130) z0b ?_
 obtain ⟨x131, i132, h133⟩ := z00 h112
 refine D2.lo rfl rfl (Lo.cP rfl (fn := Tryz.f140) (by kernel_rfl) rfl (mc rfl mn) O125 (fun L' O' => z2s K c128 p0 f130 O' _ i132)) ?_ z0b ?_ ?_
 .rintro v142 H143 ⟨G134, O135, s136, sm141, ⟨w138, rfl, f139⟩⟩; exact (faR1 (.inl (by decide)) z0b)
 .rintro v142 H143 ⟨G134, O135, s136, sm141, ⟨w138, rfl, f139⟩⟩; exact z0b
 rintro v142 H143 ⟨G134, O135, s136, sm141, ⟨w138, rfl, f139⟩⟩
 obtain ⟨c144, p145, f146⟩ := (O135.atVar (j := 3) rfl)
 refine D2.loadA' (cs := c144) rfl rfl ag96 sz96 (z15 rfl p145) (RT.len _ f146) (ze2 (sm141 _ (Or.inr ⟨3, _, rfl, List.mem_singleton.2 rfl⟩)) z0b) ?_
 obtain ⟨x147, i148, h149⟩ := z00 h133
 refine D2.lo rfl rfl (Lo.cP rfl (fn := Tryz.f140) (by kernel_rfl) rfl (mc rfl mn) O135 (fun L' O' => z2s K c144 p1 f146 O' _ i148)) ?_ (z1i (by decide) z0b) ?_ ?_
 .rintro v158 H159 ⟨G150, O151, s152, sm157, ⟨w154, rfl, f155⟩⟩; exact (faR1 (.inl (by decide)) (faR1 (.inl (by decide)) z0b))
 .rintro v158 H159 ⟨G150, O151, s152, sm157, ⟨w154, rfl, f155⟩⟩; exact z0b
 rintro v158 H159 ⟨G150, O151, s152, sm157, ⟨w154, rfl, f155⟩⟩
 obtain ⟨x160, i161, h162⟩ := z00 h149
 refine D2.lo rfl rfl (Lo.callPF (ps := []) (pw := fun w => [eSl w 181 (rI .u32) x160]) rfl (fn := Tryz.f139) (by kernel_rfl) rfl (mc rfl (mc rfl mn)) O151 (fun L' O' => z3n K w138 x131 (RT.mono _ s152 f139) w154 x147 f155 O' _ i161)) ?_ (z1i (by decide) (z1i (by decide) z0b)) ?_ ?_
 .rintro v171 H172 ⟨w168, G163, O164, s165, sm170, rfl⟩; exact (faR1 (.inl (by decide)) (faR1 (.inl (by decide)) z0b))
 .rintro v171 H172 ⟨w168, G163, O164, s165, sm170, rfl⟩; exact z0b
 rintro v171 H172 ⟨w168, G163, O164, s165, sm170, rfl⟩
 refine D2.q1 w168 rfl (.nil (.seq (.seq (.region (W.pure (v := (padd (.pointer (some ⟨b2, 0, none⟩)) 0)) rfl rfl (z6s zea (oo rfl rfl) (O164.atVar (j := 5) rfl)) (W.load1 (v := (.bool p0.neg)) (r := []) rfl rfl ag4 (z15 rfl (At.bool (At.proj (O164.atVar (j := 5) rfl) zar))) ?_))))))
 refine W.pure (v := (padd (.pointer (some ⟨b7, 0, none⟩)) 0)) rfl rfl (z6s zea (oo rfl rfl) (O164.atVar (j := 4) rfl)) (W.load1 (v := (.bool p1.neg)) (r := []) rfl rfl ag4 (z15 rfl (At.bool (At.proj (O164.atVar (j := 4) rfl) zar))) (W.pure (v := (.bool (p0.neg == p1.neg))) rfl rfl (zhu (oo rfl rfl) (oo rfl rfl) un4) (.nil (.cond (b := (p0.neg == p1.neg)) rfl rfl (fun g173 => ?_) (fun g173 => ?_)))))
 .have h174 := z03 g173 h162
  refine .seq (.draw2 (M := [0, 1, 0, 0, 12, 0, 63, 127]) mixed (by kernel_rfl) (by kernel_rfl) fun H175 N179 x176 F178 => ?_)
  have O177 := O164.ext x176
  refine D2.pure (v := (padd (.pointer (some ⟨b2, 0, none⟩)) 0)) rfl rfl (z6s zea (oo rfl rfl) (O177.atVar (j := 5) rfl)) (D2.load1' (v := (.bool p0.neg)) (r := []) rfl rfl ag4 (z15 rfl (At.bool (At.proj (O177.atVar (j := 5) rfl) zar))) z0b (D2.q2 w86 rfl (D2.q2 w118 rfl ?_)))
  obtain ⟨G180, O181, s182, f183⟩ := O177.frzSl (j := 2) rfl
  obtain ⟨G184, O185, s186, f187⟩ := O181.frzSl (j := 1) rfl
  obtain ⟨x188, i189, h190⟩ := z00 h174
  refine D2.lo rfl rfl (Lo.callPF (ps := []) (pw := fun w => [eSl w 181 (rI .u32) x188]) rfl (fn := Tryz.f146) (by kernel_rfl) rfl (mc rfl (mc rfl mn)) O185 (fun L' O' => zdg K w86 x78 (RT.mono _ s186 f183) w118 x110 f187 O' _ i189)) ?_ z0b ?_ ?_
  .rintro v199 H200 ⟨w196, G191, O192, s193, sm198, rfl⟩; exact (faR1 (.inr (sm198 _ (Or.inr ⟨3, _, rfl, List.mem_singleton.2 rfl⟩))) z0b)
  .rintro v199 H200 ⟨w196, G191, O192, s193, sm198, rfl⟩; exact z0b
  rintro v199 H200 ⟨w196, G191, O192, s193, sm198, rfl⟩
  refine D2.q2 w168 rfl ?_
  obtain ⟨G201, O202, s203, f204⟩ := O192.frzSl (j := 0) rfl
  obtain ⟨G205, O206, s207, f208⟩ := O202.frzSl (j := 0) rfl
  obtain ⟨x209, i210, h211⟩ := z00 h190
  refine D2.lo rfl rfl (Lo.cP rfl (fn := Tryz.f138) (by kernel_rfl) rfl (mc rfl (mc rfl (mc rfl mn))) O206 (fun L' O' => z7v K p0.neg w196 x188 (RT.mono _ s207 f204) w168 x160 f208 O' _ i210)) ?_ (z1i (by decide) z0b) ?_ ?_
  .rintro v220 H221 ⟨G212, O213, s214, sm219, ⟨c216, rfl, f217⟩⟩; exact (faR1 (.inl (by decide)) z0b)
  .rintro v220 H221 ⟨G212, O213, s214, sm219, ⟨c216, rfl, f217⟩⟩; exact z0b
  rintro v220 H221 ⟨G212, O213, s214, sm219, ⟨c216, rfl, f217⟩⟩
  refine D2.lo rfl rfl (Lo.storeVar (j := 0) (s := T_Q) (y0 := x209) (v := (.agg (List.toArray c216))) (o := 0) rfl ((Put.at (Put.self _) _ _)) rfl sz96 rfl (by omega) rfl f217 O213) ?_ (z1i (by decide) (z1i (by decide) z0b)) ?_ ?_
  .rintro v224 H225 ⟨O222, sm223⟩; exact (faR1 (.inl (by decide)) z0b)
  .rintro v224 H225 ⟨O222, sm223⟩; exact z0b
  rintro v224 H225 ⟨O222, sm223⟩
  refine .nil (.ret ?_)
  obtain ⟨c226, p227, f228⟩ := (O222.atVar (j := 0) rfl)
  have O229 : Ow G212 H225 (eVar b7 96 T_Q p1 :: eVar b2 96 T_Q p0 :: L) := O222.drop 0
  have O230 : Ow G212 H225 (eVar b2 96 T_Q p0 :: L) := O229.drop 0
  have O231 : Ow G212 H225 (L) := O230.drop 0
  obtain rfl := zAa h211
  exact z1h kr (v1 := (.agg (List.toArray c226))) (by rfl) (z6t (p := (.pointer (some ⟨b12, 0, none⟩))) (by rfl) ag96 sz96 (by exact rfl) p227 (RT.len _ f228)) O231 (zAe s70 (zAe s83 (zAe s102 (zAe s115 (zAe s136 (zAe s152 (zAe s165 (zAe s182 (zAe s186 (zAe s193 (zAe s203 (zAe s207 s214)))))))))))) ⟨c226, rfl, f228⟩
 have h232 := z0g g173 h162
 refine .skip (.seq (.seq (.region (W.q2 w86 rfl (W.q2 w118 rfl ?_)))))
 obtain ⟨G233, O234, s235, f236⟩ := O164.frzSl (j := 2) rfl
 obtain ⟨G237, O238, s239, f240⟩ := O234.frzSl (j := 1) rfl
 obtain ⟨x241, i242, h243⟩ := z00 h232
 refine W.lo rfl rfl (Lo.cP rfl (fn := Tryz.f135) (by kernel_rfl) rfl (mc rfl (mc rfl mn)) O238 (fun L' O' => z6f K w86 x78 (RT.mono _ s239 f236) w118 x110 f240 O' _ i242)) ?_
 rintro v250 H251 ⟨G244, O245, s246, sm249, rfl⟩
 refine W.q3 (.bool (decide (x241 >= 0))) rfl rfl (.nil (.cond (b := decide (x241 >= 0)) rfl rfl (fun g252 => ?_) (fun g252 => ?_)))
 .have h253 := z03 g252 h243
  refine .seq (.draw2 (M := [0, 1, 0, 0, 12, 0, 63, 127]) mixed (by kernel_rfl) (by kernel_rfl) fun H254 N258 x255 F257 => ?_)
  have O256 := O245.ext x255
  refine D2.pure (v := (padd (.pointer (some ⟨b2, 0, none⟩)) 0)) rfl rfl (z6s zea (oo rfl rfl) (O256.atVar (j := 3) rfl)) (D2.load1' (v := (.bool p0.neg)) (r := []) rfl rfl ag4 (z15 rfl (At.bool (At.proj (O256.atVar (j := 3) rfl) zar))) z0b (D2.q2 w86 rfl (D2.q2 w118 rfl ?_)))
  obtain ⟨x259, i260, h261⟩ := z00 h253
  refine D2.lo rfl rfl (Lo.callPF (ps := []) (pw := fun w => [eSl w 181 (rI .u32) x259]) rfl (fn := Tryz.f147) (by kernel_rfl) rfl (mc rfl (mc rfl mn)) O256 (fun L' O' => z9x K w86 x78 (RT.mono _ (zAe s239 s246) f236) w118 x110 (RT.mono _ s246 f240) O' _ i260)) ?_ z0b ?_ ?_
  .rintro v270 H271 ⟨w267, G262, O263, s264, sm269, rfl⟩; exact (faR1 (.inr (sm269 _ (Or.inr ⟨3, _, rfl, List.mem_singleton.2 rfl⟩))) z0b)
  .rintro v270 H271 ⟨w267, G262, O263, s264, sm269, rfl⟩; exact z0b
  rintro v270 H271 ⟨w267, G262, O263, s264, sm269, rfl⟩
  refine D2.q2 w168 rfl ?_
  obtain ⟨G272, O273, s274, f275⟩ := O263.frzSl (j := 0) rfl
  obtain ⟨G276, O277, s278, f279⟩ := O273.frzSl (j := 0) rfl
  obtain ⟨x280, i281, h282⟩ := z00 h261
  refine D2.lo rfl rfl (Lo.cP rfl (fn := Tryz.f138) (by kernel_rfl) rfl (mc rfl (mc rfl (mc rfl mn))) O277 (fun L' O' => z7v K p0.neg w267 x259 (RT.mono _ s278 f275) w168 x160 f279 O' _ i281)) ?_ (z1i (by decide) z0b) ?_ ?_
  .rintro v291 H292 ⟨G283, O284, s285, sm290, ⟨c287, rfl, f288⟩⟩; exact (faR1 (.inl (by decide)) z0b)
  .rintro v291 H292 ⟨G283, O284, s285, sm290, ⟨c287, rfl, f288⟩⟩; exact z0b
  rintro v291 H292 ⟨G283, O284, s285, sm290, ⟨c287, rfl, f288⟩⟩
  refine D2.lo rfl rfl (Lo.storeVar (j := 0) (s := T_Q) (y0 := x280) (v := (.agg (List.toArray c287))) (o := 0) rfl ((Put.at (Put.self _) _ _)) rfl sz96 rfl (by omega) rfl f288 O284) ?_ (z1i (by decide) (z1i (by decide) z0b)) ?_ ?_
  .rintro v295 H296 ⟨O293, sm294⟩; exact (faR1 (.inl (by decide)) z0b)
  .rintro v295 H296 ⟨O293, sm294⟩; exact z0b
  rintro v295 H296 ⟨O293, sm294⟩
  refine .nil (.ret ?_)
  obtain ⟨c297, p298, f299⟩ := (O293.atVar (j := 0) rfl)
  have O300 : Ow G283 H296 (eVar b7 96 T_Q p1 :: eVar b2 96 T_Q p0 :: L) := O293.drop 0
  have O301 : Ow G283 H296 (eVar b2 96 T_Q p0 :: L) := O300.drop 0
  have O302 : Ow G283 H296 (L) := O301.drop 0
  obtain rfl := zAa h282
  exact z1h kr (v1 := (.agg (List.toArray c297))) (by rfl) (z6t (p := (.pointer (some ⟨b12, 0, none⟩))) (by rfl) ag96 sz96 (by exact rfl) p298 (RT.len _ f299)) O302 (zAe s70 (zAe s83 (zAe s102 (zAe s115 (zAe s136 (zAe s152 (zAe s165 (zAe s235 (zAe s239 (zAe s246 (zAe s264 (zAe s274 (zAe s278 s285))))))))))))) ⟨c297, rfl, f299⟩
 have h303 := z0g g252 h243
 refine .skip (.seq (.draw2 (M := [0, 1, 0, 0, 12, 0, 63, 127]) mixed (by kernel_rfl) (by kernel_rfl) fun H304 N308 x305 F307 => ?_))
 have O306 := O245.ext x305
 refine D2.pure (v := (padd (.pointer (some ⟨b7, 0, none⟩)) 0)) rfl rfl (z6s zea (oo rfl rfl) (O306.atVar (j := 2) rfl)) (D2.load1' (v := (.bool p1.neg)) (r := []) rfl rfl ag4 (z15 rfl (At.bool (At.proj (O306.atVar (j := 2) rfl) zar))) z0b (D2.q2 w118 rfl (D2.q2 w86 rfl ?_)))
 obtain ⟨x309, i310, h311⟩ := z00 h303
 refine D2.lo rfl rfl (Lo.callPF (ps := []) (pw := fun w => [eSl w 181 (rI .u32) x309]) rfl (fn := Tryz.f147) (by kernel_rfl) rfl (mc rfl (mc rfl mn)) O306 (fun L' O' => z9x K w118 x110 (RT.mono _ s246 f240) w86 x78 (RT.mono _ (zAe s239 s246) f236) O' _ i310)) ?_ z0b ?_ ?_
 .rintro v320 H321 ⟨w317, G312, O313, s314, sm319, rfl⟩; exact (faR1 (.inr (sm319 _ (Or.inr ⟨2, _, rfl, List.mem_singleton.2 rfl⟩))) z0b)
 .rintro v320 H321 ⟨w317, G312, O313, s314, sm319, rfl⟩; exact z0b
 rintro v320 H321 ⟨w317, G312, O313, s314, sm319, rfl⟩
 refine D2.q2 w168 rfl ?_
 obtain ⟨G322, O323, s324, f325⟩ := O313.frzSl (j := 0) rfl
 obtain ⟨G326, O327, s328, f329⟩ := O323.frzSl (j := 0) rfl
 obtain ⟨x330, i331, h332⟩ := z00 h311
 refine D2.lo rfl rfl (Lo.cP rfl (fn := Tryz.f138) (by kernel_rfl) rfl (mc rfl (mc rfl (mc rfl mn))) O327 (fun L' O' => z7v K p1.neg w317 x309 (RT.mono _ s328 f325) w168 x160 f329 O' _ i331)) ?_ (z1i (by decide) z0b) ?_ ?_
 .rintro v341 H342 ⟨G333, O334, s335, sm340, ⟨c337, rfl, f338⟩⟩; exact (faR1 (.inl (by decide)) z0b)
 .rintro v341 H342 ⟨G333, O334, s335, sm340, ⟨c337, rfl, f338⟩⟩; exact z0b
 rintro v341 H342 ⟨G333, O334, s335, sm340, ⟨c337, rfl, f338⟩⟩
 refine D2.lo rfl rfl (Lo.storeVar (j := 0) (s := T_Q) (y0 := x330) (v := (.agg (List.toArray c337))) (o := 0) rfl ((Put.at (Put.self _) _ _)) rfl sz96 rfl (by omega) rfl f338 O334) ?_ (z1i (by decide) (z1i (by decide) z0b)) ?_ ?_
 .rintro v345 H346 ⟨O343, sm344⟩; exact (faR1 (.inl (by decide)) z0b)
 .rintro v345 H346 ⟨O343, sm344⟩; exact z0b
 rintro v345 H346 ⟨O343, sm344⟩
 refine .nil (.ret ?_)
 obtain ⟨c347, p348, f349⟩ := (O343.atVar (j := 0) rfl)
 have O350 : Ow G333 H346 (eVar b7 96 T_Q p1 :: eVar b2 96 T_Q p0 :: L) := O343.drop 0
 have O351 : Ow G333 H346 (eVar b2 96 T_Q p0 :: L) := O350.drop 0
 have O352 : Ow G333 H346 (L) := O351.drop 0
 obtain rfl := zAa h332
 exact z1h kr (v1 := (.agg (List.toArray c347))) (by rfl) (z6t (p := (.pointer (some ⟨b12, 0, none⟩))) (by rfl) ag96 sz96 (by exact rfl) p348 (RT.len _ f349)) O352 (zAe s70 (zAe s83 (zAe s102 (zAe s115 (zAe s136 (zAe s152 (zAe s165 (zAe s235 (zAe s239 (zAe s246 (zAe s314 (zAe s324 (zAe s328 s335))))))))))))) ⟨c347, rfl, f349⟩
def z40 (K : Nat) (p0 : List Q) (p1 : List Q) : Nat -> Q -> Int -> Option (Q)
  | 0, _, _ => none
  | k + 1, x15, x16 => (if (decide (x16 < (List.length p0 : Int))) = true then ((idx p0 x16).bind fun x27 => ((idx p1 x16).bind fun x54 => ((z6l K x27 x54).bind fun x61 => ((z6n K x15 x61).bind fun x74 => z40 K p0 p1 k x74 (z04 .i64 (x16 + 1)))))) else some x15)
def z47 (K : Nat) (p0 : List Q) (p1 : List Q) : Option Q := (Option.bind (z40 K p0 p1 K (Q.mk false ([] : List Int) ([] : List Int)) 0) (tu1 fun x93 => some x93))
theorem z5c (v0 : Value) (p0 : List Q) (hp0 : (rSl T_Q).rep G [v0] p0) (v1 : Value) (p1 : List Q) (hp1 : (rSl T_Q).rep G [v1] p1) (O : Ow G H (L)) (r : Q) (h : z47 K p0 p1 = some r) :
    CR Tryz.prog 83 [v0, v1] G H (L) (fun v G' _ => ∃ (w0 : List Value), v = .agg (List.toArray w0) /\ T_Q.rep G' w0 r) := by
 unfold z47 at h
 refine CR.og (n := 25) (fn := Tryz.f83) (by kernel_rfl) rfl rfl fun R kr => (.seq (.region (W.lo rfl rfl (Lo.alloc (r := T_Q) (x0 := (Q.mk false ([] : List Int) ([] : List Int))) ze96 (by kernel_rfl) z_Q O) ?_)))
 rintro v4 H5 ⟨b2, rfl, O1, sm3⟩
 refine .nil (.seq (.region (W.lo rfl rfl (Lo.alloc (r := T_Q) (x0 := (Q.mk false ([] : List Int) ([] : List Int))) ze96 (by kernel_rfl) z_Q O1) ?_)))
 rintro v9 H10 ⟨b7, rfl, O6, sm8⟩
 refine .nil (.seq (.seq (.region (W.q2 v0 rfl (W.pure (v := (.int .i64 (List.length p0 : Int))) rfl rfl (z0f (oo rfl rfl) (z0a hp0) (z02 zbp)) (W.q2 (.int .i64 0) rfl ?_))))))
 refine .nil ?_
 obtain ⟨q11, h12, h13⟩ := z00 h
 refine AW.midT (fun σ' H' => ∃ (y1 : Q) (G' : GM), y1 = q11 /\ Ow G' H' (eVar b7 96 T_Q y1 :: eVar b2 96 T_Q (Q.mk false ([] : List Int) ([] : List Int)) :: L) /\ GM.le G G') ?_ ?_
 rotate_left
 .rintro σ94 H95 fr96 ⟨x93, G97, rfl, O98, s99⟩
  have h101 := z09 h13
  refine .seq (.region ?_)
  obtain ⟨c102, p103, f104⟩ := (O98.atVar (j := 0) rfl)
  refine W.loadA (cs := c102) rfl rfl ag96 sz96 (z15 ((fr96 5 rfl).trans rfl) p103) (RT.len _ f104) (W.lo rfl rfl (Lo.storeVar (j := 1) (s := T_Q) (y0 := x93) (v := (.agg (List.toArray c102))) (o := 0) rfl ((Put.at (Put.self _) _ _)) rfl sz96 ((fr96 4 rfl).trans rfl) (by omega) rfl f104 O98) ?_)
  rintro v107 H108 ⟨O105, sm106⟩
  refine .nil (.ret ?_)
  obtain ⟨c109, p110, f111⟩ := (O105.atVar (j := 1) rfl)
  have O112 : Ow G97 H108 (eVar b2 96 T_Q x93 :: L) := O105.drop 0
  have O113 : Ow G97 H108 (L) := O112.drop 0
  obtain rfl := zAa h101
  exact z1h kr (v1 := (.agg (List.toArray c109))) (by rfl) (z6t (p := (.pointer (some ⟨b2, 0, none⟩))) (by rfl) ag96 sz96 (by exact ((fr96 4 rfl).trans rfl)) p110 (RT.len _ f111)) O113 s99 ⟨c109, rfl, f111⟩
 refine .block (AW.loop (α := Nat) (fun k' σ' H' => ∃ (y1 : Q) (y2 : Int) (G' : GM), z40 K p0 p1 k' y1 y2 = some q11 /\ Ow G' H' (eVar b7 96 T_Q y1 :: eVar b2 96 T_Q (Q.mk false ([] : List Int) ([] : List Int)) :: L) /\ GM.le G G' /\ σ' 10 = .int .i64 y2) (fun k' => k') K ⟨(Q.mk false ([] : List Int) ([] : List Int)), 0, _, h12, O6, (zAf _), rfl⟩ ?_)
 rintro k14
 rintro σ17 H18 fr19 ⟨x15, x16, G20, h23, O21, s22, t24⟩
 rcases k14 with _ | k14
 .exact z06 h23
 rw [z40] at h23
 refine .seq (.region (W.q3 (.bool (decide (x16 < (List.length p0 : Int)))) t24 ((fr19 9 rfl).trans rfl) (.nil (.seq (.cond (b := decide (x16 < (List.length p0 : Int))) rfl rfl (fun g25 => ?_) (fun g25 => ?_))))))
 rotate_left
 .have h92 := z0g g25 h23
  refine .exit ?_
  obtain rfl := zAa h92
  exact ⟨x15, _, rfl, O21, s22⟩
 have h26 := z03 g25 h23
 refine .skip (.seq (.block (.seq (.region (W.q2 _ t24 ?_)))))
 obtain ⟨x27, i28, h29⟩ := z00 h26
 have j30 := z0d i28
 refine W.pure (v := (z1k v0 (Int.toNat x16 * 3))) rfl rfl (z26 zbp sz96 (oo rfl ((fr19 8 rfl).trans rfl)) (oo rfl t24) (z0a (RT.mono _ s22 hp0)) j30.1 j30.2.1) ?_
 obtain ⟨c31, p32, f33⟩ := (At.le (At.le (z17 hp0 j30.2.2) s22 s22) (zAf _) O21.fro)
 refine W.loadA (cs := c31) rfl rfl ag96 sz96 (z15 rfl p32) (RT.len _ f33) (W.lo rfl rfl (Lo.alloc (r := T_Q) (x0 := (Q.mk false ([] : List Int) ([] : List Int))) ze96 (by kernel_rfl) z_Q O21) ?_)
 rintro v37 H38 ⟨b35, rfl, O34, sm36⟩
 refine W.q1 (.int .i64 x16) rfl (W.lo rfl rfl (Lo.storeVar (j := 0) (s := T_Q) (y0 := x27) (v := (.agg (List.toArray c31))) (o := 0) rfl ((Put.at (Put.self _) _ _)) rfl sz96 rfl (by omega) rfl f33 O34) ?_)
 rintro v41 H42 ⟨O39, sm40⟩
 refine .nil (.draw2 (M := [0, 0, 0, 0, 12, 28, 62, 127, 255]) mixed (by kernel_rfl) (by kernel_rfl) fun H43 N47 x44 F46 => ?_)
 have O45 := O39.ext x44
 obtain ⟨c48, p49, f50⟩ := (O45.atVar (j := 1) rfl)
 refine D2.loadA' (cs := c48) rfl rfl ag96 sz96 (z15 ((fr19 5 rfl).trans rfl) p49) (RT.len _ f50) z0b ?_
 obtain ⟨c51, p52, f53⟩ := (O45.atVar (j := 0) rfl)
 refine D2.loadA' (cs := c51) rfl rfl ag96 sz96 (z15 rfl p52) (RT.len _ f53) z0b (D2.q2 v1 ((fr19 1 rfl).trans rfl) (D2.q2 (.int .i64 x16) rfl ?_))
 obtain ⟨x54, i55, h56⟩ := z00 h29
 have j57 := z0d i55
 refine D2.pure (v := (z1k v1 (Int.toNat x16 * 3))) rfl rfl (z26 zbp sz96 (oo rfl rfl) (oo rfl rfl) (z0a (RT.mono _ s22 hp1)) j57.1 j57.2.1) ?_
 obtain ⟨c58, p59, f60⟩ := (At.le (At.le (z17 hp1 j57.2.2) s22 s22) (zAf _) O45.fro)
 refine D2.loadA' (cs := c58) rfl rfl ag96 sz96 (z15 rfl p59) (RT.len _ f60) z0b ?_
 obtain ⟨x61, i62, h63⟩ := z00 h56
 refine D2.lo rfl rfl (Lo.cP rfl (fn := Tryz.f92) (by kernel_rfl) rfl (mc rfl (mc rfl mn)) O45 (fun L' O' => z9w K c51 x27 f53 c58 x54 f60 O' _ i62)) ?_ z0b ?_ ?_
 .rintro v72 H73 ⟨G64, O65, s66, sm71, ⟨c68, rfl, f69⟩⟩; exact (faR1 (.inl (by decide)) (faR1 (.inl (by decide)) (faR1 (.inr (znv ((fr19 5 rfl).trans rfl) (sm71 _ (Or.inr ⟨1, _, rfl, List.mem_singleton.2 rfl⟩)))) z0b)))
 .rintro v72 H73 ⟨G64, O65, s66, sm71, ⟨c68, rfl, f69⟩⟩; exact z0b
 rintro v72 H73 ⟨G64, O65, s66, sm71, ⟨c68, rfl, f69⟩⟩
 obtain ⟨x74, i75, h76⟩ := z00 h63
 refine D2.lo rfl rfl (Lo.cP rfl (fn := Tryz.f91) (by kernel_rfl) rfl (mc rfl (mc rfl mn)) O65 (fun L' O' => z9y K c48 x15 (RT.mono _ s66 f50) c68 x61 f69 O' _ i75)) ?_ (z1i (by decide) z0b) ?_ ?_
 .rintro v85 H86 ⟨G77, O78, s79, sm84, ⟨c81, rfl, f82⟩⟩; exact (faR1 (.inl (by decide)) (faR1 (.inl (by decide)) (faR1 (.inl (by decide)) z0b)))
 .rintro v85 H86 ⟨G77, O78, s79, sm84, ⟨c81, rfl, f82⟩⟩; exact z0b
 rintro v85 H86 ⟨G77, O78, s79, sm84, ⟨c81, rfl, f82⟩⟩
 refine D2.lo rfl rfl (Lo.storeVar (j := 1) (s := T_Q) (y0 := x74) (v := (.agg (List.toArray c81))) (o := 0) rfl ((Put.at (Put.self _) _ _)) rfl sz96 ((fr19 5 rfl).trans rfl) (by omega) rfl f82 O78) ?_ (z1i (by decide) (z1i (by decide) z0b)) ?_ ?_
 .rintro v89 H90 ⟨O87, sm88⟩; exact (faR1 (.inl (by decide)) (faR1 (.inl (by decide)) (faR1 (.inl (by decide)) z0b)))
 .rintro v89 H90 ⟨O87, sm88⟩; exact z0b
 rintro v89 H90 ⟨O87, sm88⟩
 refine .nil (.region (W.q3 (.int .i64 (z04 .i64 (x16 + 1))) t24 rfl (W.q2 (.int .i64 (z04 .i64 (x16 + 1))) rfl (.nil ?_))))
 have O91 : Ow G77 H90 (eVar b7 96 T_Q x74 :: eVar b2 96 T_Q (Q.mk false ([] : List Int) ([] : List Int)) :: L) := O87.drop 0
 exact ⟨k14, zAg _, ⟨x74, z04 .i64 (x16 + 1), _, h76, O91, (zAe s22 (zAe s66 s79)), rfl⟩⟩
def z0n (K : Nat) (p1 : Int) : Nat -> zAd -> Option (zAd)
  | 0, _ => none
  | k + 1, x5 => (Option.bind ((if (decide ((x5.size : Int) > 0)) = true then ((bidx x5 0).bind fun x20 => some (x20 == p1)) else some false)) (tu1 fun x24 => (if x24 = true then ((ssl x5 1 (x5.size : Int)).bind fun x36 => z0n K p1 k x36) else some x5)))
def z2x (K : Nat) (p0 : zAd) (p1 : Int) : Option zAd := (Option.bind (z0n K p1 K p0) (tu1 fun x40 => some x40))
theorem z7k (p0 : zAd) (p1 : Int) (O : Ow G H (L)) (r : zAd) (h : z2x K p0 p1 = some r) :
    CR Tryz.prog 175 [(.string p0), (.int .u8 p1)] G H (L) (fun v G' _ => v = .string r) := by
 unfold z2x at h
 refine CR.og (n := 17) (fn := Tryz.f175) (by kernel_rfl) rfl rfl fun R kr => (.seq (.region (W.q1 (.string (⟨#[]⟩ : zAd)) rfl (.nil (.seq ?_)))))
 obtain ⟨q1, h2, h3⟩ := z00 h
 refine AW.midT (fun σ' H' => ∃ (y1 : zAd) (G' : GM), y1 = q1 /\ Ow G' H' (L) /\ GM.le G G' /\ σ' 0 = .string y1) ?_ ?_
 rotate_left
 .rintro σ41 H42 fr43 ⟨x40, G44, rfl, O45, s46, t48⟩
  have h49 := z09 h3
  refine .seq (.region (W.q2 _ t48 (W.q1 (.string x40) rfl (.nil (.ret ?_)))))
  obtain rfl := zAa h49
  exact z1h kr (v1 := (.string x40)) (by rfl) (z07 (by rfl) (by exact rfl)) O45 s46 rfl
 refine .block (AW.loop (α := Nat) (fun k' σ' H' => ∃ (y1 : zAd) (G' : GM), z0n K p1 k' y1 = some q1 /\ Ow G' H' (L) /\ GM.le G G' /\ σ' 0 = .string y1) (fun k' => k') K ⟨p0, _, h2, O, (zAf _), rfl⟩ ?_)
 rintro k4
 rintro σ6 H7 fr8 ⟨x5, G9, h12, O10, s11, t13⟩
 rcases k4 with _ | k4
 .exact z06 h12
 rw [z0n] at h12
 refine .seq (.seq ?_)
 obtain ⟨q14, h15, h16⟩ := z00 h12
 refine AW.midT (fun σ' H' => ∃ (y1 : Bool) (G' : GM), y1 = q14 /\ Ow G' H' (L) /\ GM.le G9 G' /\ σ' 13 = .bool y1) ?_ ?_
 rotate_left
 .rintro σ25 H26 fr27 ⟨x24, G28, rfl, O29, s30, t32⟩
  have h33 := z09 h16
  refine .cond (b := x24) rfl t32 (fun g34 => ?_) (fun g34 => ?_)
  rotate_left
  .have h39 := z0g g34 h33
   refine .exit ?_
   obtain rfl := zAa h39
   exact ⟨x5, _, rfl, O29, (zAe s11 s30), ((fr27 0 rfl).trans t13)⟩
  have h35 := z03 g34 h33
  refine .skip (.block (.region (W.q2 _ ((fr27 0 rfl).trans t13) ?_)))
  obtain ⟨x36, i37, h38⟩ := z00 h35
  refine W.pure (v := (.string x36)) rfl rfl (ze9 un9 (oo rfl rfl) (oo rfl rfl) i37) (W.q1 (.string x36) rfl (.nil ?_))
  exact ⟨k4, zAg _, ⟨x36, _, h38, O29, (zAe s11 s30), rfl⟩⟩
 refine .region (W.q2 _ t13 (W.pure (v := (.int .i64 (x5.size : Int))) rfl rfl (z1p (oo rfl rfl) un9) (W.q3 (.bool (decide ((x5.size : Int) > 0))) rfl rfl (W.q2 (.bool (decide ((x5.size : Int) > 0))) rfl (W.splitAt (t := 8) (b := decide ((x5.size : Int) > 0)) rfl (fun g17 gv18 => ?_) (fun g17 gv18 => ?_))))))
 rotate_left
 .have h23 := z0g g17 h15
  refine W.q6 rfl gv18 (W.q6 rfl gv18 (W.q6 rfl gv18 (W.q6 rfl gv18 (W.q5 (.bool false) gv18 rfl (.nil ?_)))))
  obtain rfl := zAa h23
  exact ⟨false, _, rfl, O10, (zAf _), rfl⟩
 have h19 := z03 g17 h15
 refine W.q2 (hg := gk rfl rfl gv18 rfl) _ t13 ?_
 obtain ⟨x20, i21, h22⟩ := z00 h19
 refine W.pure (v := (.int .u8 x20)) (gk rfl rfl gv18 rfl) rfl (z9r un9 (oo rfl rfl) (oo rfl rfl) i21) (W.q2 (hg := gk rfl rfl gv18 rfl) (.int .u8 p1) ((fr8 1 rfl).trans rfl) (W.q3 (hg := gk rfl rfl gv18 rfl) (.bool (x20 == p1)) rfl rfl (W.q4 (.bool (x20 == p1)) gv18 rfl (.nil ?_))))
 obtain rfl := zAa h22
 exact ⟨(x20 == p1), _, rfl, O10, (zAf _), rfl⟩
def z3d (K : Nat) (p0 : zAd) (p1 : zAd) : Option zAd := (Option.bind ((if (sEq p0 (⟨#[]⟩ : zAd)) = true then some true else some (sEq p1 (⟨#[]⟩ : zAd)))) (tu1 fun x8 => (if x8 = true then some p0 else (Option.bind ((if ((p1.size : Int) == 1) = true then ((bidx p1 0).bind fun x27 => some (decide (x27 < 128))) else some false)) (tu1 fun x31 => (if x31 = true then ((bidx p1 0).bind fun x43 => ((z2x K p0 x43).bind fun x46 => some x46)) else none))))))
theorem z91 (p0 : zAd) (p1 : zAd) (O : Ow G H (L)) (r : zAd) (h : z3d K p0 p1 = some r) :
    CR Tryz.prog 167 [(.string p0), (.string p1)] G H (L) (fun v G' _ => v = .string r) := by
 unfold z3d at h
 refine CR.og (n := 37) (fn := Tryz.f167) (by kernel_rfl) rfl rfl fun R kr => (.seq (.region (W.q1 (.string (⟨#[]⟩ : zAd)) rfl (.nil (.seq (.seq ?_))))))
 obtain ⟨q1, h2, h3⟩ := z00 h
 refine AW.midT (fun σ' H' => ∃ (y1 : Bool) (G' : GM), y1 = q1 /\ Ow G' H' (L) /\ GM.le G G' /\ σ' 12 = .bool y1) ?_ ?_
 .refine .region (W.q2 (.string p0) rfl (W.pure (v := (.bool (sEq p0 (⟨#[]⟩ : zAd)))) rfl rfl (z9c (oo rfl rfl) (oo rfl rfl)) (W.q2 (.bool (sEq p0 (⟨#[]⟩ : zAd))) rfl (W.splitAt (t := 9) (b := sEq p0 (⟨#[]⟩ : zAd)) rfl (fun g4 gv5 => ?_) (fun g4 gv5 => ?_)))))
  .have h6 := z03 g4 h2
   refine W.q6 rfl gv5 (W.q6 rfl gv5 (W.q4 (.bool true) gv5 rfl (.nil ?_)))
   obtain rfl := zAa h6
   exact ⟨true, _, rfl, O, (zAf _), rfl⟩
  have h7 := z0g g4 h2
  refine W.q2 (hg := gk rfl rfl gv5 rfl) (.string p1) rfl (W.pure (v := (.bool (sEq p1 (⟨#[]⟩ : zAd)))) (gk rfl rfl gv5 rfl) rfl (z9c (oo rfl rfl) (oo rfl rfl)) (W.q5 (.bool (sEq p1 (⟨#[]⟩ : zAd))) gv5 rfl (.nil ?_)))
  obtain rfl := zAa h7
  exact ⟨sEq p1 (⟨#[]⟩ : zAd), _, rfl, O, (zAf _), rfl⟩
 rintro σ9 H10 fr11 ⟨x8, G12, rfl, O13, s14, t16⟩
 have h17 := z09 h3
 refine .cond (b := x8) rfl t16 (fun g18 => ?_) (fun g18 => ?_)
 .have h19 := z03 g18 h17
  refine .seq (.region (W.q2 (.string p0) ((fr11 0 rfl).trans rfl) (W.q1 (.string p0) rfl (.nil (.ret ?_)))))
  obtain rfl := zAa h19
  exact z1h kr (v1 := (.string p0)) (by rfl) (z07 (by rfl) (by exact rfl)) O13 s14 rfl
 have h20 := z0g g18 h17
 refine .skip (.seq (.seq ?_))
 obtain ⟨q21, h22, h23⟩ := z00 h20
 refine AW.midT (fun σ' H' => ∃ (y1 : Bool) (G' : GM), y1 = q21 /\ Ow G' H' (L) /\ GM.le G12 G' /\ σ' 21 = .bool y1) ?_ ?_
 rotate_left
 .rintro σ32 H33 fr34 ⟨x31, G35, rfl, O36, s37, t39⟩
  have h40 := z09 h23
  refine .cond (b := x31) rfl t39 (fun g41 => ?_) (fun g41 => ?_)
  rotate_left
  .have h57 := z0g g41 h40
   refine .skip (.seq (.seq (.region (W.q2 (.string p1) ((fr34 1 rfl).trans ((fr11 1 rfl).trans rfl)) ?_))))
   exact gap h57
  have h42 := z03 g41 h40
  refine .seq (.region (W.q2 (.string p0) ((fr34 0 rfl).trans ((fr11 0 rfl).trans rfl)) (W.q2 (.string p1) ((fr34 1 rfl).trans ((fr11 1 rfl).trans rfl)) ?_)))
  obtain ⟨x43, i44, h45⟩ := z00 h42
  refine W.pure (v := (.int .u8 x43)) rfl rfl (z9r un9 (oo rfl rfl) (oo rfl rfl) i44) ?_
  obtain ⟨x46, i47, h48⟩ := z00 h45
  refine W.lo rfl rfl (Lo.cP rfl (fn := Tryz.f175) (by kernel_rfl) rfl (mc rfl (mc rfl mn)) O36 (fun L' O' => z7k K p0 x43 O' _ i47)) ?_
  rintro v55 H56 ⟨G49, O50, s51, sm54, rfl⟩
  refine W.q1 (.string x46) rfl (.nil (.ret ?_))
  obtain rfl := zAa h48
  exact z1h kr (v1 := (.string x46)) (by rfl) (z07 (by rfl) (by exact rfl)) O50 (zAe s14 (zAe s37 s51)) rfl
 refine .region (W.q2 (.string p1) ((fr11 1 rfl).trans rfl) (W.pure (v := (.int .i64 (p1.size : Int))) rfl rfl (z1p (oo rfl rfl) un9) (W.q3 (.bool ((p1.size : Int) == 1)) rfl rfl (W.q2 (.bool ((p1.size : Int) == 1)) rfl (W.splitAt (t := 17) (b := ((p1.size : Int) == 1)) rfl (fun g24 gv25 => ?_) (fun g24 gv25 => ?_))))))
 rotate_left
 .have h30 := z0g g24 h22
  refine W.q6 rfl gv25 (W.q6 rfl gv25 (W.q6 rfl gv25 (W.q5 (.bool false) gv25 rfl (.nil ?_))))
  obtain rfl := zAa h30
  exact ⟨false, _, rfl, O13, (zAf _), rfl⟩
 have h26 := z03 g24 h22
 refine W.q2 (hg := gk rfl rfl gv25 rfl) (.string p1) ((fr11 1 rfl).trans rfl) ?_
 obtain ⟨x27, i28, h29⟩ := z00 h26
 refine W.pure (v := (.int .u8 x27)) (gk rfl rfl gv25 rfl) rfl (z9r un9 (oo rfl rfl) (oo rfl rfl) i28) (W.q3 (hg := gk rfl rfl gv25 rfl) (.bool (decide (x27 < 128))) rfl rfl (W.q4 (.bool (decide (x27 < 128))) gv25 rfl (.nil ?_)))
 obtain rfl := zAa h29
 exact ⟨decide (x27 < 128), _, rfl, O13, (zAf _), rfl⟩
def z2j (K : Nat) : Nat -> List Int -> Int -> Int -> Option (List Int)
  | 0, _, _, _ => none
  | k + 1, x39, x40, x41 => (if (decide (x41 >= 0)) = true then (lt (IntKind.wrap .u8 (z04 .u32 ((48 : Int) + (Int.tmod x40 10)))) fun x53 => ((idx x39 x41).bind fun x56 => z2j K k (List.set x39 (Int.toNat x41) x53) (z04 .u32 (Int.tdiv x40 10)) (z04 .i64 (x41 - 1)))) else some x39)
def z2k (K : Nat) (p0 : List Int) : Nat -> List Int -> Int -> Option (List Int)
  | 0, _, _ => none
  | k + 1, x14, x15 => (if (decide (x15 >= 0)) = true then ((idx p0 x15).bind fun x26 => (Option.bind (z2j K K (List.replicate 9 0) x26 8) (tu1 fun x65 => (if List.length x14 + List.length x65 <= 16777216 then z2k K p0 k (x14 ++ x65) (z04 .i64 (x15 - 1)) else none)))) else some x14)
def z4w (K : Nat) (p0 : List Int) : Option zAd := (if ((List.length p0 : Int) == 0) = true then some (⟨#[48]⟩ : zAd) else (if 0 <= (0 : Int) /\ (0 : Int) <= (z04 .i64 ((9 : Int) * (List.length p0 : Int))) /\ (z04 .i64 ((9 : Int) * (List.length p0 : Int))) <= 16777216 then (Option.bind (z2k K p0 K (List.replicate (Int.toNat 0) 0) (z04 .i64 ((List.length p0 : Int) - 1))) (tu1 fun x88 => (if 0 < List.length x88 then ((z3d K (strOfNums x88) (⟨#[48]⟩ : zAd)).bind fun x102 => some x102) else none))) else none))
theorem z7c (v0 : Value) (p0 : List Int) (hp0 : (rSl (rI .u32)).rep G [v0] p0) (O : Ow G H (L)) (r : zAd) (h : z4w K p0 = some r) :
    CR Tryz.prog 145 [v0] G H (L) (fun v G' _ => v = .string r) := by
 unfold z4w at h
 refine CR.og (n := 44) (fn := Tryz.f145) (by kernel_rfl) rfl rfl fun R kr => (.seq (.region (W.q1 (.string (⟨#[]⟩ : zAd)) rfl (.nil (.seq (.seq ?_))))))
 refine .region (W.q2 v0 rfl (W.pure (v := (.int .i64 (List.length p0 : Int))) rfl rfl (z0f (oo rfl rfl) (z0a hp0) (z02 el94)) (W.q3 (.bool ((List.length p0 : Int) == 0)) rfl rfl (.nil (.cond (b := ((List.length p0 : Int) == 0)) rfl rfl (fun g1 => ?_) (fun g1 => ?_))))))
 .have h2 := z03 g1 h
  refine .seq (.region (W.q1 (.string (⟨#[48]⟩ : zAd)) rfl (.nil (.ret ?_))))
  obtain rfl := zAa h2
  exact z1h kr (v1 := (.string (⟨#[48]⟩ : zAd))) (by rfl) (z07 (by rfl) (by exact rfl)) O (zAf _) rfl
 have h3 := z0g g1 h
 refine .skip (.seq (.region (W.q2 v0 rfl (W.pure (v := (.int .i64 (List.length p0 : Int))) rfl rfl (z0f (oo rfl rfl) (z0a hp0) (z02 el94)) (W.q3 (.int .i64 (z04 .i64 ((9 : Int) * (List.length p0 : Int)))) rfl rfl ?_)))))
 obtain ⟨g5, h6⟩ := z2p h3
 refine W.lo rfl rfl (Lo.makeSlice (r := (rI .u8)) (x0 := 0) (a := 0) (c := (z04 .i64 ((9 : Int) * (List.length p0 : Int)))) rfl zgx ze5 sz5 (by kernel_rfl) rfl by5 (by decide) rfl rfl g5 (zI .u8) O) ?_
 rintro v8 H9 ⟨O4, sm7⟩
 refine W.q1 v8 rfl (.nil (.seq (.seq (.region (W.q2 v0 rfl (W.pure (v := (.int .i64 (List.length p0 : Int))) rfl rfl (z0f (oo rfl rfl) (z0a hp0) (z02 el94)) ?_))))))
 refine W.q3 (.int .i64 (z04 .i64 ((List.length p0 : Int) - 1))) rfl rfl (W.q1 (.int .i64 (z04 .i64 ((List.length p0 : Int) - 1))) rfl (.nil ?_))
 obtain ⟨q10, h11, h12⟩ := z00 h6
 refine AW.midT (fun σ' H' => ∃ (y1 : List Int) (G' : GM), y1 = q10 /\ Ow G' H' (eSl (σ' 3) 5 (rI .u8) y1 :: L) /\ GM.le G G') ?_ ?_
 rotate_left
 .rintro σ89 H90 fr91 ⟨x88, G92, rfl, O93, s94⟩
  have h96 := z09 h12
  refine .seq (.region (W.q2 (σ89 3) rfl ?_))
  obtain ⟨es97, e98, e99⟩ := z4n (j := 0) rfl O93
  obtain ⟨g100, h101⟩ := z2p h96
  refine W.bytesStr rfl rfl zgx in5 un9 e98 e99 g100 ?_
  obtain ⟨x102, i103, h104⟩ := z00 h101
  refine W.lo rfl rfl (Lo.cP rfl (fn := Tryz.f167) (by kernel_rfl) rfl (mc rfl (mc rfl mn)) O93 (fun L' O' => z91 K (strOfNums x88) (⟨#[48]⟩ : zAd) O' _ i103)) ?_
  rintro v111 H112 ⟨G105, O106, s107, sm110, rfl⟩
  refine W.q1 (.string x102) rfl (.nil (.ret ?_))
  have O113 : Ow G105 H112 (L) := O106.drop 0
  obtain rfl := zAa h104
  exact z1h kr (v1 := (.string x102)) (by rfl) (z07 (by rfl) (by exact rfl)) O113 (zAe s94 s107) rfl
 refine .block (AW.loop (α := Nat) (fun k' σ' H' => ∃ (y1 : List Int) (y2 : Int) (G' : GM), z2k K p0 k' y1 y2 = some q10 /\ Ow G' H' (eSl (σ' 3) 5 (rI .u8) y1 :: L) /\ GM.le G G' /\ σ' 4 = .int .i64 y2) (fun k' => k') K ⟨(List.replicate (Int.toNat 0) 0), z04 .i64 ((List.length p0 : Int) - 1), _, h11, O4, (zAf _), rfl⟩ ?_)
 rintro k13
 rintro σ16 H17 fr18 ⟨x14, x15, G19, h22, O20, s21, t23⟩
 rcases k13 with _ | k13
 .exact z06 h22
 rw [z2k] at h22
 refine .seq (.seq (.region (W.q2 _ t23 (W.q3 (.bool (decide (x15 >= 0))) rfl rfl (.nil (.cond (b := decide (x15 >= 0)) rfl rfl (fun g24 => ?_) (fun g24 => ?_)))))))
 rotate_left
 .have h87 := z0g g24 h22
  refine .exit ?_
  obtain rfl := zAa h87
  exact ⟨x14, _, rfl, O20, s21⟩
 have h25 := z03 g24 h22
 refine .skip (.seq (.block (.seq (.region (W.q2 v0 ((fr18 0 rfl).trans rfl) (W.q2 _ t23 ?_))))))
 obtain ⟨x26, i27, h28⟩ := z00 h25
 have j29 := z0d i27
 refine W.pure (v := (z1k v0 (Int.toNat x15 * 1))) rfl rfl (z26 el94 z50 (oo rfl rfl) (oo rfl rfl) (z0a (RT.mono _ s21 hp0)) j29.1 j29.2.1) (W.load1 (v := (.int .u32 x26)) (r := []) rfl rfl zaf (z15 rfl (At.int (At.le (At.le (z17 hp0 j29.2.2) s21 s21) (zAf _) O20.fro))) (W.q1 (.int .u32 x26) rfl (.nil (.seq (.region (W.lo rfl rfl (Lo.alloc (r := (rArr 9 (rI .u8))) (x0 := (List.replicate 9 0)) zp6 (by kernel_rfl) (fun G => ⟨by simp, List.replicate 9 [.int .u8 0], rfl, All2.replicate ((zI .u8) G) 9⟩) O20) ?_))))))
 rintro v33 H34 ⟨b31, rfl, O30, sm32⟩
 refine .nil (.seq (.seq (.region (W.q1 (.int .i64 8) rfl (.nil ?_)))))
 obtain ⟨q35, h36, h37⟩ := z00 h28
 refine AW.midT (fun σ' H' => ∃ (y1 : List Int) (G' : GM), y1 = q35 /\ Ow G' H' (eVar b31 185 (rArr 9 (rI .u8)) y1 :: eSl (σ16 3) 5 (rI .u8) x14 :: L) /\ GM.le G19 G') ?_ ?_
 rotate_left
 .rintro σ66 H67 fr68 ⟨x65, G69, rfl, O70, s71⟩
  have h73 := z09 h37
  refine .region (W.q2 (σ16 3) ((fr68 3 rfl).trans rfl) ?_)
  obtain ⟨G74, O75, s76, f77⟩ := O70.frzVar (j := 0) rfl
  refine W.pure (v := (.slice (some ⟨b31, 0, some 0⟩) 9 9)) rfl rfl (zmt zot sz5 (oo rfl ((fr68 6 rfl).trans rfl))) ?_
  obtain ⟨es79, e80, e81⟩ := zmr (zp4 f77) O75
  obtain ⟨g82, h83⟩ := z2p h73
  refine W.lo rfl rfl (Lo.append (j := 0) (v := (σ16 3)) rfl rfl zgx zp5 ze5 sz5 by5 (by decide) (by decide) rfl e80 e81 g82 O75) ?_
  rintro v85 H86 ⟨O78, sm84⟩
  refine W.q1 v85 rfl (.nil (.region (W.q2 _ ((fr68 4 rfl).trans t23) (W.q3 (.int .i64 (z04 .i64 (x15 - 1))) rfl rfl (W.q1 (.int .i64 (z04 .i64 (x15 - 1))) rfl (.nil ?_))))))
  exact ⟨k13, zAg _, ⟨(x14 ++ x65), z04 .i64 (x15 - 1), _, h83, O78, (zAe s21 (zAe s71 s76)), rfl⟩⟩
 refine .block (AW.loop (α := Nat) (fun k' σ' H' => ∃ (y1 : List Int) (y2 : Int) (y3 : Int) (G' : GM), z2j K k' y1 y2 y3 = some q35 /\ Ow G' H' (eVar b31 185 (rArr 9 (rI .u8)) y1 :: eSl (σ16 3) 5 (rI .u8) x14 :: L) /\ GM.le G19 G' /\ σ' 5 = .int .u32 y2 /\ σ' 7 = .int .i64 y3) (fun k' => k') K ⟨(List.replicate 9 0), x26, 8, _, h36, O30, (zAf _), rfl, rfl⟩ ?_)
 rintro k38
 rintro σ42 H43 fr44 ⟨x39, x40, x41, G45, h48, O46, s47, t49, t50⟩
 rcases k38 with _ | k38
 .exact z06 h48
 rw [z2j] at h48
 refine .seq (.seq (.region (W.q2 _ t50 (W.q3 (.bool (decide (x41 >= 0))) rfl rfl (.nil (.cond (b := decide (x41 >= 0)) rfl rfl (fun g51 => ?_) (fun g51 => ?_)))))))
 rotate_left
 .have h64 := z0g g51 h48
  refine .exit ?_
  obtain rfl := zAa h64
  exact ⟨x39, _, rfl, O46, s47⟩
 have h52 := z03 g51 h48
 refine .skip (.seq (.block (.seq (.region (W.q2 _ t50 (W.q2 _ t49 ?_))))))
 refine W.pure (v := (.int .u32 (Int.tmod x40 10))) rfl rfl (zje (by decide) (oo rfl rfl) (oo rfl rfl)) (W.q3 (.int .u32 (z04 .u32 ((48 : Int) + (Int.tmod x40 10)))) rfl rfl (W.pure (v := (.int .u8 (IntKind.wrap .u8 (z04 .u32 ((48 : Int) + (Int.tmod x40 10)))))) rfl rfl (z4l z9s in5 (oo rfl rfl)) ?_))
 obtain ⟨x53, e54, h55⟩ := z7b h52
 obtain ⟨x56, i57, h58⟩ := z00 h55
 have j59 := z0d i57
 refine W.pure (v := (padd (.pointer (some ⟨b31, 0, none⟩)) (Int.toNat x41 * 1))) rfl rfl (zms zot sz5 (oo rfl ((fr44 6 rfl).trans rfl)) (oo rfl rfl) (O46.atVar (j := 0) rfl) j59.1 j59.2.1) (W.lo rfl rfl (Lo.storeVar (j := 0) (s := (rI .u8)) (y0 := x53) (v := (.int .u8 x53)) (o := Int.toNat x41 * 1) rfl ((PutAt.idx (zAi j59.2.2).1)) rfl sz5 rfl (by omega) (congrArg (Value.int .u8) e54) rfl O46) ?_)
 rintro v62 H63 ⟨O60, sm61⟩
 refine .nil (.region (W.q2 _ t49 (W.pure (v := (.int .u32 (z04 .u32 (Int.tdiv x40 10)))) rfl rfl (zi0 (by decide) (oo rfl rfl) (oo rfl rfl)) (W.q1 (.int .u32 (z04 .u32 (Int.tdiv x40 10))) rfl (.nil (.region ?_))))))
 refine W.q2 _ t50 (W.q3 (.int .i64 (z04 .i64 (x41 - 1))) rfl rfl (W.q1 (.int .i64 (z04 .i64 (x41 - 1))) rfl (.nil ?_)))
 exact ⟨k38, zAg _, ⟨(List.set x39 (Int.toNat x41) x53), z04 .u32 (Int.tdiv x40 10), z04 .i64 (x41 - 1), _, h58, O60, s47, rfl, rfl⟩⟩
def z3o (K : Nat) (p0 : List Int) : Option Int := ((z4w K p0).bind fun x1 => some (x1.size : Int))
theorem z8a (v0 : Value) (p0 : List Int) (hp0 : (rSl (rI .u32)).rep G [v0] p0) (O : Ow G H (L)) (r : Int) (h : z3o K p0 = some r) :
    CR Tryz.prog 144 [v0] G H (L) (fun v G' _ => v = .int .i64 r) := by
 unfold z3o at h
 refine CR.og (n := 6) (fn := Tryz.f144) (by kernel_rfl) rfl rfl fun R kr => (.seq (.region (W.q1 (.int .i64 0) rfl (.nil (.seq (.region ?_))))))
 refine W.q2 v0 rfl ?_
 obtain ⟨x1, i2, h3⟩ := z00 h
 refine W.lo rfl rfl (Lo.cP rfl (fn := Tryz.f145) (by kernel_rfl) rfl (mc rfl mn) O (fun L' O' => z7c K v0 p0 hp0 O' _ i2)) ?_
 rintro v10 H11 ⟨G4, O5, s6, sm9, rfl⟩
 refine W.pure (v := (.int .i64 (x1.size : Int))) rfl rfl (z1p (oo rfl rfl) un9) (W.q1 (.int .i64 (x1.size : Int)) rfl (.nil (.ret ?_)))
 obtain rfl := zAa h3
 exact z1h kr (v1 := (.int .i64 (x1.size : Int))) (by rfl) (z07 (by rfl) (by exact rfl)) O5 s6 rfl
def z6v (K : Nat) (p0 : Q) : Option Int := (Option.bind (((z3o K p0.num).bind fun x12 => (if (decide (x12 > 2000)) = true then some true else ((z3o K p0.den).bind fun x30 => some (decide (x30 > 2000)))))) (tu1 fun x41 => (if x41 = true then some 2 else some 0)))
theorem zas (v0 : List Value) (p0 : Q) (hp0 : T_Q.rep G v0 p0) (O : Ow G H (L)) (r : Int) (h : z6v K p0 = some r) :
    CR Tryz.prog 89 [.agg (List.toArray v0)] G H (L) (fun v G' _ => v = .int .i64 r) := by
 unfold z6v at h
 refine CR.og (n := 13) (fn := Tryz.f89) (by kernel_rfl) rfl rfl fun R kr => (.seq (.region (W.lo rfl rfl (Lo.box (r := T_Q) (x0 := p0) (v := (.agg (List.toArray v0))) rfl rfl hp0 O) ?_)))
 rintro v4 H5 ⟨b2, rfl, O1, sm3⟩
 refine W.q1 (.int .i64 0) rfl (.nil (.seq (.seq ?_)))
 obtain ⟨q6, h7, h8⟩ := z00 h
 refine AW.midT (fun σ' H' => ∃ (y1 : Bool) (G' : GM), y1 = q6 /\ Ow G' H' (eVar b2 96 T_Q p0 :: L) /\ GM.le G G' /\ σ' 12 = .bool y1) ?_ ?_
 rotate_left
 .rintro σ42 H43 fr44 ⟨x41, G45, rfl, O46, s47, t49⟩
  have h50 := z09 h8
  refine .cond (b := x41) rfl t49 (fun g51 => ?_) (fun g51 => ?_)
  .have h52 := z03 g51 h50
   refine .seq (.region (W.q1 (.int .i64 2) rfl (.nil (.ret ?_))))
   have O53 : Ow G45 H43 (L) := O46.drop 0
   obtain rfl := zAa h52
   exact z1h kr (v1 := (.int .i64 2)) (by rfl) (z07 (by rfl) (by exact rfl)) O53 s47 rfl
  have h54 := z0g g51 h50
  refine .skip (.seq (.region (W.q1 (.int .i64 0) rfl (.nil (.ret ?_)))))
  have O55 : Ow G45 H43 (L) := O46.drop 0
  obtain rfl := zAa h54
  exact z1h kr (v1 := (.int .i64 0)) (by rfl) (z07 (by rfl) (by exact rfl)) O55 s47 rfl
 refine .region (W.pure (v := (padd (.pointer (some ⟨b2, 0, none⟩)) 1)) rfl rfl (z6s zbo (oo rfl rfl) (O1.atVar (j := 0) rfl)) ?_)
 obtain ⟨w9, p10, f11⟩ := At.sl (At.proj (O1.atVar (j := 0) rfl) z8m)
 refine W.load1 (v := w9) (r := []) rfl rfl ag94 (z15 rfl p10) ?_
 obtain ⟨x12, i13, h14⟩ := z00 h7
 refine W.lo rfl rfl (Lo.cP rfl (fn := Tryz.f144) (by kernel_rfl) rfl (mc rfl mn) O1 (fun L' O' => z8a K w9 p0.num f11 O' _ i13)) ?_
 rintro v21 H22 ⟨G15, O16, s17, sm20, rfl⟩
 refine W.q3 (.bool (decide (x12 > 2000))) rfl rfl (W.q2 (.bool (decide (x12 > 2000))) rfl (W.splitAt (t := 7) (b := decide (x12 > 2000)) rfl (fun g23 gv24 => ?_) (fun g23 gv24 => ?_)))
 .have h25 := z03 g23 h14
  refine W.q6 rfl gv24 (W.q6 rfl gv24 (W.q6 rfl gv24 (W.q6 rfl gv24 (W.q4 (.bool true) gv24 rfl (.nil ?_)))))
  obtain rfl := zAa h25
  exact ⟨true, _, rfl, O16, s17, rfl⟩
 have h26 := z0g g23 h14
 refine W.pure (v := (padd (.pointer (some ⟨b2, 0, none⟩)) 2)) (gk rfl rfl gv24 rfl) rfl (z6s zk5 (oo rfl rfl) (O16.atVar (j := 0) rfl)) ?_
 obtain ⟨w27, p28, f29⟩ := At.sl (At.proj (O16.atVar (j := 0) rfl) zie)
 refine W.load1 (v := w27) (r := []) (gk rfl rfl gv24 rfl) rfl ag94 (z15 rfl p28) ?_
 obtain ⟨x30, i31, h32⟩ := z00 h26
 refine W.lo (gk rfl rfl gv24 rfl) rfl (Lo.cP rfl (fn := Tryz.f144) (by kernel_rfl) rfl (mc rfl mn) O16 (fun L' O' => z8a K w27 p0.den f29 O' _ i31)) ?_
 rintro v39 H40 ⟨G33, O34, s35, sm38, rfl⟩
 refine W.q3 (hg := gk rfl rfl gv24 rfl) (.bool (decide (x30 > 2000))) rfl rfl (W.q5 (.bool (decide (x30 > 2000))) gv24 rfl (.nil ?_))
 obtain rfl := zAa h32
 exact ⟨decide (x30 > 2000), _, rfl, O34, (zAe s17 s35), rfl⟩
def z6o (K : Nat) (p0 : Q) : Option zAd := (if ((List.length p0.num : Int) == 0) = true then some (⟨#[48]⟩ : zAd) else ((z4w K p0.num).bind fun x16 => (Option.bind ((if p0.neg = true then (if ((⟨#[45]⟩ : zAd)).size + (x16).size <= 4611686018427387904 then some ((⟨#[45]⟩ : zAd) ++ x16) else none) else some x16)) (tu1 fun x35 => ((z23 K p0).bind fun x48 => ((z4w K x48).bind fun x61 => (Option.bind ((if (!(sEq x61 (⟨#[49]⟩ : zAd))) = true then (if ((⟨#[47]⟩ : zAd)).size + (x61).size <= 4611686018427387904 then (if (x35).size + (((⟨#[47]⟩ : zAd) ++ x61)).size <= 4611686018427387904 then some (x35 ++ ((⟨#[47]⟩ : zAd) ++ x61)) else none) else none) else some x35)) (tu1 fun x82 => some x82))))))))
theorem z9z (v0 : List Value) (p0 : Q) (hp0 : T_Q.rep G v0 p0) (O : Ow G H (L)) (r : zAd) (h : z6o K p0 = some r) :
    CR Tryz.prog 90 [.agg (List.toArray v0)] G H (L) (fun v G' _ => v = .string r) := by
 unfold z6o at h
 refine CR.og (n := 26) (fn := Tryz.f90) (by kernel_rfl) rfl rfl fun R kr => (.seq (.region (W.lo rfl rfl (Lo.box (r := T_Q) (x0 := p0) (v := (.agg (List.toArray v0))) rfl rfl hp0 O) ?_)))
 rintro v4 H5 ⟨b2, rfl, O1, sm3⟩
 refine W.q1 (.string (⟨#[]⟩ : zAd)) rfl (.nil (.seq (.seq (.region (W.pure (v := (padd (.pointer (some ⟨b2, 0, none⟩)) 1)) rfl rfl (z6s zbo (oo rfl rfl) (O1.atVar (j := 0) rfl)) ?_)))))
 obtain ⟨w6, p7, f8⟩ := At.sl (At.proj (O1.atVar (j := 0) rfl) z8m)
 refine W.load1 (v := w6) (r := []) rfl rfl ag94 (z15 rfl p7) (W.pure (v := (.int .i64 (List.length p0.num : Int))) rfl rfl (z0f (oo rfl rfl) (z0a f8) (z02 el94)) (W.q3 (.bool ((List.length p0.num : Int) == 0)) rfl rfl (.nil (.cond (b := ((List.length p0.num : Int) == 0)) rfl rfl (fun g9 => ?_) (fun g9 => ?_)))))
 .have h10 := z03 g9 h
  refine .seq (.region (W.q1 (.string (⟨#[48]⟩ : zAd)) rfl (.nil (.ret ?_))))
  have O11 : Ow G H5 (L) := O1.drop 0
  obtain rfl := zAa h10
  exact z1h kr (v1 := (.string (⟨#[48]⟩ : zAd))) (by rfl) (z07 (by rfl) (by exact rfl)) O11 (zAf _) rfl
 have h12 := z0g g9 h
 refine .skip (.seq (.region (W.pure (v := (padd (.pointer (some ⟨b2, 0, none⟩)) 1)) rfl rfl (z6s zbo (oo rfl rfl) (O1.atVar (j := 0) rfl)) ?_)))
 obtain ⟨w13, p14, f15⟩ := At.sl (At.proj (O1.atVar (j := 0) rfl) z8m)
 refine W.load1 (v := w13) (r := []) rfl rfl ag94 (z15 rfl p14) ?_
 obtain ⟨x16, i17, h18⟩ := z00 h12
 refine W.lo rfl rfl (Lo.cP rfl (fn := Tryz.f145) (by kernel_rfl) rfl (mc rfl mn) O1 (fun L' O' => z7c K w13 p0.num f15 O' _ i17)) ?_
 rintro v25 H26 ⟨G19, O20, s21, sm24, rfl⟩
 refine W.q1 (.string x16) rfl (.nil (.seq (.seq (.region (W.pure (v := (padd (.pointer (some ⟨b2, 0, none⟩)) 0)) rfl rfl (z6s zea (oo rfl rfl) (O20.atVar (j := 0) rfl)) (W.load1 (v := (.bool p0.neg)) (r := []) rfl rfl ag4 (z15 rfl (At.bool (At.proj (O20.atVar (j := 0) rfl) zar))) ?_))))))
 refine .nil ?_
 obtain ⟨q27, h28, h29⟩ := z00 h18
 refine AW.midT (fun σ' H' => ∃ (y1 : zAd) (G' : GM), y1 = q27 /\ Ow G' H' (eVar b2 96 T_Q p0 :: L) /\ GM.le G19 G' /\ σ' 3 = .string y1) ?_ ?_
 .refine .cond (b := p0.neg) rfl rfl (fun g30 => ?_) (fun g30 => ?_)
  rotate_left
  .have h34 := z0g g30 h28
   refine .skip ?_
   obtain rfl := zAa h34
   exact ⟨x16, _, rfl, O20, (zAf _), rfl⟩
  have h31 := z03 g30 h28
  refine .region (W.q2 (.string x16) rfl ?_)
  obtain ⟨g32, h33⟩ := z2p h31
  refine W.pure (v := (.string ((⟨#[45]⟩ : zAd) ++ x16))) rfl rfl (zc6 g32 (oo rfl rfl) (oo rfl rfl)) (W.q1 (.string ((⟨#[45]⟩ : zAd) ++ x16)) rfl (.nil ?_))
  obtain rfl := zAa h33
  exact ⟨((⟨#[45]⟩ : zAd) ++ x16), _, rfl, O20, (zAf _), rfl⟩
 rintro σ36 H37 fr38 ⟨x35, G39, rfl, O40, s41, t43⟩
 have h44 := z09 h29
 refine .seq (.seq (.region ?_))
 obtain ⟨c45, p46, f47⟩ := (O40.atVar (j := 0) rfl)
 refine W.loadA (cs := c45) rfl rfl ag96 sz96 (z15 ((fr38 1 rfl).trans rfl) p46) (RT.len _ f47) ?_
 obtain ⟨x48, i49, h50⟩ := z00 h44
 refine W.lo rfl rfl (Lo.cP rfl (fn := Tryz.f140) (by kernel_rfl) rfl (mc rfl mn) O40 (fun L' O' => z2s K c45 p0 f47 O' _ i49)) ?_
 rintro v59 H60 ⟨G51, O52, s53, sm58, ⟨w55, rfl, f56⟩⟩
 obtain ⟨x61, i62, h63⟩ := z00 h50
 refine W.lo rfl rfl (Lo.cP rfl (fn := Tryz.f145) (by kernel_rfl) rfl (mc rfl mn) O52 (fun L' O' => z7c K w55 x48 f56 O' _ i62)) ?_
 rintro v70 H71 ⟨G64, O65, s66, sm69, rfl⟩
 refine W.q1 (.string x61) rfl (.nil (.seq (.region (W.q2 (.string x61) rfl (W.pure (v := (.bool (!(sEq x61 (⟨#[49]⟩ : zAd))))) rfl rfl (ze8 (oo rfl rfl) (oo rfl rfl)) (.nil ?_))))))
 obtain ⟨q72, h73, h74⟩ := z00 h63
 refine AW.midT (fun σ' H' => ∃ (y1 : zAd) (G' : GM), y1 = q72 /\ Ow G' H' (eVar b2 96 T_Q p0 :: L) /\ GM.le G64 G' /\ σ' 3 = .string y1) ?_ ?_
 rotate_left
 .rintro σ83 H84 fr85 ⟨x82, G86, rfl, O87, s88, t90⟩
  have h91 := z09 h74
  refine .seq (.region (W.q2 _ t90 (W.q1 (.string x82) rfl (.nil (.ret ?_)))))
  have O92 : Ow G86 H84 (L) := O87.drop 0
  obtain rfl := zAa h91
  exact z1h kr (v1 := (.string x82)) (by rfl) (z07 (by rfl) (by exact rfl)) O92 (zAe s21 (zAe s41 (zAe s53 (zAe s66 s88)))) rfl
 refine .cond (b := (!(sEq x61 (⟨#[49]⟩ : zAd)))) rfl rfl (fun g75 => ?_) (fun g75 => ?_)
 rotate_left
 .have h81 := z0g g75 h73
  refine .skip ?_
  obtain rfl := zAa h81
  exact ⟨x35, _, rfl, O65, (zAf _), t43⟩
 have h76 := z03 g75 h73
 refine .region (W.q2 _ t43 (W.q2 (.string x61) rfl ?_))
 obtain ⟨g77, h78⟩ := z2p h76
 refine W.pure (v := (.string ((⟨#[47]⟩ : zAd) ++ x61))) rfl rfl (zc6 g77 (oo rfl rfl) (oo rfl rfl)) ?_
 obtain ⟨g79, h80⟩ := z2p h78
 refine W.pure (v := (.string (x35 ++ ((⟨#[47]⟩ : zAd) ++ x61)))) rfl rfl (zc6 g79 (oo rfl rfl) (oo rfl rfl)) (W.q1 (.string (x35 ++ ((⟨#[47]⟩ : zAd) ++ x61))) rfl (.nil ?_))
 obtain rfl := zAa h80
 exact ⟨(x35 ++ ((⟨#[47]⟩ : zAd) ++ x61)), _, rfl, O65, (zAf _), rfl⟩
def z9d (K : Nat) (p0 : List zAd) (p1 : List zAd) : Option (zAd × Int) := ((z1a K p0).bind fun x1 => (if (x1 != 0) = true then some ((⟨#[]⟩ : zAd), x1) else ((z1a K p1).bind fun x15 => (if (x15 != 0) = true then some ((⟨#[]⟩ : zAd), x15) else (if ((List.length p0 : Int) != (List.length p1 : Int)) = true then some ((⟨#[]⟩ : zAd), 3) else ((z46 K p0).bind fun x32 => ((z46 K p1).bind fun x45 => ((z47 K x32 x45).bind fun x66 => ((z6v K x66).bind fun x91 => (if (x91 != 0) = true then some ((⟨#[]⟩ : zAd), x91) else ((z6o K x66).bind fun x109 => some (x109, 0))))))))))))
theorem zc9 (v0 : Value) (p0 : List zAd) (hp0 : (rSl rS).rep G [v0] p0) (v1 : Value) (p1 : List zAd) (hp1 : (rSl rS).rep G [v1] p1) (O : Ow G H (L)) (r : zAd × Int) (h : z9d K p0 p1 = some r) :
    CR Tryz.prog 37 [v0, v1] G H (L) (fun v G' _ => v = .tuple #[.string r.1, .int .i64 r.2]) := by
 unfold z9d at h
 refine CR.og (n := 37) (fn := Tryz.f37) (by kernel_rfl) rfl rfl fun R kr => (.seq (.region (W.q1 (.string (⟨#[]⟩ : zAd)) rfl (W.q1 (.int .i64 0) rfl (.nil (.seq ?_))))))
 refine .seq (.region (W.q2 v0 rfl ?_))
 obtain ⟨x1, i2, h3⟩ := z00 h
 refine W.lo rfl rfl (Lo.cP rfl (fn := Tryz.f79) (by kernel_rfl) rfl (mc rfl mn) O (fun L' O' => z2r K v0 p0 hp0 O' _ i2)) ?_
 rintro v10 H11 ⟨G4, O5, s6, sm9, rfl⟩
 refine W.q1 (.int .i64 x1) rfl (.nil (.seq (.region (W.q2 (.int .i64 x1) rfl (W.q3 (.bool (x1 != 0)) rfl rfl (.nil ?_))))))
 refine .cond (b := (x1 != 0)) rfl rfl (fun g12 => ?_) (fun g12 => ?_)
 .have h13 := z03 g12 h3
  refine .seq (.region (W.q2 (.int .i64 x1) rfl (W.q1 (.string (⟨#[]⟩ : zAd)) rfl (W.q1 (.int .i64 x1) rfl (.nil (.ret ?_))))))
  obtain rfl := zAa h13
  exact zgn kr (v1 := (.string (⟨#[]⟩ : zAd))) (v2 := (.int .i64 x1)) (by rfl) (z07 (by rfl) (by exact rfl)) (z07 (by rfl) (by exact rfl)) O5 s6 rfl
 have h14 := z0g g12 h3
 refine .skip (.seq (.seq (.region (W.q2 v1 rfl ?_))))
 obtain ⟨x15, i16, h17⟩ := z00 h14
 refine W.lo rfl rfl (Lo.cP rfl (fn := Tryz.f79) (by kernel_rfl) rfl (mc rfl mn) O5 (fun L' O' => z2r K v1 p1 (RT.mono _ s6 hp1) O' _ i16)) ?_
 rintro v24 H25 ⟨G18, O19, s20, sm23, rfl⟩
 refine W.q1 (.int .i64 x15) rfl (.nil (.seq (.region (W.q2 (.int .i64 x15) rfl (W.q3 (.bool (x15 != 0)) rfl rfl (.nil ?_))))))
 refine .cond (b := (x15 != 0)) rfl rfl (fun g26 => ?_) (fun g26 => ?_)
 .have h27 := z03 g26 h17
  refine .seq (.region (W.q2 (.int .i64 x15) rfl (W.q1 (.string (⟨#[]⟩ : zAd)) rfl (W.q1 (.int .i64 x15) rfl (.nil (.ret ?_))))))
  obtain rfl := zAa h27
  exact zgn kr (v1 := (.string (⟨#[]⟩ : zAd))) (v2 := (.int .i64 x15)) (by rfl) (z07 (by rfl) (by exact rfl)) (z07 (by rfl) (by exact rfl)) O19 (zAe s6 s20) rfl
 have h28 := z0g g26 h17
 refine .skip (.seq (.seq (.region (W.q2 v0 rfl (W.pure (v := (.int .i64 (List.length p0 : Int))) rfl rfl (z0f (oo rfl rfl) (z0a (RT.mono _ (zAe s6 s20) hp0)) (z02 el45)) (W.q2 v1 rfl ?_))))))
 refine W.pure (v := (.int .i64 (List.length p1 : Int))) rfl rfl (z0f (oo rfl rfl) (z0a (RT.mono _ (zAe s6 s20) hp1)) (z02 el45)) (W.q3 (.bool ((List.length p0 : Int) != (List.length p1 : Int))) rfl rfl (.nil (.cond (b := ((List.length p0 : Int) != (List.length p1 : Int))) rfl rfl (fun g29 => ?_) (fun g29 => ?_))))
 .have h30 := z03 g29 h28
  refine .seq (.region (W.q1 (.string (⟨#[]⟩ : zAd)) rfl (W.q1 (.int .i64 3) rfl (.nil (.ret ?_)))))
  obtain rfl := zAa h30
  exact zgn kr (v1 := (.string (⟨#[]⟩ : zAd))) (v2 := (.int .i64 3)) (by rfl) (z07 (by rfl) (by exact rfl)) (z07 (by rfl) (by exact rfl)) O19 (zAe s6 s20) rfl
 have h31 := z0g g29 h28
 refine .skip (.seq (.region (W.q2 v0 rfl ?_)))
 obtain ⟨x32, i33, h34⟩ := z00 h31
 refine W.lo rfl rfl (Lo.callPF (ps := []) (pw := fun w => [eSl w 96 T_Q x32]) rfl (fn := Tryz.f85) (by kernel_rfl) rfl (mc rfl mn) O19 (fun L' O' => z5v K v0 p0 (RT.mono _ (zAe s6 s20) hp0) O' _ i33)) ?_
 rintro v43 H44 ⟨w40, G35, O36, s37, sm42, rfl⟩
 refine W.q2 v1 rfl ?_
 obtain ⟨x45, i46, h47⟩ := z00 h34
 refine W.lo rfl rfl (Lo.callPF (ps := []) (pw := fun w => [eSl w 96 T_Q x45]) rfl (fn := Tryz.f85) (by kernel_rfl) rfl (mc rfl mn) O36 (fun L' O' => z5v K v1 p1 (RT.mono _ (zAe s6 (zAe s20 s37)) hp1) O' _ i46)) ?_
 rintro v56 H57 ⟨w53, G48, O49, s50, sm55, rfl⟩
 obtain ⟨G58, O59, s60, f61⟩ := O49.frzSl (j := 1) rfl
 obtain ⟨G62, O63, s64, f65⟩ := O59.frzSl (j := 0) rfl
 obtain ⟨x66, i67, h68⟩ := z00 h47
 refine W.lo rfl rfl (Lo.cP rfl (fn := Tryz.f83) (by kernel_rfl) rfl (mc rfl (mc rfl mn)) O63 (fun L' O' => z5c K w40 x32 (RT.mono _ s64 f61) w53 x45 f65 O' _ i67)) ?_
 rintro v77 H78 ⟨G69, O70, s71, sm76, ⟨c73, rfl, f74⟩⟩
 refine W.lo rfl rfl (Lo.alloc (r := T_Q) (x0 := (Q.mk false ([] : List Int) ([] : List Int))) ze96 (by kernel_rfl) z_Q O70) ?_
 rintro v82 H83 ⟨b80, rfl, O79, sm81⟩
 refine W.lo rfl rfl (Lo.storeVar (j := 0) (s := T_Q) (y0 := x66) (v := (.agg (List.toArray c73))) (o := 0) rfl ((Put.at (Put.self _) _ _)) rfl sz96 rfl (by omega) rfl f74 O79) ?_
 rintro v86 H87 ⟨O84, sm85⟩
 refine .nil (.seq (.seq (.region ?_)))
 obtain ⟨c88, p89, f90⟩ := (O84.atVar (j := 0) rfl)
 refine W.loadA (cs := c88) rfl rfl ag96 sz96 (z15 rfl p89) (RT.len _ f90) ?_
 obtain ⟨x91, i92, h93⟩ := z00 h68
 refine W.lo rfl rfl (Lo.cP rfl (fn := Tryz.f89) (by kernel_rfl) rfl (mc rfl mn) O84 (fun L' O' => zas K c88 x66 f90 O' _ i92)) ?_
 rintro v100 H101 ⟨G94, O95, s96, sm99, rfl⟩
 refine W.q1 (.int .i64 x91) rfl (.nil (.seq (.region (W.q2 (.int .i64 x91) rfl (W.q3 (.bool (x91 != 0)) rfl rfl (.nil ?_))))))
 refine .cond (b := (x91 != 0)) rfl rfl (fun g102 => ?_) (fun g102 => ?_)
 .have h103 := z03 g102 h93
  refine .seq (.region (W.q2 (.int .i64 x91) rfl (W.q1 (.string (⟨#[]⟩ : zAd)) rfl (W.q1 (.int .i64 x91) rfl (.nil (.ret ?_))))))
  have O104 : Ow G94 H101 (L) := O95.drop 0
  obtain rfl := zAa h103
  exact zgn kr (v1 := (.string (⟨#[]⟩ : zAd))) (v2 := (.int .i64 x91)) (by rfl) (z07 (by rfl) (by exact rfl)) (z07 (by rfl) (by exact rfl)) O104 (zAe s6 (zAe s20 (zAe s37 (zAe s50 (zAe s60 (zAe s64 (zAe s71 s96))))))) rfl
 have h105 := z0g g102 h93
 refine .skip (.seq (.region ?_))
 obtain ⟨c106, p107, f108⟩ := (O95.atVar (j := 0) rfl)
 refine W.loadA (cs := c106) rfl rfl ag96 sz96 (z15 rfl p107) (RT.len _ f108) ?_
 obtain ⟨x109, i110, h111⟩ := z00 h105
 refine W.lo rfl rfl (Lo.cP rfl (fn := Tryz.f90) (by kernel_rfl) rfl (mc rfl mn) O95 (fun L' O' => z9z K c106 x66 f108 O' _ i110)) ?_
 rintro v118 H119 ⟨G112, O113, s114, sm117, rfl⟩
 refine W.q1 (.string x109) rfl (W.q1 (.int .i64 0) rfl (.nil (.ret ?_)))
 have O120 : Ow G112 H119 (L) := O113.drop 0
 obtain rfl := zAa h111
 exact zgn kr (v1 := (.string x109)) (v2 := (.int .i64 0)) (by rfl) (z07 (by rfl) (by exact rfl)) (z07 (by rfl) (by exact rfl)) O120 (zAe s6 (zAe s20 (zAe s37 (zAe s50 (zAe s60 (zAe s64 (zAe s71 (zAe s96 s114)))))))) rfl
def z4o (K : Nat) : Option (List (List zAd)) := some [[(⟨#[49]⟩ : zAd), (⟨#[50]⟩ : zAd)], [(⟨#[51]⟩ : zAd), (⟨#[52]⟩ : zAd)]]
theorem z3h  (O : Ow G H (L)) (r : List (List zAd)) (h : z4o K = some r) :
    CRF Tryz.prog 76 [] G H (fun w0 => (eSl w0 45 (rSl rS) r :: L)) (fun w0 v G' => w0 = v) := by
 unfold z4o at h
 refine CRF.og (n := 4) (fn := Tryz.f76) (by kernel_rfl) rfl rfl fun R kr => (.seq (.region (W.q1 (.slice none 0 0) rfl (.nil (.seq (.region ?_))))))
 refine W.lo rfl rfl (Lo.buildSlice (r := rS) (vs := [(.string (⟨#[49]⟩ : zAd)), (.string (⟨#[50]⟩ : zAd))]) (xs := [(⟨#[49]⟩ : zAd), (⟨#[50]⟩ : zAd)]) el45 ze22 sz22 (by kernel_rfl) rfl (qc rfl (qc rfl qn)) rfl (.cons rfl (.cons rfl .nil)) O) ?_
 rintro v3 H4 ⟨O1, sm2⟩
 refine W.lo rfl rfl (Lo.buildSlice (r := rS) (vs := [(.string (⟨#[51]⟩ : zAd)), (.string (⟨#[52]⟩ : zAd))]) (xs := [(⟨#[51]⟩ : zAd), (⟨#[52]⟩ : zAd)]) el45 ze22 sz22 (by kernel_rfl) rfl (qc rfl (qc rfl qn)) rfl (.cons rfl (.cons rfl .nil)) O1) ?_
 rintro v7 H8 ⟨O5, sm6⟩
 obtain ⟨G10, O11, s12, f13⟩ := O5.frzSl (j := 1) rfl
 obtain ⟨G14, O15, s16, f17⟩ := O11.frzSl (j := 0) rfl
 refine W.lo rfl rfl (Lo.buildSlice (r := (rSl rS)) (vs := [v3, v7]) (xs := [[(⟨#[49]⟩ : zAd), (⟨#[50]⟩ : zAd)], [(⟨#[51]⟩ : zAd), (⟨#[52]⟩ : zAd)]]) el44 ze45 sz45 (by kernel_rfl) rfl (qc rfl (qc rfl qn)) rfl (.cons (z2q (RT.mono _ s16 f13)) (.cons (z2q f17) .nil)) O15) ?_
 rintro v19 H20 ⟨O9, sm18⟩
 refine W.q1 v19 rfl (.nil (.ret ?_))
 obtain rfl := zAa h
 exact zdf kr v19 (v1 := v19) (by rfl) (z07 (by rfl) (by exact rfl)) O9 (zAe s12 s16) rfl
def z28 (K : Nat) (p0 : List (List zAd)) : Nat -> Int -> Option (Int ⊕ Unit)
  | 0, _ => none
  | k + 1, x8 => (if (decide (x8 < (List.length p0 : Int))) = true then ((idx p0 x8).bind fun x19 => ((idx p0 0).bind fun x26 => (if ((List.length x19 : Int) != (List.length x26 : Int)) = true then some (.inl 3) else ((z1a K x19).bind fun x37 => (if (x37 != 0) = true then some (.inl x37) else z28 K p0 k (z04 .i64 (x8 + 1))))))) else some (.inr ()))
def z1b (K : Nat) (p0 : List (List zAd)) : Option Int := (if (decide ((List.length p0 : Int) > 40)) = true then some 2 else (z9q (z28 K p0 K 0) (tu1 fun a61 => some a61) (tu0 (some 0))))
theorem z1q (v0 : Value) (p0 : List (List zAd)) (hp0 : (rSl (rSl rS)).rep G [v0] p0) (O : Ow G H (L)) (r : Int) (h : z1b K p0 = some r) :
    CR Tryz.prog 78 [v0] G H (L) (fun v G' _ => v = .int .i64 r) := by
 unfold z1b at h
 refine CR.og (n := 28) (fn := Tryz.f78) (by kernel_rfl) rfl rfl fun R kr => (.seq (.region (W.q1 (.int .i64 0) rfl (.nil (.seq (.seq ?_))))))
 refine .region (W.q2 v0 rfl (W.pure (v := (.int .i64 (List.length p0 : Int))) rfl rfl (z0f (oo rfl rfl) (z0a hp0) (z02 el44)) (W.q3 (.bool (decide ((List.length p0 : Int) > 40))) rfl rfl (.nil (.cond (b := decide ((List.length p0 : Int) > 40)) rfl rfl (fun g1 => ?_) (fun g1 => ?_))))))
 .have h2 := z03 g1 h
  refine .seq (.region (W.q1 (.int .i64 2) rfl (.nil (.ret ?_))))
  obtain rfl := zAa h2
  exact z1h kr (v1 := (.int .i64 2)) (by rfl) (z07 (by rfl) (by exact rfl)) O (zAf _) rfl
 have h3 := z0g g1 h
 refine .skip (.seq (.seq (.region (W.q2 v0 rfl (W.pure (v := (.int .i64 (List.length p0 : Int))) rfl rfl (z0f (oo rfl rfl) (z0a hp0) (z02 el44)) (W.q2 (.int .i64 0) rfl ?_))))))
 refine .nil ?_
 obtain ⟨q4, h5, h6⟩ := z1t h3
 refine AW.midT (fun σ' H' => ∃  (G' : GM), (.inr ()) = q4 /\ Ow G' H' (L) /\ GM.le G G') ?_ ?_
 rotate_left
 .rintro σ53 H54 fr55 ⟨G56, rfl, O57, s58⟩
  have h60 := z4z (z70 h6)
  refine .seq (.region (W.q1 (.int .i64 0) rfl (.nil (.ret ?_))))
  obtain rfl := zAa h60
  exact z1h kr (v1 := (.int .i64 0)) (by rfl) (z07 (by rfl) (by exact rfl)) O57 s58 rfl
 refine .block (AW.loop (α := Nat) (fun k' σ' H' => ∃ (y1 : Int) (G' : GM), z28 K p0 k' y1 = some q4 /\ Ow G' H' (L) /\ GM.le G G' /\ σ' 11 = .int .i64 y1) (fun k' => k') K ⟨0, _, h5, O, (zAf _), rfl⟩ ?_)
 rintro k7
 rintro σ9 H10 fr11 ⟨x8, G12, h15, O13, s14, t16⟩
 rcases k7 with _ | k7
 .exact z06 h15
 rw [z28] at h15
 refine .seq (.region (W.q3 (.bool (decide (x8 < (List.length p0 : Int)))) t16 ((fr11 10 rfl).trans rfl) (.nil (.seq (.cond (b := decide (x8 < (List.length p0 : Int))) rfl rfl (fun g17 => ?_) (fun g17 => ?_))))))
 rotate_left
 .have h52 := z0g g17 h15
  refine .exit ?_
  obtain rfl := zAa h52
  exact ⟨_, rfl, O13, s14⟩
 have h18 := z03 g17 h15
 refine .skip (.seq (.block (.seq (.region ?_))))
 obtain ⟨x19, i20, h21⟩ := z00 h18
 have j22 := z0d i20
 refine W.pure (v := (z1k v0 (Int.toNat x8 * 1))) rfl rfl (z26 el44 sz45 (oo rfl ((fr11 9 rfl).trans rfl)) (oo rfl t16) (z0a (RT.mono _ s14 hp0)) j22.1 j22.2.1) ?_
 obtain ⟨w23, p24, f25⟩ := At.sl (At.le (z17 hp0 j22.2.2) s14 s14)
 replace p24 := PtG.le p24 O13.fro
 refine W.load1 (v := w23) (r := []) rfl rfl ag45 (z15 rfl p24) (W.q1 w23 rfl (.nil (.seq (.seq (.region (W.q2 w23 rfl ?_))))))
 refine W.pure (v := (.int .i64 (List.length x19 : Int))) rfl rfl (z0f (oo rfl rfl) (z0a f25) (z02 el45)) (W.q2 v0 ((fr11 0 rfl).trans rfl) ?_)
 obtain ⟨x26, i27, h28⟩ := z00 h21
 have j29 := z0d i27
 refine W.pure (v := (z1k v0 (Int.toNat 0 * 1))) rfl rfl (z26 el44 sz45 (oo rfl rfl) (oo rfl rfl) (z0a (RT.mono _ s14 hp0)) j29.1 j29.2.1) ?_
 obtain ⟨w30, p31, f32⟩ := At.sl (At.le (z17 hp0 j29.2.2) s14 s14)
 replace p31 := PtG.le p31 O13.fro
 refine W.load1 (v := w30) (r := []) rfl rfl ag45 (z15 rfl p31) (W.pure (v := (.int .i64 (List.length x26 : Int))) rfl rfl (z0f (oo rfl rfl) (z0a f32) (z02 el45)) (W.q3 (.bool ((List.length x19 : Int) != (List.length x26 : Int))) rfl rfl (.nil (.cond (b := ((List.length x19 : Int) != (List.length x26 : Int))) rfl rfl (fun g33 => ?_) (fun g33 => ?_)))))
 .have h34 := z03 g33 h28
  refine .seq (.region (W.q1 (.int .i64 3) rfl (.nil (.ret ?_))))
  obtain rfl := zAa h34
  have h35 := z09 (z59 h6)
  obtain rfl := zAa h35
  exact z1h kr (v1 := (.int .i64 3)) (by rfl) (z07 (by rfl) (by exact rfl)) O13 s14 rfl
 have h36 := z0g g33 h28
 refine .skip (.seq (.region (W.q2 w23 rfl ?_)))
 obtain ⟨x37, i38, h39⟩ := z00 h36
 refine W.lo rfl rfl (Lo.cP rfl (fn := Tryz.f79) (by kernel_rfl) rfl (mc rfl mn) O13 (fun L' O' => z2r K w23 x19 f25 O' _ i38)) ?_
 rintro v46 H47 ⟨G40, O41, s42, sm45, rfl⟩
 refine W.q1 (.int .i64 x37) rfl (.nil (.seq (.region (W.q2 (.int .i64 x37) rfl (W.q3 (.bool (x37 != 0)) rfl rfl (.nil ?_))))))
 refine .cond (b := (x37 != 0)) rfl rfl (fun g48 => ?_) (fun g48 => ?_)
 rotate_left
 .have h51 := z0g g48 h39
  refine .skip (.region (W.q3 (.int .i64 (z04 .i64 (x8 + 1))) t16 rfl (W.q2 (.int .i64 (z04 .i64 (x8 + 1))) rfl (.nil ?_))))
  exact ⟨k7, zAg _, ⟨z04 .i64 (x8 + 1), _, h51, O41, (zAe s14 s42), rfl⟩⟩
 have h49 := z03 g48 h39
 refine .seq (.region (W.q2 (.int .i64 x37) rfl (W.q1 (.int .i64 x37) rfl (.nil (.ret ?_)))))
 obtain rfl := zAa h49
 have h50 := z09 (z59 h6)
 obtain rfl := zAa h50
 exact z1h kr (v1 := (.int .i64 x37)) (by rfl) (z07 (by rfl) (by exact rfl)) O41 (zAe s14 s42) rfl
def z2g (K : Nat) (p0 : List (List zAd)) : Option Int := (if ((List.length p0 : Int) == 0) = true then some 0 else ((idx p0 0).bind fun x4 => some (List.length x4 : Int)))
theorem z3v (v0 : Value) (p0 : List (List zAd)) (hp0 : (rSl (rSl rS)).rep G [v0] p0) (O : Ow G H (L)) (r : Int) (h : z2g K p0 = some r) :
    CR Tryz.prog 80 [v0] G H (L) (fun v G' _ => v = .int .i64 r) := by
 unfold z2g at h
 refine CR.og (n := 10) (fn := Tryz.f80) (by kernel_rfl) rfl rfl fun R kr => (.seq (.region (W.q1 (.int .i64 0) rfl (.nil (.seq (.seq ?_))))))
 refine .region (W.q2 v0 rfl (W.pure (v := (.int .i64 (List.length p0 : Int))) rfl rfl (z0f (oo rfl rfl) (z0a hp0) (z02 el44)) (W.q3 (.bool ((List.length p0 : Int) == 0)) rfl rfl (.nil (.cond (b := ((List.length p0 : Int) == 0)) rfl rfl (fun g1 => ?_) (fun g1 => ?_))))))
 .have h2 := z03 g1 h
  refine .seq (.region (W.q1 (.int .i64 0) rfl (.nil (.ret ?_))))
  obtain rfl := zAa h2
  exact z1h kr (v1 := (.int .i64 0)) (by rfl) (z07 (by rfl) (by exact rfl)) O (zAf _) rfl
 have h3 := z0g g1 h
 refine .skip (.seq (.region (W.q2 v0 rfl ?_)))
 obtain ⟨x4, i5, h6⟩ := z00 h3
 have j7 := z0d i5
 refine W.pure (v := (z1k v0 (Int.toNat 0 * 1))) rfl rfl (z26 el44 sz45 (oo rfl rfl) (oo rfl rfl) (z0a hp0) j7.1 j7.2.1) ?_
 obtain ⟨w8, p9, f10⟩ := At.sl (z17 hp0 j7.2.2)
 replace p9 := PtG.le p9 O.fro
 refine W.load1 (v := w8) (r := []) rfl rfl ag45 (z15 rfl p9) (W.pure (v := (.int .i64 (List.length x4 : Int))) rfl rfl (z0f (oo rfl rfl) (z0a f10) (z02 el45)) (W.q1 (.int .i64 (List.length x4 : Int)) rfl (.nil (.ret ?_))))
 obtain rfl := zAa h6
 exact z1h kr (v1 := (.int .i64 (List.length x4 : Int))) (by rfl) (z07 (by rfl) (by exact rfl)) O (zAf _) rfl
def z3p (K : Nat) (p0 : List (List zAd)) : Nat -> List (List Q) -> Int -> Option (List (List Q))
  | 0, _, _ => none
  | k + 1, x6, x7 => (if (decide (x7 < (List.length p0 : Int))) = true then ((idx p0 x7).bind fun x19 => ((z46 K x19).bind fun x26 => (if List.length x6 + List.length [x26] <= 16777216 then z3p K p0 k (x6 ++ [x26]) (z04 .i64 (x7 + 1)) else none))) else some x6)
def z3w (K : Nat) (p0 : List (List zAd)) : Option (List (List Q)) := (Option.bind (z3p K p0 K [] 0) (tu1 fun x56 => some x56))
theorem z4d (v0 : Value) (p0 : List (List zAd)) (hp0 : (rSl (rSl rS)).rep G [v0] p0) (O : Ow G H (L)) (r : List (List Q)) (h : z3w K p0 = some r) :
    CRF Tryz.prog 82 [v0] G H (fun w0 => (z3u (hdT w0) 111 (tlT w0) [] 96 T_Q r :: L)) (fun w0 v G' => v = hdT w0) := by
 unfold z3w at h
 refine CRF.og (n := 19) (fn := Tryz.f82) (by kernel_rfl) rfl rfl fun R kr => (.seq (.region (W.q1 (.slice none 0 0) rfl (.nil (.seq (.region ?_))))))
 refine W.q1 (.slice none 0 0) rfl (.nil (.seq (.seq (.region (W.q2 v0 rfl (W.pure (v := (.int .i64 (List.length p0 : Int))) rfl rfl (z0f (oo rfl rfl) (z0a hp0) (z02 el44)) ?_))))))
 refine W.q2 (.int .i64 0) rfl (.nil ?_)
 obtain ⟨q1, h2, h3⟩ := z00 h
 refine AW.midT (fun σ' H' => ∃ (y1 : List (List Q)) (ws_n3 : List Value) (G' : GM), y1 = q1 /\ Ow G' H' (z3u (σ' 3) 111 ws_n3 [] 96 T_Q y1 :: L) /\ GM.le G G') ?_ ?_
 rotate_left
 .rintro σ57 H58 fr59 ⟨x56, ws64, G60, rfl, O61, s62⟩
  have h65 := z09 h3
  refine .seq (.region (W.q2 (σ57 3) rfl (W.q1 (σ57 3) rfl (.nil (.ret ?_)))))
  obtain rfl := zAa h65
  exact zdf kr (.tuple ⟨(σ57 3) :: ws64⟩) (v1 := (σ57 3)) (by rfl) (z07 (by rfl) (by exact rfl)) O61 s62 rfl
 refine .block ?_
 have O4 := O.nilRows 111 96 T_Q
 refine AW.loop (α := Nat) (fun k' σ' H' => ∃ (y1 : List (List Q)) (y2 : Int) (ws_n3 : List Value) (G' : GM), z3p K p0 k' y1 y2 = some q1 /\ Ow G' H' (z3u (σ' 3) 111 ws_n3 [] 96 T_Q y1 :: L) /\ GM.le G G' /\ σ' 8 = .int .i64 y2) (fun k' => k') K ⟨[], 0, [], _, h2, O4, (zAf _), rfl⟩ ?_
 rintro k5
 rintro σ8 H9 fr10 ⟨x6, x7, ws15, G11, h14, O12, s13, t16⟩
 rcases k5 with _ | k5
 .exact z06 h14
 rw [z3p] at h14
 refine .seq (.region (W.q3 (.bool (decide (x7 < (List.length p0 : Int)))) t16 ((fr10 7 rfl).trans rfl) (.nil (.seq (.cond (b := decide (x7 < (List.length p0 : Int))) rfl rfl (fun g17 => ?_) (fun g17 => ?_))))))
 rotate_left
 .have h55 := z0g g17 h14
  refine .exit ?_
  obtain rfl := zAa h55
  exact ⟨x6, ws15, _, rfl, O12, s13⟩
 have h18 := z03 g17 h14
 refine .skip (.seq (.block (.seq (.region ?_))))
 obtain ⟨x19, i20, h21⟩ := z00 h18
 have j22 := z0d i20
 refine W.pure (v := (z1k v0 (Int.toNat x7 * 1))) rfl rfl (z26 el44 sz45 (oo rfl ((fr10 6 rfl).trans rfl)) (oo rfl t16) (z0a (RT.mono _ s13 hp0)) j22.1 j22.2.1) ?_
 obtain ⟨w23, p24, f25⟩ := At.sl (At.le (z17 hp0 j22.2.2) s13 s13)
 replace p24 := PtG.le p24 O12.fro
 refine W.load1 (v := w23) (r := []) rfl rfl ag45 (z15 rfl p24) (W.q1 w23 rfl (.nil (.region (W.q2 (σ8 3) rfl (W.q2 w23 rfl ?_)))))
 obtain ⟨x26, i27, h28⟩ := z00 h21
 refine W.lo rfl rfl (Lo.callPF (ps := []) (pw := fun w => [eSl w 96 T_Q x26]) rfl (fn := Tryz.f85) (by kernel_rfl) rfl (mc rfl mn) O12 (fun L' O' => z5v K w23 x19 f25 O' _ i27)) ?_
 rintro v37 H38 ⟨w34, G29, O30, s31, sm36, rfl⟩
 refine W.lo rfl rfl (Lo.buildSlice (r := rV) (vs := [w34]) (xs := [w34]) za9 zmv zc7 (by kernel_rfl) rfl (qc rfl qn) rfl (.cons (zp1 (O30.slLen (j := 0) rfl)) .nil) O30) ?_
 rintro v41 H42 ⟨O39, sm40⟩
 have O44 : Ow G29 H42 (eSl w34 96 T_Q x26 :: eSl v41 111 rV [w34] :: z3u (σ8 3) 111 ws15 [] 96 T_Q x6 :: L) := O39.front (j := 1) rfl
 obtain ⟨es45, e46, e47⟩ := z4n (j := 1) rfl O44
 obtain ⟨g49, h50⟩ := z2p h28
 refine W.lo rfl rfl (Lo.appRow (j := 1) (v := (σ8 3)) (w := w34) rfl rfl za9 zor zmv zc7 zo8 (by decide) (by decide) rfl e46 e47 g49 O44) ?_
 rintro v52 H53 ⟨O48, sm51⟩
 have O54 : Ow G29 H53 (z3u v52 111 (ws15 ++ [w34]) [] 96 T_Q (x6 ++ [x26]) :: L) := O48.drop 0
 refine W.q1 v52 rfl (.nil (.region (W.q3 (.int .i64 (z04 .i64 (x7 + 1))) t16 rfl (W.q2 (.int .i64 (z04 .i64 (x7 + 1))) rfl (.nil ?_)))))
 exact ⟨k5, zAg _, ⟨(x6 ++ [x26]), z04 .i64 (x7 + 1), (ws15 ++ [w34]), _, h50, O54, (zAe s13 s31), rfl⟩⟩
def z2l (K : Nat) (p0 : List Q) : Nat -> List zAd -> Int -> Option ((List zAd × Int) ⊕ (List zAd))
  | 0, _, _ => none
  | k + 1, x6, x7 => (if (decide (x7 < (List.length p0 : Int))) = true then ((idx p0 x7).bind fun x18 => ((z6v K x18).bind fun x37 => (if (x37 != 0) = true then some (.inl ([], x37)) else ((z6o K x18).bind fun x58 => (if List.length x6 + List.length [x58] <= 16777216 then z2l K p0 k (x6 ++ [x58]) (z04 .i64 (x7 + 1)) else none))))) else some (.inr x6))
def z5m (K : Nat) (p0 : List Q) : Option (List zAd × Int) := (z9q (z2l K p0 K [] 0) (tu2 fun a94 a95 => some (a94, a95)) (tu1 fun x85 => some (x85, 0)))
theorem z95 (v0 : Value) (p0 : List Q) (hp0 : (rSl T_Q).rep G [v0] p0) (O : Ow G H (L)) (r : List zAd × Int) (h : z5m K p0 = some r) :
    CRF Tryz.prog 86 [v0] G H (fun w0 => (eSl w0 22 rS r.1 :: L)) (fun w0 v G' => v = .tuple #[w0, .int .i64 r.2]) := by
 unfold z5m at h
 refine CRF.og (n := 26) (fn := Tryz.f86) (by kernel_rfl) rfl rfl fun R kr => (.seq (.region (W.q1 (.slice none 0 0) rfl (W.q1 (.int .i64 0) rfl (.nil (.seq ?_))))))
 refine .region (W.q1 (.slice none 0 0) rfl (.nil (.seq (.seq (.region (W.q2 v0 rfl ?_))))))
 refine W.pure (v := (.int .i64 (List.length p0 : Int))) rfl rfl (z0f (oo rfl rfl) (z0a hp0) (z02 zbp)) (W.q2 (.int .i64 0) rfl (.nil ?_))
 obtain ⟨q1, h2, h3⟩ := z1t h
 refine AW.midT (fun σ' H' => ∃ (y1 : List zAd) (G' : GM), (.inr y1) = q1 /\ Ow G' H' (eSl (σ' 4) 22 rS y1 :: L) /\ GM.le G G') ?_ ?_
 rotate_left
 .rintro σ86 H87 fr88 ⟨x85, G89, rfl, O90, s91⟩
  have h93 := z09 (z70 h3)
  refine .seq (.region (W.q2 (σ86 4) rfl (W.q1 (σ86 4) rfl (W.q1 (.int .i64 0) rfl (.nil (.ret ?_))))))
  obtain rfl := zAa h93
  exact z6u kr (σ86 4) (v1 := (σ86 4)) (v2 := (.int .i64 0)) (by rfl) (z07 (by rfl) (by exact rfl)) (z07 (by rfl) (by exact rfl)) O90 s91 rfl
 refine .block ?_
 have O4 := O.nilSl 22 rS
 refine AW.loop (α := Nat) (fun k' σ' H' => ∃ (y1 : List zAd) (y2 : Int) (G' : GM), z2l K p0 k' y1 y2 = some q1 /\ Ow G' H' (eSl (σ' 4) 22 rS y1 :: L) /\ GM.le G G' /\ σ' 10 = .int .i64 y2) (fun k' => k') K ⟨[], 0, _, h2, O4, (zAf _), rfl⟩ ?_
 rintro k5
 rintro σ8 H9 fr10 ⟨x6, x7, G11, h14, O12, s13, t15⟩
 rcases k5 with _ | k5
 .exact z06 h14
 rw [z2l] at h14
 refine .seq (.region (W.q3 (.bool (decide (x7 < (List.length p0 : Int)))) t15 ((fr10 9 rfl).trans rfl) (.nil (.seq (.cond (b := decide (x7 < (List.length p0 : Int))) rfl rfl (fun g16 => ?_) (fun g16 => ?_))))))
 rotate_left
 .have h84 := z0g g16 h14
  refine .exit ?_
  obtain rfl := zAa h84
  exact ⟨x6, _, rfl, O12, s13⟩
 have h17 := z03 g16 h14
 refine .skip (.seq (.block (.seq (.region ?_))))
 obtain ⟨x18, i19, h20⟩ := z00 h17
 have j21 := z0d i19
 refine W.pure (v := (z1k v0 (Int.toNat x7 * 3))) rfl rfl (z26 zbp sz96 (oo rfl ((fr10 8 rfl).trans rfl)) (oo rfl t15) (z0a (RT.mono _ s13 hp0)) j21.1 j21.2.1) ?_
 obtain ⟨c22, p23, f24⟩ := (At.le (At.le (z17 hp0 j21.2.2) s13 s13) (zAf _) O12.fro)
 refine W.loadA (cs := c22) rfl rfl ag96 sz96 (z15 rfl p23) (RT.len _ f24) (W.lo rfl rfl (Lo.alloc (r := T_Q) (x0 := (Q.mk false ([] : List Int) ([] : List Int))) ze96 (by kernel_rfl) z_Q O12) ?_)
 rintro v28 H29 ⟨b26, rfl, O25, sm27⟩
 refine W.lo rfl rfl (Lo.storeVar (j := 0) (s := T_Q) (y0 := x18) (v := (.agg (List.toArray c22))) (o := 0) rfl ((Put.at (Put.self _) _ _)) rfl sz96 rfl (by omega) rfl f24 O25) ?_
 rintro v32 H33 ⟨O30, sm31⟩
 refine .nil (.seq (.seq (.region ?_)))
 obtain ⟨c34, p35, f36⟩ := (O30.atVar (j := 0) rfl)
 refine W.loadA (cs := c34) rfl rfl ag96 sz96 (z15 rfl p35) (RT.len _ f36) ?_
 obtain ⟨x37, i38, h39⟩ := z00 h20
 refine W.lo rfl rfl (Lo.cP rfl (fn := Tryz.f89) (by kernel_rfl) rfl (mc rfl mn) O30 (fun L' O' => zas K c34 x18 f36 O' _ i38)) ?_
 rintro v46 H47 ⟨G40, O41, s42, sm45, rfl⟩
 refine W.q1 (.int .i64 x37) rfl (.nil (.seq (.region (W.q2 (.int .i64 x37) rfl (W.q3 (.bool (x37 != 0)) rfl rfl (.nil ?_))))))
 refine .cond (b := (x37 != 0)) rfl rfl (fun g48 => ?_) (fun g48 => ?_)
 .have h49 := z03 g48 h39
  refine .seq (.region (W.q2 (.int .i64 x37) rfl (W.q1 (.slice none 0 0) rfl (W.q1 (.int .i64 x37) rfl (.nil (.ret ?_))))))
  have O50 := O41.nilSl 22 rS
  have O51 : Ow G40 H47 (eSl (.slice none 0 0) 22 rS [] :: eSl (σ8 4) 22 rS x6 :: L) := O50.drop 1
  have O52 : Ow G40 H47 (eSl (.slice none 0 0) 22 rS [] :: L) := O51.drop 1
  obtain rfl := zAa h49
  have h53 := z6c (z59 h3)
  obtain rfl := zAa h53
  exact z6u kr (.slice none 0 0) (v1 := (.slice none 0 0)) (v2 := (.int .i64 x37)) (by rfl) (z07 (by rfl) (by exact rfl)) (z07 (by rfl) (by exact rfl)) O52 (zAe s13 s42) rfl
 have h54 := z0g g48 h39
 refine .skip (.region (W.q2 (σ8 4) rfl ?_))
 obtain ⟨c55, p56, f57⟩ := (O41.atVar (j := 0) rfl)
 refine W.loadA (cs := c55) rfl rfl ag96 sz96 (z15 rfl p56) (RT.len _ f57) ?_
 obtain ⟨x58, i59, h60⟩ := z00 h54
 refine W.lo rfl rfl (Lo.cP rfl (fn := Tryz.f90) (by kernel_rfl) rfl (mc rfl mn) O41 (fun L' O' => z9z K c55 x18 f57 O' _ i59)) ?_
 rintro v67 H68 ⟨G61, O62, s63, sm66, rfl⟩
 refine W.lo rfl rfl (Lo.buildSlice (r := rS) (vs := [(.string x58)]) (xs := [x58]) el45 ze22 sz22 (by kernel_rfl) rfl (qc rfl qn) rfl (.cons rfl .nil) O62) ?_
 rintro v71 H72 ⟨O69, sm70⟩
 obtain ⟨es74, e75, e76⟩ := z4n (j := 0) rfl O69
 obtain ⟨g77, h78⟩ := z2p h60
 refine W.lo rfl rfl (Lo.append (j := 2) (v := (σ8 4)) rfl rfl el45 ni45 ze22 sz22 by22 (by decide) (by decide) rfl e75 e76 g77 O69) ?_
 rintro v80 H81 ⟨O73, sm79⟩
 refine W.q1 v80 rfl (.nil (.region (W.q3 (.int .i64 (z04 .i64 (x7 + 1))) t15 rfl (W.q2 (.int .i64 (z04 .i64 (x7 + 1))) rfl (.nil ?_)))))
 have O82 : Ow G61 H81 (eVar b26 96 T_Q x18 :: eSl v80 22 rS (x6 ++ [x58]) :: L) := O73.drop 0
 have O83 : Ow G61 H81 (eSl v80 22 rS (x6 ++ [x58]) :: L) := O82.drop 0
 exact ⟨k5, zAg _, ⟨(x6 ++ [x58]), z04 .i64 (x7 + 1), _, h78, O83, (zAe s13 (zAe s42 s63)), rfl⟩⟩
def z4r (K : Nat) (x63 : List Q) (x76 : List (List Q)) : Nat -> List Q -> Int -> Option (List Q)
  | 0, _, _ => none
  | k + 1, x102, x103 => (if (decide (x103 < (List.length x76 : Int))) = true then ((idx x76 x103).bind fun x114 => ((z47 K x114 x63).bind fun x121 => (if List.length x102 + List.length [x121] <= 16777216 then z4r K x63 x76 k (x102 ++ [x121]) (z04 .i64 (x103 + 1)) else none))) else some x102)
def z7w (K : Nat) (p0 : List (List zAd)) (p1 : List zAd) : Option (List zAd × Int) := ((z1b K p0).bind fun x1 => (if (x1 != 0) = true then some ([], x1) else ((z1a K p1).bind fun x16 => (if (x16 != 0) = true then some ([], x16) else (Option.bind (((z2g K p0).bind fun x34 => (if (x34 != (List.length p1 : Int)) = true then some (decide ((List.length p0 : Int) > 0)) else some false))) (tu1 fun x49 => (if x49 = true then some ([], 3) else ((z46 K p1).bind fun x63 => ((z3w K p0).bind fun x76 => (Option.bind (z4r K x63 x76 K [] 0) (tu1 fun x149 => ((z5m K x149).bind fun x162 => some (x162.1, x162.2)))))))))))))
theorem zb2 (v0 : Value) (p0 : List (List zAd)) (hp0 : (rSl (rSl rS)).rep G [v0] p0) (v1 : Value) (p1 : List zAd) (hp1 : (rSl rS).rep G [v1] p1) (O : Ow G H (L)) (r : List zAd × Int) (h : z7w K p0 p1 = some r) :
    CRF Tryz.prog 28 [v0, v1] G H (fun w0 => (eSl w0 22 rS r.1 :: L)) (fun w0 v G' => v = .tuple #[w0, .int .i64 r.2]) := by
 unfold z7w at h
 refine CRF.og (n := 52) (fn := Tryz.f28) (by kernel_rfl) rfl rfl fun R kr => (.seq (.region (W.q1 (.slice none 0 0) rfl (W.q1 (.int .i64 0) rfl (.nil (.seq ?_))))))
 refine .seq (.region (W.q2 v0 rfl ?_))
 obtain ⟨x1, i2, h3⟩ := z00 h
 refine W.lo rfl rfl (Lo.cP rfl (fn := Tryz.f78) (by kernel_rfl) rfl (mc rfl mn) O (fun L' O' => z1q K v0 p0 hp0 O' _ i2)) ?_
 rintro v10 H11 ⟨G4, O5, s6, sm9, rfl⟩
 refine W.q1 (.int .i64 x1) rfl (.nil (.seq (.region (W.q2 (.int .i64 x1) rfl (W.q3 (.bool (x1 != 0)) rfl rfl (.nil ?_))))))
 refine .cond (b := (x1 != 0)) rfl rfl (fun g12 => ?_) (fun g12 => ?_)
 .have h13 := z03 g12 h3
  refine .seq (.region (W.q2 (.int .i64 x1) rfl (W.q1 (.slice none 0 0) rfl (W.q1 (.int .i64 x1) rfl (.nil (.ret ?_))))))
  have O14 := O5.nilSl 22 rS
  obtain rfl := zAa h13
  exact z6u kr (.slice none 0 0) (v1 := (.slice none 0 0)) (v2 := (.int .i64 x1)) (by rfl) (z07 (by rfl) (by exact rfl)) (z07 (by rfl) (by exact rfl)) O14 s6 rfl
 have h15 := z0g g12 h3
 refine .skip (.seq (.seq (.region (W.q2 v1 rfl ?_))))
 obtain ⟨x16, i17, h18⟩ := z00 h15
 refine W.lo rfl rfl (Lo.cP rfl (fn := Tryz.f79) (by kernel_rfl) rfl (mc rfl mn) O5 (fun L' O' => z2r K v1 p1 (RT.mono _ s6 hp1) O' _ i17)) ?_
 rintro v25 H26 ⟨G19, O20, s21, sm24, rfl⟩
 refine W.q1 (.int .i64 x16) rfl (.nil (.seq (.region (W.q2 (.int .i64 x16) rfl (W.q3 (.bool (x16 != 0)) rfl rfl (.nil ?_))))))
 refine .cond (b := (x16 != 0)) rfl rfl (fun g27 => ?_) (fun g27 => ?_)
 .have h28 := z03 g27 h18
  refine .seq (.region (W.q2 (.int .i64 x16) rfl (W.q1 (.slice none 0 0) rfl (W.q1 (.int .i64 x16) rfl (.nil (.ret ?_))))))
  have O29 := O20.nilSl 22 rS
  obtain rfl := zAa h28
  exact z6u kr (.slice none 0 0) (v1 := (.slice none 0 0)) (v2 := (.int .i64 x16)) (by rfl) (z07 (by rfl) (by exact rfl)) (z07 (by rfl) (by exact rfl)) O29 (zAe s6 s21) rfl
 have h30 := z0g g27 h18
 refine .skip (.seq (.seq ?_))
 obtain ⟨q31, h32, h33⟩ := z00 h30
 refine AW.midT (fun σ' H' => ∃ (y1 : Bool) (G' : GM), y1 = q31 /\ Ow G' H' (L) /\ GM.le G19 G' /\ σ' 31 = .bool y1) ?_ ?_
 .refine .region (W.q2 v0 rfl ?_)
  obtain ⟨x34, i35, h36⟩ := z00 h32
  refine W.lo rfl rfl (Lo.cP rfl (fn := Tryz.f80) (by kernel_rfl) rfl (mc rfl mn) O20 (fun L' O' => z3v K v0 p0 (RT.mono _ (zAe s6 s21) hp0) O' _ i35)) ?_
  rintro v43 H44 ⟨G37, O38, s39, sm42, rfl⟩
  refine W.q2 v1 rfl (W.pure (v := (.int .i64 (List.length p1 : Int))) rfl rfl (z0f (oo rfl rfl) (z0a (RT.mono _ (zAe s6 (zAe s21 s39)) hp1)) (z02 el45)) (W.q3 (.bool (x34 != (List.length p1 : Int))) rfl rfl (W.q2 (.bool (x34 != (List.length p1 : Int))) rfl (W.splitAt (t := 27) (b := (x34 != (List.length p1 : Int))) rfl (fun g45 gv46 => ?_) (fun g45 gv46 => ?_)))))
  rotate_left
  .have h48 := z0g g45 h36
   refine W.q6 rfl gv46 (W.q6 rfl gv46 (W.q6 rfl gv46 (W.q5 (.bool false) gv46 rfl (.nil ?_))))
   obtain rfl := zAa h48
   exact ⟨false, _, rfl, O38, s39, rfl⟩
  have h47 := z03 g45 h36
  refine W.q2 (hg := gk rfl rfl gv46 rfl) v0 rfl (W.pure (v := (.int .i64 (List.length p0 : Int))) (gk rfl rfl gv46 rfl) rfl (z0f (oo rfl rfl) (z0a (RT.mono _ (zAe s6 (zAe s21 s39)) hp0)) (z02 el44)) (W.q3 (hg := gk rfl rfl gv46 rfl) (.bool (decide ((List.length p0 : Int) > 0))) rfl rfl (W.q4 (.bool (decide ((List.length p0 : Int) > 0))) gv46 rfl (.nil ?_))))
  obtain rfl := zAa h47
  exact ⟨decide ((List.length p0 : Int) > 0), _, rfl, O38, s39, rfl⟩
 rintro σ50 H51 fr52 ⟨x49, G53, rfl, O54, s55, t57⟩
 have h58 := z09 h33
 refine .cond (b := x49) rfl t57 (fun g59 => ?_) (fun g59 => ?_)
 .have h60 := z03 g59 h58
  refine .seq (.region (W.q1 (.slice none 0 0) rfl (W.q1 (.int .i64 3) rfl (.nil (.ret ?_)))))
  have O61 := O54.nilSl 22 rS
  obtain rfl := zAa h60
  exact z6u kr (.slice none 0 0) (v1 := (.slice none 0 0)) (v2 := (.int .i64 3)) (by rfl) (z07 (by rfl) (by exact rfl)) (z07 (by rfl) (by exact rfl)) O61 (zAe s6 (zAe s21 s55)) rfl
 have h62 := z0g g59 h58
 refine .skip (.seq (.region (W.q1 (.slice none 0 0) rfl (.nil (.seq (.region ?_))))))
 refine W.q2 v1 ((fr52 1 rfl).trans rfl) ?_
 obtain ⟨x63, i64, h65⟩ := z00 h62
 refine W.lo rfl rfl (Lo.callPF (ps := []) (pw := fun w => [eSl w 96 T_Q x63]) rfl (fn := Tryz.f85) (by kernel_rfl) rfl (mc rfl mn) O54 (fun L' O' => z5v K v1 p1 (RT.mono _ (zAe s6 (zAe s21 s55)) hp1) O' _ i64)) ?_
 rintro v74 H75 ⟨w71, G66, O67, s68, sm73, rfl⟩
 refine W.q1 w71 rfl (.nil (.seq (.seq (.region (W.q2 v0 ((fr52 0 rfl).trans rfl) ?_)))))
 obtain ⟨x76, i77, h78⟩ := z00 h65
 refine W.lo rfl rfl (Lo.callPF (ps := []) (pw := fun w => [z3u (hdT w) 111 (tlT w) [] 96 T_Q x76]) rfl (fn := Tryz.f82) (by kernel_rfl) rfl (mc rfl mn) O67 (fun L' O' => z4d K v0 p0 (RT.mono _ (zAe s6 (zAe s21 (zAe s55 s68))) hp0) O' _ i77)) ?_
 rintro v87 H88 ⟨w84, G79, O80, s81, sm86, rfl⟩
 refine W.pure (v := (.int .i64 (List.length x76 : Int))) rfl rfl (z0f (oo rfl rfl) (O80.rowsLen (j := 0) rfl) (z02 za9)) (W.q2 (.int .i64 0) rfl (.nil ?_))
 obtain ⟨G89, O90, s91, f92⟩ := O80.frzRows (j := 0) rfl
 obtain ⟨G93, O94, s95, f96⟩ := O90.frzSl (j := 0) rfl
 obtain ⟨q97, h98, h99⟩ := z00 h78
 refine AW.midT (fun σ' H' => ∃ (y1 : List Q) (G' : GM), y1 = q97 /\ Ow G' H' (eSl (σ' 8) 96 T_Q y1 :: L) /\ GM.le G93 G') ?_ ?_
 rotate_left
 .rintro σ150 H151 fr152 ⟨x149, G153, rfl, O154, s155⟩
  have h157 := z09 h99
  refine .seq (.region (W.q2 (σ150 8) rfl ?_))
  obtain ⟨G158, O159, s160, f161⟩ := O154.frzSl (j := 0) rfl
  obtain ⟨x162, i163, h164⟩ := z00 h157
  refine W.lo rfl rfl (Lo.callPF (ps := []) (pw := fun w => [eSl w 22 rS x162.1]) rfl (fn := Tryz.f86) (by kernel_rfl) rfl (mc rfl mn) O159 (fun L' O' => z95 K (σ150 8) x149 f161 O' _ i163)) ?_
  rintro v173 H174 ⟨w170, G165, O166, s167, sm172, rfl⟩
  refine W.pure (v := w170) rfl rfl (z08 (oo rfl rfl) rfl) (W.pure (v := (.int .i64 x162.2)) rfl rfl (z08 (oo rfl rfl) rfl) (W.q1 w170 rfl (W.q1 (.int .i64 x162.2) rfl (.nil (.ret ?_)))))
  obtain rfl := zAa h164
  exact z6u kr w170 (v1 := w170) (v2 := (.int .i64 x162.2)) (by rfl) (z07 (by rfl) (by exact rfl)) (z07 (by rfl) (by exact rfl)) O166 (zAe s6 (zAe s21 (zAe s55 (zAe s68 (zAe s81 (zAe s91 (zAe s95 (zAe s155 (zAe s160 s167))))))))) rfl
 refine .block ?_
 have O100 := O94.nilSl 96 T_Q
 refine AW.loop (α := Nat) (fun k' σ' H' => ∃ (y1 : List Q) (y2 : Int) (G' : GM), z4r K x63 x76 k' y1 y2 = some q97 /\ Ow G' H' (eSl (σ' 8) 96 T_Q y1 :: L) /\ GM.le G93 G' /\ σ' 37 = .int .i64 y2) (fun k' => k') K ⟨[], 0, _, h98, O100, (zAf _), rfl⟩ ?_
 rintro k101
 rintro σ104 H105 fr106 ⟨x102, x103, G107, h110, O108, s109, t111⟩
 rcases k101 with _ | k101
 .exact z06 h110
 rw [z4r] at h110
 refine .seq (.region (W.q3 (.bool (decide (x103 < (List.length x76 : Int)))) t111 ((fr106 36 rfl).trans rfl) (.nil (.seq (.cond (b := decide (x103 < (List.length x76 : Int))) rfl rfl (fun g112 => ?_) (fun g112 => ?_))))))
 rotate_left
 .have h148 := z0g g112 h110
  refine .exit ?_
  obtain rfl := zAa h148
  exact ⟨x102, _, rfl, O108, s109⟩
 have h113 := z03 g112 h110
 refine .skip (.seq (.block (.seq (.region ?_))))
 obtain ⟨x114, i115, h116⟩ := z00 h113
 have j117 := z0d i115
 refine W.pure (v := (z1k (hdT w84) (Int.toNat x103 * 1))) rfl rfl (z26 za9 zc7 (oo rfl ((fr106 35 rfl).trans rfl)) (oo rfl t111) (z0a (RT.mono _ (zAe s95 s109) f92)) j117.1 j117.2.1) ?_
 obtain ⟨w118, p119, f120⟩ := At.sl (At.le (z17 f92 j117.2.2) (zAe s95 s109) (zAe s95 s109))
 replace p119 := PtG.le p119 O108.fro
 refine W.load1 (v := w118) (r := []) rfl rfl zfp (z15 rfl p119) (W.q1 w118 rfl (.nil (.region (W.q2 (σ104 8) rfl (W.q2 w118 rfl (W.q2 w71 ((fr106 9 rfl).trans rfl) ?_))))))
 obtain ⟨x121, i122, h123⟩ := z00 h116
 refine W.lo rfl rfl (Lo.cP rfl (fn := Tryz.f83) (by kernel_rfl) rfl (mc rfl (mc rfl mn)) O108 (fun L' O' => z5c K w118 x114 f120 w71 x63 (RT.mono _ s109 f96) O' _ i122)) ?_
 rintro v132 H133 ⟨G124, O125, s126, sm131, ⟨c128, rfl, f129⟩⟩
 refine W.lo rfl rfl (Lo.buildSlice (r := T_Q) (vs := [(.agg (List.toArray c128))]) (xs := [x121]) zbp ze96 sz96 (by kernel_rfl) rfl (qc rfl qn) rfl (.cons f129 .nil) O125) ?_
 rintro v136 H137 ⟨O134, sm135⟩
 obtain ⟨es139, e140, e141⟩ := z4n (j := 0) rfl O134
 obtain ⟨g142, h143⟩ := z2p h123
 refine W.lo rfl rfl (Lo.append (j := 1) (v := (σ104 8)) rfl rfl zbp znw ze96 sz96 by96 (by decide) (by decide) rfl e140 e141 g142 O134) ?_
 rintro v145 H146 ⟨O138, sm144⟩
 refine W.q1 v145 rfl (.nil (.region (W.q3 (.int .i64 (z04 .i64 (x103 + 1))) t111 rfl (W.q2 (.int .i64 (z04 .i64 (x103 + 1))) rfl (.nil ?_)))))
 have O147 : Ow G124 H146 (eSl v145 96 T_Q (x102 ++ [x121]) :: L) := O138.drop 0
 exact ⟨k101, zAg _, ⟨(x102 ++ [x121]), z04 .i64 (x103 + 1), _, h143, O147, (zAe s109 s126), rfl⟩⟩
def z4e (K : Nat) (x35 : List Q) : Nat -> List (List Q) -> Int -> Option (List (List Q))
  | 0, _, _ => none
  | k + 1, x46, x47 => (if (decide (x47 < (List.length x35 : Int))) = true then ((idx x35 x47).bind fun x59 => ((idx x46 x47).bind fun x80 => (if List.length x80 + List.length [x59] <= 16777216 then ((idx x46 x47).bind fun x107 => z4e K x35 k (List.set x46 (Int.toNat x47) (x80 ++ [x59])) (z04 .i64 (x47 + 1))) else none))) else some x46)
def z4f (K : Nat) (p0 : List (List Q)) : Nat -> List (List Q) -> Int -> Option (List (List Q))
  | 0, _, _ => none
  | k + 1, x22, x23 => (if (decide (x23 < (List.length p0 : Int))) = true then ((idx p0 x23).bind fun x35 => (Option.bind (z4e K x35 K x22 0) (tu1 fun x120 => z4f K p0 k x120 (z04 .i64 (x23 + 1))))) else some x22)
def z7d (K : Nat) (p0 : List (List Q)) : Option (List (List Q)) := (if ((List.length p0 : Int) == 0) = true then some [] else ((idx p0 0).bind fun x4 => (if 0 <= (List.length x4 : Int) /\ (List.length x4 : Int) <= (List.length x4 : Int) /\ (List.length x4 : Int) <= 16777216 then (Option.bind (z4f K p0 K (List.replicate (Int.toNat (List.length x4 : Int)) ([] : List Q)) 0) (tu1 fun x131 => some x131)) else none)))
theorem zah (v0 : Value) (p0 : List (List Q)) (hp0 : (rSl (rSl T_Q)).rep G [v0] p0) (O : Ow G H (L)) (r : List (List Q)) (h : z7d K p0 = some r) :
    CR Tryz.prog 81 [v0] G H (L) (fun v G' _ => ∃ (w0 : Value), w0 = v /\ (rSl (rSl T_Q)).rep G' [w0] r) := by
 unfold z7d at h
 refine CR.og (n := 42) (fn := Tryz.f81) (by kernel_rfl) rfl rfl fun R kr => (.seq (.region (W.q1 (.slice none 0 0) rfl (.nil (.seq (.seq ?_))))))
 refine .region (W.q2 v0 rfl (W.pure (v := (.int .i64 (List.length p0 : Int))) rfl rfl (z0f (oo rfl rfl) (z0a hp0) (z02 za9)) (W.q3 (.bool ((List.length p0 : Int) == 0)) rfl rfl (.nil (.cond (b := ((List.length p0 : Int) == 0)) rfl rfl (fun g1 => ?_) (fun g1 => ?_))))))
 .have h2 := z03 g1 h
  refine .seq (.region (W.q1 (.slice none 0 0) rfl (.nil (.ret ?_))))
  obtain rfl := zAa h2
  exact z1h kr (v1 := (.slice none 0 0)) (by rfl) (z07 (by rfl) (by exact rfl)) O (zAf _) ⟨(.slice none 0 0), rfl, zk3⟩
 have h3 := z0g g1 h
 refine .skip (.seq (.region (W.q2 v0 rfl ?_)))
 obtain ⟨x4, i5, h6⟩ := z00 h3
 have j7 := z0d i5
 refine W.pure (v := (z1k v0 (Int.toNat 0 * 1))) rfl rfl (z26 za9 zc7 (oo rfl rfl) (oo rfl rfl) (z0a hp0) j7.1 j7.2.1) ?_
 obtain ⟨w8, p9, f10⟩ := At.sl (z17 hp0 j7.2.2)
 replace p9 := PtG.le p9 O.fro
 refine W.load1 (v := w8) (r := []) rfl rfl zfp (z15 rfl p9) (W.pure (v := (.int .i64 (List.length x4 : Int))) rfl rfl (z0f (oo rfl rfl) (z0a f10) (z02 zbp)) ?_)
 obtain ⟨g12, h13⟩ := z2p h6
 refine W.lo rfl rfl (Lo.makeRows (a := (List.length x4 : Int)) (c := (List.length x4 : Int)) T_Q 96 rfl za9 zmv zc7 zo8 (by decide) rfl rfl g12 O) ?_
 rintro v16 H17 ⟨ws14, O11, sm15⟩
 refine W.q1 v16 rfl (.nil (.seq (.seq (.region (W.q2 v0 rfl (W.pure (v := (.int .i64 (List.length p0 : Int))) rfl rfl (z0f (oo rfl rfl) (z0a hp0) (z02 za9)) ?_))))))
 refine W.q2 (.int .i64 0) rfl (.nil ?_)
 obtain ⟨q18, h19, h20⟩ := z00 h13
 refine AW.midT (fun σ' H' => ∃ (y1 : List (List Q)) (ws_p15 : List Value) (G' : GM), y1 = q18 /\ Ow G' H' (z3u v16 111 ws_p15 [] 96 T_Q y1 :: L) /\ GM.le G G') ?_ ?_
 rotate_left
 .rintro σ132 H133 fr134 ⟨x131, ws139, G135, rfl, O136, s137⟩
  have h140 := z09 h20
  refine .seq (.region (W.q2 v16 ((fr134 3 rfl).trans rfl) (W.q1 v16 rfl (.nil (.ret ?_)))))
  obtain ⟨G141, O142, s143, f144⟩ := O136.frzRows (j := 0) rfl
  obtain rfl := zAa h140
  exact z1h kr (v1 := v16) (by rfl) (z07 (by rfl) (by exact rfl)) O142 (zAe s137 s143) ⟨v16, rfl, f144⟩
 refine .block (AW.loop (α := Nat) (fun k' σ' H' => ∃ (y1 : List (List Q)) (y2 : Int) (ws_p15 : List Value) (G' : GM), z4f K p0 k' y1 y2 = some q18 /\ Ow G' H' (z3u v16 111 ws_p15 [] 96 T_Q y1 :: L) /\ GM.le G G' /\ σ' 18 = .int .i64 y2) (fun k' => k') K ⟨(List.replicate (Int.toNat (List.length x4 : Int)) ([] : List Q)), 0, ws14, _, h19, O11, (zAf _), rfl⟩ ?_)
 rintro k21
 rintro σ24 H25 fr26 ⟨x22, x23, ws31, G27, h30, O28, s29, t32⟩
 rcases k21 with _ | k21
 .exact z06 h30
 rw [z4f] at h30
 refine .seq (.region (W.q3 (.bool (decide (x23 < (List.length p0 : Int)))) t32 ((fr26 17 rfl).trans rfl) (.nil (.seq (.cond (b := decide (x23 < (List.length p0 : Int))) rfl rfl (fun g33 => ?_) (fun g33 => ?_))))))
 rotate_left
 .have h130 := z0g g33 h30
  refine .exit ?_
  obtain rfl := zAa h130
  exact ⟨x22, ws31, _, rfl, O28, s29⟩
 have h34 := z03 g33 h30
 refine .skip (.seq (.block (.seq (.region ?_))))
 obtain ⟨x35, i36, h37⟩ := z00 h34
 have j38 := z0d i36
 refine W.pure (v := (z1k v0 (Int.toNat x23 * 1))) rfl rfl (z26 za9 zc7 (oo rfl ((fr26 16 rfl).trans rfl)) (oo rfl t32) (z0a (RT.mono _ s29 hp0)) j38.1 j38.2.1) ?_
 obtain ⟨w39, p40, f41⟩ := At.sl (At.le (z17 hp0 j38.2.2) s29 s29)
 replace p40 := PtG.le p40 O28.fro
 refine W.load1 (v := w39) (r := []) rfl rfl zfp (z15 rfl p40) (W.q1 w39 rfl (.nil (.seq (.region (W.q2 w39 rfl (W.pure (v := (.int .i64 (List.length x35 : Int))) rfl rfl (z0f (oo rfl rfl) (z0a f41) (z02 zbp)) ?_))))))
 refine W.q2 (.int .i64 0) rfl (.nil ?_)
 obtain ⟨q42, h43, h44⟩ := z00 h37
 refine AW.midT (fun σ' H' => ∃ (y1 : List (List Q)) (ws_p15 : List Value) (G' : GM), y1 = q42 /\ Ow G' H' (z3u v16 111 ws_p15 [] 96 T_Q y1 :: L) /\ GM.le G27 G') ?_ ?_
 rotate_left
 .rintro σ121 H122 fr123 ⟨x120, ws128, G124, rfl, O125, s126⟩
  have h129 := z09 h44
  refine .region (W.q3 (.int .i64 (z04 .i64 (x23 + 1))) ((fr123 18 rfl).trans t32) rfl (W.q2 (.int .i64 (z04 .i64 (x23 + 1))) rfl (.nil ?_)))
  exact ⟨k21, zAg _, ⟨x120, z04 .i64 (x23 + 1), ws128, _, h129, O125, (zAe s29 s126), rfl⟩⟩
 refine .block (AW.loop (α := Nat) (fun k' σ' H' => ∃ (y1 : List (List Q)) (y2 : Int) (ws_p15 : List Value) (G' : GM), z4e K x35 k' y1 y2 = some q42 /\ Ow G' H' (z3u v16 111 ws_p15 [] 96 T_Q y1 :: L) /\ GM.le G27 G' /\ σ' 24 = .int .i64 y2) (fun k' => k') K ⟨x22, 0, ws31, _, h43, O28, (zAf _), rfl⟩ ?_)
 rintro k45
 rintro σ48 H49 fr50 ⟨x46, x47, ws55, G51, h54, O52, s53, t56⟩
 rcases k45 with _ | k45
 .exact z06 h54
 rw [z4e] at h54
 refine .seq (.region (W.q3 (.bool (decide (x47 < (List.length x35 : Int)))) t56 ((fr50 23 rfl).trans rfl) (.nil (.seq (.cond (b := decide (x47 < (List.length x35 : Int))) rfl rfl (fun g57 => ?_) (fun g57 => ?_))))))
 rotate_left
 .have h119 := z0g g57 h54
  refine .exit ?_
  obtain rfl := zAa h119
  exact ⟨x46, ws55, _, rfl, O52, s53⟩
 have h58 := z03 g57 h54
 refine .skip (.seq (.block (.seq (.region (W.q2 _ t56 ?_)))))
 obtain ⟨x59, i60, h61⟩ := z00 h58
 have j62 := z0d i60
 refine W.pure (v := (z1k w39 (Int.toNat x47 * 3))) rfl rfl (z26 zbp sz96 (oo rfl ((fr50 22 rfl).trans rfl)) (oo rfl t56) (z0a (RT.mono _ s53 f41)) j62.1 j62.2.1) ?_
 obtain ⟨c63, p64, f65⟩ := (At.le (At.le (z17 f41 j62.2.2) s53 s53) (zAf _) O52.fro)
 refine W.loadA (cs := c63) rfl rfl ag96 sz96 (z15 rfl p64) (RT.len _ f65) (W.lo rfl rfl (Lo.alloc (r := T_Q) (x0 := (Q.mk false ([] : List Int) ([] : List Int))) ze96 (by kernel_rfl) z_Q O52) ?_)
 rintro v69 H70 ⟨b67, rfl, O66, sm68⟩
 refine W.q1 (.int .i64 x47) rfl (W.lo rfl rfl (Lo.storeVar (j := 0) (s := T_Q) (y0 := x59) (v := (.agg (List.toArray c63))) (o := 0) rfl ((Put.at (Put.self _) _ _)) rfl sz96 rfl (by omega) rfl f65 O66) ?_)
 rintro v73 H74 ⟨O71, sm72⟩
 refine .nil (.draw2 (M := [0, 0, 0, 0, 12, 28, 0, 64, 252, 511, 1023]) mixed (by kernel_rfl) (by kernel_rfl) fun H75 N79 x76 F78 => ?_)
 have O77 := O71.ext x76
 refine D2.q2 v16 ((fr50 3 rfl).trans ((fr26 3 rfl).trans rfl)) (D2.q2 (.int .i64 x47) rfl (D2.q2 v16 ((fr50 3 rfl).trans ((fr26 3 rfl).trans rfl)) (D2.q2 (.int .i64 x47) rfl ?_)))
 obtain ⟨x80, i81, h82⟩ := z00 h61
 have j83 := z0d i81
 refine D2.pure (v := (z1k v16 (Int.toNat x47 * 1))) rfl rfl (z26 za9 zc7 (oo rfl rfl) (oo rfl rfl) (O77.rowsLen (j := 1) rfl) j83.1 j83.2.1) ?_
 obtain ⟨w84, e85, p86, k87⟩ := O77.rowVal (j := 1) rfl j83.2.2
 refine D2.load1' (v := w84) (r := []) rfl rfl zfp (z15 rfl p86) z0b ?_
 obtain ⟨c88, p89, f90⟩ := (O77.atVar (j := 0) rfl)
 refine D2.loadA' (cs := c88) rfl rfl ag96 sz96 (z15 rfl p89) (RT.len _ f90) z0b (D2.alloc (m := 11) rfl rfl (Al.buildSlice (r := T_Q) (vs := [(.agg (List.toArray c88))]) (xs := [x59]) zbp ze96 sz96 (by kernel_rfl) rfl (qc rfl qn) rfl (.cons f90 .nil)) (Free.up (by decide) F78) (by decide) O77 ?_)
 rintro b92 H93 ⟨O94, sm95, F96⟩
 have O97 := O94.takeRow (j := 2) rfl e85 j83.2.2 List.not_mem_nil
 obtain ⟨es99, e100, e101⟩ := z4n (j := 1) rfl O97
 obtain ⟨g102, h103⟩ := z2p h82
 refine D2.lo rfl rfl (Lo.append (j := 0) (v := w84) rfl rfl zbp znw ze96 sz96 by96 (by decide) (by decide) rfl e100 e101 g102 O97) ?_ z0b ?_ ?_
 .rintro v105 H106 ⟨O98, sm104⟩; exact (faR1 (.inl (by decide)) (faR1 (.inl (by decide)) z0b))
 .rintro v105 H106 ⟨O98, sm104⟩; exact (faR1 (.inl (by decide)) z0b)
 rintro v105 H106 ⟨O98, sm104⟩
 obtain ⟨x107, i108, h109⟩ := z00 h103
 have j110 := z0d i108
 refine D2.pure (v := (z1k v16 (Int.toNat x47 * 1))) rfl rfl (z26 za9 zc7 (oo rfl rfl) (oo rfl rfl) (O98.rowsLen (j := 3) rfl) j110.1 j110.2.1) ?_
 have e112 := O98.cellsSl (j := 0) rfl
 refine D2.lo rfl rfl (Lo.storeRow (j := 3) (i := Int.toNat x47) rfl (zAi j110.2.2).1 rfl zc7 rfl rfl e112.1 e112.2 O98) ?_ (z1i (by decide) z0b) ?_ ?_
 .rintro v114 H115 ⟨O111, sm113⟩; exact (faR1 (.inl (by decide)) (faR1 (.inl (by decide)) z0b))
 .rintro v114 H115 ⟨O111, sm113⟩; exact (faR1 (.inl (by decide)) z0b)
 rintro v114 H115 ⟨O111, sm113⟩
 refine .nil (.region (W.q3 (.int .i64 (z04 .i64 (x47 + 1))) t56 rfl (W.q2 (.int .i64 (z04 .i64 (x47 + 1))) rfl (.nil ?_))))
 have O116 := O111.putRow (j := 2) rfl (zo7 e85)
 have O117 : Ow G51 H115 (eVar b67 96 T_Q x59 :: z3u v16 111 (List.set ws55 (Int.toNat x47) v105) [] 96 T_Q (List.set x46 (Int.toNat x47) (x80 ++ [x59])) :: L) := O116.drop 0
 have O118 : Ow G51 H115 (z3u v16 111 (List.set ws55 (Int.toNat x47) v105) [] 96 T_Q (List.set x46 (Int.toNat x47) (x80 ++ [x59])) :: L) := O117.drop 0
 exact ⟨k45, zAg _, ⟨(List.set x46 (Int.toNat x47) (x80 ++ [x59])), z04 .i64 (x47 + 1), (List.set ws55 (Int.toNat x47) v105), _, h109, O118, s53, rfl⟩⟩
def z1g (K : Nat) (p0 : List (List Q)) : Nat -> List (List zAd) -> Int -> Option ((List (List zAd) × Int) ⊕ (List (List zAd)))
  | 0, _, _ => none
  | k + 1, x6, x7 => (if (decide (x7 < (List.length p0 : Int))) = true then ((idx p0 x7).bind fun x18 => ((z5m K x18).bind fun x25 => (if (x25.2 != 0) = true then some (.inl ([], x25.2)) else (if List.length x6 + List.length [x25.1] <= 16777216 then z1g K p0 k (x6 ++ [x25.1]) (z04 .i64 (x7 + 1)) else none)))) else some (.inr x6))
def z32 (K : Nat) (p0 : List (List Q)) : Option (List (List zAd) × Int) := (z9q (z1g K p0 K [] 0) (tu2 fun a73 a74 => some (a73, a74)) (tu1 fun x64 => some (x64, 0)))
theorem z5n (v0 : Value) (p0 : List (List Q)) (hp0 : (rSl (rSl T_Q)).rep G [v0] p0) (O : Ow G H (L)) (r : List (List zAd) × Int) (h : z32 K p0 = some r) :
    CRF Tryz.prog 84 [v0] G H (fun w0 => (eSl w0 45 (rSl rS) r.1 :: L)) (fun w0 v G' => v = .tuple #[w0, .int .i64 r.2]) := by
 unfold z32 at h
 refine CRF.og (n := 29) (fn := Tryz.f84) (by kernel_rfl) rfl rfl fun R kr => (.seq (.region (W.q1 (.slice none 0 0) rfl (W.q1 (.int .i64 0) rfl (.nil (.seq ?_))))))
 refine .region (W.q1 (.slice none 0 0) rfl (.nil (.seq (.seq (.region (W.q2 v0 rfl ?_))))))
 refine W.pure (v := (.int .i64 (List.length p0 : Int))) rfl rfl (z0f (oo rfl rfl) (z0a hp0) (z02 za9)) (W.q2 (.int .i64 0) rfl (.nil ?_))
 obtain ⟨q1, h2, h3⟩ := z1t h
 refine AW.midT (fun σ' H' => ∃ (y1 : List (List zAd)) (G' : GM), (.inr y1) = q1 /\ Ow G' H' (eSl (σ' 4) 45 (rSl rS) y1 :: L) /\ GM.le G G') ?_ ?_
 rotate_left
 .rintro σ65 H66 fr67 ⟨x64, G68, rfl, O69, s70⟩
  have h72 := z09 (z70 h3)
  refine .seq (.region (W.q2 (σ65 4) rfl (W.q1 (σ65 4) rfl (W.q1 (.int .i64 0) rfl (.nil (.ret ?_))))))
  obtain rfl := zAa h72
  exact z6u kr (σ65 4) (v1 := (σ65 4)) (v2 := (.int .i64 0)) (by rfl) (z07 (by rfl) (by exact rfl)) (z07 (by rfl) (by exact rfl)) O69 s70 rfl
 refine .block ?_
 have O4 := O.nilSl 45 (rSl rS)
 refine AW.loop (α := Nat) (fun k' σ' H' => ∃ (y1 : List (List zAd)) (y2 : Int) (G' : GM), z1g K p0 k' y1 y2 = some q1 /\ Ow G' H' (eSl (σ' 4) 45 (rSl rS) y1 :: L) /\ GM.le G G' /\ σ' 11 = .int .i64 y2) (fun k' => k') K ⟨[], 0, _, h2, O4, (zAf _), rfl⟩ ?_
 rintro k5
 rintro σ8 H9 fr10 ⟨x6, x7, G11, h14, O12, s13, t15⟩
 rcases k5 with _ | k5
 .exact z06 h14
 rw [z1g] at h14
 refine .seq (.region (W.q3 (.bool (decide (x7 < (List.length p0 : Int)))) t15 ((fr10 10 rfl).trans rfl) (.nil (.seq (.cond (b := decide (x7 < (List.length p0 : Int))) rfl rfl (fun g16 => ?_) (fun g16 => ?_))))))
 rotate_left
 .have h63 := z0g g16 h14
  refine .exit ?_
  obtain rfl := zAa h63
  exact ⟨x6, _, rfl, O12, s13⟩
 have h17 := z03 g16 h14
 refine .skip (.seq (.block (.seq (.region ?_))))
 obtain ⟨x18, i19, h20⟩ := z00 h17
 have j21 := z0d i19
 refine W.pure (v := (z1k v0 (Int.toNat x7 * 1))) rfl rfl (z26 za9 zc7 (oo rfl ((fr10 9 rfl).trans rfl)) (oo rfl t15) (z0a (RT.mono _ s13 hp0)) j21.1 j21.2.1) ?_
 obtain ⟨w22, p23, f24⟩ := At.sl (At.le (z17 hp0 j21.2.2) s13 s13)
 replace p23 := PtG.le p23 O12.fro
 refine W.load1 (v := w22) (r := []) rfl rfl zfp (z15 rfl p23) (W.q1 w22 rfl (.nil (.seq (.region (W.q2 w22 rfl ?_)))))
 obtain ⟨x25, i26, h27⟩ := z00 h20
 refine W.lo rfl rfl (Lo.callPF (ps := []) (pw := fun w => [eSl w 22 rS x25.1]) rfl (fn := Tryz.f86) (by kernel_rfl) rfl (mc rfl mn) O12 (fun L' O' => z95 K w22 x18 f24 O' _ i26)) ?_
 rintro v36 H37 ⟨w33, G28, O29, s30, sm35, rfl⟩
 refine W.q2 (.tuple #[w33, (.int .i64 x25.2)]) rfl (W.pure (v := w33) rfl rfl (z08 (oo rfl rfl) rfl) (W.pure (v := (.int .i64 x25.2)) rfl rfl (z08 (oo rfl rfl) rfl) (W.q1 w33 rfl (W.q1 (.int .i64 x25.2) rfl (.nil (.seq ?_))))))
 refine .seq (.region (W.q2 (.int .i64 x25.2) rfl (W.q3 (.bool (x25.2 != 0)) rfl rfl (.nil (.cond (b := (x25.2 != 0)) rfl rfl (fun g38 => ?_) (fun g38 => ?_))))))
 .have h39 := z03 g38 h27
  refine .seq (.region (W.q2 (.int .i64 x25.2) rfl (W.q1 (.slice none 0 0) rfl (W.q1 (.int .i64 x25.2) rfl (.nil (.ret ?_))))))
  have O40 := O29.nilSl 45 (rSl rS)
  have O41 : Ow G28 H37 (eSl (.slice none 0 0) 45 (rSl rS) [] :: eSl (σ8 4) 45 (rSl rS) x6 :: L) := O40.drop 1
  have O42 : Ow G28 H37 (eSl (.slice none 0 0) 45 (rSl rS) [] :: L) := O41.drop 1
  obtain rfl := zAa h39
  have h43 := z6c (z59 h3)
  obtain rfl := zAa h43
  exact z6u kr (.slice none 0 0) (v1 := (.slice none 0 0)) (v2 := (.int .i64 x25.2)) (by rfl) (z07 (by rfl) (by exact rfl)) (z07 (by rfl) (by exact rfl)) O42 (zAe s13 s30) rfl
 have h44 := z0g g38 h27
 refine .skip (.region (W.q2 (σ8 4) rfl (W.q2 w33 rfl ?_)))
 obtain ⟨G46, O47, s48, f49⟩ := O29.frzSl (j := 0) rfl
 refine W.lo rfl rfl (Lo.buildSlice (r := (rSl rS)) (vs := [w33]) (xs := [x25.1]) el44 ze45 sz45 (by kernel_rfl) rfl (qc rfl qn) rfl (.cons (z2q f49) .nil) O47) ?_
 rintro v51 H52 ⟨O45, sm50⟩
 obtain ⟨es54, e55, e56⟩ := z4n (j := 0) rfl O45
 obtain ⟨g57, h58⟩ := z2p h44
 refine W.lo rfl rfl (Lo.append (j := 1) (v := (σ8 4)) rfl rfl el44 ni44 ze45 sz45 by45 (by decide) (by decide) rfl e55 e56 g57 O45) ?_
 rintro v60 H61 ⟨O53, sm59⟩
 refine W.q1 v60 rfl (.nil (.region (W.q3 (.int .i64 (z04 .i64 (x7 + 1))) t15 rfl (W.q2 (.int .i64 (z04 .i64 (x7 + 1))) rfl (.nil ?_)))))
 have O62 : Ow G46 H61 (eSl v60 45 (rSl rS) (x6 ++ [x25.1]) :: L) := O53.drop 0
 exact ⟨k5, zAg _, ⟨(x6 ++ [x25.1]), z04 .i64 (x7 + 1), _, h58, O62, (zAe s13 (zAe s30 s48)), rfl⟩⟩
def z5w (K : Nat) (x63 : List (List Q)) (x110 : List Q) : Nat -> List Q -> Int -> Option (List Q)
  | 0, _, _ => none
  | k + 1, x122, x123 => (if (decide (x123 < (List.length x63 : Int))) = true then ((idx x63 x123).bind fun x134 => ((z47 K x110 x134).bind fun x141 => (if List.length x122 + List.length [x141] <= 16777216 then z5w K x63 x110 k (x122 ++ [x141]) (z04 .i64 (x123 + 1)) else none))) else some x122)
def z5x (K : Nat) (x76 : List (List Q)) (x63 : List (List Q)) : Nat -> List (List Q) -> Int -> Option (List (List Q))
  | 0, _, _ => none
  | k + 1, x98, x99 => (if (decide (x99 < (List.length x76 : Int))) = true then ((idx x76 x99).bind fun x110 => (Option.bind (z5w K x63 x110 K [] 0) (tu1 fun x171 => (if List.length x98 + List.length [x171] <= 16777216 then z5x K x76 x63 k (x98 ++ [x171]) (z04 .i64 (x99 + 1)) else none)))) else some x98)
def z9e (K : Nat) (p0 : List (List zAd)) (p1 : List (List zAd)) : Option (List (List zAd) × Int) := ((z1b K p0).bind fun x1 => (if (x1 != 0) = true then some ([], x1) else ((z1b K p1).bind fun x16 => (if (x16 != 0) = true then some ([], x16) else ((z2g K p0).bind fun x31 => (if (x31 != (List.length p1 : Int)) = true then some ([], 3) else ((z3w K p1).bind fun x46 => ((z7d K x46).bind fun x63 => ((z3w K p0).bind fun x76 => (Option.bind (z5x K x76 x63 K [] 0) (tu1 fun x199 => ((z32 K x199).bind fun x212 => some (x212.1, x212.2)))))))))))))
theorem zca (v0 : Value) (p0 : List (List zAd)) (hp0 : (rSl (rSl rS)).rep G [v0] p0) (v1 : Value) (p1 : List (List zAd)) (hp1 : (rSl (rSl rS)).rep G [v1] p1) (O : Ow G H (L)) (r : List (List zAd) × Int) (h : z9e K p0 p1 = some r) :
    CRF Tryz.prog 27 [v0, v1] G H (fun w0 => (eSl w0 45 (rSl rS) r.1 :: L)) (fun w0 v G' => v = .tuple #[w0, .int .i64 r.2]) := by
 unfold z9e at h
 refine CRF.og (n := 62) (fn := Tryz.f27) (by kernel_rfl) rfl rfl fun R kr => (.seq (.region (W.q1 (.slice none 0 0) rfl (W.q1 (.int .i64 0) rfl (.nil (.seq ?_))))))
 refine .seq (.region (W.q2 v0 rfl ?_))
 obtain ⟨x1, i2, h3⟩ := z00 h
 refine W.lo rfl rfl (Lo.cP rfl (fn := Tryz.f78) (by kernel_rfl) rfl (mc rfl mn) O (fun L' O' => z1q K v0 p0 hp0 O' _ i2)) ?_
 rintro v10 H11 ⟨G4, O5, s6, sm9, rfl⟩
 refine W.q1 (.int .i64 x1) rfl (.nil (.seq (.region (W.q2 (.int .i64 x1) rfl (W.q3 (.bool (x1 != 0)) rfl rfl (.nil ?_))))))
 refine .cond (b := (x1 != 0)) rfl rfl (fun g12 => ?_) (fun g12 => ?_)
 .have h13 := z03 g12 h3
  refine .seq (.region (W.q2 (.int .i64 x1) rfl (W.q1 (.slice none 0 0) rfl (W.q1 (.int .i64 x1) rfl (.nil (.ret ?_))))))
  have O14 := O5.nilSl 45 (rSl rS)
  obtain rfl := zAa h13
  exact z6u kr (.slice none 0 0) (v1 := (.slice none 0 0)) (v2 := (.int .i64 x1)) (by rfl) (z07 (by rfl) (by exact rfl)) (z07 (by rfl) (by exact rfl)) O14 s6 rfl
 have h15 := z0g g12 h3
 refine .skip (.seq (.seq (.region (W.q2 v1 rfl ?_))))
 obtain ⟨x16, i17, h18⟩ := z00 h15
 refine W.lo rfl rfl (Lo.cP rfl (fn := Tryz.f78) (by kernel_rfl) rfl (mc rfl mn) O5 (fun L' O' => z1q K v1 p1 (RT.mono _ s6 hp1) O' _ i17)) ?_
 rintro v25 H26 ⟨G19, O20, s21, sm24, rfl⟩
 refine W.q1 (.int .i64 x16) rfl (.nil (.seq (.region (W.q2 (.int .i64 x16) rfl (W.q3 (.bool (x16 != 0)) rfl rfl (.nil ?_))))))
 refine .cond (b := (x16 != 0)) rfl rfl (fun g27 => ?_) (fun g27 => ?_)
 .have h28 := z03 g27 h18
  refine .seq (.region (W.q2 (.int .i64 x16) rfl (W.q1 (.slice none 0 0) rfl (W.q1 (.int .i64 x16) rfl (.nil (.ret ?_))))))
  have O29 := O20.nilSl 45 (rSl rS)
  obtain rfl := zAa h28
  exact z6u kr (.slice none 0 0) (v1 := (.slice none 0 0)) (v2 := (.int .i64 x16)) (by rfl) (z07 (by rfl) (by exact rfl)) (z07 (by rfl) (by exact rfl)) O29 (zAe s6 s21) rfl
 have h30 := z0g g27 h18
 refine .skip (.seq (.seq (.region (W.q2 v0 rfl ?_))))
 obtain ⟨x31, i32, h33⟩ := z00 h30
 refine W.lo rfl rfl (Lo.cP rfl (fn := Tryz.f80) (by kernel_rfl) rfl (mc rfl mn) O20 (fun L' O' => z3v K v0 p0 (RT.mono _ (zAe s6 s21) hp0) O' _ i32)) ?_
 rintro v40 H41 ⟨G34, O35, s36, sm39, rfl⟩
 refine W.q2 v1 rfl (W.pure (v := (.int .i64 (List.length p1 : Int))) rfl rfl (z0f (oo rfl rfl) (z0a (RT.mono _ (zAe s6 (zAe s21 s36)) hp1)) (z02 el44)) (W.q3 (.bool (x31 != (List.length p1 : Int))) rfl rfl (.nil (.cond (b := (x31 != (List.length p1 : Int))) rfl rfl (fun g42 => ?_) (fun g42 => ?_)))))
 .have h43 := z03 g42 h33
  refine .seq (.region (W.q1 (.slice none 0 0) rfl (W.q1 (.int .i64 3) rfl (.nil (.ret ?_)))))
  have O44 := O35.nilSl 45 (rSl rS)
  obtain rfl := zAa h43
  exact z6u kr (.slice none 0 0) (v1 := (.slice none 0 0)) (v2 := (.int .i64 3)) (by rfl) (z07 (by rfl) (by exact rfl)) (z07 (by rfl) (by exact rfl)) O44 (zAe s6 (zAe s21 s36)) rfl
 have h45 := z0g g42 h33
 refine .skip (.seq (.region (W.q2 v1 rfl ?_)))
 obtain ⟨x46, i47, h48⟩ := z00 h45
 refine W.lo rfl rfl (Lo.callPF (ps := []) (pw := fun w => [z3u (hdT w) 111 (tlT w) [] 96 T_Q x46]) rfl (fn := Tryz.f82) (by kernel_rfl) rfl (mc rfl mn) O35 (fun L' O' => z4d K v1 p1 (RT.mono _ (zAe s6 (zAe s21 s36)) hp1) O' _ i47)) ?_
 rintro v57 H58 ⟨w54, G49, O50, s51, sm56, rfl⟩
 obtain ⟨G59, O60, s61, f62⟩ := O50.frzRows (j := 0) rfl
 obtain ⟨x63, i64, h65⟩ := z00 h48
 refine W.lo rfl rfl (Lo.cP rfl (fn := Tryz.f81) (by kernel_rfl) rfl (mc rfl mn) O60 (fun L' O' => zah K (hdT w54) x46 f62 O' _ i64)) ?_
 rintro v74 H75 ⟨G66, O67, s68, sm73, ⟨w70, rfl, f71⟩⟩
 refine W.q1 w70 rfl (.nil (.seq (.region (W.q1 (.slice none 0 0) rfl (.nil (.seq ?_))))))
 refine .seq (.region (W.q2 v0 rfl ?_))
 obtain ⟨x76, i77, h78⟩ := z00 h65
 refine W.lo rfl rfl (Lo.callPF (ps := []) (pw := fun w => [z3u (hdT w) 111 (tlT w) [] 96 T_Q x76]) rfl (fn := Tryz.f82) (by kernel_rfl) rfl (mc rfl mn) O67 (fun L' O' => z4d K v0 p0 (RT.mono _ (zAe s6 (zAe s21 (zAe s36 (zAe s51 (zAe s61 s68))))) hp0) O' _ i77)) ?_
 rintro v87 H88 ⟨w84, G79, O80, s81, sm86, rfl⟩
 refine W.pure (v := (.int .i64 (List.length x76 : Int))) rfl rfl (z0f (oo rfl rfl) (O80.rowsLen (j := 0) rfl) (z02 za9)) (W.q2 (.int .i64 0) rfl (.nil ?_))
 obtain ⟨G89, O90, s91, f92⟩ := O80.frzRows (j := 0) rfl
 obtain ⟨q93, h94, h95⟩ := z00 h78
 refine AW.midT (fun σ' H' => ∃ (y1 : List (List Q)) (G' : GM), y1 = q93 /\ Ow G' H' (eSl (σ' 9) 111 (rSl T_Q) y1 :: L) /\ GM.le G89 G') ?_ ?_
 rotate_left
 .rintro σ200 H201 fr202 ⟨x199, G203, rfl, O204, s205⟩
  have h207 := z09 h95
  refine .seq (.region (W.q2 (σ200 9) rfl ?_))
  obtain ⟨G208, O209, s210, f211⟩ := O204.frzSl (j := 0) rfl
  obtain ⟨x212, i213, h214⟩ := z00 h207
  refine W.lo rfl rfl (Lo.callPF (ps := []) (pw := fun w => [eSl w 45 (rSl rS) x212.1]) rfl (fn := Tryz.f84) (by kernel_rfl) rfl (mc rfl mn) O209 (fun L' O' => z5n K (σ200 9) x199 f211 O' _ i213)) ?_
  rintro v223 H224 ⟨w220, G215, O216, s217, sm222, rfl⟩
  refine W.pure (v := w220) rfl rfl (z08 (oo rfl rfl) rfl) (W.pure (v := (.int .i64 x212.2)) rfl rfl (z08 (oo rfl rfl) rfl) (W.q1 w220 rfl (W.q1 (.int .i64 x212.2) rfl (.nil (.ret ?_)))))
  obtain rfl := zAa h214
  exact z6u kr w220 (v1 := w220) (v2 := (.int .i64 x212.2)) (by rfl) (z07 (by rfl) (by exact rfl)) (z07 (by rfl) (by exact rfl)) O216 (zAe s6 (zAe s21 (zAe s36 (zAe s51 (zAe s61 (zAe s68 (zAe s81 (zAe s91 (zAe s205 (zAe s210 s217)))))))))) rfl
 refine .block ?_
 have O96 := O90.nilSl 111 (rSl T_Q)
 refine AW.loop (α := Nat) (fun k' σ' H' => ∃ (y1 : List (List Q)) (y2 : Int) (G' : GM), z5x K x76 x63 k' y1 y2 = some q93 /\ Ow G' H' (eSl (σ' 9) 111 (rSl T_Q) y1 :: L) /\ GM.le G89 G' /\ σ' 36 = .int .i64 y2) (fun k' => k') K ⟨[], 0, _, h94, O96, (zAf _), rfl⟩ ?_
 rintro k97
 rintro σ100 H101 fr102 ⟨x98, x99, G103, h106, O104, s105, t107⟩
 rcases k97 with _ | k97
 .exact z06 h106
 rw [z5x] at h106
 refine .seq (.region (W.q3 (.bool (decide (x99 < (List.length x76 : Int)))) t107 ((fr102 35 rfl).trans rfl) (.nil (.seq (.cond (b := decide (x99 < (List.length x76 : Int))) rfl rfl (fun g108 => ?_) (fun g108 => ?_))))))
 rotate_left
 .have h198 := z0g g108 h106
  refine .exit ?_
  obtain rfl := zAa h198
  exact ⟨x98, _, rfl, O104, s105⟩
 have h109 := z03 g108 h106
 refine .skip (.seq (.block (.seq (.region ?_))))
 obtain ⟨x110, i111, h112⟩ := z00 h109
 have j113 := z0d i111
 refine W.pure (v := (z1k (hdT w84) (Int.toNat x99 * 1))) rfl rfl (z26 za9 zc7 (oo rfl ((fr102 34 rfl).trans rfl)) (oo rfl t107) (z0a (RT.mono _ s105 f92)) j113.1 j113.2.1) ?_
 obtain ⟨w114, p115, f116⟩ := At.sl (At.le (z17 f92 j113.2.2) s105 s105)
 replace p115 := PtG.le p115 O104.fro
 refine W.load1 (v := w114) (r := []) rfl rfl zfp (z15 rfl p115) (W.q1 w114 rfl (.nil (.seq (.region (W.q1 (.slice none 0 0) rfl (.nil ?_))))))
 refine .seq (.seq (.region (W.q2 w70 ((fr102 8 rfl).trans rfl) (W.pure (v := (.int .i64 (List.length x63 : Int))) rfl rfl (z0f (oo rfl rfl) (z0a (RT.mono _ (zAe s81 (zAe s91 s105)) f71)) (z02 za9)) (W.q2 (.int .i64 0) rfl (.nil ?_))))))
 obtain ⟨q117, h118, h119⟩ := z00 h112
 refine AW.midT (fun σ' H' => ∃ (y1 : List Q) (G' : GM), y1 = q117 /\ Ow G' H' (eSl (σ100 9) 111 (rSl T_Q) x98 :: eSl (σ' 12) 96 T_Q y1 :: L) /\ GM.le G103 G') ?_ ?_
 rotate_left
 .rintro σ172 H173 fr174 ⟨x171, G175, rfl, O176, s177⟩
  have h179 := z09 h119
  refine .region (W.q2 (σ100 9) ((fr174 9 rfl).trans rfl) (W.q2 (σ172 12) rfl ?_))
  obtain ⟨G181, O182, s183, f184⟩ := O176.frzSl (j := 1) rfl
  refine W.lo rfl rfl (Lo.buildSlice (r := (rSl T_Q)) (vs := [(σ172 12)]) (xs := [x171]) za9 zmv zc7 (by kernel_rfl) rfl (qc rfl qn) rfl (.cons (z2q f184) .nil) O182) ?_
  rintro v186 H187 ⟨O180, sm185⟩
  obtain ⟨es189, e190, e191⟩ := z4n (j := 0) rfl O180
  obtain ⟨g192, h193⟩ := z2p h179
  refine W.lo rfl rfl (Lo.append (j := 1) (v := (σ100 9)) rfl rfl za9 zor zmv zc7 zo8 (by decide) (by decide) rfl e190 e191 g192 O180) ?_
  rintro v195 H196 ⟨O188, sm194⟩
  refine W.q1 v195 rfl (.nil (.region (W.q3 (.int .i64 (z04 .i64 (x99 + 1))) ((fr174 36 rfl).trans t107) rfl (W.q2 (.int .i64 (z04 .i64 (x99 + 1))) rfl (.nil ?_)))))
  have O197 : Ow G181 H196 (eSl v195 111 (rSl T_Q) (x98 ++ [x171]) :: L) := O188.drop 0
  exact ⟨k97, zAg _, ⟨(x98 ++ [x171]), z04 .i64 (x99 + 1), _, h193, O197, (zAe s105 (zAe s177 s183)), rfl⟩⟩
 refine .block ?_
 have O120 := O104.nilSl 96 T_Q
 refine AW.loop (α := Nat) (fun k' σ' H' => ∃ (y1 : List Q) (y2 : Int) (G' : GM), z5w K x63 x110 k' y1 y2 = some q117 /\ Ow G' H' (eSl (σ' 12) 96 T_Q y1 :: eSl (σ100 9) 111 (rSl T_Q) x98 :: L) /\ GM.le G103 G' /\ σ' 42 = .int .i64 y2) (fun k' => k') K ⟨[], 0, _, h118, O120, (zAf _), rfl⟩ ?_
 rintro k121
 rintro σ124 H125 fr126 ⟨x122, x123, G127, h130, O128, s129, t131⟩
 rcases k121 with _ | k121
 .exact z06 h130
 rw [z5w] at h130
 refine .seq (.region (W.q3 (.bool (decide (x123 < (List.length x63 : Int)))) t131 ((fr126 41 rfl).trans rfl) (.nil (.seq (.cond (b := decide (x123 < (List.length x63 : Int))) rfl rfl (fun g132 => ?_) (fun g132 => ?_))))))
 rotate_left
 .have h168 := z0g g132 h130
  refine .exit ?_
  have O169 : Ow G127 H125 (eSl (σ124 12) 96 T_Q x122 :: eSl (σ100 9) 111 (rSl T_Q) x98 :: L) := O128.front (j := 0) rfl
  have O170 : Ow G127 H125 (eSl (σ100 9) 111 (rSl T_Q) x98 :: eSl (σ124 12) 96 T_Q x122 :: L) := O169.front (j := 1) rfl
  obtain rfl := zAa h168
  exact ⟨x122, _, rfl, O170, s129⟩
 have h133 := z03 g132 h130
 refine .skip (.seq (.block (.seq (.region ?_))))
 obtain ⟨x134, i135, h136⟩ := z00 h133
 have j137 := z0d i135
 refine W.pure (v := (z1k w70 (Int.toNat x123 * 1))) rfl rfl (z26 za9 zc7 (oo rfl ((fr126 40 rfl).trans rfl)) (oo rfl t131) (z0a (RT.mono _ (zAe s81 (zAe s91 (zAe s105 s129))) f71)) j137.1 j137.2.1) ?_
 obtain ⟨w138, p139, f140⟩ := At.sl (At.le (z17 f71 j137.2.2) (zAe s81 (zAe s91 (zAe s105 s129))) (zAe s81 (zAe s91 (zAe s105 s129))))
 replace p139 := PtG.le p139 O128.fro
 refine W.load1 (v := w138) (r := []) rfl rfl zfp (z15 rfl p139) (W.q1 w138 rfl (.nil (.region (W.q2 (σ124 12) rfl (W.q2 w114 ((fr126 11 rfl).trans rfl) (W.q2 w138 rfl ?_))))))
 obtain ⟨x141, i142, h143⟩ := z00 h136
 refine W.lo rfl rfl (Lo.cP rfl (fn := Tryz.f83) (by kernel_rfl) rfl (mc rfl (mc rfl mn)) O128 (fun L' O' => z5c K w114 x110 (RT.mono _ s129 f116) w138 x134 f140 O' _ i142)) ?_
 rintro v152 H153 ⟨G144, O145, s146, sm151, ⟨c148, rfl, f149⟩⟩
 refine W.lo rfl rfl (Lo.buildSlice (r := T_Q) (vs := [(.agg (List.toArray c148))]) (xs := [x141]) zbp ze96 sz96 (by kernel_rfl) rfl (qc rfl qn) rfl (.cons f149 .nil) O145) ?_
 rintro v156 H157 ⟨O154, sm155⟩
 obtain ⟨es159, e160, e161⟩ := z4n (j := 0) rfl O154
 obtain ⟨g162, h163⟩ := z2p h143
 refine W.lo rfl rfl (Lo.append (j := 1) (v := (σ124 12)) rfl rfl zbp znw ze96 sz96 by96 (by decide) (by decide) rfl e160 e161 g162 O154) ?_
 rintro v165 H166 ⟨O158, sm164⟩
 refine W.q1 v165 rfl (.nil (.region (W.q3 (.int .i64 (z04 .i64 (x123 + 1))) t131 rfl (W.q2 (.int .i64 (z04 .i64 (x123 + 1))) rfl (.nil ?_)))))
 have O167 : Ow G144 H166 (eSl v165 96 T_Q (x122 ++ [x141]) :: eSl (σ100 9) 111 (rSl T_Q) x98 :: L) := O158.drop 0
 exact ⟨k121, zAg _, ⟨(x122 ++ [x141]), z04 .i64 (x123 + 1), _, h163, O167, (zAe s129 s146), rfl⟩⟩
def z39 (K : Nat) (p0 : List (List zAd)) (x33 : Int) : Nat -> List zAd -> Int -> Option (List zAd)
  | 0, _, _ => none
  | k + 1, x49, x50 => (if (decide (x50 < (List.length p0 : Int))) = true then ((idx p0 x50).bind fun x61 => ((idx x61 x33).bind fun x68 => (if List.length x49 + List.length [x68] <= 16777216 then z39 K p0 x33 k (x49 ++ [x68]) (z04 .i64 (x50 + 1)) else none))) else some x49)
def z3a (K : Nat) (x16 : Int) (p0 : List (List zAd)) : Nat -> List (List zAd) -> Int -> Option (List (List zAd))
  | 0, _, _ => none
  | k + 1, x32, x33 => (if (decide (x33 < x16)) = true then (Option.bind (z39 K p0 x33 K [] 0) (tu1 fun x89 => (if List.length x32 + List.length [x89] <= 16777216 then z3a K x16 p0 k (x32 ++ [x89]) (z04 .i64 (x33 + 1)) else none))) else some x32)
def z5o (K : Nat) (p0 : List (List zAd)) : Option (List (List zAd) × Int) := ((z1b K p0).bind fun x1 => (if (x1 != 0) = true then some ([], x1) else ((z2g K p0).bind fun x16 => (Option.bind (z3a K x16 p0 K [] 0) (tu1 fun x117 => some (x117, 0))))))
theorem z92 (v0 : Value) (p0 : List (List zAd)) (hp0 : (rSl (rSl rS)).rep G [v0] p0) (O : Ow G H (L)) (r : List (List zAd) × Int) (h : z5o K p0 = some r) :
    CRF Tryz.prog 29 [v0] G H (fun w0 => (eSl w0 45 (rSl rS) r.1 :: L)) (fun w0 v G' => v = .tuple #[w0, .int .i64 r.2]) := by
 unfold z5o at h
 refine CRF.og (n := 40) (fn := Tryz.f29) (by kernel_rfl) rfl rfl fun R kr => (.seq (.region (W.q1 (.slice none 0 0) rfl (W.q1 (.int .i64 0) rfl (.nil (.seq ?_))))))
 refine .seq (.region (W.q2 v0 rfl ?_))
 obtain ⟨x1, i2, h3⟩ := z00 h
 refine W.lo rfl rfl (Lo.cP rfl (fn := Tryz.f78) (by kernel_rfl) rfl (mc rfl mn) O (fun L' O' => z1q K v0 p0 hp0 O' _ i2)) ?_
 rintro v10 H11 ⟨G4, O5, s6, sm9, rfl⟩
 refine W.q1 (.int .i64 x1) rfl (.nil (.seq (.region (W.q2 (.int .i64 x1) rfl (W.q3 (.bool (x1 != 0)) rfl rfl (.nil ?_))))))
 refine .cond (b := (x1 != 0)) rfl rfl (fun g12 => ?_) (fun g12 => ?_)
 .have h13 := z03 g12 h3
  refine .seq (.region (W.q2 (.int .i64 x1) rfl (W.q1 (.slice none 0 0) rfl (W.q1 (.int .i64 x1) rfl (.nil (.ret ?_))))))
  have O14 := O5.nilSl 45 (rSl rS)
  obtain rfl := zAa h13
  exact z6u kr (.slice none 0 0) (v1 := (.slice none 0 0)) (v2 := (.int .i64 x1)) (by rfl) (z07 (by rfl) (by exact rfl)) (z07 (by rfl) (by exact rfl)) O14 s6 rfl
 have h15 := z0g g12 h3
 refine .skip (.seq (.region (W.q1 (.slice none 0 0) rfl (.nil (.seq (.seq ?_))))))
 refine .region (W.q2 v0 rfl ?_)
 obtain ⟨x16, i17, h18⟩ := z00 h15
 refine W.lo rfl rfl (Lo.cP rfl (fn := Tryz.f80) (by kernel_rfl) rfl (mc rfl mn) O5 (fun L' O' => z3v K v0 p0 (RT.mono _ s6 hp0) O' _ i17)) ?_
 rintro v25 H26 ⟨G19, O20, s21, sm24, rfl⟩
 refine W.q2 (.int .i64 0) rfl (.nil ?_)
 obtain ⟨q27, h28, h29⟩ := z00 h18
 refine AW.midT (fun σ' H' => ∃ (y1 : List (List zAd)) (G' : GM), y1 = q27 /\ Ow G' H' (eSl (σ' 5) 45 (rSl rS) y1 :: L) /\ GM.le G19 G') ?_ ?_
 rotate_left
 .rintro σ118 H119 fr120 ⟨x117, G121, rfl, O122, s123⟩
  have h125 := z09 h29
  refine .seq (.region (W.q2 (σ118 5) rfl (W.q1 (σ118 5) rfl (W.q1 (.int .i64 0) rfl (.nil (.ret ?_))))))
  obtain rfl := zAa h125
  exact z6u kr (σ118 5) (v1 := (σ118 5)) (v2 := (.int .i64 0)) (by rfl) (z07 (by rfl) (by exact rfl)) (z07 (by rfl) (by exact rfl)) O122 (zAe s6 (zAe s21 s123)) rfl
 refine .block ?_
 have O30 := O20.nilSl 45 (rSl rS)
 refine AW.loop (α := Nat) (fun k' σ' H' => ∃ (y1 : List (List zAd)) (y2 : Int) (G' : GM), z3a K x16 p0 k' y1 y2 = some q27 /\ Ow G' H' (eSl (σ' 5) 45 (rSl rS) y1 :: L) /\ GM.le G19 G' /\ σ' 17 = .int .i64 y2) (fun k' => k') K ⟨[], 0, _, h28, O30, (zAf _), rfl⟩ ?_
 rintro k31
 rintro σ34 H35 fr36 ⟨x32, x33, G37, h40, O38, s39, t41⟩
 rcases k31 with _ | k31
 .exact z06 h40
 rw [z3a] at h40
 refine .seq (.region (W.q3 (.bool (decide (x33 < x16))) t41 ((fr36 16 rfl).trans rfl) (.nil (.seq (.cond (b := decide (x33 < x16)) rfl rfl (fun g42 => ?_) (fun g42 => ?_))))))
 rotate_left
 .have h116 := z0g g42 h40
  refine .exit ?_
  obtain rfl := zAa h116
  exact ⟨x32, _, rfl, O38, s39⟩
 have h43 := z03 g42 h40
 refine .skip (.seq (.block (.seq (.region (W.q2 _ t41 (W.q1 (.int .i64 x33) rfl ?_))))))
 refine .nil (.seq (.region (W.q1 (.slice none 0 0) rfl (.nil (.seq (.seq ?_))))))
 refine .region (W.q2 v0 ((fr36 0 rfl).trans rfl) (W.pure (v := (.int .i64 (List.length p0 : Int))) rfl rfl (z0f (oo rfl rfl) (z0a (RT.mono _ (zAe s6 (zAe s21 s39)) hp0)) (z02 el44)) (W.q2 (.int .i64 0) rfl (.nil ?_))))
 obtain ⟨q44, h45, h46⟩ := z00 h43
 refine AW.midT (fun σ' H' => ∃ (y1 : List zAd) (G' : GM), y1 = q44 /\ Ow G' H' (eSl (σ34 5) 45 (rSl rS) x32 :: eSl (σ' 7) 22 rS y1 :: L) /\ GM.le G37 G') ?_ ?_
 rotate_left
 .rintro σ90 H91 fr92 ⟨x89, G93, rfl, O94, s95⟩
  have h97 := z09 h46
  refine .region (W.q2 (σ34 5) ((fr92 5 rfl).trans rfl) (W.q2 (σ90 7) rfl ?_))
  obtain ⟨G99, O100, s101, f102⟩ := O94.frzSl (j := 1) rfl
  refine W.lo rfl rfl (Lo.buildSlice (r := (rSl rS)) (vs := [(σ90 7)]) (xs := [x89]) el44 ze45 sz45 (by kernel_rfl) rfl (qc rfl qn) rfl (.cons (z2q f102) .nil) O100) ?_
  rintro v104 H105 ⟨O98, sm103⟩
  obtain ⟨es107, e108, e109⟩ := z4n (j := 0) rfl O98
  obtain ⟨g110, h111⟩ := z2p h97
  refine W.lo rfl rfl (Lo.append (j := 1) (v := (σ34 5)) rfl rfl el44 ni44 ze45 sz45 by45 (by decide) (by decide) rfl e108 e109 g110 O98) ?_
  rintro v113 H114 ⟨O106, sm112⟩
  refine W.q1 v113 rfl (.nil (.region (W.q3 (.int .i64 (z04 .i64 (x33 + 1))) ((fr92 17 rfl).trans t41) rfl (W.q2 (.int .i64 (z04 .i64 (x33 + 1))) rfl (.nil ?_)))))
  have O115 : Ow G99 H114 (eSl v113 45 (rSl rS) (x32 ++ [x89]) :: L) := O106.drop 0
  exact ⟨k31, zAg _, ⟨(x32 ++ [x89]), z04 .i64 (x33 + 1), _, h111, O115, (zAe s39 (zAe s95 s101)), rfl⟩⟩
 refine .block ?_
 have O47 := O38.nilSl 22 rS
 refine AW.loop (α := Nat) (fun k' σ' H' => ∃ (y1 : List zAd) (y2 : Int) (G' : GM), z39 K p0 x33 k' y1 y2 = some q44 /\ Ow G' H' (eSl (σ' 7) 22 rS y1 :: eSl (σ34 5) 45 (rSl rS) x32 :: L) /\ GM.le G37 G' /\ σ' 22 = .int .i64 y2) (fun k' => k') K ⟨[], 0, _, h45, O47, (zAf _), rfl⟩ ?_
 rintro k48
 rintro σ51 H52 fr53 ⟨x49, x50, G54, h57, O55, s56, t58⟩
 rcases k48 with _ | k48
 .exact z06 h57
 rw [z39] at h57
 refine .seq (.region (W.q3 (.bool (decide (x50 < (List.length p0 : Int)))) t58 ((fr53 21 rfl).trans rfl) (.nil (.seq (.cond (b := decide (x50 < (List.length p0 : Int))) rfl rfl (fun g59 => ?_) (fun g59 => ?_))))))
 rotate_left
 .have h86 := z0g g59 h57
  refine .exit ?_
  have O87 : Ow G54 H52 (eSl (σ51 7) 22 rS x49 :: eSl (σ34 5) 45 (rSl rS) x32 :: L) := O55.front (j := 0) rfl
  have O88 : Ow G54 H52 (eSl (σ34 5) 45 (rSl rS) x32 :: eSl (σ51 7) 22 rS x49 :: L) := O87.front (j := 1) rfl
  obtain rfl := zAa h86
  exact ⟨x49, _, rfl, O88, s56⟩
 have h60 := z03 g59 h57
 refine .skip (.seq (.block (.seq (.region ?_))))
 obtain ⟨x61, i62, h63⟩ := z00 h60
 have j64 := z0d i62
 refine W.pure (v := (z1k v0 (Int.toNat x50 * 1))) rfl rfl (z26 el44 sz45 (oo rfl ((fr53 20 rfl).trans rfl)) (oo rfl t58) (z0a (RT.mono _ (zAe s6 (zAe s21 (zAe s39 s56))) hp0)) j64.1 j64.2.1) ?_
 obtain ⟨w65, p66, f67⟩ := At.sl (At.le (z17 hp0 j64.2.2) (zAe s6 (zAe s21 (zAe s39 s56))) (zAe s6 (zAe s21 (zAe s39 s56))))
 replace p66 := PtG.le p66 O55.fro
 refine W.load1 (v := w65) (r := []) rfl rfl ag45 (z15 rfl p66) (W.q1 w65 rfl (.nil (.region (W.q2 (σ51 7) rfl (W.q2 w65 rfl (W.q2 (.int .i64 x33) ((fr53 6 rfl).trans rfl) ?_))))))
 obtain ⟨x68, i69, h70⟩ := z00 h63
 have j71 := z0d i69
 refine W.pure (v := (z1k w65 (Int.toNat x33 * 1))) rfl rfl (z26 el45 sz22 (oo rfl rfl) (oo rfl rfl) (z0a f67) j71.1 j71.2.1) (W.load1 (v := (.string x68)) (r := []) rfl rfl ag22 (z15 rfl (At.str (At.le (z17 f67 j71.2.2) (zAf _) O55.fro))) (W.lo rfl rfl (Lo.buildSlice (r := rS) (vs := [(.string x68)]) (xs := [x68]) el45 ze22 sz22 (by kernel_rfl) rfl (qc rfl qn) rfl (.cons rfl .nil) O55) ?_))
 rintro v74 H75 ⟨O72, sm73⟩
 obtain ⟨es77, e78, e79⟩ := z4n (j := 0) rfl O72
 obtain ⟨g80, h81⟩ := z2p h70
 refine W.lo rfl rfl (Lo.append (j := 1) (v := (σ51 7)) rfl rfl el45 ni45 ze22 sz22 by22 (by decide) (by decide) rfl e78 e79 g80 O72) ?_
 rintro v83 H84 ⟨O76, sm82⟩
 refine W.q1 v83 rfl (.nil (.region (W.q3 (.int .i64 (z04 .i64 (x50 + 1))) t58 rfl (W.q2 (.int .i64 (z04 .i64 (x50 + 1))) rfl (.nil ?_)))))
 have O85 : Ow G54 H84 (eSl v83 22 rS (x49 ++ [x68]) :: eSl (σ34 5) 45 (rSl rS) x32 :: L) := O76.drop 0
 exact ⟨k48, zAg _, ⟨(x49 ++ [x68]), z04 .i64 (x50 + 1), _, h81, O85, s56, rfl⟩⟩
def z1f (K : Nat) (p0 : Int) : Nat -> List (List zAd) -> Int -> Option (List (List zAd))
  | 0, _, _ => none
  | k + 1, x27, x28 => (if (decide (x28 < p0)) = true then ((z0q K [(⟨#[48]⟩ : zAd)] p0).bind fun x47 => ((idx x47 x28).bind fun x60 => (if List.length x27 + List.length [(List.set x47 (Int.toNat x28) (⟨#[49]⟩ : zAd))] <= 16777216 then z1f K p0 k (x27 ++ [(List.set x47 (Int.toNat x28) (⟨#[49]⟩ : zAd))]) (z04 .i64 (x28 + 1)) else none))) else some x27)
def z1c (K : Nat) (p0 : Int) : Option (List (List zAd) × Int) := (Option.bind ((if (decide (p0 < 0)) = true then some true else some (decide (p0 > 40)))) (tu1 fun x8 => (if x8 = true then some ([], 4) else (Option.bind (z1f K p0 K [] 0) (tu1 fun x87 => some (x87, 0))))))
theorem z6w (p0 : Int) (O : Ow G H (L)) (r : List (List zAd) × Int) (h : z1c K p0 = some r) :
    CRF Tryz.prog 40 [(.int .i64 p0)] G H (fun w0 => (eSl w0 45 (rSl rS) r.1 :: L)) (fun w0 v G' => v = .tuple #[w0, .int .i64 r.2]) := by
 unfold z1c at h
 refine CRF.og (n := 29) (fn := Tryz.f40) (by kernel_rfl) rfl rfl fun R kr => (.seq (.region (W.q1 (.slice none 0 0) rfl (W.q1 (.int .i64 0) rfl (.nil (.seq ?_))))))
 refine .seq ?_
 obtain ⟨q1, h2, h3⟩ := z00 h
 refine AW.midT (fun σ' H' => ∃ (y1 : Bool) (G' : GM), y1 = q1 /\ Ow G' H' (L) /\ GM.le G G' /\ σ' 12 = .bool y1) ?_ ?_
 .refine .region (W.q2 (.int .i64 p0) rfl (W.q3 (.bool (decide (p0 < 0))) rfl rfl (W.q2 (.bool (decide (p0 < 0))) rfl (W.splitAt (t := 9) (b := decide (p0 < 0)) rfl (fun g4 gv5 => ?_) (fun g4 gv5 => ?_)))))
  .have h6 := z03 g4 h2
   refine W.q6 rfl gv5 (W.q6 rfl gv5 (W.q4 (.bool true) gv5 rfl (.nil ?_)))
   obtain rfl := zAa h6
   exact ⟨true, _, rfl, O, (zAf _), rfl⟩
  have h7 := z0g g4 h2
  refine W.q2 (hg := gk rfl rfl gv5 rfl) (.int .i64 p0) rfl (W.q3 (hg := gk rfl rfl gv5 rfl) (.bool (decide (p0 > 40))) rfl rfl (W.q5 (.bool (decide (p0 > 40))) gv5 rfl (.nil ?_)))
  obtain rfl := zAa h7
  exact ⟨decide (p0 > 40), _, rfl, O, (zAf _), rfl⟩
 rintro σ9 H10 fr11 ⟨x8, G12, rfl, O13, s14, t16⟩
 have h17 := z09 h3
 refine .cond (b := x8) rfl t16 (fun g18 => ?_) (fun g18 => ?_)
 .have h19 := z03 g18 h17
  refine .seq (.region (W.q1 (.slice none 0 0) rfl (W.q1 (.int .i64 4) rfl (.nil (.ret ?_)))))
  have O20 := O13.nilSl 45 (rSl rS)
  obtain rfl := zAa h19
  exact z6u kr (.slice none 0 0) (v1 := (.slice none 0 0)) (v2 := (.int .i64 4)) (by rfl) (z07 (by rfl) (by exact rfl)) (z07 (by rfl) (by exact rfl)) O20 s14 rfl
 have h21 := z0g g18 h17
 refine .skip (.seq (.region (W.q1 (.slice none 0 0) rfl (.nil (.seq (.seq ?_))))))
 refine .region (W.q2 (.int .i64 p0) ((fr11 0 rfl).trans rfl) (W.q2 (.int .i64 0) rfl (.nil ?_)))
 obtain ⟨q22, h23, h24⟩ := z00 h21
 refine AW.midT (fun σ' H' => ∃ (y1 : List (List zAd)) (G' : GM), y1 = q22 /\ Ow G' H' (eSl (σ' 4) 45 (rSl rS) y1 :: L) /\ GM.le G12 G') ?_ ?_
 rotate_left
 .rintro σ88 H89 fr90 ⟨x87, G91, rfl, O92, s93⟩
  have h95 := z09 h24
  refine .seq (.region (W.q2 (σ88 4) rfl (W.q1 (σ88 4) rfl (W.q1 (.int .i64 0) rfl (.nil (.ret ?_))))))
  obtain rfl := zAa h95
  exact z6u kr (σ88 4) (v1 := (σ88 4)) (v2 := (.int .i64 0)) (by rfl) (z07 (by rfl) (by exact rfl)) (z07 (by rfl) (by exact rfl)) O92 (zAe s14 s93) rfl
 refine .block ?_
 have O25 := O13.nilSl 45 (rSl rS)
 refine AW.loop (α := Nat) (fun k' σ' H' => ∃ (y1 : List (List zAd)) (y2 : Int) (G' : GM), z1f K p0 k' y1 y2 = some q22 /\ Ow G' H' (eSl (σ' 4) 45 (rSl rS) y1 :: L) /\ GM.le G12 G' /\ σ' 14 = .int .i64 y2) (fun k' => k') K ⟨[], 0, _, h23, O25, (zAf _), rfl⟩ ?_
 rintro k26
 rintro σ29 H30 fr31 ⟨x27, x28, G32, h35, O33, s34, t36⟩
 rcases k26 with _ | k26
 .exact z06 h35
 rw [z1f] at h35
 refine .seq (.region (W.q3 (.bool (decide (x28 < p0))) t36 ((fr31 13 rfl).trans rfl) (.nil (.seq (.cond (b := decide (x28 < p0)) rfl rfl (fun g37 => ?_) (fun g37 => ?_))))))
 rotate_left
 .have h86 := z0g g37 h35
  refine .exit ?_
  obtain rfl := zAa h86
  exact ⟨x27, _, rfl, O33, s34⟩
 have h38 := z03 g37 h35
 refine .skip (.seq (.block (.seq (.region (W.q2 _ t36 (W.q1 (.int .i64 x28) rfl ?_))))))
 refine .nil (.seq (.region (W.lo rfl rfl (Lo.buildSlice (r := rS) (vs := [(.string (⟨#[48]⟩ : zAd))]) (xs := [(⟨#[48]⟩ : zAd)]) el23 ze22 sz22 (by kernel_rfl) rfl (qc rfl qn) rfl (.cons rfl .nil) O33) ?_)))
 rintro v41 H42 ⟨O39, sm40⟩
 refine W.q2 (.int .i64 p0) ((fr31 0 rfl).trans ((fr11 0 rfl).trans rfl)) ?_
 obtain ⟨G43, O44, s45, f46⟩ := O39.frzSl (j := 0) rfl
 obtain ⟨x47, i48, h49⟩ := z00 h38
 refine W.lo rfl rfl (Lo.callPF (ps := []) (pw := fun w => [eSl w 22 rS x47]) rfl (fn := Tryz.f93) (by kernel_rfl) rfl (mc rfl (mc rfl mn)) O44 (fun L' O' => z5a K v41 [(⟨#[48]⟩ : zAd)] f46 p0 O' _ i48)) ?_
 rintro v58 H59 ⟨w55, G50, O51, s52, sm57, rfl⟩
 refine W.q1 w55 rfl (.nil (.seq (.region (W.q2 w55 rfl (W.q2 (.int .i64 x28) rfl ?_)))))
 obtain ⟨x60, i61, h62⟩ := z00 h49
 have j63 := z0d i61
 refine W.pure (v := (z1k w55 (Int.toNat x28 * 1))) rfl rfl (z26 el45 sz22 (oo rfl rfl) (oo rfl rfl) (O51.slLen (j := 0) rfl) j63.1 j63.2.1) (W.lo rfl rfl (Lo.storeSl0 (j := 0) (y0 := (⟨#[49]⟩ : zAd)) (v := (.string (⟨#[49]⟩ : zAd))) rfl j63.2.2  rfl sz22 rfl rfl rfl O51) ?_)
 rintro v66 H67 ⟨O64, sm65⟩
 refine .nil (.region (W.q2 (σ29 4) rfl (W.q2 w55 rfl ?_)))
 obtain ⟨G69, O70, s71, f72⟩ := O64.frzSl (j := 0) rfl
 refine W.lo rfl rfl (Lo.buildSlice (r := (rSl rS)) (vs := [w55]) (xs := [(List.set x47 (Int.toNat x28) (⟨#[49]⟩ : zAd))]) el44 ze45 sz45 (by kernel_rfl) rfl (qc rfl qn) rfl (.cons (z2q f72) .nil) O70) ?_
 rintro v74 H75 ⟨O68, sm73⟩
 obtain ⟨es77, e78, e79⟩ := z4n (j := 0) rfl O68
 obtain ⟨g80, h81⟩ := z2p h62
 refine W.lo rfl rfl (Lo.append (j := 1) (v := (σ29 4)) rfl rfl el44 ni44 ze45 sz45 by45 (by decide) (by decide) rfl e78 e79 g80 O68) ?_
 rintro v83 H84 ⟨O76, sm82⟩
 refine W.q1 v83 rfl (.nil (.region (W.q3 (.int .i64 (z04 .i64 (x28 + 1))) t36 rfl (W.q2 (.int .i64 (z04 .i64 (x28 + 1))) rfl (.nil ?_)))))
 have O85 : Ow G69 H84 (eSl v83 45 (rSl rS) (x27 ++ [(List.set x47 (Int.toNat x28) (⟨#[49]⟩ : zAd))]) :: L) := O76.drop 0
 exact ⟨k26, zAg _, ⟨(x27 ++ [(List.set x47 (Int.toNat x28) (⟨#[49]⟩ : zAd))]), z04 .i64 (x28 + 1), _, h81, O85, (zAe s34 (zAe s45 (zAe s52 s71))), rfl⟩⟩
end Go.Am.Tryz
