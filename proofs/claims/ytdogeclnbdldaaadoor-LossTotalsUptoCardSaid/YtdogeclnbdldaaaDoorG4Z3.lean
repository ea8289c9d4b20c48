/- Typed functions with the same answers as the program's, and the walks that show it. -/
import Derived.Test.YtdogeclnbdldaaaDoorG2Z3
import Derived.Test.YtdogeclnbdldaaaDoorG3Z3
set_option maxRecDepth 100000
set_option maxHeartbeats 8000000
set_option linter.unusedVariables false
set_option linter.unusedSimpArgs false
namespace Go.Am.Tryd
open Go Go.Am Go.Proofs
variable (K : Nat) {G : GM} {H : AH} {L : List Pc}
def z4g (K : Nat) (p1 : List zAd) (x29 : Q) (x42 : Q) : Nat -> Q -> Q -> Int -> Option (Q × Q)
  | 0, _, _, _ => none
  | k + 1, x210, x211, x212 => (if (decide (x212 < (List.length p1 : Int))) = true then (Option.bind (((idx p1 x212).bind fun x226 => ((z1y K x226).bind fun x230 => ((z86 K x29 x230 x230 x42).bind fun x264 => ((z3m K x264 x211).bind fun x292 => (Option.bind ((if (decide (x292 > 0)) = true then some x264 else some x211)) (tu1 fun x316 => (Option.bind ((if (decide (x212 > 0)) = true then ((idx p1 (z05 .i64 (x212 - 1))).bind fun x339 => ((z1y K x339).bind fun x343 => ((z3m K x42 x343).bind fun x356 => (if (decide (x356 >= 0)) = true then ((z3m K x42 x230).bind fun x376 => some (decide (x376 <= 0))) else some false)))) else some false)) (tu1 fun x389 => (if x389 = true then ((idx p1 (z05 .i64 (x212 - 1))).bind fun x409 => ((z1y K x409).bind fun x413 => ((z86 K x29 x413 x230 x42).bind fun x432 => some (x432, x316)))) else some (x210, x316))))))))))) (tu2 fun x454 x455 => z4g K p1 x29 x42 k x454 x455 (z05 .i64 (x212 + 1)))) else some (x210, x211))
def z7x (K : Nat) (p0 : zAd) (p1 : List zAd) (p2 : zAd) : Option (zAd × zAd × Int) := ((z6p K p0 p1).bind fun x1 => (if (x1 != 0) = true then some ((⟨#[]⟩ : zAd), (⟨#[]⟩ : zAd), x1) else ((z3k K p2).bind fun x15 => (if (x15 != 0) = true then some ((⟨#[]⟩ : zAd), (⟨#[]⟩ : zAd), x15) else ((z1y K p0).bind fun x29 => ((z1y K p2).bind fun x42 => ((idx p1 0).bind fun x78 => ((z1y K x78).bind fun x82 => ((idx p1 (z05 .i64 ((List.length p1 : Int) - 1))).bind fun x97 => ((z1y K x97).bind fun x101 => (Option.bind (((z3m K x42 x82).bind fun x147 => (if (decide (x147 < 0)) = true then some true else ((z3m K x42 x101).bind fun x168 => some (decide (x168 > 0)))))) (tu1 fun x179 => (if x179 = true then some ((⟨#[]⟩ : zAd), (⟨#[]⟩ : zAd), 4) else (Option.bind (z4g K p1 x29 x42 K (Q.mk false ([] : List Int) ([] : List Int)) (Q.mk false ([] : List Int) ([] : List Int)) 0) (tu2 fun x465 x466 => ((z29 K x466).bind fun x478 => (if (x478.2 != 0) = true then some ((⟨#[]⟩ : zAd), (⟨#[]⟩ : zAd), x478.2) else ((z29 K x465).bind fun x501 => (if (x501.2 != 0) = true then some ((⟨#[]⟩ : zAd), (⟨#[]⟩ : zAd), x501.2) else some (x478.1, x501.1, 0))))))))))))))))))))
theorem zav (p0 : zAd) (v1 : Value) (p1 : List zAd) (hp1 : (rSl rS).rep G [v1] p1) (p2 : zAd) (O : Ow G H (L)) (r : zAd × zAd × Int) (h : z7x K p0 p1 p2 = some r) :
    CR Tryd.prog 28 [(.string p0), v1, (.string p2)] G H (L) (fun v G' _ => v = .tuple #[.string r.1, .string r.2.1, .int .i64 r.2.2]) := by
 unfold z7x at h
 refine CR.og (n := 127) (fn := Tryd.f28) (by kernel_rfl) rfl rfl fun R kr => (.seq (.region (W.q1 (.string (⟨#[]⟩ : zAd)) rfl (W.q1 (.string (⟨#[]⟩ : zAd)) rfl (W.q1 (.int .i64 0) rfl (.nil ?_))))))
 refine .seq (.seq (.region (W.q2 (.string p0) rfl (W.q2 v1 rfl ?_))))
 obtain ⟨x1, i2, h3⟩ := z00 h
 refine W.lo rfl rfl (Lo.cP rfl (fn := Tryd.f81) (by kernel_rfl) rfl (mc rfl (mc rfl mn)) O (fun L' O' => z77 K p0 v1 p1 hp1 O' _ i2)) ?_
 rintro v10 H11 ⟨G4, O5, s6, sm9, rfl⟩
 refine W.q1 (.int .i64 x1) rfl (.nil (.seq (.region (W.q2 (.int .i64 x1) rfl (W.q3 (.bool (x1 != 0)) rfl rfl (.nil ?_))))))
 refine .cond (b := (x1 != 0)) rfl rfl (fun g12 => ?_) (fun g12 => ?_)
 .have h13 := z03 g12 h3
  refine .seq (.region (W.q2 (.int .i64 x1) rfl (W.q1 (.string (⟨#[]⟩ : zAd)) rfl (W.q1 (.string (⟨#[]⟩ : zAd)) rfl (W.q1 (.int .i64 x1) rfl (.nil ?_))))))
  refine .ret ?_
  obtain rfl := zAa h13
  exact zh3 kr (v1 := (.string (⟨#[]⟩ : zAd))) (v2 := (.string (⟨#[]⟩ : zAd))) (v3 := (.int .i64 x1)) (by rfl) (z09 (by rfl) (by exact rfl)) (z09 (by rfl) (by exact rfl)) (z09 (by rfl) (by exact rfl)) O5 s6 rfl
 have h14 := z0h g12 h3
 refine .skip (.seq (.seq (.region (W.q2 (.string p2) rfl ?_))))
 obtain ⟨x15, i16, h17⟩ := z00 h14
 refine W.lo rfl rfl (Lo.cP rfl (fn := Tryd.f42) (by kernel_rfl) rfl (mc rfl mn) O5 (fun L' O' => z5h K p2 O' _ i16)) ?_
 rintro v24 H25 ⟨G18, O19, s20, sm23, rfl⟩
 refine W.q1 (.int .i64 x15) rfl (.nil (.seq (.region (W.q2 (.int .i64 x15) rfl (W.q3 (.bool (x15 != 0)) rfl rfl (.nil ?_))))))
 refine .cond (b := (x15 != 0)) rfl rfl (fun g26 => ?_) (fun g26 => ?_)
 .have h27 := z03 g26 h17
  refine .seq (.region (W.q2 (.int .i64 x15) rfl (W.q1 (.string (⟨#[]⟩ : zAd)) rfl (W.q1 (.string (⟨#[]⟩ : zAd)) rfl (W.q1 (.int .i64 x15) rfl (.nil ?_))))))
  refine .ret ?_
  obtain rfl := zAa h27
  exact zh3 kr (v1 := (.string (⟨#[]⟩ : zAd))) (v2 := (.string (⟨#[]⟩ : zAd))) (v3 := (.int .i64 x15)) (by rfl) (z09 (by rfl) (by exact rfl)) (z09 (by rfl) (by exact rfl)) (z09 (by rfl) (by exact rfl)) O19 (zAe s6 s20) rfl
 have h28 := z0h g26 h17
 refine .skip (.seq (.region (W.q2 (.string p0) rfl ?_)))
 obtain ⟨x29, i30, h31⟩ := z00 h28
 refine W.lo rfl rfl (Lo.cP rfl (fn := Tryd.f36) (by kernel_rfl) rfl (mc rfl mn) O19 (fun L' O' => z0w K p0 O' _ i30)) ?_
 rintro v40 H41 ⟨G32, O33, s34, sm39, ⟨c36, rfl, f37⟩⟩
 refine W.q2 (.string p2) rfl ?_
 obtain ⟨x42, i43, h44⟩ := z00 h31
 refine W.lo rfl rfl (Lo.cP rfl (fn := Tryd.f36) (by kernel_rfl) rfl (mc rfl mn) O33 (fun L' O' => z0w K p2 O' _ i43)) ?_
 rintro v53 H54 ⟨G45, O46, s47, sm52, ⟨c49, rfl, f50⟩⟩
 refine W.lo rfl rfl (Lo.alloc (r := T_Q) (x0 := (Q.mk false ([] : List Int) ([] : List Int))) ze65 (by kernel_rfl) z_Q O46) ?_
 rintro v58 H59 ⟨b56, rfl, O55, sm57⟩
 refine W.lo rfl rfl (Lo.alloc (r := T_Q) (x0 := (Q.mk false ([] : List Int) ([] : List Int))) ze65 (by kernel_rfl) z_Q O55) ?_
 rintro v63 H64 ⟨b61, rfl, O60, sm62⟩
 refine W.lo rfl rfl (Lo.storeVar (j := 1) (s := T_Q) (y0 := x29) (v := (.agg (List.toArray c36))) (o := 0) rfl ((Put.at (Put.self _) _ _)) rfl sz65 rfl (by omega) rfl (RT.mono _ s47 f37) O60) ?_
 rintro v67 H68 ⟨O65, sm66⟩
 refine W.lo rfl rfl (Lo.storeVar (j := 0) (s := T_Q) (y0 := x42) (v := (.agg (List.toArray c49))) (o := 0) rfl ((Put.at (Put.self _) _ _)) rfl sz65 rfl (by omega) rfl f50 O65) ?_
 rintro v71 H72 ⟨O69, sm70⟩
 refine .nil (.seq (.draw2 (M := [0, 1, 3, 7, 0, 0, 32, 96, 240, 496, 1023, 0, 0, 8191, 16383]) mixed (by kernel_rfl) (by kernel_rfl) fun H73 N77 x74 F76 => ?_))
 have O75 := O69.ext x74
 refine D2.q2 v1 rfl ?_
 obtain ⟨x78, i79, h80⟩ := z00 h44
 have j81 := z0g i79
 refine D2.pure (v := (z2t v1 (Int.toNat 0 * 1))) rfl rfl (z3b el22 sz25 (oo rfl rfl) (oo rfl rfl) (z0f (RT.mono _ (zAe s6 (zAe s20 (zAe s34 s47))) hp1)) j81.1 j81.2.1) (D2.load1' (v := (.string x78)) (r := []) rfl rfl ag25 (z0q rfl (At.str (At.le (At.le (z1m hp1 j81.2.2) (zAe s6 (zAe s20 (zAe s34 s47))) (zAe s6 (zAe s20 (zAe s34 s47)))) (zAf _) O75.fro))) z02 ?_)
 obtain ⟨x82, i83, h84⟩ := z00 h80
 refine D2.loN rfl rfl (Lo.cP rfl (fn := Tryd.f36) (by kernel_rfl) rfl (mc rfl mn) O75 (fun L' O' => z0w K x78 O' _ i83)) ?_ z02 ?_ ?_
 .rintro v93 H94 ⟨G85, O86, s87, sm92, ⟨c89, rfl, f90⟩⟩; exact (faR1 (.inl (by decide)) z02)
 .rintro v93 H94 ⟨G85, O86, s87, sm92, ⟨c89, rfl, f90⟩⟩; exact z02
 rintro v93 H94 ⟨G85, O86, s87, sm92, ⟨c89, rfl, f90⟩⟩ nx95
 have F96 := Free.nx F76 nx95
 refine D2.q2 v1 rfl (D2.q2 v1 rfl (D2.pure (v := (.int .i64 (List.length p1 : Int))) rfl rfl (z0p (oo rfl rfl) (z0f (RT.mono _ (zAe s6 (zAe s20 (zAe s34 (zAe s47 s87)))) hp1)) (z06 el22)) (D2.q3 (.int .i64 (z05 .i64 ((List.length p1 : Int) - 1))) rfl rfl ?_)))
 obtain ⟨x97, i98, h99⟩ := z00 h84
 have j100 := z0g i98
 refine D2.pure (v := (z2t v1 (Int.toNat (z05 .i64 ((List.length p1 : Int) - 1)) * 1))) rfl rfl (z3b el22 sz25 (oo rfl rfl) (oo rfl rfl) (z0f (RT.mono _ (zAe s6 (zAe s20 (zAe s34 (zAe s47 s87)))) hp1)) j100.1 j100.2.1) (D2.load1' (v := (.string x97)) (r := []) rfl rfl ag25 (z0q rfl (At.str (At.le (At.le (z1m hp1 j100.2.2) (zAe s6 (zAe s20 (zAe s34 (zAe s47 s87)))) (zAe s6 (zAe s20 (zAe s34 (zAe s47 s87))))) (zAf _) O86.fro))) (z2g (sm92 _ (zgo (M := G45) (At.le (z1m hp1 j100.2.2) (zAe s6 (zAe s20 (zAe s34 s47))) (zAe s6 (zAe s20 (zAe s34 s47)))) rfl)) z02) ?_)
 obtain ⟨x101, i102, h103⟩ := z00 h99
 refine D2.loN rfl rfl (Lo.cP rfl (fn := Tryd.f36) (by kernel_rfl) rfl (mc rfl mn) O86 (fun L' O' => z0w K x97 O' _ i102)) ?_ (z07 (by decide) z02) ?_ ?_
 .rintro v112 H113 ⟨G104, O105, s106, sm111, ⟨c108, rfl, f109⟩⟩; exact (faR1 (.inl (by decide)) (faR1 (.inl (by decide)) z02))
 .rintro v112 H113 ⟨G104, O105, s106, sm111, ⟨c108, rfl, f109⟩⟩; exact z02
 rintro v112 H113 ⟨G104, O105, s106, sm111, ⟨c108, rfl, f109⟩⟩ nx114
 have F115 := Free.nx F96 nx114
 refine D2.alloc (m := 15) rfl rfl (Al.alloc (r := T_Q) (x0 := (Q.mk false ([] : List Int) ([] : List Int))) ze65 (by kernel_rfl) z_Q) (Free.up (by decide) F115) (by decide) O105 ?_
 rintro b118 H119 ⟨O120, sm121, F122⟩
 refine D2.alloc (m := 15) rfl rfl (Al.alloc (r := T_Q) (x0 := (Q.mk false ([] : List Int) ([] : List Int))) ze65 (by kernel_rfl) z_Q) (Free.up (by decide) F122) (by decide) O120 ?_
 rintro b125 H126 ⟨O127, sm128, F129⟩
 refine D2.lo rfl rfl (Lo.storeVar (j := 1) (s := T_Q) (y0 := x82) (v := (.agg (List.toArray c89))) (o := 0) rfl ((Put.at (Put.self _) _ _)) rfl sz65 rfl (by omega) rfl (RT.mono _ s106 f90) O127) ?_ (z07 (by decide) (z07 (by decide) z02)) ?_ ?_
 .rintro v132 H133 ⟨O130, sm131⟩; exact (faR1 (.inl (by decide)) (faR1 (.inl (by decide)) z02))
 .rintro v132 H133 ⟨O130, sm131⟩; exact (faR1 (.inl (by decide)) (faR1 (.inl (by decide)) z02))
 rintro v132 H133 ⟨O130, sm131⟩
 refine D2.lo rfl rfl (Lo.storeVar (j := 0) (s := T_Q) (y0 := x101) (v := (.agg (List.toArray c108))) (o := 0) rfl ((Put.at (Put.self _) _ _)) rfl sz65 rfl (by omega) rfl f109 O130) ?_ (z07 (by decide) (z07 (by decide) (z07 (by decide) z02))) ?_ ?_
 .rintro v136 H137 ⟨O134, sm135⟩; exact (faR1 (.inl (by decide)) (faR1 (.inl (by decide)) z02))
 .rintro v136 H137 ⟨O134, sm135⟩; exact (faR1 (.inl (by decide)) (faR1 (.inl (by decide)) z02))
 rintro v136 H137 ⟨O134, sm135⟩
 refine .nil (.seq (.seq ?_))
 obtain ⟨q138, h139, h140⟩ := z00 h103
 refine AW.midT (fun σ' H' => ∃ (y1 : Bool) (G' : GM), y1 = q138 /\ Ow G' H' (eVar b125 65 T_Q x101 :: eVar b118 65 T_Q x82 :: eVar b61 65 T_Q x42 :: eVar b56 65 T_Q x29 :: L) /\ GM.le G104 G' /\ σ' 59 = .bool y1) ?_ ?_
 .refine .region ?_
  obtain ⟨c141, p142, f143⟩ := (O134.atVar (j := 2) rfl)
  refine W.loadA (cs := c141) rfl rfl ag65 sz65 (z0q rfl p142) (RT.len _ f143) ?_
  obtain ⟨c144, p145, f146⟩ := (O134.atVar (j := 1) rfl)
  refine W.loadA (cs := c144) rfl rfl ag65 sz65 (z0q rfl p145) (RT.len _ f146) ?_
  obtain ⟨x147, i148, h149⟩ := z00 h139
  refine W.lo rfl rfl (Lo.cP rfl (fn := Tryd.f78) (by kernel_rfl) rfl (mc rfl (mc rfl mn)) O134 (fun L' O' => z32 K c141 x42 f143 c144 x82 f146 O' _ i148)) ?_
  rintro v156 H157 ⟨G150, O151, s152, sm155, rfl⟩
  refine W.q3 (.bool (decide (x147 < 0))) rfl rfl (W.q2 (.bool (decide (x147 < 0))) rfl (W.splitAt (t := 54) (b := decide (x147 < 0)) rfl (fun g158 gv159 => ?_) (fun g158 gv159 => ?_)))
  .have h160 := z03 g158 h149
   refine W.q6 rfl gv159 (W.q6 rfl gv159 (W.q6 rfl gv159 (W.q6 rfl gv159 (W.q4 (.bool true) gv159 rfl (.nil ?_)))))
   obtain rfl := zAa h160
   exact ⟨true, _, rfl, O151, s152, rfl⟩
  have h161 := z0h g158 h149
  obtain ⟨c162, p163, f164⟩ := (O151.atVar (j := 2) rfl)
  refine W.loadA (cs := c162) (gk rfl rfl gv159 rfl) rfl ag65 sz65 (z0q rfl p163) (RT.len _ f164) ?_
  obtain ⟨c165, p166, f167⟩ := (O151.atVar (j := 0) rfl)
  refine W.loadA (cs := c165) (gk rfl rfl gv159 rfl) rfl ag65 sz65 (z0q rfl p166) (RT.len _ f167) ?_
  obtain ⟨x168, i169, h170⟩ := z00 h161
  refine W.lo (gk rfl rfl gv159 rfl) rfl (Lo.cP rfl (fn := Tryd.f78) (by kernel_rfl) rfl (mc rfl (mc rfl mn)) O151 (fun L' O' => z32 K c162 x42 f164 c165 x101 f167 O' _ i169)) ?_
  rintro v177 H178 ⟨G171, O172, s173, sm176, rfl⟩
  refine W.q3 (hg := gk rfl rfl gv159 rfl) (.bool (decide (x168 > 0))) rfl rfl (W.q5 (.bool (decide (x168 > 0))) gv159 rfl (.nil ?_))
  obtain rfl := zAa h170
  exact ⟨decide (x168 > 0), _, rfl, O172, (zAe s152 s173), rfl⟩
 rintro σ180 H181 fr182 ⟨x179, G183, rfl, O184, s185, t187⟩
 have h188 := z0d h140
 refine .cond (b := x179) rfl t187 (fun g189 => ?_) (fun g189 => ?_)
 .have h190 := z03 g189 h188
  refine .seq (.region (W.q1 (.string (⟨#[]⟩ : zAd)) rfl (W.q1 (.string (⟨#[]⟩ : zAd)) rfl (W.q1 (.int .i64 4) rfl (.nil (.ret ?_))))))
  have O191 : Ow G183 H181 (eVar b118 65 T_Q x82 :: eVar b61 65 T_Q x42 :: eVar b56 65 T_Q x29 :: L) := O184.drop 0
  have O192 : Ow G183 H181 (eVar b61 65 T_Q x42 :: eVar b56 65 T_Q x29 :: L) := O191.drop 0
  have O193 : Ow G183 H181 (eVar b56 65 T_Q x29 :: L) := O192.drop 0
  have O194 : Ow G183 H181 (L) := O193.drop 0
  obtain rfl := zAa h190
  exact zh3 kr (v1 := (.string (⟨#[]⟩ : zAd))) (v2 := (.string (⟨#[]⟩ : zAd))) (v3 := (.int .i64 4)) (by rfl) (z09 (by rfl) (by exact rfl)) (z09 (by rfl) (by exact rfl)) (z09 (by rfl) (by exact rfl)) O194 (zAe s6 (zAe s20 (zAe s34 (zAe s47 (zAe s87 (zAe s106 s185)))))) rfl
 have h195 := z0h g189 h188
 refine .skip (.seq (.region (W.lo rfl rfl (Lo.alloc (r := T_Q) (x0 := (Q.mk false ([] : List Int) ([] : List Int))) ze65 (by kernel_rfl) z_Q O184) ?_)))
 rintro v199 H200 ⟨b197, rfl, O196, sm198⟩
 refine W.lo rfl rfl (Lo.alloc (r := T_Q) (x0 := (Q.mk false ([] : List Int) ([] : List Int))) ze65 (by kernel_rfl) z_Q O196) ?_
 rintro v204 H205 ⟨b202, rfl, O201, sm203⟩
 refine .nil (.seq (.seq (.region (W.q2 v1 ((fr182 1 rfl).trans rfl) (W.pure (v := (.int .i64 (List.length p1 : Int))) rfl rfl (z0p (oo rfl rfl) (z0f (RT.mono _ (zAe s6 (zAe s20 (zAe s34 (zAe s47 (zAe s87 (zAe s106 s185)))))) hp1)) (z06 el22)) (W.q2 (.int .i64 0) rfl ?_))))))
 refine .nil ?_
 obtain ⟨q206, h207, h208⟩ := z00 h195
 refine AW.midT (fun σ' H' => ∃ (y1 : Q) (y2 : Q) (G' : GM), (y1, y2) = q206 /\ Ow G' H' (eVar b202 65 T_Q y1 :: eVar b197 65 T_Q y2 :: eVar b125 65 T_Q x101 :: eVar b118 65 T_Q x82 :: eVar b61 65 T_Q x42 :: eVar b56 65 T_Q x29 :: L) /\ GM.le G183 G') ?_ ?_
 rotate_left
 .rintro σ467 H468 fr469 ⟨x465, x466, G470, rfl, O471, s472⟩
  have h474 := z4k h208
  refine .seq (.region ?_)
  obtain ⟨c475, p476, f477⟩ := (O471.atVar (j := 1) rfl)
  refine W.loadA (cs := c475) rfl rfl ag65 sz65 (z0q ((fr469 15 rfl).trans rfl) p476) (RT.len _ f477) ?_
  obtain ⟨x478, i479, h480⟩ := z00 h474
  refine W.lo rfl rfl (Lo.cP rfl (fn := Tryd.f37) (by kernel_rfl) rfl (mc rfl mn) O471 (fun L' O' => z31 K c475 x466 f477 O' _ i479)) ?_
  rintro v487 H488 ⟨G481, O482, s483, sm486, rfl⟩
  refine W.q2 (.tuple #[(.string x478.1), (.int .i64 x478.2)]) rfl (W.pure (v := (.string x478.1)) rfl rfl (z08 (oo rfl rfl) rfl) (W.pure (v := (.int .i64 x478.2)) rfl rfl (z08 (oo rfl rfl) rfl) (W.q1 (.string x478.1) rfl (W.q1 (.int .i64 x478.2) rfl (.nil (.seq ?_))))))
  refine .seq (.region (W.q2 (.int .i64 x478.2) rfl (W.q3 (.bool (x478.2 != 0)) rfl rfl (.nil (.cond (b := (x478.2 != 0)) rfl rfl (fun g489 => ?_) (fun g489 => ?_))))))
  .have h490 := z03 g489 h480
   refine .seq (.region (W.q2 (.int .i64 x478.2) rfl (W.q1 (.string (⟨#[]⟩ : zAd)) rfl (W.q1 (.string (⟨#[]⟩ : zAd)) rfl (W.q1 (.int .i64 x478.2) rfl (.nil ?_))))))
   refine .ret ?_
   have O491 : Ow G481 H488 (eVar b197 65 T_Q x466 :: eVar b125 65 T_Q x101 :: eVar b118 65 T_Q x82 :: eVar b61 65 T_Q x42 :: eVar b56 65 T_Q x29 :: L) := O482.drop 0
   have O492 : Ow G481 H488 (eVar b125 65 T_Q x101 :: eVar b118 65 T_Q x82 :: eVar b61 65 T_Q x42 :: eVar b56 65 T_Q x29 :: L) := O491.drop 0
   have O493 : Ow G481 H488 (eVar b118 65 T_Q x82 :: eVar b61 65 T_Q x42 :: eVar b56 65 T_Q x29 :: L) := O492.drop 0
   have O494 : Ow G481 H488 (eVar b61 65 T_Q x42 :: eVar b56 65 T_Q x29 :: L) := O493.drop 0
   have O495 : Ow G481 H488 (eVar b56 65 T_Q x29 :: L) := O494.drop 0
   have O496 : Ow G481 H488 (L) := O495.drop 0
   obtain rfl := zAa h490
   exact zh3 kr (v1 := (.string (⟨#[]⟩ : zAd))) (v2 := (.string (⟨#[]⟩ : zAd))) (v3 := (.int .i64 x478.2)) (by rfl) (z09 (by rfl) (by exact rfl)) (z09 (by rfl) (by exact rfl)) (z09 (by rfl) (by exact rfl)) O496 (zAe s6 (zAe s20 (zAe s34 (zAe s47 (zAe s87 (zAe s106 (zAe s185 (zAe s472 s483)))))))) rfl
  have h497 := z0h g489 h480
  refine .skip (.seq (.region ?_))
  obtain ⟨c498, p499, f500⟩ := (O482.atVar (j := 0) rfl)
  refine W.loadA (cs := c498) rfl rfl ag65 sz65 (z0q ((fr469 16 rfl).trans rfl) p499) (RT.len _ f500) ?_
  obtain ⟨x501, i502, h503⟩ := z00 h497
  refine W.lo rfl rfl (Lo.cP rfl (fn := Tryd.f37) (by kernel_rfl) rfl (mc rfl mn) O482 (fun L' O' => z31 K c498 x465 f500 O' _ i502)) ?_
  rintro v510 H511 ⟨G504, O505, s506, sm509, rfl⟩
  refine W.q2 (.tuple #[(.string x501.1), (.int .i64 x501.2)]) rfl (W.pure (v := (.string x501.1)) rfl rfl (z08 (oo rfl rfl) rfl) (W.pure (v := (.int .i64 x501.2)) rfl rfl (z08 (oo rfl rfl) rfl) (W.q1 (.string x501.1) rfl (W.q1 (.int .i64 x501.2) rfl (.nil (.seq ?_))))))
  refine .seq (.region (W.q2 (.int .i64 x501.2) rfl (W.q3 (.bool (x501.2 != 0)) rfl rfl (.nil (.cond (b := (x501.2 != 0)) rfl rfl (fun g512 => ?_) (fun g512 => ?_))))))
  .have h513 := z03 g512 h503
   refine .seq (.region (W.q2 (.int .i64 x501.2) rfl (W.q1 (.string (⟨#[]⟩ : zAd)) rfl (W.q1 (.string (⟨#[]⟩ : zAd)) rfl (W.q1 (.int .i64 x501.2) rfl (.nil ?_))))))
   refine .ret ?_
   have O514 : Ow G504 H511 (eVar b197 65 T_Q x466 :: eVar b125 65 T_Q x101 :: eVar b118 65 T_Q x82 :: eVar b61 65 T_Q x42 :: eVar b56 65 T_Q x29 :: L) := O505.drop 0
   have O515 : Ow G504 H511 (eVar b125 65 T_Q x101 :: eVar b118 65 T_Q x82 :: eVar b61 65 T_Q x42 :: eVar b56 65 T_Q x29 :: L) := O514.drop 0
   have O516 : Ow G504 H511 (eVar b118 65 T_Q x82 :: eVar b61 65 T_Q x42 :: eVar b56 65 T_Q x29 :: L) := O515.drop 0
   have O517 : Ow G504 H511 (eVar b61 65 T_Q x42 :: eVar b56 65 T_Q x29 :: L) := O516.drop 0
   have O518 : Ow G504 H511 (eVar b56 65 T_Q x29 :: L) := O517.drop 0
   have O519 : Ow G504 H511 (L) := O518.drop 0
   obtain rfl := zAa h513
   exact zh3 kr (v1 := (.string (⟨#[]⟩ : zAd))) (v2 := (.string (⟨#[]⟩ : zAd))) (v3 := (.int .i64 x501.2)) (by rfl) (z09 (by rfl) (by exact rfl)) (z09 (by rfl) (by exact rfl)) (z09 (by rfl) (by exact rfl)) O519 (zAe s6 (zAe s20 (zAe s34 (zAe s47 (zAe s87 (zAe s106 (zAe s185 (zAe s472 (zAe s483 s506))))))))) rfl
  have h520 := z0h g512 h503
  refine .skip (.seq (.region (W.q2 (.string x478.1) rfl (W.q2 (.string x501.1) rfl (W.q1 (.string x478.1) rfl (W.q1 (.string x501.1) rfl ?_))))))
  refine W.q1 (.int .i64 0) rfl (.nil (.ret ?_))
  have O521 : Ow G504 H511 (eVar b197 65 T_Q x466 :: eVar b125 65 T_Q x101 :: eVar b118 65 T_Q x82 :: eVar b61 65 T_Q x42 :: eVar b56 65 T_Q x29 :: L) := O505.drop 0
  have O522 : Ow G504 H511 (eVar b125 65 T_Q x101 :: eVar b118 65 T_Q x82 :: eVar b61 65 T_Q x42 :: eVar b56 65 T_Q x29 :: L) := O521.drop 0
  have O523 : Ow G504 H511 (eVar b118 65 T_Q x82 :: eVar b61 65 T_Q x42 :: eVar b56 65 T_Q x29 :: L) := O522.drop 0
  have O524 : Ow G504 H511 (eVar b61 65 T_Q x42 :: eVar b56 65 T_Q x29 :: L) := O523.drop 0
  have O525 : Ow G504 H511 (eVar b56 65 T_Q x29 :: L) := O524.drop 0
  have O526 : Ow G504 H511 (L) := O525.drop 0
  obtain rfl := zAa h520
  exact zh3 kr (v1 := (.string x478.1)) (v2 := (.string x501.1)) (v3 := (.int .i64 0)) (by rfl) (z09 (by rfl) (by exact rfl)) (z09 (by rfl) (by exact rfl)) (z09 (by rfl) (by exact rfl)) O526 (zAe s6 (zAe s20 (zAe s34 (zAe s47 (zAe s87 (zAe s106 (zAe s185 (zAe s472 (zAe s483 s506))))))))) rfl
 refine .block (AW.loop (α := Nat) (fun k' σ' H' => ∃ (y1 : Q) (y2 : Q) (y3 : Int) (G' : GM), z4g K p1 x29 x42 k' y1 y2 y3 = some q206 /\ Ow G' H' (eVar b202 65 T_Q y1 :: eVar b197 65 T_Q y2 :: eVar b125 65 T_Q x101 :: eVar b118 65 T_Q x82 :: eVar b61 65 T_Q x42 :: eVar b56 65 T_Q x29 :: L) /\ GM.le G183 G' /\ σ' 62 = .int .i64 y3) (fun k' => k') K ⟨(Q.mk false ([] : List Int) ([] : List Int)), (Q.mk false ([] : List Int) ([] : List Int)), 0, _, h207, O201, (zAf _), rfl⟩ ?_)
 rintro k209
 rintro σ213 H214 fr215 ⟨x210, x211, x212, G216, h219, O217, s218, t220⟩
 rcases k209 with _ | k209
 .exact z0a h219
 rw [z4g] at h219
 refine .seq (.region (W.q3 (.bool (decide (x212 < (List.length p1 : Int)))) t220 ((fr215 61 rfl).trans rfl) (.nil (.seq (.cond (b := decide (x212 < (List.length p1 : Int))) rfl rfl (fun g221 => ?_) (fun g221 => ?_))))))
 rotate_left
 .have h464 := z0h g221 h219
  refine .exit ?_
  obtain rfl := zAa h464
  exact ⟨x210, x211, _, rfl, O217, s218⟩
 have h222 := z03 g221 h219
 refine .skip (.seq ?_)
 obtain ⟨q223, h224, h225⟩ := z00 h222
 refine AW.midT (fun σ' H' => ∃ (y1 : Q) (y2 : Q) (G' : GM), (y1, y2) = q223 /\ Ow G' H' (eVar b202 65 T_Q y1 :: eVar b197 65 T_Q y2 :: eVar b125 65 T_Q x101 :: eVar b118 65 T_Q x82 :: eVar b61 65 T_Q x42 :: eVar b56 65 T_Q x29 :: L) /\ GM.le G216 G') ?_ ?_
 rotate_left
 .rintro σ456 H457 fr458 ⟨x454, x455, G459, rfl, O460, s461⟩
  have h463 := z4k h225
  refine .region (W.q3 (.int .i64 (z05 .i64 (x212 + 1))) ((fr458 62 rfl).trans t220) rfl (W.q2 (.int .i64 (z05 .i64 (x212 + 1))) rfl (.nil ?_)))
  exact ⟨k209, zAg _, ⟨x454, x455, z05 .i64 (x212 + 1), _, h463, O460, (zAe s218 s461), rfl⟩⟩
 refine .block (.seq (.region (W.q2 _ t220 ?_)))
 obtain ⟨x226, i227, h228⟩ := z00 h224
 have j229 := z0g i227
 refine W.pure (v := (z2t v1 (Int.toNat x212 * 1))) rfl rfl (z3b el22 sz25 (oo rfl ((fr215 60 rfl).trans rfl)) (oo rfl t220) (z0f (RT.mono _ (zAe s6 (zAe s20 (zAe s34 (zAe s47 (zAe s87 (zAe s106 (zAe s185 s218))))))) hp1)) j229.1 j229.2.1) (W.load1 (v := (.string x226)) (r := []) rfl rfl ag25 (z0q rfl (At.str (At.le (At.le (z1m hp1 j229.2.2) (zAe s6 (zAe s20 (zAe s34 (zAe s47 (zAe s87 (zAe s106 (zAe s185 s218))))))) (zAe s6 (zAe s20 (zAe s34 (zAe s47 (zAe s87 (zAe s106 (zAe s185 s218)))))))) (zAf _) O217.fro))) (W.q1 (.int .i64 x212) rfl (W.q1 (.string x226) rfl (.nil (.seq (.region ?_))))))
 refine W.q2 (.string x226) rfl ?_
 obtain ⟨x230, i231, h232⟩ := z00 h228
 refine W.lo rfl rfl (Lo.cP rfl (fn := Tryd.f36) (by kernel_rfl) rfl (mc rfl mn) O217 (fun L' O' => z0w K x226 O' _ i231)) ?_
 rintro v241 H242 ⟨G233, O234, s235, sm240, ⟨c237, rfl, f238⟩⟩
 refine W.lo rfl rfl (Lo.alloc (r := T_Q) (x0 := (Q.mk false ([] : List Int) ([] : List Int))) ze65 (by kernel_rfl) z_Q O234) ?_
 rintro v246 H247 ⟨b244, rfl, O243, sm245⟩
 refine W.lo rfl rfl (Lo.storeVar (j := 0) (s := T_Q) (y0 := x230) (v := (.agg (List.toArray c237))) (o := 0) rfl ((Put.at (Put.self _) _ _)) rfl sz65 rfl (by omega) rfl f238 O243) ?_
 rintro v250 H251 ⟨O248, sm249⟩
 refine .nil (.seq (.seq (.region ?_)))
 obtain ⟨c252, p253, f254⟩ := (O248.atVar (j := 6) rfl)
 refine W.loadA (cs := c252) rfl rfl ag65 sz65 (z0q ((fr215 11 rfl).trans ((fr182 11 rfl).trans rfl)) p253) (RT.len _ f254) ?_
 obtain ⟨c255, p256, f257⟩ := (O248.atVar (j := 0) rfl)
 refine W.loadA (cs := c255) rfl rfl ag65 sz65 (z0q rfl p256) (RT.len _ f257) ?_
 obtain ⟨c258, p259, f260⟩ := (O248.atVar (j := 0) rfl)
 refine W.loadA (cs := c258) rfl rfl ag65 sz65 (z0q rfl p259) (RT.len _ f260) ?_
 obtain ⟨c261, p262, f263⟩ := (O248.atVar (j := 5) rfl)
 refine W.loadA (cs := c261) rfl rfl ag65 sz65 (z0q ((fr215 12 rfl).trans ((fr182 12 rfl).trans rfl)) p262) (RT.len _ f263) ?_
 obtain ⟨x264, i265, h266⟩ := z00 h232
 refine W.lo rfl rfl (Lo.cP rfl (fn := Tryd.f82) (by kernel_rfl) rfl (mc rfl (mc rfl (mc rfl (mc rfl mn)))) O248 (fun L' O' => z9b K c252 x29 f254 c255 x230 f257 c258 x230 f260 c261 x42 f263 O' _ i265)) ?_
 rintro v275 H276 ⟨G267, O268, s269, sm274, ⟨c271, rfl, f272⟩⟩
 refine W.lo rfl rfl (Lo.alloc (r := T_Q) (x0 := (Q.mk false ([] : List Int) ([] : List Int))) ze65 (by kernel_rfl) z_Q O268) ?_
 rintro v280 H281 ⟨b278, rfl, O277, sm279⟩
 refine W.lo rfl rfl (Lo.storeVar (j := 0) (s := T_Q) (y0 := x264) (v := (.agg (List.toArray c271))) (o := 0) rfl ((Put.at (Put.self _) _ _)) rfl sz65 rfl (by omega) rfl f272 O277) ?_
 rintro v284 H285 ⟨O282, sm283⟩
 refine .nil (.seq (.region ?_))
 obtain ⟨c286, p287, f288⟩ := (O282.atVar (j := 0) rfl)
 refine W.loadA (cs := c286) rfl rfl ag65 sz65 (z0q rfl p287) (RT.len _ f288) ?_
 obtain ⟨c289, p290, f291⟩ := (O282.atVar (j := 3) rfl)
 refine W.loadA (cs := c289) rfl rfl ag65 sz65 (z0q ((fr215 15 rfl).trans rfl) p290) (RT.len _ f291) ?_
 obtain ⟨x292, i293, h294⟩ := z00 h266
 refine W.lo rfl rfl (Lo.cP rfl (fn := Tryd.f78) (by kernel_rfl) rfl (mc rfl (mc rfl mn)) O282 (fun L' O' => z32 K c286 x264 f288 c289 x211 f291 O' _ i293)) ?_
 rintro v301 H302 ⟨G295, O296, s297, sm300, rfl⟩
 refine W.q3 (.bool (decide (x292 > 0))) rfl rfl (.nil ?_)
 obtain ⟨q303, h304, h305⟩ := z00 h294
 refine AW.midT (fun σ' H' => ∃ (y1 : Q) (G' : GM), y1 = q303 /\ Ow G' H' (eVar b278 65 T_Q x264 :: eVar b244 65 T_Q x230 :: eVar b202 65 T_Q x210 :: eVar b197 65 T_Q y1 :: eVar b125 65 T_Q x101 :: eVar b118 65 T_Q x82 :: eVar b61 65 T_Q x42 :: eVar b56 65 T_Q x29 :: L) /\ GM.le G295 G') ?_ ?_
 .refine .cond (b := decide (x292 > 0)) rfl rfl (fun g306 => ?_) (fun g306 => ?_)
  rotate_left
  .have h315 := z0h g306 h304
   refine .skip ?_
   obtain rfl := zAa h315
   exact ⟨x211, _, rfl, O296, (zAf _)⟩
  have h307 := z03 g306 h304
  refine .region ?_
  obtain ⟨c308, p309, f310⟩ := (O296.atVar (j := 0) rfl)
  refine W.loadA (cs := c308) rfl rfl ag65 sz65 (z0q rfl p309) (RT.len _ f310) (W.lo rfl rfl (Lo.storeVar (j := 3) (s := T_Q) (y0 := x264) (v := (.agg (List.toArray c308))) (o := 0) rfl ((Put.at (Put.self _) _ _)) rfl sz65 ((fr215 15 rfl).trans rfl) (by omega) rfl f310 O296) ?_)
  rintro v313 H314 ⟨O311, sm312⟩
  refine .nil ?_
  obtain rfl := zAa h307
  exact ⟨x264, _, rfl, O311, (zAf _)⟩
 rintro σ317 H318 fr319 ⟨x316, G320, rfl, O321, s322⟩
 have h324 := z0d h305
 refine .seq ?_
 obtain ⟨q325, h326, h327⟩ := z00 h324
 refine AW.midT (fun σ' H' => ∃ (y1 : Bool) (G' : GM), y1 = q325 /\ Ow G' H' (eVar b278 65 T_Q x264 :: eVar b244 65 T_Q x230 :: eVar b202 65 T_Q x210 :: eVar b197 65 T_Q x316 :: eVar b125 65 T_Q x101 :: eVar b118 65 T_Q x82 :: eVar b61 65 T_Q x42 :: eVar b56 65 T_Q x29 :: L) /\ GM.le G320 G' /\ σ' 97 = .bool y1) ?_ ?_
 rotate_left
 .rintro σ390 H391 fr392 ⟨x389, G393, rfl, O394, s395, t397⟩
  have h398 := z0d h327
  refine .cond (b := x389) rfl t397 (fun g399 => ?_) (fun g399 => ?_)
  rotate_left
  .have h451 := z0h g399 h398
   refine .skip ?_
   have O452 : Ow G393 H391 (eVar b244 65 T_Q x230 :: eVar b202 65 T_Q x210 :: eVar b197 65 T_Q x316 :: eVar b125 65 T_Q x101 :: eVar b118 65 T_Q x82 :: eVar b61 65 T_Q x42 :: eVar b56 65 T_Q x29 :: L) := O394.drop 0
   have O453 : Ow G393 H391 (eVar b202 65 T_Q x210 :: eVar b197 65 T_Q x316 :: eVar b125 65 T_Q x101 :: eVar b118 65 T_Q x82 :: eVar b61 65 T_Q x42 :: eVar b56 65 T_Q x29 :: L) := O452.drop 0
   obtain rfl := zAa h451
   exact ⟨x210, x316, _, rfl, O453, (zAe s235 (zAe s269 (zAe s297 (zAe s322 s395))))⟩
  have h400 := z03 g399 h398
  refine .draw2 (M := [0, 0, 0, 4, 14, 30, 62, 0, 0, 511, 1023]) mixed (by kernel_rfl) (by kernel_rfl) fun H401 N405 x402 F404 => ?_
  have O403 := O394.ext x402
  obtain ⟨c406, p407, f408⟩ := (O403.atVar (j := 7) rfl)
  refine D2.loadA' (cs := c406) rfl rfl ag65 sz65 (z0q ((fr392 11 rfl).trans ((fr319 11 rfl).trans ((fr215 11 rfl).trans ((fr182 11 rfl).trans rfl)))) p407) (RT.len _ f408) z02 (D2.q2 v1 ((fr392 1 rfl).trans ((fr319 1 rfl).trans ((fr215 1 rfl).trans ((fr182 1 rfl).trans rfl)))) (D2.q2 (.int .i64 x212) ((fr392 17 rfl).trans ((fr319 17 rfl).trans rfl)) (D2.q3 (.int .i64 (z05 .i64 (x212 - 1))) rfl rfl ?_)))
  obtain ⟨x409, i410, h411⟩ := z00 h400
  have j412 := z0g i410
  refine D2.pure (v := (z2t v1 (Int.toNat (z05 .i64 (x212 - 1)) * 1))) rfl rfl (z3b el22 sz25 (oo rfl rfl) (oo rfl rfl) (z0f (RT.mono _ (zAe s6 (zAe s20 (zAe s34 (zAe s47 (zAe s87 (zAe s106 (zAe s185 (zAe s218 (zAe s235 (zAe s269 (zAe s297 (zAe s322 s395)))))))))))) hp1)) j412.1 j412.2.1) (D2.load1' (v := (.string x409)) (r := []) rfl rfl ag25 (z0q rfl (At.str (At.le (At.le (z1m hp1 j412.2.2) (zAe s6 (zAe s20 (zAe s34 (zAe s47 (zAe s87 (zAe s106 (zAe s185 (zAe s218 (zAe s235 (zAe s269 (zAe s297 (zAe s322 s395)))))))))))) (zAe s6 (zAe s20 (zAe s34 (zAe s47 (zAe s87 (zAe s106 (zAe s185 (zAe s218 (zAe s235 (zAe s269 (zAe s297 (zAe s322 s395))))))))))))) (zAf _) O403.fro))) z02 ?_)
  obtain ⟨x413, i414, h415⟩ := z00 h411
  refine D2.lo rfl rfl (Lo.cP rfl (fn := Tryd.f36) (by kernel_rfl) rfl (mc rfl mn) O403 (fun L' O' => z0w K x409 O' _ i414)) ?_ z02 ?_ ?_
  .rintro v424 H425 ⟨G416, O417, s418, sm423, ⟨c420, rfl, f421⟩⟩; exact (faR1 (.inl (by decide)) (faR1 (.inr (zd4 ((fr392 11 rfl).trans ((fr319 11 rfl).trans ((fr215 11 rfl).trans ((fr182 11 rfl).trans rfl)))) (sm423 _ (Or.inr ⟨7, _, rfl, List.mem_singleton.2 rfl⟩)))) z02))
  .rintro v424 H425 ⟨G416, O417, s418, sm423, ⟨c420, rfl, f421⟩⟩; exact z02
  rintro v424 H425 ⟨G416, O417, s418, sm423, ⟨c420, rfl, f421⟩⟩
  obtain ⟨c426, p427, f428⟩ := (O417.atVar (j := 1) rfl)
  refine D2.loadA' (cs := c426) rfl rfl ag65 sz65 (z0q ((fr392 19 rfl).trans ((fr319 19 rfl).trans rfl)) p427) (RT.len _ f428) (z2g (zd4 ((fr392 19 rfl).trans ((fr319 19 rfl).trans rfl)) (sm423 _ (Or.inr ⟨1, _, rfl, List.mem_singleton.2 rfl⟩))) z02) ?_
  obtain ⟨c429, p430, f431⟩ := (O417.atVar (j := 6) rfl)
  refine D2.loadA' (cs := c429) rfl rfl ag65 sz65 (z0q ((fr392 12 rfl).trans ((fr319 12 rfl).trans ((fr215 12 rfl).trans ((fr182 12 rfl).trans rfl)))) p430) (RT.len _ f431) (z2g (zd4 ((fr392 12 rfl).trans ((fr319 12 rfl).trans ((fr215 12 rfl).trans ((fr182 12 rfl).trans rfl)))) (sm423 _ (Or.inr ⟨6, _, rfl, List.mem_singleton.2 rfl⟩))) z02) ?_
  obtain ⟨x432, i433, h434⟩ := z00 h415
  refine D2.lo rfl rfl (Lo.cP rfl (fn := Tryd.f82) (by kernel_rfl) rfl (mc rfl (mc rfl (mc rfl (mc rfl mn)))) O417 (fun L' O' => z9b K c406 x29 (RT.mono _ s418 f408) c420 x413 f421 c426 x230 f428 c429 x42 f431 O' _ i433)) ?_ (z07 (by decide) z02) ?_ ?_
  .rintro v443 H444 ⟨G435, O436, s437, sm442, ⟨c439, rfl, f440⟩⟩; exact (faR1 (.inl (by decide)) (faR1 (.inl (by decide)) (faR1 (.inl (by decide)) (faR1 (.inl (by decide)) z02))))
  .rintro v443 H444 ⟨G435, O436, s437, sm442, ⟨c439, rfl, f440⟩⟩; exact z02
  rintro v443 H444 ⟨G435, O436, s437, sm442, ⟨c439, rfl, f440⟩⟩
  refine D2.lo rfl rfl (Lo.storeVar (j := 2) (s := T_Q) (y0 := x432) (v := (.agg (List.toArray c439))) (o := 0) rfl ((Put.at (Put.self _) _ _)) rfl sz65 ((fr392 16 rfl).trans ((fr319 16 rfl).trans ((fr215 16 rfl).trans rfl))) (by omega) rfl f440 O436) ?_ (z07 (by decide) (z07 (by decide) z02)) ?_ ?_
  .rintro v447 H448 ⟨O445, sm446⟩; exact (faR1 (.inl (by decide)) (faR1 (.inl (by decide)) (faR1 (.inl (by decide)) (faR1 (.inl (by decide)) z02))))
  .rintro v447 H448 ⟨O445, sm446⟩; exact z02
  rintro v447 H448 ⟨O445, sm446⟩
  refine .nil ?_
  have O449 : Ow G435 H448 (eVar b244 65 T_Q x230 :: eVar b202 65 T_Q x432 :: eVar b197 65 T_Q x316 :: eVar b125 65 T_Q x101 :: eVar b118 65 T_Q x82 :: eVar b61 65 T_Q x42 :: eVar b56 65 T_Q x29 :: L) := O445.drop 0
  have O450 : Ow G435 H448 (eVar b202 65 T_Q x432 :: eVar b197 65 T_Q x316 :: eVar b125 65 T_Q x101 :: eVar b118 65 T_Q x82 :: eVar b61 65 T_Q x42 :: eVar b56 65 T_Q x29 :: L) := O449.drop 0
  obtain rfl := zAa h434
  exact ⟨x432, x316, _, rfl, O450, (zAe s235 (zAe s269 (zAe s297 (zAe s322 (zAe s395 (zAe s418 s437))))))⟩
 refine .draw2 (M := [0, 1, 3, 7, 7, 7, 39, 119, 247, 503, 1023, 2047, 4095, 8191, 16383, 16383, 65535, 131071, 262143]) mixed (by kernel_rfl) (by kernel_rfl) fun H328 N332 x329 F331 => ?_
 have O330 := O321.ext x329
 refine D2.q2 (.int .i64 x212) ((fr319 17 rfl).trans rfl) (D2.q3 (.bool (decide (x212 > 0))) rfl rfl (D2.q2 (.bool (decide (x212 > 0))) rfl (D2.splitAt (t := 81) (b := decide (x212 > 0)) rfl (fun g333 gv334 => ?_) (fun g333 gv334 => ?_))))
 rotate_left
 .have h388 := z0h g333 h326
  refine D2.skip (gk rfl rfl gv334 rfl) rfl (D2.skip (gk rfl rfl gv334 rfl) rfl (D2.skip (gk rfl rfl gv334 rfl) rfl (D2.skip (gk rfl rfl gv334 rfl) rfl (D2.skip (gk rfl rfl gv334 rfl) rfl (D2.skip (gk rfl rfl gv334 rfl) rfl (D2.skip (gk rfl rfl gv334 rfl) rfl ?_))))))
  refine D2.skip (gk rfl rfl gv334 rfl) rfl (D2.skip (gk rfl rfl gv334 rfl) rfl (D2.pure (v := (.bool false)) rfl rfl (zd1 (oo rfl gv334) (oo rfl rfl)) (D2.q2 (.bool false) rfl (D2.skip (gk rfl rfl rfl rfl) rfl (D2.skip (gk rfl rfl rfl rfl) rfl (D2.skip (gk rfl rfl rfl rfl) rfl ?_))))))
  refine D2.skip (gk rfl rfl rfl rfl) rfl (D2.pure (v := (.bool false)) rfl rfl (zd1 (oo rfl rfl) (oo rfl rfl)) (.nil ?_))
  obtain rfl := zAa h388
  exact ⟨false, _, rfl, O330, (zAf _), rfl⟩
 have h335 := z03 g333 h326
 obtain ⟨c336, p337, f338⟩ := (O330.atVar (j := 6) rfl)
 refine D2.loadA' (cs := c336) (gk rfl rfl gv334 rfl) rfl ag65 sz65 (z0q ((fr319 12 rfl).trans ((fr215 12 rfl).trans ((fr182 12 rfl).trans rfl))) p337) (RT.len _ f338) z02 (D2.q2 (hg := gk rfl rfl gv334 rfl) v1 ((fr319 1 rfl).trans ((fr215 1 rfl).trans ((fr182 1 rfl).trans rfl))) (D2.q2 (hg := gk rfl rfl gv334 rfl) (.int .i64 x212) ((fr319 17 rfl).trans rfl) (D2.q3 (hg := gk rfl rfl gv334 rfl) (.int .i64 (z05 .i64 (x212 - 1))) rfl rfl ?_)))
 obtain ⟨x339, i340, h341⟩ := z00 h335
 have j342 := z0g i340
 refine D2.pure (v := (z2t v1 (Int.toNat (z05 .i64 (x212 - 1)) * 1))) (gk rfl rfl gv334 rfl) rfl (z3b el22 sz25 (oo rfl rfl) (oo rfl rfl) (z0f (RT.mono _ (zAe s6 (zAe s20 (zAe s34 (zAe s47 (zAe s87 (zAe s106 (zAe s185 (zAe s218 (zAe s235 (zAe s269 (zAe s297 s322))))))))))) hp1)) j342.1 j342.2.1) (D2.load1' (v := (.string x339)) (r := []) (gk rfl rfl gv334 rfl) rfl ag25 (z0q rfl (At.str (At.le (At.le (z1m hp1 j342.2.2) (zAe s6 (zAe s20 (zAe s34 (zAe s47 (zAe s87 (zAe s106 (zAe s185 (zAe s218 (zAe s235 (zAe s269 (zAe s297 s322))))))))))) (zAe s6 (zAe s20 (zAe s34 (zAe s47 (zAe s87 (zAe s106 (zAe s185 (zAe s218 (zAe s235 (zAe s269 (zAe s297 s322)))))))))))) (zAf _) O330.fro))) z02 ?_)
 obtain ⟨x343, i344, h345⟩ := z00 h341
 refine D2.lo (gk rfl rfl gv334 rfl) rfl (Lo.cP rfl (fn := Tryd.f36) (by kernel_rfl) rfl (mc rfl mn) O330 (fun L' O' => z0w K x339 O' _ i344)) ?_ z02 ?_ ?_
 .rintro v354 H355 ⟨G346, O347, s348, sm353, ⟨c350, rfl, f351⟩⟩; exact (faR1 (.inl (by decide)) (faR1 (.inr (zd4 ((fr319 12 rfl).trans ((fr215 12 rfl).trans ((fr182 12 rfl).trans rfl))) (sm353 _ (Or.inr ⟨6, _, rfl, List.mem_singleton.2 rfl⟩)))) z02))
 .rintro v354 H355 ⟨G346, O347, s348, sm353, ⟨c350, rfl, f351⟩⟩; exact z02
 rintro v354 H355 ⟨G346, O347, s348, sm353, ⟨c350, rfl, f351⟩⟩
 obtain ⟨x356, i357, h358⟩ := z00 h345
 refine D2.lo (gk rfl rfl gv334 rfl) rfl (Lo.cP rfl (fn := Tryd.f78) (by kernel_rfl) rfl (mc rfl (mc rfl mn)) O347 (fun L' O' => z32 K c336 x42 (RT.mono _ s348 f338) c350 x343 f351 O' _ i357)) ?_ (z07 (by decide) z02) ?_ ?_
 .rintro v365 H366 ⟨G359, O360, s361, sm364, rfl⟩; exact (faR1 (.inl (by decide)) (faR1 (.inl (by decide)) z02))
 .rintro v365 H366 ⟨G359, O360, s361, sm364, rfl⟩; exact z02
 rintro v365 H366 ⟨G359, O360, s361, sm364, rfl⟩
 refine D2.q3 (hg := gk rfl rfl gv334 rfl) (.bool (decide (x356 >= 0))) rfl rfl (D2.pure (v := (.bool (decide (x356 >= 0)))) rfl rfl (zep (oo rfl gv334) (oo rfl rfl)) (D2.q2 (.bool (decide (x356 >= 0))) rfl (D2.splitAt (t := 92) (b := decide (x356 >= 0)) rfl (fun g367 gv368 => ?_) (fun g367 gv368 => ?_))))
 rotate_left
 .have h387 := z0h g367 h358
  refine D2.skip (gk rfl rfl gv368 rfl) rfl (D2.skip (gk rfl rfl gv368 rfl) rfl (D2.skip (gk rfl rfl gv368 rfl) rfl (D2.skip (gk rfl rfl gv368 rfl) rfl (D2.pure (v := (.bool false)) rfl rfl (zd1 (oo rfl gv368) (oo rfl rfl)) (.nil ?_)))))
  obtain rfl := zAa h387
  exact ⟨false, _, rfl, O360, (zAe s348 s361), rfl⟩
 have h369 := z03 g367 h358
 obtain ⟨c370, p371, f372⟩ := (O360.atVar (j := 6) rfl)
 refine D2.loadA' (cs := c370) (gk rfl rfl gv368 rfl) rfl ag65 sz65 (z0q ((fr319 12 rfl).trans ((fr215 12 rfl).trans ((fr182 12 rfl).trans rfl))) p371) (RT.len _ f372) (zeo (by decide) (zeo (by decide) z02)) ?_
 obtain ⟨c373, p374, f375⟩ := (O360.atVar (j := 1) rfl)
 refine D2.loadA' (cs := c373) (gk rfl rfl gv368 rfl) rfl ag65 sz65 (z0q ((fr319 19 rfl).trans rfl) p374) (RT.len _ f375) (zeo (by decide) (zeo (by decide) z02)) ?_
 obtain ⟨x376, i377, h378⟩ := z00 h369
 refine D2.lo (gk rfl rfl gv368 rfl) rfl (Lo.cP rfl (fn := Tryd.f78) (by kernel_rfl) rfl (mc rfl (mc rfl mn)) O360 (fun L' O' => z32 K c370 x42 f372 c373 x230 f375 O' _ i377)) ?_ (z07 (by decide) (z07 (by decide) z02)) ?_ ?_
 .rintro v385 H386 ⟨G379, O380, s381, sm384, rfl⟩; exact (faR1 (.inl (by decide)) (faR1 (.inl (by decide)) (faR1 (.inl (by decide)) (faR1 (.inl (by decide)) z02))))
 .rintro v385 H386 ⟨G379, O380, s381, sm384, rfl⟩; exact z02
 rintro v385 H386 ⟨G379, O380, s381, sm384, rfl⟩
 refine D2.q3 (hg := gk rfl rfl gv368 rfl) (.bool (decide (x376 <= 0))) rfl rfl (D2.pure (v := (.bool (decide (x376 <= 0)))) rfl rfl (zep (oo rfl gv368) (oo rfl rfl)) (.nil ?_))
 obtain rfl := zAa h378
 exact ⟨decide (x376 <= 0), _, rfl, O380, (zAe s348 (zAe s361 s381)), rfl⟩
theorem zkf {G : GM} (v1 : Value) {x1 : List Int} (v2 : Value) {x2 : List Int} (h1 : (rSl (rI .u32)).rep G v1.cells.toList x1) (h2 : (rSl (rI .u32)).rep G v2.cells.toList x2) : ∃ cs : List Value, (∀ {s : List Value} {d : Tmp} {ty : TypeId} {pos : String} {af : Array Edge} {g : Option (Nat × Bool)} {ps : Array (Nat × Operand)}, zds s ps.toList = some [(1, v1), (2, v2)] -> z1t Tryd.prog s ⟨some d, .build 65 ps, ty, pos, af, g⟩ = some (.agg (List.toArray cs))) /\ T_Q.rep G cs (Q.mk false x1 x2) := by
  have k1 := (zjp G _ _ _ _ (z_Q G) h1).1
  have k2 := (zh6 G _ _ _ _ (k1) h2).1
  refine ⟨_, fun {s d ty pos af g ps} hps => zar pl65 ze65 zo65 hps ?_, k2⟩
  refine (z5w (off := 1) (sz := 1) (cs := _) rfl (RT.len _ h1) (Nat.le_trans (Nat.le_of_ble_eq_true (m := 3) rfl) (Nat.le_of_eq (RT.len _ (z_Q G)).symm))).trans ?_
  refine (z5w (off := 2) (sz := 1) (cs := _) rfl (RT.len _ h2) (Nat.le_trans (Nat.le_of_ble_eq_true (m := 3) rfl) (Nat.le_of_eq (RT.len _ (k1)).symm))).trans ?_
  rfl
def zci (K : Nat) (p0 : Int) : Option Q := (if (decide (p0 < 0)) = true then ((z5a K (z05 .i64 (-p0))).bind fun x8 => ((z5a K 1).bind fun x21 => some (Q.mk true x8 x21))) else ((z5a K p0).bind fun x54 => ((z5a K 1).bind fun x67 => some (Q.mk false x54 x67))))
theorem ze6 (p0 : Int) (O : Ow G H (L)) (r : Q) (h : zci K p0 = some r) :
    CR Tryd.prog 70 [(.int .i64 p0)] G H (L) (fun v G' _ => ∃ (w0 : List Value), v = .agg (List.toArray w0) /\ T_Q.rep G' w0 r) := by
 unfold zci at h
 refine CR.og (n := 14) (fn := Tryd.f70) (by kernel_rfl) rfl rfl fun R kr => (.seq (.region (W.lo rfl rfl (Lo.alloc (r := T_Q) (x0 := (Q.mk false ([] : List Int) ([] : List Int))) ze65 (by kernel_rfl) z_Q O) ?_)))
 rintro v4 H5 ⟨b2, rfl, O1, sm3⟩
 refine .nil (.seq (.seq (.region (W.q2 (.int .i64 p0) rfl (W.q3 (.bool (decide (p0 < 0))) rfl rfl (.nil ?_))))))
 refine .cond (b := decide (p0 < 0)) rfl rfl (fun g6 => ?_) (fun g6 => ?_)
 rotate_left
 .have h53 := z0h g6 h
  refine .skip (.seq (.region (W.q2 (.int .i64 p0) rfl ?_)))
  obtain ⟨x54, i55, h56⟩ := z00 h53
  refine W.lo rfl rfl (Lo.callPF (ps := []) (pw := fun w => [eSl w 145 (rI .u32) x54]) rfl (fn := Tryd.f97) (by kernel_rfl) rfl (mc rfl mn) O1 (fun L' O' => z44 K p0 O' _ i55)) ?_
  rintro v65 H66 ⟨w62, G57, O58, s59, sm64, rfl⟩
  obtain ⟨x67, i68, h69⟩ := z00 h56
  refine W.lo rfl rfl (Lo.callPF (ps := []) (pw := fun w => [eSl w 145 (rI .u32) x67]) rfl (fn := Tryd.f97) (by kernel_rfl) rfl (mc rfl mn) O58 (fun L' O' => z44 K 1 O' _ i68)) ?_
  rintro v78 H79 ⟨w75, G70, O71, s72, sm77, rfl⟩
  obtain ⟨G80, O81, s82, f83⟩ := O71.frzSl (j := 1) rfl
  obtain ⟨G84, O85, s86, f87⟩ := O81.frzSl (j := 0) rfl
  obtain ⟨c88, e90, f89⟩ := zkf (w62) (w75) ((z4c (RT.mono _ s86 f83))) ((z4c f87))
  refine W.pure (v := .agg (List.toArray c88)) rfl rfl (e90 (z3p rfl (qc' rfl (qc' rfl qn')))) (W.lo rfl rfl (Lo.storeVar (j := 0) (s := T_Q) (y0 := (Q.mk false x54 x67)) (v := (.agg (List.toArray c88))) (o := 0) rfl ((Put.at (Put.self _) _ _)) rfl sz65 rfl (by omega) rfl f89 O85) ?_)
  rintro v93 H94 ⟨O91, sm92⟩
  refine .nil (.ret ?_)
  obtain ⟨c95, p96, f97⟩ := (O91.atVar (j := 0) rfl)
  have O98 : Ow G84 H94 (L) := O91.drop 0
  obtain rfl := zAa h69
  exact z16 kr (v1 := (.agg (List.toArray c95))) (by rfl) (z2d (p := (.pointer (some ⟨b2, 0, none⟩))) (by rfl) ag65 sz65 (by exact rfl) p96 (RT.len _ f97)) O98 (zAe s59 (zAe s72 (zAe s82 s86))) ⟨c95, rfl, f97⟩
 have h7 := z03 g6 h
 refine .seq (.region (W.q2 (.int .i64 p0) rfl (W.pure (v := (.int .i64 (z05 .i64 (-p0)))) rfl rfl (zn1 (oo rfl rfl)) ?_)))
 obtain ⟨x8, i9, h10⟩ := z00 h7
 refine W.lo rfl rfl (Lo.callPF (ps := []) (pw := fun w => [eSl w 145 (rI .u32) x8]) rfl (fn := Tryd.f97) (by kernel_rfl) rfl (mc rfl mn) O1 (fun L' O' => z44 K (z05 .i64 (-p0)) O' _ i9)) ?_
 rintro v19 H20 ⟨w16, G11, O12, s13, sm18, rfl⟩
 obtain ⟨x21, i22, h23⟩ := z00 h10
 refine W.lo rfl rfl (Lo.callPF (ps := []) (pw := fun w => [eSl w 145 (rI .u32) x21]) rfl (fn := Tryd.f97) (by kernel_rfl) rfl (mc rfl mn) O12 (fun L' O' => z44 K 1 O' _ i22)) ?_
 rintro v32 H33 ⟨w29, G24, O25, s26, sm31, rfl⟩
 obtain ⟨G34, O35, s36, f37⟩ := O25.frzSl (j := 1) rfl
 obtain ⟨G38, O39, s40, f41⟩ := O35.frzSl (j := 0) rfl
 obtain ⟨c42, e44, f43⟩ := z98 ((.bool true)) (w16) (w29) (rfl) ((z4c (RT.mono _ s40 f37))) ((z4c f41))
 refine W.pure (v := .agg (List.toArray c42)) rfl rfl (e44 (z3p rfl (qc' rfl (qc' rfl (qc' rfl qn'))))) (W.lo rfl rfl (Lo.storeVar (j := 0) (s := T_Q) (y0 := (Q.mk true x8 x21)) (v := (.agg (List.toArray c42))) (o := 0) rfl ((Put.at (Put.self _) _ _)) rfl sz65 rfl (by omega) rfl f43 O39) ?_)
 rintro v47 H48 ⟨O45, sm46⟩
 refine .nil (.ret ?_)
 obtain ⟨c49, p50, f51⟩ := (O45.atVar (j := 0) rfl)
 have O52 : Ow G38 H48 (L) := O45.drop 0
 obtain rfl := zAa h23
 exact z16 kr (v1 := (.agg (List.toArray c49))) (by rfl) (z2d (p := (.pointer (some ⟨b2, 0, none⟩))) (by rfl) ag65 sz65 (by exact rfl) p50 (RT.len _ f51)) O52 (zAe s13 (zAe s26 (zAe s36 s40))) ⟨c49, rfl, f51⟩
def z9q (K : Nat) (p0 : Q) (p1 : Q) : Option Q := (Option.bind ((if ((List.length p0.num : Int) == 0) = true then some true else some ((List.length p1.num : Int) == 0))) (tu1 fun x29 => (if x29 = true then some (Q.mk false ([] : List Int) ([] : List Int)) else ((z17 K p1).bind fun x66 => ((z27 K p0.num x66).bind fun x79 => ((z17 K p0).bind fun x95 => ((z27 K x95 p1.num).bind fun x111 => ((z5i K (!(p0.neg == p1.neg)) x79 x111).bind fun x132 => some x132))))))))
theorem zcj (v0 : List Value) (p0 : Q) (hp0 : T_Q.rep G v0 p0) (v1 : List Value) (p1 : Q) (hp1 : T_Q.rep G v1 p1) (O : Ow G H (L)) (r : Q) (h : z9q K p0 p1 = some r) :
    CR Tryd.prog 84 [.agg (List.toArray v0), .agg (List.toArray v1)] G H (L) (fun v G' _ => ∃ (w0 : List Value), v = .agg (List.toArray w0) /\ T_Q.rep G' w0 r) := by
 unfold z9q at h
 refine CR.og (n := 32) (fn := Tryd.f84) (by kernel_rfl) rfl rfl fun R kr => (.seq (.region (W.lo rfl rfl (Lo.box (r := T_Q) (x0 := p0) (v := (.agg (List.toArray v0))) rfl rfl hp0 O) ?_)))
 rintro v4 H5 ⟨b2, rfl, O1, sm3⟩
 refine W.lo rfl rfl (Lo.box (r := T_Q) (x0 := p1) (v := (.agg (List.toArray v1))) rfl rfl hp1 O1) ?_
 rintro v9 H10 ⟨b7, rfl, O6, sm8⟩
 refine W.lo rfl rfl (Lo.alloc (r := T_Q) (x0 := (Q.mk false ([] : List Int) ([] : List Int))) ze65 (by kernel_rfl) z_Q O6) ?_
 rintro v14 H15 ⟨b12, rfl, O11, sm13⟩
 refine .nil (.seq (.seq ?_))
 obtain ⟨q16, h17, h18⟩ := z00 h
 refine AW.midT (fun σ' H' => ∃ (y1 : Bool) (G' : GM), y1 = q16 /\ Ow G' H' (eVar b12 65 T_Q (Q.mk false ([] : List Int) ([] : List Int)) :: eVar b7 65 T_Q p1 :: eVar b2 65 T_Q p0 :: L) /\ GM.le G G' /\ σ' 14 = .bool y1) ?_ ?_
 .refine .region (W.pure (v := (padd (.pointer (some ⟨b2, 0, none⟩)) 1)) rfl rfl (z3d z7j (oo rfl rfl) (O11.atVar (j := 2) rfl)) ?_)
  obtain ⟨w19, p20, f21⟩ := At.sl (At.proj (O11.atVar (j := 2) rfl) z4l)
  refine W.load1 (v := w19) (r := []) rfl rfl ag63 (z0q rfl p20) (W.pure (v := (.int .i64 (List.length p0.num : Int))) rfl rfl (z0p (oo rfl rfl) (z0f f21) (z06 el63)) (W.q3 (.bool ((List.length p0.num : Int) == 0)) rfl rfl (W.q2 (.bool ((List.length p0.num : Int) == 0)) rfl (W.splitAt (t := 9) (b := ((List.length p0.num : Int) == 0)) rfl (fun g22 gv23 => ?_) (fun g22 gv23 => ?_)))))
  .have h24 := z03 g22 h17
   refine W.q6 rfl gv23 (W.q6 rfl gv23 (W.q6 rfl gv23 (W.q6 rfl gv23 (W.q4 (.bool true) gv23 rfl (.nil ?_)))))
   obtain rfl := zAa h24
   exact ⟨true, _, rfl, O11, (zAf _), rfl⟩
  have h25 := z0h g22 h17
  refine W.pure (v := (padd (.pointer (some ⟨b7, 0, none⟩)) 1)) (gk rfl rfl gv23 rfl) rfl (z3d z7j (oo rfl rfl) (O11.atVar (j := 1) rfl)) ?_
  obtain ⟨w26, p27, f28⟩ := At.sl (At.proj (O11.atVar (j := 1) rfl) z4l)
  refine W.load1 (v := w26) (r := []) (gk rfl rfl gv23 rfl) rfl ag63 (z0q rfl p27) (W.pure (v := (.int .i64 (List.length p1.num : Int))) (gk rfl rfl gv23 rfl) rfl (z0p (oo rfl rfl) (z0f f28) (z06 el63)) (W.q3 (hg := gk rfl rfl gv23 rfl) (.bool ((List.length p1.num : Int) == 0)) rfl rfl (W.q5 (.bool ((List.length p1.num : Int) == 0)) gv23 rfl (.nil ?_))))
  obtain rfl := zAa h25
  exact ⟨((List.length p1.num : Int) == 0), _, rfl, O11, (zAf _), rfl⟩
 rintro σ30 H31 fr32 ⟨x29, G33, rfl, O34, s35, t37⟩
 have h38 := z0d h18
 refine .cond (b := x29) rfl t37 (fun g39 => ?_) (fun g39 => ?_)
 .have h40 := z03 g39 h38
  refine .seq (.region ?_)
  obtain ⟨c41, e43, f42⟩ := zme
  refine W.pure (v := .agg (List.toArray c41)) rfl rfl (e43 (z3p rfl qn')) (W.lo rfl rfl (Lo.storeVar (j := 0) (s := T_Q) (y0 := (Q.mk false ([] : List Int) ([] : List Int))) (v := (.agg (List.toArray c41))) (o := 0) rfl ((Put.at (Put.self _) _ _)) rfl sz65 ((fr32 4 rfl).trans rfl) (by omega) rfl f42 O34) ?_)
  rintro v46 H47 ⟨O44, sm45⟩
  refine .nil (.ret ?_)
  obtain ⟨c48, p49, f50⟩ := (O44.atVar (j := 0) rfl)
  have O51 : Ow G33 H47 (eVar b7 65 T_Q p1 :: eVar b2 65 T_Q p0 :: L) := O44.drop 0
  have O52 : Ow G33 H47 (eVar b2 65 T_Q p0 :: L) := O51.drop 0
  have O53 : Ow G33 H47 (L) := O52.drop 0
  obtain rfl := zAa h40
  exact z16 kr (v1 := (.agg (List.toArray c48))) (by rfl) (z2d (p := (.pointer (some ⟨b12, 0, none⟩))) (by rfl) ag65 sz65 (by exact ((fr32 4 rfl).trans rfl)) p49 (RT.len _ f50)) O53 s35 ⟨c48, rfl, f50⟩
 have h54 := z0h g39 h38
 refine .skip (.seq (.draw2 (M := [0, 1, 0, 4, 15, 0, 32, 0, 128, 480, 0, 2016, 0, 4096, 16352, 32767, 65535]) mixed (by kernel_rfl) (by kernel_rfl) fun H55 N59 x56 F58 => ?_))
 have O57 := O34.ext x56
 refine D2.pure (v := (padd (.pointer (some ⟨b2, 0, none⟩)) 0)) rfl rfl (z3d za7 (oo rfl ((fr32 2 rfl).trans rfl)) (O57.atVar (j := 2) rfl)) (D2.load1' (v := (.bool p0.neg)) (r := []) rfl rfl ag4 (z0q rfl (At.bool (At.proj (O57.atVar (j := 2) rfl) z7f))) z02 (D2.pure (v := (padd (.pointer (some ⟨b7, 0, none⟩)) 0)) rfl rfl (z3d za7 (oo rfl ((fr32 3 rfl).trans rfl)) (O57.atVar (j := 1) rfl)) (D2.load1' (v := (.bool p1.neg)) (r := []) rfl rfl ag4 (z0q rfl (At.bool (At.proj (O57.atVar (j := 1) rfl) z7f))) z02 (D2.pure (v := (.bool (!(p0.neg == p1.neg)))) rfl rfl (ze1 (oo rfl rfl) (oo rfl rfl) un4) (D2.pure (v := (padd (.pointer (some ⟨b2, 0, none⟩)) 1)) rfl rfl (z3d z7j (oo rfl ((fr32 2 rfl).trans rfl)) (O57.atVar (j := 2) rfl)) ?_)))))
 obtain ⟨w60, p61, f62⟩ := At.sl (At.proj (O57.atVar (j := 2) rfl) z4l)
 refine D2.load1' (v := w60) (r := []) rfl rfl ag63 (z0q rfl p61) z02 ?_
 obtain ⟨c63, p64, f65⟩ := (O57.atVar (j := 1) rfl)
 refine D2.loadA' (cs := c63) rfl rfl ag65 sz65 (z0q ((fr32 3 rfl).trans rfl) p64) (RT.len _ f65) z02 ?_
 obtain ⟨x66, i67, h68⟩ := z00 h54
 refine D2.lo rfl rfl (Lo.cP rfl (fn := Tryd.f88) (by kernel_rfl) rfl (mc rfl mn) O57 (fun L' O' => z1e K c63 p1 f65 O' _ i67)) ?_ z02 ?_ ?_
 .rintro v77 H78 ⟨G69, O70, s71, sm76, ⟨w73, rfl, f74⟩⟩; exact (faR1 (.inl (by decide)) (faR1 (.inr (sm76 _ (Or.inr ⟨2, _, rfl, List.mem_singleton.2 rfl⟩))) (faR1 (.inr (sm76 _ (Or.inr ⟨1, _, rfl, List.mem_singleton.2 rfl⟩))) (faR1 (.inr (sm76 _ (Or.inr ⟨2, _, rfl, List.mem_singleton.2 rfl⟩))) z02))))
 .rintro v77 H78 ⟨G69, O70, s71, sm76, ⟨w73, rfl, f74⟩⟩; exact z02
 rintro v77 H78 ⟨G69, O70, s71, sm76, ⟨w73, rfl, f74⟩⟩
 obtain ⟨x79, i80, h81⟩ := z00 h68
 refine D2.lo rfl rfl (Lo.callPF (ps := []) (pw := fun w => [eSl w 145 (rI .u32) x79]) rfl (fn := Tryd.f87) (by kernel_rfl) rfl (mc rfl (mc rfl mn)) O70 (fun L' O' => z1w K w60 p0.num (RT.mono _ s71 f62) w73 x66 f74 O' _ i80)) ?_ (z07 (by decide) z02) ?_ ?_
 .rintro v90 H91 ⟨w87, G82, O83, s84, sm89, rfl⟩; exact (faR1 (.inl (by decide)) (faR1 (.inl (by decide)) (faR1 (.inr (sm89 _ (Or.inr ⟨1, _, rfl, List.mem_singleton.2 rfl⟩))) (faR1 (.inr (sm89 _ (Or.inr ⟨2, _, rfl, List.mem_singleton.2 rfl⟩))) z02))))
 .rintro v90 H91 ⟨w87, G82, O83, s84, sm89, rfl⟩; exact z02
 rintro v90 H91 ⟨w87, G82, O83, s84, sm89, rfl⟩
 obtain ⟨c92, p93, f94⟩ := (O83.atVar (j := 3) rfl)
 refine D2.loadA' (cs := c92) rfl rfl ag65 sz65 (z0q ((fr32 2 rfl).trans rfl) p93) (RT.len _ f94) (z2g (zd4 ((fr32 2 rfl).trans rfl) (sm89 _ (Or.inr ⟨2, _, rfl, List.mem_singleton.2 rfl⟩))) (z2g (zd4 ((fr32 2 rfl).trans rfl) (sm76 _ (Or.inr ⟨2, _, rfl, List.mem_singleton.2 rfl⟩))) z02)) ?_
 obtain ⟨x95, i96, h97⟩ := z00 h81
 refine D2.lo rfl rfl (Lo.cP rfl (fn := Tryd.f88) (by kernel_rfl) rfl (mc rfl mn) O83 (fun L' O' => z1e K c92 p0 f94 O' _ i96)) ?_ (z07 (by decide) (z07 (by decide) z02)) ?_ ?_
 .rintro v106 H107 ⟨G98, O99, s100, sm105, ⟨w102, rfl, f103⟩⟩; exact (faR1 (.inl (by decide)) (faR1 (.inl (by decide)) (faR1 (.inl (by decide)) (faR1 (.inr (sm105 _ (Or.inr ⟨2, _, rfl, List.mem_singleton.2 rfl⟩))) (faR1 (.inr (sm105 _ (Or.inr ⟨3, _, rfl, List.mem_singleton.2 rfl⟩))) z02)))))
 .rintro v106 H107 ⟨G98, O99, s100, sm105, ⟨w102, rfl, f103⟩⟩; exact z02
 rintro v106 H107 ⟨G98, O99, s100, sm105, ⟨w102, rfl, f103⟩⟩
 refine D2.pure (v := (padd (.pointer (some ⟨b7, 0, none⟩)) 1)) rfl rfl (z3d z7j (oo rfl ((fr32 3 rfl).trans rfl)) (O99.atVar (j := 2) rfl)) ?_
 obtain ⟨w108, p109, f110⟩ := At.sl (At.proj (O99.atVar (j := 2) rfl) z4l)
 refine D2.load1' (v := w108) (r := []) rfl rfl ag63 (z0q rfl p109) (z2g (sm105 _ (Or.inr ⟨2, _, rfl, List.mem_singleton.2 rfl⟩)) (z2g (sm89 _ (Or.inr ⟨1, _, rfl, List.mem_singleton.2 rfl⟩)) (z2g (sm76 _ (Or.inr ⟨1, _, rfl, List.mem_singleton.2 rfl⟩)) z02))) ?_
 obtain ⟨x111, i112, h113⟩ := z00 h97
 refine D2.lo rfl rfl (Lo.callPF (ps := []) (pw := fun w => [eSl w 145 (rI .u32) x111]) rfl (fn := Tryd.f87) (by kernel_rfl) rfl (mc rfl (mc rfl mn)) O99 (fun L' O' => z1w K w102 x95 f103 w108 p1.num f110 O' _ i112)) ?_ (z07 (by decide) (z07 (by decide) (z07 (by decide) z02))) ?_ ?_
 .rintro v122 H123 ⟨w119, G114, O115, s116, sm121, rfl⟩; exact (faR1 (.inl (by decide)) (faR1 (.inl (by decide)) (faR1 (.inl (by decide)) (faR1 (.inl (by decide)) (faR1 (.inr (sm121 _ (Or.inr ⟨2, _, rfl, List.mem_singleton.2 rfl⟩))) (faR1 (.inr (sm121 _ (Or.inr ⟨3, _, rfl, List.mem_singleton.2 rfl⟩))) z02))))))
 .rintro v122 H123 ⟨w119, G114, O115, s116, sm121, rfl⟩; exact z02
 rintro v122 H123 ⟨w119, G114, O115, s116, sm121, rfl⟩
 obtain ⟨G124, O125, s126, f127⟩ := O115.frzSl (j := 1) rfl
 obtain ⟨G128, O129, s130, f131⟩ := O125.frzSl (j := 0) rfl
 obtain ⟨x132, i133, h134⟩ := z00 h113
 refine D2.lo rfl rfl (Lo.cP rfl (fn := Tryd.f89) (by kernel_rfl) rfl (mc rfl (mc rfl (mc rfl mn))) O129 (fun L' O' => z5y K (!(p0.neg == p1.neg)) w87 x79 (RT.mono _ s130 f127) w119 x111 f131 O' _ i133)) ?_ (z07 (by decide) (z07 (by decide) (z07 (by decide) (z07 (by decide) z02)))) ?_ ?_
 .rintro v143 H144 ⟨G135, O136, s137, sm142, ⟨c139, rfl, f140⟩⟩; exact (faR1 (.inl (by decide)) (faR1 (.inl (by decide)) (faR1 (.inl (by decide)) (faR1 (.inl (by decide)) (faR1 (.inl (by decide)) (faR1 (.inl (by decide)) z02))))))
 .rintro v143 H144 ⟨G135, O136, s137, sm142, ⟨c139, rfl, f140⟩⟩; exact z02
 rintro v143 H144 ⟨G135, O136, s137, sm142, ⟨c139, rfl, f140⟩⟩
 refine D2.lo rfl rfl (Lo.storeVar (j := 0) (s := T_Q) (y0 := x132) (v := (.agg (List.toArray c139))) (o := 0) rfl ((Put.at (Put.self _) _ _)) rfl sz65 ((fr32 4 rfl).trans rfl) (by omega) rfl f140 O136) ?_ (z07 (by decide) (z07 (by decide) (z07 (by decide) (z07 (by decide) (z07 (by decide) z02))))) ?_ ?_
 .rintro v147 H148 ⟨O145, sm146⟩; exact (faR1 (.inl (by decide)) (faR1 (.inl (by decide)) (faR1 (.inl (by decide)) (faR1 (.inl (by decide)) (faR1 (.inl (by decide)) (faR1 (.inl (by decide)) z02))))))
 .rintro v147 H148 ⟨O145, sm146⟩; exact z02
 rintro v147 H148 ⟨O145, sm146⟩
 refine .nil (.ret ?_)
 obtain ⟨c149, p150, f151⟩ := (O145.atVar (j := 0) rfl)
 have O152 : Ow G135 H148 (eVar b7 65 T_Q p1 :: eVar b2 65 T_Q p0 :: L) := O145.drop 0
 have O153 : Ow G135 H148 (eVar b2 65 T_Q p0 :: L) := O152.drop 0
 have O154 : Ow G135 H148 (L) := O153.drop 0
 obtain rfl := zAa h134
 exact z16 kr (v1 := (.agg (List.toArray c149))) (by rfl) (z2d (p := (.pointer (some ⟨b12, 0, none⟩))) (by rfl) ag65 sz65 (by exact ((fr32 4 rfl).trans rfl)) p150 (RT.len _ f151)) O154 (zAe s35 (zAe s71 (zAe s84 (zAe s100 (zAe s116 (zAe s126 (zAe s130 s137))))))) ⟨c149, rfl, f151⟩
def z67 (K : Nat) (p1 : List zAd) : Nat -> Q -> Int -> Option (Q)
  | 0, _, _ => none
  | k + 1, x24, x25 => (if (decide (x25 < (List.length p1 : Int))) = true then (Option.bind (((idx p1 x25).bind fun x44 => ((z1y K x44).bind fun x48 => ((idx p1 (z05 .i64 (x25 - 1))).bind fun x63 => ((z1y K x63).bind fun x67 => ((z6o K x48 x67).bind fun x82 => ((z3m K x82 x24).bind fun x114 => (if (decide (x114 > 0)) = true then some x82 else some x24)))))))) (tu1 fun x137 => z67 K p1 k x137 (z05 .i64 (x25 + 1)))) else some x24)
def zaw (K : Nat) (p0 : zAd) (p1 : List zAd) : Option (zAd × Int) := ((z6p K p0 p1).bind fun x1 => (if (x1 != 0) = true then some ((⟨#[]⟩ : zAd), x1) else (Option.bind (z67 K p1 K (Q.mk false ([] : List Int) ([] : List Int)) 1) (tu1 fun x147 => ((z1y K p0).bind fun x161 => ((z3h K x161 x147).bind fun x177 => ((zci K 4).bind fun x190 => ((z9q K x177 x190).bind fun x203 => ((z29 K x203).bind fun x216 => some (x216.1, x216.2))))))))))
theorem zda (p0 : zAd) (v1 : Value) (p1 : List zAd) (hp1 : (rSl rS).rep G [v1] p1) (O : Ow G H (L)) (r : zAd × Int) (h : zaw K p0 p1 = some r) :
    CR Tryd.prog 29 [(.string p0), v1] G H (L) (fun v G' _ => v = .tuple #[.string r.1, .int .i64 r.2]) := by
 unfold zaw at h
 refine CR.og (n := 48) (fn := Tryd.f29) (by kernel_rfl) rfl rfl fun R kr => (.seq (.region (W.q1 (.string (⟨#[]⟩ : zAd)) rfl (W.q1 (.int .i64 0) rfl (.nil (.seq ?_))))))
 refine .seq (.region (W.q2 (.string p0) rfl (W.q2 v1 rfl ?_)))
 obtain ⟨x1, i2, h3⟩ := z00 h
 refine W.lo rfl rfl (Lo.cP rfl (fn := Tryd.f81) (by kernel_rfl) rfl (mc rfl (mc rfl mn)) O (fun L' O' => z77 K p0 v1 p1 hp1 O' _ i2)) ?_
 rintro v10 H11 ⟨G4, O5, s6, sm9, rfl⟩
 refine W.q1 (.int .i64 x1) rfl (.nil (.seq (.region (W.q2 (.int .i64 x1) rfl (W.q3 (.bool (x1 != 0)) rfl rfl (.nil ?_))))))
 refine .cond (b := (x1 != 0)) rfl rfl (fun g12 => ?_) (fun g12 => ?_)
 .have h13 := z03 g12 h3
  refine .seq (.region (W.q2 (.int .i64 x1) rfl (W.q1 (.string (⟨#[]⟩ : zAd)) rfl (W.q1 (.int .i64 x1) rfl (.nil (.ret ?_))))))
  obtain rfl := zAa h13
  exact zas kr (v1 := (.string (⟨#[]⟩ : zAd))) (v2 := (.int .i64 x1)) (by rfl) (z09 (by rfl) (by exact rfl)) (z09 (by rfl) (by exact rfl)) O5 s6 rfl
 have h14 := z0h g12 h3
 refine .skip (.seq (.region (W.lo rfl rfl (Lo.alloc (r := T_Q) (x0 := (Q.mk false ([] : List Int) ([] : List Int))) ze65 (by kernel_rfl) z_Q O5) ?_)))
 rintro v18 H19 ⟨b16, rfl, O15, sm17⟩
 refine .nil (.seq (.seq (.region (W.q1 (.int .i64 1) rfl (.nil ?_)))))
 obtain ⟨q20, h21, h22⟩ := z00 h14
 refine AW.midT (fun σ' H' => ∃ (y1 : Q) (G' : GM), y1 = q20 /\ Ow G' H' (eVar b16 65 T_Q y1 :: L) /\ GM.le G4 G') ?_ ?_
 rotate_left
 .rintro σ148 H149 fr150 ⟨x147, G151, rfl, O152, s153⟩
  have h155 := z0d h22
  refine .seq (.draw2 (M := [0, 1, 0, 7, 15, 31, 63, 127, 127, 511, 1023]) mixed (by kernel_rfl) (by kernel_rfl) fun H156 N160 x157 F159 => ?_)
  have O158 := O152.ext x157
  refine D2.q2 (.string p0) ((fr150 0 rfl).trans rfl) ?_
  obtain ⟨x161, i162, h163⟩ := z00 h155
  refine D2.lo rfl rfl (Lo.cP rfl (fn := Tryd.f36) (by kernel_rfl) rfl (mc rfl mn) O158 (fun L' O' => z0w K p0 O' _ i162)) ?_ z02 ?_ ?_
  .rintro v172 H173 ⟨G164, O165, s166, sm171, ⟨c168, rfl, f169⟩⟩; exact z02
  .rintro v172 H173 ⟨G164, O165, s166, sm171, ⟨c168, rfl, f169⟩⟩; exact z02
  rintro v172 H173 ⟨G164, O165, s166, sm171, ⟨c168, rfl, f169⟩⟩
  obtain ⟨c174, p175, f176⟩ := (O165.atVar (j := 0) rfl)
  refine D2.loadA' (cs := c174) rfl rfl ag65 sz65 (z0q ((fr150 7 rfl).trans rfl) p175) (RT.len _ f176) (z2g (zd4 ((fr150 7 rfl).trans rfl) (sm171 _ (Or.inr ⟨0, _, rfl, List.mem_singleton.2 rfl⟩))) z02) ?_
  obtain ⟨x177, i178, h179⟩ := z00 h163
  refine D2.lo rfl rfl (Lo.cP rfl (fn := Tryd.f35) (by kernel_rfl) rfl (mc rfl (mc rfl mn)) O165 (fun L' O' => z5z K c168 x161 f169 c174 x147 f176 O' _ i178)) ?_ (z07 (by decide) z02) ?_ ?_
  .rintro v188 H189 ⟨G180, O181, s182, sm187, ⟨c184, rfl, f185⟩⟩; exact (faR1 (.inl (by decide)) z02)
  .rintro v188 H189 ⟨G180, O181, s182, sm187, ⟨c184, rfl, f185⟩⟩; exact z02
  rintro v188 H189 ⟨G180, O181, s182, sm187, ⟨c184, rfl, f185⟩⟩
  obtain ⟨x190, i191, h192⟩ := z00 h179
  refine D2.lo rfl rfl (Lo.cP rfl (fn := Tryd.f70) (by kernel_rfl) rfl (mc rfl mn) O181 (fun L' O' => ze6 K 4 O' _ i191)) ?_ (z07 (by decide) (z07 (by decide) z02)) ?_ ?_
  .rintro v201 H202 ⟨G193, O194, s195, sm200, ⟨c197, rfl, f198⟩⟩; exact (faR1 (.inl (by decide)) z02)
  .rintro v201 H202 ⟨G193, O194, s195, sm200, ⟨c197, rfl, f198⟩⟩; exact z02
  rintro v201 H202 ⟨G193, O194, s195, sm200, ⟨c197, rfl, f198⟩⟩
  obtain ⟨x203, i204, h205⟩ := z00 h192
  refine D2.lo rfl rfl (Lo.cP rfl (fn := Tryd.f84) (by kernel_rfl) rfl (mc rfl (mc rfl mn)) O194 (fun L' O' => zcj K c184 x177 (RT.mono _ s195 f185) c197 x190 f198 O' _ i204)) ?_ (z07 (by decide) (z07 (by decide) (z07 (by decide) z02))) ?_ ?_
  .rintro v214 H215 ⟨G206, O207, s208, sm213, ⟨c210, rfl, f211⟩⟩; exact (faR1 (.inl (by decide)) z02)
  .rintro v214 H215 ⟨G206, O207, s208, sm213, ⟨c210, rfl, f211⟩⟩; exact z02
  rintro v214 H215 ⟨G206, O207, s208, sm213, ⟨c210, rfl, f211⟩⟩
  obtain ⟨x216, i217, h218⟩ := z00 h205
  refine D2.lo rfl rfl (Lo.cP rfl (fn := Tryd.f37) (by kernel_rfl) rfl (mc rfl mn) O207 (fun L' O' => z31 K c210 x203 f211 O' _ i217)) ?_ (z07 (by decide) (z07 (by decide) (z07 (by decide) (z07 (by decide) z02)))) ?_ ?_
  .rintro v225 H226 ⟨G219, O220, s221, sm224, rfl⟩; exact (faR1 (.inl (by decide)) z02)
  .rintro v225 H226 ⟨G219, O220, s221, sm224, rfl⟩; exact z02
  rintro v225 H226 ⟨G219, O220, s221, sm224, rfl⟩
  refine D2.pure (v := (.string x216.1)) rfl rfl (z08 (oo rfl rfl) rfl) (D2.pure (v := (.int .i64 x216.2)) rfl rfl (z08 (oo rfl rfl) rfl) (D2.q1 (.string x216.1) rfl (D2.q1 (.int .i64 x216.2) rfl (.nil (.ret ?_)))))
  have O227 : Ow G219 H226 (L) := O220.drop 0
  obtain rfl := zAa h218
  exact zas kr (v1 := (.string x216.1)) (v2 := (.int .i64 x216.2)) (by rfl) (z09 (by rfl) (by exact rfl)) (z09 (by rfl) (by exact rfl)) O227 (zAe s6 (zAe s153 (zAe s166 (zAe s182 (zAe s195 (zAe s208 s221)))))) rfl
 refine .block (AW.loop (α := Nat) (fun k' σ' H' => ∃ (y1 : Q) (y2 : Int) (G' : GM), z67 K p1 k' y1 y2 = some q20 /\ Ow G' H' (eVar b16 65 T_Q y1 :: L) /\ GM.le G4 G' /\ σ' 8 = .int .i64 y2) (fun k' => k') K ⟨(Q.mk false ([] : List Int) ([] : List Int)), 1, _, h21, O15, (zAf _), rfl⟩ ?_)
 rintro k23
 rintro σ26 H27 fr28 ⟨x24, x25, G29, h32, O30, s31, t33⟩
 rcases k23 with _ | k23
 .exact z0a h32
 rw [z67] at h32
 refine .seq (.seq (.region (W.q2 _ t33 (W.q2 v1 ((fr28 1 rfl).trans rfl) (W.pure (v := (.int .i64 (List.length p1 : Int))) rfl rfl (z0p (oo rfl rfl) (z0f (RT.mono _ (zAe s6 s31) hp1)) (z06 el22)) (W.q3 (.bool (decide (x25 < (List.length p1 : Int)))) rfl rfl ?_))))))
 refine .nil (.cond (b := decide (x25 < (List.length p1 : Int))) rfl rfl (fun g34 => ?_) (fun g34 => ?_))
 rotate_left
 .have h146 := z0h g34 h32
  refine .exit ?_
  obtain rfl := zAa h146
  exact ⟨x24, _, rfl, O30, s31⟩
 have h35 := z03 g34 h32
 refine .skip (.seq ?_)
 obtain ⟨q36, h37, h38⟩ := z00 h35
 refine AW.midT (fun σ' H' => ∃ (y1 : Q) (G' : GM), y1 = q36 /\ Ow G' H' (eVar b16 65 T_Q y1 :: L) /\ GM.le G29 G') ?_ ?_
 rotate_left
 .rintro σ138 H139 fr140 ⟨x137, G141, rfl, O142, s143⟩
  have h145 := z0d h38
  refine .region (W.q2 _ ((fr140 8 rfl).trans t33) (W.q3 (.int .i64 (z05 .i64 (x25 + 1))) rfl rfl (W.q1 (.int .i64 (z05 .i64 (x25 + 1))) rfl (.nil ?_))))
  exact ⟨k23, zAg _, ⟨x137, z05 .i64 (x25 + 1), _, h145, O142, (zAe s31 s143), rfl⟩⟩
 refine .block (.seq (.draw2 (M := [0, 0, 3, 7, 15, 0, 0, 64, 224, 480, 1023, 2047, 0, 8191]) mixed (by kernel_rfl) (by kernel_rfl) fun H39 N43 x40 F42 => ?_))
 have O41 := O30.ext x40
 refine D2.q2 v1 ((fr28 1 rfl).trans rfl) (D2.q2 _ t33 ?_)
 obtain ⟨x44, i45, h46⟩ := z00 h37
 have j47 := z0g i45
 refine D2.pure (v := (z2t v1 (Int.toNat x25 * 1))) rfl rfl (z3b el22 sz25 (oo rfl rfl) (oo rfl rfl) (z0f (RT.mono _ (zAe s6 s31) hp1)) j47.1 j47.2.1) (D2.load1' (v := (.string x44)) (r := []) rfl rfl ag25 (z0q rfl (At.str (At.le (At.le (z1m hp1 j47.2.2) (zAe s6 s31) (zAe s6 s31)) (zAf _) O41.fro))) z02 ?_)
 obtain ⟨x48, i49, h50⟩ := z00 h46
 refine D2.loN rfl rfl (Lo.cP rfl (fn := Tryd.f36) (by kernel_rfl) rfl (mc rfl mn) O41 (fun L' O' => z0w K x44 O' _ i49)) ?_ z02 ?_ ?_
 .rintro v59 H60 ⟨G51, O52, s53, sm58, ⟨c55, rfl, f56⟩⟩; exact (faR1 (.inl (by decide)) z02)
 .rintro v59 H60 ⟨G51, O52, s53, sm58, ⟨c55, rfl, f56⟩⟩; exact z02
 rintro v59 H60 ⟨G51, O52, s53, sm58, ⟨c55, rfl, f56⟩⟩ nx61
 have F62 := Free.nx F42 nx61
 refine D2.q2 v1 ((fr28 1 rfl).trans rfl) (D2.q2 _ t33 (D2.q3 (.int .i64 (z05 .i64 (x25 - 1))) rfl rfl ?_))
 obtain ⟨x63, i64, h65⟩ := z00 h50
 have j66 := z0g i64
 refine D2.pure (v := (z2t v1 (Int.toNat (z05 .i64 (x25 - 1)) * 1))) rfl rfl (z3b el22 sz25 (oo rfl rfl) (oo rfl rfl) (z0f (RT.mono _ (zAe s6 (zAe s31 s53)) hp1)) j66.1 j66.2.1) (D2.load1' (v := (.string x63)) (r := []) rfl rfl ag25 (z0q rfl (At.str (At.le (At.le (z1m hp1 j66.2.2) (zAe s6 (zAe s31 s53)) (zAe s6 (zAe s31 s53))) (zAf _) O52.fro))) (z2g (sm58 _ (zgo (M := G29) (At.le (z1m hp1 j66.2.2) (zAe s6 s31) (zAe s6 s31)) rfl)) z02) ?_)
 obtain ⟨x67, i68, h69⟩ := z00 h65
 refine D2.loN rfl rfl (Lo.cP rfl (fn := Tryd.f36) (by kernel_rfl) rfl (mc rfl mn) O52 (fun L' O' => z0w K x63 O' _ i68)) ?_ (z07 (by decide) z02) ?_ ?_
 .rintro v78 H79 ⟨G70, O71, s72, sm77, ⟨c74, rfl, f75⟩⟩; exact (faR1 (.inl (by decide)) (faR1 (.inl (by decide)) z02))
 .rintro v78 H79 ⟨G70, O71, s72, sm77, ⟨c74, rfl, f75⟩⟩; exact z02
 rintro v78 H79 ⟨G70, O71, s72, sm77, ⟨c74, rfl, f75⟩⟩ nx80
 have F81 := Free.nx F62 nx80
 obtain ⟨x82, i83, h84⟩ := z00 h69
 refine D2.loN rfl rfl (Lo.cP rfl (fn := Tryd.f83) (by kernel_rfl) rfl (mc rfl (mc rfl mn)) O71 (fun L' O' => z76 K c55 x48 (RT.mono _ s72 f56) c74 x67 f75 O' _ i83)) ?_ (z07 (by decide) (z07 (by decide) z02)) ?_ ?_
 .rintro v93 H94 ⟨G85, O86, s87, sm92, ⟨c89, rfl, f90⟩⟩; exact (faR1 (.inl (by decide)) (faR1 (.inl (by decide)) z02))
 .rintro v93 H94 ⟨G85, O86, s87, sm92, ⟨c89, rfl, f90⟩⟩; exact z02
 rintro v93 H94 ⟨G85, O86, s87, sm92, ⟨c89, rfl, f90⟩⟩ nx95
 have F96 := Free.nx F81 nx95
 refine D2.alloc (m := 14) rfl rfl (Al.alloc (r := T_Q) (x0 := (Q.mk false ([] : List Int) ([] : List Int))) ze65 (by kernel_rfl) z_Q) (Free.up (by decide) F96) (by decide) O86 ?_
 rintro b99 H100 ⟨O101, sm102, F103⟩
 refine D2.lo rfl rfl (Lo.storeVar (j := 0) (s := T_Q) (y0 := x82) (v := (.agg (List.toArray c89))) (o := 0) rfl ((Put.at (Put.self _) _ _)) rfl sz65 rfl (by omega) rfl f90 O101) ?_ (z07 (by decide) (z07 (by decide) (z07 (by decide) z02))) ?_ ?_
 .rintro v106 H107 ⟨O104, sm105⟩; exact (faR1 (.inl (by decide)) (faR1 (.inl (by decide)) z02))
 .rintro v106 H107 ⟨O104, sm105⟩; exact (faR1 (.inl (by decide)) z02)
 rintro v106 H107 ⟨O104, sm105⟩
 refine .nil (.seq (.region ?_))
 obtain ⟨c108, p109, f110⟩ := (O104.atVar (j := 0) rfl)
 refine W.loadA (cs := c108) rfl rfl ag65 sz65 (z0q rfl p109) (RT.len _ f110) ?_
 obtain ⟨c111, p112, f113⟩ := (O104.atVar (j := 1) rfl)
 refine W.loadA (cs := c111) rfl rfl ag65 sz65 (z0q ((fr28 7 rfl).trans rfl) p112) (RT.len _ f113) ?_
 obtain ⟨x114, i115, h116⟩ := z00 h84
 refine W.lo rfl rfl (Lo.cP rfl (fn := Tryd.f78) (by kernel_rfl) rfl (mc rfl (mc rfl mn)) O104 (fun L' O' => z32 K c108 x82 f110 c111 x24 f113 O' _ i115)) ?_
 rintro v123 H124 ⟨G117, O118, s119, sm122, rfl⟩
 refine W.q3 (.bool (decide (x114 > 0))) rfl rfl (.nil (.cond (b := decide (x114 > 0)) rfl rfl (fun g125 => ?_) (fun g125 => ?_)))
 rotate_left
 .have h135 := z0h g125 h116
  refine .skip ?_
  have O136 : Ow G117 H124 (eVar b16 65 T_Q x24 :: L) := O118.drop 0
  obtain rfl := zAa h135
  exact ⟨x24, _, rfl, O136, (zAe s53 (zAe s72 (zAe s87 s119)))⟩
 have h126 := z03 g125 h116
 refine .region ?_
 obtain ⟨c127, p128, f129⟩ := (O118.atVar (j := 0) rfl)
 refine W.loadA (cs := c127) rfl rfl ag65 sz65 (z0q rfl p128) (RT.len _ f129) (W.lo rfl rfl (Lo.storeVar (j := 1) (s := T_Q) (y0 := x82) (v := (.agg (List.toArray c127))) (o := 0) rfl ((Put.at (Put.self _) _ _)) rfl sz65 ((fr28 7 rfl).trans rfl) (by omega) rfl f129 O118) ?_)
 rintro v132 H133 ⟨O130, sm131⟩
 refine .nil ?_
 have O134 : Ow G117 H133 (eVar b16 65 T_Q x82 :: L) := O130.drop 0
 obtain rfl := zAa h126
 exact ⟨x82, _, rfl, O134, (zAe s53 (zAe s72 (zAe s87 s119)))⟩
def z0n (K : Nat) (p0 : List Int) (p1 : Int -> Option Bool) : Nat -> Int -> Option (Int ⊕ Unit)
  | 0, _ => none
  | k + 1, x5 => (if (decide (x5 < (List.length p0 : Int))) = true then ((idx p0 x5).bind fun x16 => ((p1 x16).bind fun x20 => (if x20 = true then some (.inl x5) else z0n K p0 p1 k (z05 .i64 (x5 + 1))))) else some (.inr ()))
def z11 (K : Nat) (p0 : List Int) (p1 : Int -> Option Bool) : Option Int := (zae (z0n K p0 p1 K 0) (tu1 fun a42 => some a42) (tu0 (some (-1))))
theorem z39 (v0 : Value) (p0 : List Int) (hp0 : (rSl (rI .i64)).rep G [v0] p0) (v1 : Value) (p1 : Int -> Option Bool) (hp1 : FnOk Tryd.prog G v1 (fun _ vs (x : (Int)) => vs = [.int .i64 x]) (fun _ v (rr : (Bool)) => v = .bool rr) p1) (O : Ow G H (L)) (r : Int) (h : z11 K p0 p1 = some r) :
    CR Tryd.prog 117 [v0, v1] G H (L) (fun v G' _ => v = .int .i64 r) := by
 unfold z11 at h
 refine CR.og (n := 19) (fn := Tryd.f117) (by kernel_rfl) rfl rfl fun R kr => (.seq (.region (W.q1 (.int .i64 0) rfl (.nil (.seq (.seq ?_))))))
 refine .region (W.q2 v0 rfl (W.pure (v := (.int .i64 (List.length p0 : Int))) rfl rfl (z0p (oo rfl rfl) (z0f hp0) (z06 el71)) (W.q2 (.int .i64 0) rfl (.nil ?_))))
 obtain ⟨q1, h2, h3⟩ := z2p h
 refine AW.midT (fun σ' H' => ∃  (G' : GM), (.inr ()) = q1 /\ Ow G' H' (L) /\ GM.le G G') ?_ ?_
 rotate_left
 .rintro σ34 H35 fr36 ⟨G37, rfl, O38, s39⟩
  have h41 := z6j (z8a h3)
  refine .seq (.region (W.q1 (.int .i64 (-1)) rfl (.nil (.ret ?_))))
  obtain rfl := zAa h41
  exact z16 kr (v1 := (.int .i64 (-1))) (by rfl) (z09 (by rfl) (by exact rfl)) O38 s39 rfl
 refine .block (AW.loop (α := Nat) (fun k' σ' H' => ∃ (y1 : Int) (G' : GM), z0n K p0 p1 k' y1 = some q1 /\ Ow G' H' (L) /\ GM.le G G' /\ σ' 8 = .int .i64 y1) (fun k' => k') K ⟨0, _, h2, O, (zAf _), rfl⟩ ?_)
 rintro k4
 rintro σ6 H7 fr8 ⟨x5, G9, h12, O10, s11, t13⟩
 rcases k4 with _ | k4
 .exact z0a h12
 rw [z0n] at h12
 refine .seq (.region (W.q3 (.bool (decide (x5 < (List.length p0 : Int)))) t13 ((fr8 7 rfl).trans rfl) (.nil (.seq (.cond (b := decide (x5 < (List.length p0 : Int))) rfl rfl (fun g14 => ?_) (fun g14 => ?_))))))
 rotate_left
 .have h33 := z0h g14 h12
  refine .exit ?_
  obtain rfl := zAa h33
  exact ⟨_, rfl, O10, s11⟩
 have h15 := z03 g14 h12
 refine .skip (.seq (.block (.seq (.region (W.q2 _ t13 (W.q1 (.int .i64 x5) rfl ?_))))))
 refine .nil (.seq (.region (W.q2 v1 ((fr8 1 rfl).trans rfl) (W.q2 v0 ((fr8 0 rfl).trans rfl) (W.q2 (.int .i64 x5) rfl ?_)))))
 obtain ⟨x16, i17, h18⟩ := z00 h15
 have j19 := z0g i17
 refine W.pure (v := (z2t v0 (Int.toNat x5 * 1))) rfl rfl (z3b el71 sz26 (oo rfl rfl) (oo rfl rfl) (z0f (RT.mono _ s11 hp0)) j19.1 j19.2.1) (W.load1 (v := (.int .i64 x16)) (r := []) rfl rfl ag26 (z0q rfl (At.int (At.le (At.le (z1m hp0 j19.2.2) s11 s11) (zAf _) O10.fro))) ?_)
 obtain ⟨x20, i21, h22⟩ := z00 h18
 refine W.lo rfl rfl (Lo.callF (x0 := x16) rfl rfl (FnOk.le hp1 s11) (mc rfl mn) rfl i21 O10) ?_
 rintro v27 H28 ⟨G23, O24, s25, sm26, rfl⟩
 refine .nil (.cond (b := x20) rfl rfl (fun g29 => ?_) (fun g29 => ?_))
 rotate_left
 .have h32 := z0h g29 h22
  refine .skip (.region (W.q3 (.int .i64 (z05 .i64 (x5 + 1))) t13 rfl (W.q2 (.int .i64 (z05 .i64 (x5 + 1))) rfl (.nil ?_))))
  exact ⟨k4, zAg _, ⟨z05 .i64 (x5 + 1), _, h32, O24, (zAe s11 s25), rfl⟩⟩
 have h30 := z03 g29 h22
 refine .seq (.region (W.q2 (.int .i64 x5) rfl (W.q1 (.int .i64 x5) rfl (.nil (.ret ?_)))))
 obtain rfl := zAa h30
 have h31 := z0d (z7i h3)
 obtain rfl := zAa h31
 exact z16 kr (v1 := (.int .i64 x5)) (by rfl) (z09 (by rfl) (by exact rfl)) O24 (zAe s11 s25) rfl
def z0v (K : Nat) (p0 : List Int) (p1 : Int -> Option Bool) : Option Bool := ((z11 K p0 p1).bind fun x1 => some (decide (x1 >= 0)))
theorem z33 (v0 : Value) (p0 : List Int) (hp0 : (rSl (rI .i64)).rep G [v0] p0) (v1 : Value) (p1 : Int -> Option Bool) (hp1 : FnOk Tryd.prog G v1 (fun _ vs (x : (Int)) => vs = [.int .i64 x]) (fun _ v (rr : (Bool)) => v = .bool rr) p1) (O : Ow G H (L)) (r : Bool) (h : z0v K p0 p1 = some r) :
    CR Tryd.prog 85 [v0, v1] G H (L) (fun v G' _ => v = .bool r) := by
 unfold z0v at h
 refine CR.og (n := 9) (fn := Tryd.f85) (by kernel_rfl) rfl rfl fun R kr => (.seq (.region (W.q1 (.bool false) rfl (.nil (.seq (.region ?_))))))
 refine W.q2 v0 rfl (W.q2 v1 rfl ?_)
 obtain ⟨x1, i2, h3⟩ := z00 h
 refine W.lo rfl rfl (Lo.cP rfl (fn := Tryd.f117) (by kernel_rfl) rfl (mc rfl (mc rfl mn)) O (fun L' O' => z39 K v0 p0 hp0 v1 p1 hp1 O' _ i2)) ?_
 rintro v10 H11 ⟨G4, O5, s6, sm9, rfl⟩
 refine W.q3 (.bool (decide (x1 >= 0))) rfl rfl (W.q1 (.bool (decide (x1 >= 0))) rfl (.nil (.ret ?_)))
 obtain rfl := zAa h3
 exact z16 kr (v1 := (.bool (decide (x1 >= 0)))) (by rfl) (z09 (by rfl) (by exact rfl)) O5 s6 rfl
def z78 (K : Nat) (p0 : Int) : Option Bool := some (p0 != 0)
theorem zbh (p0 : Int) (O : Ow G H (L)) (r : Bool) (h : z78 K p0 = some r) :
    CR Tryd.prog 86 [(.int .i64 p0)] G H (L) (fun v G' _ => v = .bool r) := by
 unfold z78 at h
 refine CR.og (n := 5) (fn := Tryd.f86) (by kernel_rfl) rfl rfl fun R kr => (.seq (.region (W.q1 (.bool false) rfl (.nil (.seq (.region ?_))))))
 refine W.q2 (.int .i64 p0) rfl (W.q3 (.bool (p0 != 0)) rfl rfl (W.q1 (.bool (p0 != 0)) rfl (.nil (.ret ?_))))
 obtain rfl := zAa h
 exact z16 kr (v1 := (.bool (p0 != 0))) (by rfl) (z09 (by rfl) (by exact rfl)) O (zAf _) rfl
def zax (K : Nat) (p0 : List Int) : Option Bool := ((z0v K p0 (fun x => z78 K x)).bind fun x1 => some (!x1))
theorem zdb (v0 : Value) (p0 : List Int) (hp0 : (rSl (rI .i64)).rep G [v0] p0) (O : Ow G H (L)) (r : Bool) (h : zax K p0 = some r) :
    CR Tryd.prog 30 [v0] G H (L) (fun v G' _ => v = .bool r) := by
 unfold zax at h
 refine CR.og (n := 6) (fn := Tryd.f30) (by kernel_rfl) rfl rfl fun R kr => (.seq (.region (W.q1 (.bool false) rfl (.nil (.seq (.region ?_))))))
 refine W.q2 v0 rfl ?_
 obtain ⟨x1, i2, h3⟩ := z00 h
 refine W.lo rfl rfl (Lo.cP rfl (fn := Tryd.f85) (by kernel_rfl) rfl (mc rfl (mc rfl mn)) O (fun L' O' => z33 K v0 p0 hp0 (.func (.func 86) #[] #[]) (fun x => z78 K x) ⟨86, _, _, Tryd.f86, rfl, by kernel_rfl, rfl, fun G1 H L vs x r hG O hA hF => by obtain rfl := hA; exact zbh K x O _ hF⟩ O' _ i2)) ?_
 rintro v10 H11 ⟨G4, O5, s6, sm9, rfl⟩
 refine W.pure (v := (.bool (!x1))) rfl rfl (zcd (a := x1) (oo rfl rfl)) (W.q1 (.bool (!x1)) rfl (.nil (.ret ?_)))
 obtain rfl := zAa h3
 exact z16 kr (v1 := (.bool (!x1))) (by rfl) (z09 (by rfl) (by exact rfl)) O5 s6 rfl
theorem zdc : Tryd.prog.underlying 60 = some (Go.TypeDesc.struct #[{ name := "A", type := 25, offset := 0, embedded := false, tag := "", pkgPath := "", byteOffset := 0 }, { name := "B", type := 25, offset := 1, embedded := false, tag := "", pkgPath := "", byteOffset := 16 }]) := by kernel_rfl
theorem zdd : Tryd.prog.eqGuardType Tryd.prog.depth 60 = false := by kernel_rfl
theorem zde : Tryd.prog.stoodInHeld 60 = false := by kernel_rfl
theorem zay : Tryd.prog.underlying 25 = some .string := by kernel_rfl
theorem zbi (p : LossPiece) : (part 25 (List.toArray [.string p.A, .string p.B]) 0 : Sem Value).pureRun Tryd.prog = some (.string p.A) := by kernel_rfl
theorem zbj (p : LossPiece) : (part 25 (List.toArray [.string p.A, .string p.B]) 1 : Sem Value).pureRun Tryd.prog = some (.string p.B) := by kernel_rfl
theorem z9w {G : GM} {cs : List Value} {p : LossPiece} (h : T_LossPiece.rep G cs p) : cs = [.string p.A, .string p.B] := by
  obtain ⟨_, _, rfl, rfl, rfl⟩ := h
  rfl
theorem za8 (x y : Operand) (p q : LossPiece) : (do eqGuard .neq 60 x y (.agg (List.toArray [.string p.A, .string p.B])) (.agg (List.toArray [.string q.A, .string q.B])); Go.binOp .neq 60 (.agg (List.toArray [.string p.A, .string p.B])) (.agg (List.toArray [.string q.A, .string q.B])) : Sem Value).pureRun Tryd.prog = some (.bool (!(sEq p.A q.A && sEq p.B q.B))) := by
  have h : Op.maxDepth = 9998 + 1 + 1 := rfl
  simp only [eqGuard, Go.binOp, Op.equal, h, z0c, z0o, Bool.not_true, Bool.false_eq_true, if_false, zh5, Option.bind_some, zdd, Bool.not_false, if_true]
  rw [Op.equalIn]
  cases h0 : (sEq p.A q.A) <;> cases h1 : (sEq p.B q.B) <;> simp [z0c, z0r zdc, zh5, zde, z0o, h0, h1, zbi, zbj, zma zay]
theorem za9 {G1 G2 : GM} {s : List Value} {x y : Operand} {d ty yt : Nat} {pos : String} {af : Array Edge} {g : Option (Nat × Bool)} {c1 c2 : List Value} {p q : LossPiece} (h1 : opnd s x = some (.agg (List.toArray c1))) (h2 : opnd s y = some (.agg (List.toArray c2))) (r1 : T_LossPiece.rep G1 c1 p) (r2 : T_LossPiece.rep G2 c2 q) : z1t Tryd.prog s ⟨some d, .binOp .neq 60 x y yt, ty, pos, af, g⟩ = some (.bool (!(sEq p.A q.A && sEq p.B q.B))) := by
  obtain rfl := z9w r1
  obtain rfl := z9w r2
  exact zmc h1 h2 (by simp [closed, z1k]) (by simp [closed, z1k]) (za8 x y p q)
def z0j (K : Nat) (p0 : List LossPiece) (p1 : List LossPiece) : Nat -> Int -> Option (Bool ⊕ Unit)
  | 0, _ => none
  | k + 1, x8 => (if (decide (x8 < (List.length p0 : Int))) = true then ((idx p0 x8).bind fun x24 => ((idx p1 x8).bind fun x31 => (if (!(sEq x24.A x31.A && sEq x24.B x31.B)) = true then some (.inl false) else z0j K p0 p1 k (z05 .i64 (x8 + 1))))) else some (.inr ()))
def z0l (K : Nat) (p0 : List LossPiece) (p1 : List LossPiece) : Option Bool := (if ((List.length p0 : Int) != (List.length p1 : Int)) = true then some false else (zae (z0j K p0 p1 K 0) (tu1 fun a51 => some a51) (tu0 (some true))))
theorem z18 (v0 : Value) (p0 : List LossPiece) (hp0 : (rSl T_LossPiece).rep G [v0] p0) (v1 : Value) (p1 : List LossPiece) (hp1 : (rSl T_LossPiece).rep G [v1] p1) (O : Ow G H (L)) (r : Bool) (h : z0l K p0 p1 = some r) :
    CR Tryd.prog 31 [v0, v1] G H (L) (fun v G' _ => v = .bool r) := by
 unfold z0l at h
 refine CR.og (n := 26) (fn := Tryd.f31) (by kernel_rfl) rfl rfl fun R kr => (.seq (.region (W.q1 (.bool false) rfl (.nil (.seq (.seq ?_))))))
 refine .region (W.q2 v0 rfl (W.pure (v := (.int .i64 (List.length p0 : Int))) rfl rfl (z0p (oo rfl rfl) (z0f hp0) (z06 el51)) (W.q2 v1 rfl (W.pure (v := (.int .i64 (List.length p1 : Int))) rfl rfl (z0p (oo rfl rfl) (z0f hp1) (z06 el51)) (W.q3 (.bool ((List.length p0 : Int) != (List.length p1 : Int))) rfl rfl (.nil ?_))))))
 refine .cond (b := ((List.length p0 : Int) != (List.length p1 : Int))) rfl rfl (fun g1 => ?_) (fun g1 => ?_)
 .have h2 := z03 g1 h
  refine .seq (.region (W.q1 (.bool false) rfl (.nil (.ret ?_))))
  obtain rfl := zAa h2
  exact z16 kr (v1 := (.bool false)) (by rfl) (z09 (by rfl) (by exact rfl)) O (zAf _) rfl
 have h3 := z0h g1 h
 refine .skip (.seq (.seq (.region (W.q2 v0 rfl (W.pure (v := (.int .i64 (List.length p0 : Int))) rfl rfl (z0p (oo rfl rfl) (z0f hp0) (z06 el51)) (W.q2 (.int .i64 0) rfl ?_))))))
 refine .nil ?_
 obtain ⟨q4, h5, h6⟩ := z2p h3
 refine AW.midT (fun σ' H' => ∃  (G' : GM), (.inr ()) = q4 /\ Ow G' H' (L) /\ GM.le G G') ?_ ?_
 rotate_left
 .rintro σ43 H44 fr45 ⟨G46, rfl, O47, s48⟩
  have h50 := z6j (z8a h6)
  refine .seq (.region (W.q1 (.bool true) rfl (.nil (.ret ?_))))
  obtain rfl := zAa h50
  exact z16 kr (v1 := (.bool true)) (by rfl) (z09 (by rfl) (by exact rfl)) O47 s48 rfl
 refine .block (AW.loop (α := Nat) (fun k' σ' H' => ∃ (y1 : Int) (G' : GM), z0j K p0 p1 k' y1 = some q4 /\ Ow G' H' (L) /\ GM.le G G' /\ σ' 13 = .int .i64 y1) (fun k' => k') K ⟨0, _, h5, O, (zAf _), rfl⟩ ?_)
 rintro k7
 rintro σ9 H10 fr11 ⟨x8, G12, h15, O13, s14, t16⟩
 rcases k7 with _ | k7
 .exact z0a h15
 rw [z0j] at h15
 refine .seq (.region (W.q3 (.bool (decide (x8 < (List.length p0 : Int)))) t16 ((fr11 12 rfl).trans rfl) (.nil (.seq (.cond (b := decide (x8 < (List.length p0 : Int))) rfl rfl (fun g17 => ?_) (fun g17 => ?_))))))
 rotate_left
 .have h42 := z0h g17 h15
  refine .exit ?_
  obtain rfl := zAa h42
  exact ⟨_, rfl, O13, s14⟩
 have h18 := z03 g17 h15
 refine .skip (.seq (.block (.seq (.region (W.q2 _ t16 (W.q1 (.int .i64 x8) rfl ?_))))))
 refine .nil (.seq (.draw2 (M := [0, 0, 3, 7, 0, 0, 48, 112, 255]) mixed (by kernel_rfl) (by kernel_rfl) fun H19 N23 x20 F22 => ?_))
 have O21 := O13.ext x20
 refine D2.q2 v0 ((fr11 0 rfl).trans rfl) (D2.q2 (.int .i64 x8) rfl ?_)
 obtain ⟨x24, i25, h26⟩ := z00 h18
 have j27 := z0g i25
 refine D2.pure (v := (z2t v0 (Int.toNat x8 * 2))) rfl rfl (z3b el51 sz60 (oo rfl rfl) (oo rfl rfl) (z0f (RT.mono _ s14 hp0)) j27.1 j27.2.1) ?_
 obtain ⟨c28, p29, f30⟩ := (At.le (At.le (z1m hp0 j27.2.2) s14 s14) (zAf _) O21.fro)
 refine D2.loadA' (cs := c28) rfl rfl ag60 sz60 (z0q rfl p29) (RT.len _ f30) z02 (D2.q2 v1 ((fr11 1 rfl).trans rfl) (D2.q2 (.int .i64 x8) rfl ?_))
 obtain ⟨x31, i32, h33⟩ := z00 h26
 have j34 := z0g i32
 refine D2.pure (v := (z2t v1 (Int.toNat x8 * 2))) rfl rfl (z3b el51 sz60 (oo rfl rfl) (oo rfl rfl) (z0f (RT.mono _ s14 hp1)) j34.1 j34.2.1) ?_
 obtain ⟨c35, p36, f37⟩ := (At.le (At.le (z1m hp1 j34.2.2) s14 s14) (zAf _) O21.fro)
 refine D2.loadA' (cs := c35) rfl rfl ag60 sz60 (z0q rfl p36) (RT.len _ f37) z02 (D2.pure (v := (.bool (!(sEq x24.A x31.A && sEq x24.B x31.B)))) rfl rfl (za9 (oo rfl rfl) (oo rfl rfl) f30 f37) (.nil (.cond (b := (!(sEq x24.A x31.A && sEq x24.B x31.B))) rfl rfl (fun g38 => ?_) (fun g38 => ?_))))
 rotate_left
 .have h41 := z0h g38 h33
  refine .skip (.region (W.q3 (.int .i64 (z05 .i64 (x8 + 1))) t16 rfl (W.q2 (.int .i64 (z05 .i64 (x8 + 1))) rfl (.nil ?_))))
  exact ⟨k7, zAg _, ⟨z05 .i64 (x8 + 1), _, h41, O21, s14, rfl⟩⟩
 have h39 := z03 g38 h33
 refine .seq (.region (W.q1 (.bool false) rfl (.nil (.ret ?_))))
 obtain rfl := zAa h39
 have h40 := z0d (z7i h6)
 obtain rfl := zAa h40
 exact z16 kr (v1 := (.bool false)) (by rfl) (z09 (by rfl) (by exact rfl)) O21 s14 rfl
def z5k (K : Nat) : Option Bool := ((z4o K (⟨#[49, 47, 50]⟩ : zAd) (⟨#[52]⟩ : zAd)).bind fun x5 => ((z4p K [(⟨#[49]⟩ : zAd), (⟨#[50]⟩ : zAd)] [(⟨#[51]⟩ : zAd), (⟨#[49]⟩ : zAd)]).bind fun x32 => ((z6e K (⟨#[49]⟩ : zAd) [(⟨#[48]⟩ : zAd), (⟨#[50]⟩ : zAd)]).bind fun x47 => ((z7w K (⟨#[49]⟩ : zAd) [(⟨#[48]⟩ : zAd), (⟨#[50]⟩ : zAd)]).bind fun x60 => ((z7x K (⟨#[49]⟩ : zAd) [(⟨#[48]⟩ : zAd), (⟨#[50]⟩ : zAd)] (⟨#[49]⟩ : zAd)).bind fun x73 => ((zaw K (⟨#[49]⟩ : zAd) [(⟨#[48]⟩ : zAd), (⟨#[50]⟩ : zAd)]).bind fun x84 => (Option.bind (((zax K [x5.2, x32.2, x47.2, x60.2, x73.2.2, x84.2]).bind fun x102 => (if x102 = true then (if (sEq x5.1 (⟨#[56]⟩ : zAd)) = true then (if (sEq x32.1 (⟨#[49, 49]⟩ : zAd)) = true then ((z0l K x47.1 [(LossPiece.mk (⟨#[48]⟩ : zAd) (⟨#[48]⟩ : zAd)), (LossPiece.mk (⟨#[45, 52]⟩ : zAd) (⟨#[52]⟩ : zAd))]).bind fun x140 => (if x140 = true then ((z0l K x60.1 [(LossPiece.mk (⟨#[48]⟩ : zAd) (⟨#[50]⟩ : zAd))]).bind fun x169 => (if x169 = true then (if (sEq x73.1 (⟨#[48]⟩ : zAd)) = true then (if (sEq x73.2.1 (⟨#[50]⟩ : zAd)) = true then (if (sEq x84.1 (⟨#[49]⟩ : zAd)) = true then ((lsl [(⟨#[48]⟩ : zAd), (⟨#[50]⟩ : zAd)] 0 1).bind fun x192 => ((z65 K x192).bind fun x198 => some (x198 == 8))) else some false) else some false) else some false) else some false)) else some false)) else some false) else some false) else some false))) (tu1 fun x254 => some x254))))))))
theorem zaa  (O : Ow G H (L)) (r : Bool) (h : z5k K = some r) :
    CR Tryd.prog 6 [] G H (L) (fun v G' _ => v = .bool r) := by
 unfold z5k at h
 refine CR.og (n := 94) (fn := Tryd.f6) (by kernel_rfl) rfl rfl fun R kr => (.seq (.region (W.q1 (.bool false) rfl (.nil (.seq (.region ?_))))))
 refine W.lo rfl rfl (Lo.buildSlice (r := rS) (vs := [(.string (⟨#[48]⟩ : zAd)), (.string (⟨#[50]⟩ : zAd))]) (xs := [(⟨#[48]⟩ : zAd), (⟨#[50]⟩ : zAd)]) el22 ze25 sz25 (by kernel_rfl) rfl (qc rfl (qc rfl qn)) rfl (.cons rfl (.cons rfl .nil)) O) ?_
 rintro v3 H4 ⟨O1, sm2⟩
 refine W.q1 v3 rfl (.nil (.seq (.region ?_)))
 obtain ⟨x5, i6, h7⟩ := z00 h
 refine W.lo rfl rfl (Lo.cP rfl (fn := Tryd.f14) (by kernel_rfl) rfl (mc rfl (mc rfl mn)) O1 (fun L' O' => z8g K (⟨#[49, 47, 50]⟩ : zAd) (⟨#[52]⟩ : zAd) O' _ i6)) ?_
 rintro v14 H15 ⟨G8, O9, s10, sm13, rfl⟩
 refine W.q2 (.tuple #[(.string x5.1), (.int .i64 x5.2)]) rfl (W.pure (v := (.string x5.1)) rfl rfl (z08 (oo rfl rfl) rfl) (W.pure (v := (.int .i64 x5.2)) rfl rfl (z08 (oo rfl rfl) rfl) (W.q1 (.string x5.1) rfl (W.q1 (.int .i64 x5.2) rfl (.nil (.seq ?_))))))
 refine .region (W.lo rfl rfl (Lo.buildSlice (r := rS) (vs := [(.string (⟨#[49]⟩ : zAd)), (.string (⟨#[50]⟩ : zAd))]) (xs := [(⟨#[49]⟩ : zAd), (⟨#[50]⟩ : zAd)]) el23 ze25 sz25 (by kernel_rfl) rfl (qc rfl (qc rfl qn)) rfl (.cons rfl (.cons rfl .nil)) O9) ?_)
 rintro v18 H19 ⟨O16, sm17⟩
 refine W.lo rfl rfl (Lo.buildSlice (r := rS) (vs := [(.string (⟨#[51]⟩ : zAd)), (.string (⟨#[49]⟩ : zAd))]) (xs := [(⟨#[51]⟩ : zAd), (⟨#[49]⟩ : zAd)]) el23 ze25 sz25 (by kernel_rfl) rfl (qc rfl (qc rfl qn)) rfl (.cons rfl (.cons rfl .nil)) O16) ?_
 rintro v22 H23 ⟨O20, sm21⟩
 obtain ⟨G24, O25, s26, f27⟩ := O20.frzSl (j := 1) rfl
 obtain ⟨G28, O29, s30, f31⟩ := O25.frzSl (j := 0) rfl
 obtain ⟨x32, i33, h34⟩ := z00 h7
 refine W.lo rfl rfl (Lo.cP rfl (fn := Tryd.f7) (by kernel_rfl) rfl (mc rfl (mc rfl mn)) O29 (fun L' O' => z8h K v18 [(⟨#[49]⟩ : zAd), (⟨#[50]⟩ : zAd)] (RT.mono _ s30 f27) v22 [(⟨#[51]⟩ : zAd), (⟨#[49]⟩ : zAd)] f31 O' _ i33)) ?_
 rintro v41 H42 ⟨G35, O36, s37, sm40, rfl⟩
 refine W.q2 (.tuple #[(.string x32.1), (.int .i64 x32.2)]) rfl (W.pure (v := (.string x32.1)) rfl rfl (z08 (oo rfl rfl) rfl) (W.pure (v := (.int .i64 x32.2)) rfl rfl (z08 (oo rfl rfl) rfl) (W.q1 (.string x32.1) rfl (W.q1 (.int .i64 x32.2) rfl (.nil (.seq ?_))))))
 refine .region (W.q2 v3 rfl ?_)
 obtain ⟨G43, O44, s45, f46⟩ := O36.frzSl (j := 0) rfl
 obtain ⟨x47, i48, h49⟩ := z00 h34
 refine W.lo rfl rfl (Lo.callPF (ps := []) (pw := fun w => [eSl w 60 T_LossPiece x47.1]) rfl (fn := Tryd.f26) (by kernel_rfl) rfl (mc rfl (mc rfl mn)) O44 (fun L' O' => z9p K (⟨#[49]⟩ : zAd) v3 [(⟨#[48]⟩ : zAd), (⟨#[50]⟩ : zAd)] f46 O' _ i48)) ?_
 rintro v58 H59 ⟨w55, G50, O51, s52, sm57, rfl⟩
 refine W.q2 (.tuple #[w55, (.int .i64 x47.2)]) rfl (W.pure (v := w55) rfl rfl (z08 (oo rfl rfl) rfl) (W.pure (v := (.int .i64 x47.2)) rfl rfl (z08 (oo rfl rfl) rfl) (W.q1 w55 rfl (W.q1 (.int .i64 x47.2) rfl (.nil (.seq ?_))))))
 refine .region (W.q2 v3 rfl ?_)
 obtain ⟨x60, i61, h62⟩ := z00 h49
 refine W.lo rfl rfl (Lo.callPF (ps := []) (pw := fun w => [eSl w 60 T_LossPiece x60.1]) rfl (fn := Tryd.f27) (by kernel_rfl) rfl (mc rfl (mc rfl mn)) O51 (fun L' O' => zau K (⟨#[49]⟩ : zAd) v3 [(⟨#[48]⟩ : zAd), (⟨#[50]⟩ : zAd)] (RT.mono _ s52 f46) O' _ i61)) ?_
 rintro v71 H72 ⟨w68, G63, O64, s65, sm70, rfl⟩
 refine W.q2 (.tuple #[w68, (.int .i64 x60.2)]) rfl (W.pure (v := w68) rfl rfl (z08 (oo rfl rfl) rfl) (W.pure (v := (.int .i64 x60.2)) rfl rfl (z08 (oo rfl rfl) rfl) (W.q1 w68 rfl (W.q1 (.int .i64 x60.2) rfl (.nil (.seq ?_))))))
 refine .region (W.q2 v3 rfl ?_)
 obtain ⟨x73, i74, h75⟩ := z00 h62
 refine W.lo rfl rfl (Lo.cP rfl (fn := Tryd.f28) (by kernel_rfl) rfl (mc rfl (mc rfl (mc rfl mn))) O64 (fun L' O' => zav K (⟨#[49]⟩ : zAd) v3 [(⟨#[48]⟩ : zAd), (⟨#[50]⟩ : zAd)] (RT.mono _ (zAe s52 s65) f46) (⟨#[49]⟩ : zAd) O' _ i74)) ?_
 rintro v82 H83 ⟨G76, O77, s78, sm81, rfl⟩
 refine W.q2 (.tuple #[(.string x73.1), (.string x73.2.1), (.int .i64 x73.2.2)]) rfl (W.pure (v := (.string x73.1)) rfl rfl (z08 (oo rfl rfl) rfl) (W.pure (v := (.string x73.2.1)) rfl rfl (z08 (oo rfl rfl) rfl) (W.pure (v := (.int .i64 x73.2.2)) rfl rfl (z08 (oo rfl rfl) rfl) (W.q1 (.string x73.1) rfl (W.q1 (.string x73.2.1) rfl (W.q1 (.int .i64 x73.2.2) rfl ?_))))))
 refine .nil (.seq (.region (W.q2 v3 rfl ?_)))
 obtain ⟨x84, i85, h86⟩ := z00 h75
 refine W.lo rfl rfl (Lo.cP rfl (fn := Tryd.f29) (by kernel_rfl) rfl (mc rfl (mc rfl mn)) O77 (fun L' O' => zda K (⟨#[49]⟩ : zAd) v3 [(⟨#[48]⟩ : zAd), (⟨#[50]⟩ : zAd)] (RT.mono _ (zAe s52 (zAe s65 s78)) f46) O' _ i85)) ?_
 rintro v93 H94 ⟨G87, O88, s89, sm92, rfl⟩
 refine W.q2 (.tuple #[(.string x84.1), (.int .i64 x84.2)]) rfl (W.pure (v := (.string x84.1)) rfl rfl (z08 (oo rfl rfl) rfl) (W.pure (v := (.int .i64 x84.2)) rfl rfl (z08 (oo rfl rfl) rfl) (W.q1 (.string x84.1) rfl (W.q1 (.int .i64 x84.2) rfl (.nil (.seq ?_))))))
 obtain ⟨q95, h96, h97⟩ := z00 h86
 refine AW.midT (fun σ' H' => ∃ (y1 : Bool) (G' : GM), y1 = q95 /\ Ow G' H' (L) /\ GM.le G87 G' /\ σ' 0 = .bool y1) ?_ ?_
 rotate_left
 .rintro σ255 H256 fr257 ⟨x254, G258, rfl, O259, s260, t262⟩
  have h263 := z0d h97
  refine .ret ?_
  obtain rfl := zAa h263
  exact z16 kr (v1 := (.bool x254)) (by rfl) (z09 (by rfl) (by exact t262)) O259 (zAe s10 (zAe s26 (zAe s30 (zAe s37 (zAe s45 (zAe s52 (zAe s65 (zAe s78 (zAe s89 s260))))))))) rfl
 refine .region (W.q2 (.int .i64 x5.2) rfl (W.q2 (.int .i64 x32.2) rfl (W.q2 (.int .i64 x47.2) rfl (W.q2 (.int .i64 x60.2) rfl (W.q2 (.int .i64 x73.2.2) rfl (W.q2 (.int .i64 x84.2) rfl ?_))))))
 refine W.lo rfl rfl (Lo.buildSlice (r := (rI .i64)) (vs := [(.int .i64 x5.2), (.int .i64 x32.2), (.int .i64 x47.2), (.int .i64 x60.2), (.int .i64 x73.2.2), (.int .i64 x84.2)]) (xs := [x5.2, x32.2, x47.2, x60.2, x73.2.2, x84.2]) el71 ze26 sz26 (by kernel_rfl) rfl (qc rfl (qc rfl (qc rfl (qc rfl (qc rfl (qc rfl qn)))))) rfl (.cons rfl (.cons rfl (.cons rfl (.cons rfl (.cons rfl (.cons rfl .nil)))))) O88) ?_
 rintro v100 H101 ⟨O98, sm99⟩
 obtain ⟨x102, i103, h104⟩ := z00 h96
 refine W.lo rfl rfl (Lo.callB (j := 0) rfl rfl (fn := Tryd.f30) (by kernel_rfl) rfl (mc rfl mn) O98 (fun G' L' hG O' hB => zdb K v100 [x5.2, x32.2, x47.2, x60.2, x73.2.2, x84.2] hB O' _ i103)) ?_
 rintro v111 H112 ⟨G105, O106, s107, sm110, rfl⟩
 refine W.q2 (.bool x102) rfl (W.splitAt (t := 55) (b := x102) rfl (fun g113 gv114 => ?_) (fun g113 gv114 => ?_))
 rotate_left
 .have h244 := z0h g113 h104
  refine W.q6 rfl gv114 (W.q6 rfl gv114 (W.q5 (.bool false) gv114 rfl (W.q2 (.bool false) rfl (W.q6 rfl rfl (W.q6 rfl rfl (W.q5 (.bool false) rfl rfl ?_))))))
  refine W.q2 (.bool false) rfl (W.q6 rfl rfl (W.q6 rfl rfl (W.q6 rfl rfl (W.q6 rfl rfl (W.q6 rfl rfl (W.q5 (.bool false) rfl rfl ?_))))))
  refine W.q2 (.bool false) rfl (W.q6 rfl rfl (W.q6 rfl rfl (W.q6 rfl rfl (W.q6 rfl rfl (W.q5 (.bool false) rfl rfl (W.q2 (.bool false) rfl ?_))))))
  refine W.q6 rfl rfl (W.q6 rfl rfl (W.q5 (.bool false) rfl rfl (W.q2 (.bool false) rfl (W.q6 rfl rfl (W.q6 rfl rfl (W.q5 (.bool false) rfl rfl ?_))))))
  refine W.q2 (.bool false) rfl (W.q6 rfl rfl (W.q6 rfl rfl (W.q5 (.bool false) rfl rfl (W.q2 (.bool false) rfl (W.q6 rfl rfl (W.q6 rfl rfl ?_))))))
  refine W.q6 rfl rfl (W.q6 rfl rfl (W.q5 (.bool false) rfl rfl (W.q1 (.bool false) rfl (.nil ?_))))
  obtain ⟨G245, O246, s247, f248⟩ := O106.frzSl (j := 1) rfl
  obtain ⟨G249, O250, s251, f252⟩ := O246.frzSl (j := 1) rfl
  have O253 : Ow G249 H112 (L) := O250.drop 0
  obtain rfl := zAa h244
  exact ⟨false, _, rfl, O253, (zAe s107 (zAe s247 s251)), rfl⟩
 have h115 := z03 g113 h104
 refine W.q2 (hg := gk rfl rfl gv114 rfl) (.string x5.1) rfl (W.pure (v := (.bool (sEq x5.1 (⟨#[56]⟩ : zAd)))) (gk rfl rfl gv114 rfl) rfl (z6c (oo rfl rfl) (oo rfl rfl)) (W.q4 (.bool (sEq x5.1 (⟨#[56]⟩ : zAd))) gv114 rfl (W.q2 (.bool (sEq x5.1 (⟨#[56]⟩ : zAd))) rfl (W.splitAt (t := 59) (b := sEq x5.1 (⟨#[56]⟩ : zAd)) rfl (fun g116 gv117 => ?_) (fun g116 gv117 => ?_)))))
 rotate_left
 .have h234 := z0h g116 h115
  refine W.q6 rfl gv117 (W.q6 rfl gv117 (W.q5 (.bool false) gv117 rfl (W.q2 (.bool false) rfl (W.q6 rfl rfl (W.q6 rfl rfl (W.q6 rfl rfl ?_))))))
  refine W.q6 rfl rfl (W.q6 rfl rfl (W.q5 (.bool false) rfl rfl (W.q2 (.bool false) rfl (W.q6 rfl rfl (W.q6 rfl rfl (W.q6 rfl rfl ?_))))))
  refine W.q6 rfl rfl (W.q5 (.bool false) rfl rfl (W.q2 (.bool false) rfl (W.q6 rfl rfl (W.q6 rfl rfl (W.q5 (.bool false) rfl rfl (W.q2 (.bool false) rfl ?_))))))
  refine W.q6 rfl rfl (W.q6 rfl rfl (W.q5 (.bool false) rfl rfl (W.q2 (.bool false) rfl (W.q6 rfl rfl (W.q6 rfl rfl (W.q5 (.bool false) rfl rfl ?_))))))
  refine W.q2 (.bool false) rfl (W.q6 rfl rfl (W.q6 rfl rfl (W.q6 rfl rfl (W.q6 rfl rfl (W.q5 (.bool false) rfl rfl (W.q1 (.bool false) rfl ?_))))))
  refine .nil ?_
  obtain ⟨G235, O236, s237, f238⟩ := O106.frzSl (j := 1) rfl
  obtain ⟨G239, O240, s241, f242⟩ := O236.frzSl (j := 1) rfl
  have O243 : Ow G239 H112 (L) := O240.drop 0
  obtain rfl := zAa h234
  exact ⟨false, _, rfl, O243, (zAe s107 (zAe s237 s241)), rfl⟩
 have h118 := z03 g116 h115
 refine W.q2 (hg := gk rfl rfl gv117 rfl) (.string x32.1) rfl (W.pure (v := (.bool (sEq x32.1 (⟨#[49, 49]⟩ : zAd)))) (gk rfl rfl gv117 rfl) rfl (z6c (oo rfl rfl) (oo rfl rfl)) (W.q4 (.bool (sEq x32.1 (⟨#[49, 49]⟩ : zAd))) gv117 rfl (W.q2 (.bool (sEq x32.1 (⟨#[49, 49]⟩ : zAd))) rfl (W.splitAt (t := 63) (b := sEq x32.1 (⟨#[49, 49]⟩ : zAd)) rfl (fun g119 gv120 => ?_) (fun g119 gv120 => ?_)))))
 rotate_left
 .have h224 := z0h g119 h118
  refine W.q6 rfl gv120 (W.q6 rfl gv120 (W.q6 rfl gv120 (W.q6 rfl gv120 (W.q6 rfl gv120 (W.q5 (.bool false) gv120 rfl (W.q2 (.bool false) rfl ?_))))))
  refine W.q6 rfl rfl (W.q6 rfl rfl (W.q6 rfl rfl (W.q6 rfl rfl (W.q5 (.bool false) rfl rfl (W.q2 (.bool false) rfl (W.q6 rfl rfl ?_))))))
  refine W.q6 rfl rfl (W.q5 (.bool false) rfl rfl (W.q2 (.bool false) rfl (W.q6 rfl rfl (W.q6 rfl rfl (W.q5 (.bool false) rfl rfl (W.q2 (.bool false) rfl ?_))))))
  refine W.q6 rfl rfl (W.q6 rfl rfl (W.q5 (.bool false) rfl rfl (W.q2 (.bool false) rfl (W.q6 rfl rfl (W.q6 rfl rfl (W.q6 rfl rfl ?_))))))
  refine W.q6 rfl rfl (W.q5 (.bool false) rfl rfl (W.q1 (.bool false) rfl (.nil ?_)))
  obtain ⟨G225, O226, s227, f228⟩ := O106.frzSl (j := 1) rfl
  obtain ⟨G229, O230, s231, f232⟩ := O226.frzSl (j := 1) rfl
  have O233 : Ow G229 H112 (L) := O230.drop 0
  obtain rfl := zAa h224
  exact ⟨false, _, rfl, O233, (zAe s107 (zAe s227 s231)), rfl⟩
 have h121 := z03 g119 h118
 refine W.q2 (hg := gk rfl rfl gv120 rfl) w55 rfl ?_
 obtain ⟨c122, e124, f123⟩ := z4e ((.string (⟨#[48]⟩ : zAd))) ((.string (⟨#[48]⟩ : zAd))) (rfl) (rfl)
 refine W.pure (v := .agg (List.toArray c122)) (gk rfl rfl gv120 rfl) rfl (e124 (z3p rfl (qc' rfl (qc' rfl qn')))) ?_
 obtain ⟨c125, e127, f126⟩ := z4e ((.string (⟨#[45, 52]⟩ : zAd))) ((.string (⟨#[52]⟩ : zAd))) (rfl) (rfl)
 refine W.pure (v := .agg (List.toArray c125)) (gk rfl rfl gv120 rfl) rfl (e127 (z3p rfl (qc' rfl (qc' rfl qn')))) (W.lo (gk rfl rfl gv120 rfl) rfl (Lo.buildSlice (r := T_LossPiece) (vs := [(.agg (List.toArray c122)), (.agg (List.toArray c125))]) (xs := [(LossPiece.mk (⟨#[48]⟩ : zAd) (⟨#[48]⟩ : zAd)), (LossPiece.mk (⟨#[45, 52]⟩ : zAd) (⟨#[52]⟩ : zAd))]) el51 ze60 sz60 (by kernel_rfl) rfl (qc rfl (qc rfl qn)) rfl (.cons f123 (.cons f126 .nil)) O106) ?_)
 rintro v130 H131 ⟨O128, sm129⟩
 obtain ⟨G132, O133, s134, f135⟩ := O128.frzSl (j := 3) rfl
 obtain ⟨G136, O137, s138, f139⟩ := O133.frzSl (j := 0) rfl
 obtain ⟨x140, i141, h142⟩ := z00 h121
 refine W.lo (gk rfl rfl gv120 rfl) rfl (Lo.cP rfl (fn := Tryd.f31) (by kernel_rfl) rfl (mc rfl (mc rfl mn)) O137 (fun L' O' => z18 K w55 x47.1 (RT.mono _ s138 f135) v130 [(LossPiece.mk (⟨#[48]⟩ : zAd) (⟨#[48]⟩ : zAd)), (LossPiece.mk (⟨#[45, 52]⟩ : zAd) (⟨#[52]⟩ : zAd))] f139 O' _ i141)) ?_
 rintro v149 H150 ⟨G143, O144, s145, sm148, rfl⟩
 refine W.q4 (.bool x140) gv120 rfl (W.q2 (.bool x140) rfl (W.splitAt (t := 70) (b := x140) rfl (fun g151 gv152 => ?_) (fun g151 gv152 => ?_)))
 rotate_left
 .have h218 := z0h g151 h142
  refine W.q6 rfl gv152 (W.q6 rfl gv152 (W.q6 rfl gv152 (W.q6 rfl gv152 (W.q5 (.bool false) gv152 rfl (W.q2 (.bool false) rfl (W.q6 rfl rfl ?_))))))
  refine W.q6 rfl rfl (W.q5 (.bool false) rfl rfl (W.q2 (.bool false) rfl (W.q6 rfl rfl (W.q6 rfl rfl (W.q5 (.bool false) rfl rfl (W.q2 (.bool false) rfl ?_))))))
  refine W.q6 rfl rfl (W.q6 rfl rfl (W.q5 (.bool false) rfl rfl (W.q2 (.bool false) rfl (W.q6 rfl rfl (W.q6 rfl rfl (W.q6 rfl rfl ?_))))))
  refine W.q6 rfl rfl (W.q5 (.bool false) rfl rfl (W.q1 (.bool false) rfl (.nil ?_)))
  obtain ⟨G219, O220, s221, f222⟩ := O144.frzSl (j := 1) rfl
  have O223 : Ow G219 H150 (L) := O220.drop 0
  obtain rfl := zAa h218
  exact ⟨false, _, rfl, O223, (zAe s107 (zAe s134 (zAe s138 (zAe s145 s221)))), rfl⟩
 have h153 := z03 g151 h142
 refine W.q2 (hg := gk rfl rfl gv152 rfl) w68 rfl ?_
 obtain ⟨c154, e156, f155⟩ := z4e ((.string (⟨#[48]⟩ : zAd))) ((.string (⟨#[50]⟩ : zAd))) (rfl) (rfl)
 refine W.pure (v := .agg (List.toArray c154)) (gk rfl rfl gv152 rfl) rfl (e156 (z3p rfl (qc' rfl (qc' rfl qn')))) (W.lo (gk rfl rfl gv152 rfl) rfl (Lo.buildSlice (r := T_LossPiece) (vs := [(.agg (List.toArray c154))]) (xs := [(LossPiece.mk (⟨#[48]⟩ : zAd) (⟨#[50]⟩ : zAd))]) el51 ze60 sz60 (by kernel_rfl) rfl (qc rfl qn) rfl (.cons f155 .nil) O144) ?_)
 rintro v159 H160 ⟨O157, sm158⟩
 obtain ⟨G161, O162, s163, f164⟩ := O157.frzSl (j := 2) rfl
 obtain ⟨G165, O166, s167, f168⟩ := O162.frzSl (j := 0) rfl
 obtain ⟨x169, i170, h171⟩ := z00 h153
 refine W.lo (gk rfl rfl gv152 rfl) rfl (Lo.cP rfl (fn := Tryd.f31) (by kernel_rfl) rfl (mc rfl (mc rfl mn)) O166 (fun L' O' => z18 K w68 x60.1 (RT.mono _ s167 f164) v159 [(LossPiece.mk (⟨#[48]⟩ : zAd) (⟨#[50]⟩ : zAd))] f168 O' _ i170)) ?_
 rintro v178 H179 ⟨G172, O173, s174, sm177, rfl⟩
 refine W.q4 (.bool x169) gv152 rfl (W.q2 (.bool x169) rfl (W.splitAt (t := 76) (b := x169) rfl (fun g180 gv181 => ?_) (fun g180 gv181 => ?_)))
 rotate_left
 .have h216 := z0h g180 h171
  refine W.q6 rfl gv181 (W.q6 rfl gv181 (W.q5 (.bool false) gv181 rfl (W.q2 (.bool false) rfl (W.q6 rfl rfl (W.q6 rfl rfl (W.q5 (.bool false) rfl rfl ?_))))))
  refine W.q2 (.bool false) rfl (W.q6 rfl rfl (W.q6 rfl rfl (W.q5 (.bool false) rfl rfl (W.q2 (.bool false) rfl (W.q6 rfl rfl (W.q6 rfl rfl ?_))))))
  refine W.q6 rfl rfl (W.q6 rfl rfl (W.q5 (.bool false) rfl rfl (W.q1 (.bool false) rfl (.nil ?_))))
  have O217 : Ow G172 H179 (L) := O173.drop 0
  obtain rfl := zAa h216
  exact ⟨false, _, rfl, O217, (zAe s107 (zAe s134 (zAe s138 (zAe s145 (zAe s163 (zAe s167 s174)))))), rfl⟩
 have h182 := z03 g180 h171
 refine W.q2 (hg := gk rfl rfl gv181 rfl) (.string x73.1) rfl (W.pure (v := (.bool (sEq x73.1 (⟨#[48]⟩ : zAd)))) (gk rfl rfl gv181 rfl) rfl (z6c (oo rfl rfl) (oo rfl rfl)) (W.q4 (.bool (sEq x73.1 (⟨#[48]⟩ : zAd))) gv181 rfl (W.q2 (.bool (sEq x73.1 (⟨#[48]⟩ : zAd))) rfl (W.splitAt (t := 80) (b := sEq x73.1 (⟨#[48]⟩ : zAd)) rfl (fun g183 gv184 => ?_) (fun g183 gv184 => ?_)))))
 rotate_left
 .have h214 := z0h g183 h182
  refine W.q6 rfl gv184 (W.q6 rfl gv184 (W.q5 (.bool false) gv184 rfl (W.q2 (.bool false) rfl (W.q6 rfl rfl (W.q6 rfl rfl (W.q5 (.bool false) rfl rfl ?_))))))
  refine W.q2 (.bool false) rfl (W.q6 rfl rfl (W.q6 rfl rfl (W.q6 rfl rfl (W.q6 rfl rfl (W.q5 (.bool false) rfl rfl (W.q1 (.bool false) rfl ?_))))))
  refine .nil ?_
  have O215 : Ow G172 H179 (L) := O173.drop 0
  obtain rfl := zAa h214
  exact ⟨false, _, rfl, O215, (zAe s107 (zAe s134 (zAe s138 (zAe s145 (zAe s163 (zAe s167 s174)))))), rfl⟩
 have h185 := z03 g183 h182
 refine W.q2 (hg := gk rfl rfl gv184 rfl) (.string x73.2.1) rfl (W.pure (v := (.bool (sEq x73.2.1 (⟨#[50]⟩ : zAd)))) (gk rfl rfl gv184 rfl) rfl (z6c (oo rfl rfl) (oo rfl rfl)) (W.q4 (.bool (sEq x73.2.1 (⟨#[50]⟩ : zAd))) gv184 rfl (W.q2 (.bool (sEq x73.2.1 (⟨#[50]⟩ : zAd))) rfl (W.splitAt (t := 84) (b := sEq x73.2.1 (⟨#[50]⟩ : zAd)) rfl (fun g186 gv187 => ?_) (fun g186 gv187 => ?_)))))
 rotate_left
 .have h212 := z0h g186 h185
  refine W.q6 rfl gv187 (W.q6 rfl gv187 (W.q5 (.bool false) gv187 rfl (W.q2 (.bool false) rfl (W.q6 rfl rfl (W.q6 rfl rfl (W.q6 rfl rfl ?_))))))
  refine W.q6 rfl rfl (W.q5 (.bool false) rfl rfl (W.q1 (.bool false) rfl (.nil ?_)))
  have O213 : Ow G172 H179 (L) := O173.drop 0
  obtain rfl := zAa h212
  exact ⟨false, _, rfl, O213, (zAe s107 (zAe s134 (zAe s138 (zAe s145 (zAe s163 (zAe s167 s174)))))), rfl⟩
 have h188 := z03 g186 h185
 refine W.q2 (hg := gk rfl rfl gv187 rfl) (.string x84.1) rfl (W.pure (v := (.bool (sEq x84.1 (⟨#[49]⟩ : zAd)))) (gk rfl rfl gv187 rfl) rfl (z6c (oo rfl rfl) (oo rfl rfl)) (W.q4 (.bool (sEq x84.1 (⟨#[49]⟩ : zAd))) gv187 rfl (W.q2 (.bool (sEq x84.1 (⟨#[49]⟩ : zAd))) rfl (W.splitAt (t := 88) (b := sEq x84.1 (⟨#[49]⟩ : zAd)) rfl (fun g189 gv190 => ?_) (fun g189 gv190 => ?_)))))
 rotate_left
 .have h210 := z0h g189 h188
  refine W.q6 rfl gv190 (W.q6 rfl gv190 (W.q6 rfl gv190 (W.q6 rfl gv190 (W.q5 (.bool false) gv190 rfl (W.q1 (.bool false) rfl (.nil ?_))))))
  have O211 : Ow G172 H179 (L) := O173.drop 0
  obtain rfl := zAa h210
  exact ⟨false, _, rfl, O211, (zAe s107 (zAe s134 (zAe s138 (zAe s145 (zAe s163 (zAe s167 s174)))))), rfl⟩
 have h191 := z03 g189 h188
 refine W.q2 (hg := gk rfl rfl gv190 rfl) v3 rfl ?_
 obtain ⟨x192, i193, h194⟩ := z00 h191
 obtain ⟨w195, e196, f197⟩ := zl9 (P := Tryd.prog) (R := rS) (RT.mono _ (zAe s52 (zAe s65 (zAe s78 (zAe s89 (zAe s107 (zAe s134 (zAe s138 (zAe s145 (zAe s163 (zAe s167 s174)))))))))) f46) el22 sz25 i193
 refine W.pure (v := w195) (gk rfl rfl gv190 rfl) rfl (e196 (oo rfl rfl) (oo rfl rfl)) ?_
 obtain ⟨x198, i199, h200⟩ := z00 h194
 refine W.lo (gk rfl rfl gv190 rfl) rfl (Lo.cP rfl (fn := Tryd.f32) (by kernel_rfl) rfl (mc rfl mn) O173 (fun L' O' => z7u K w195 x192 f197 O' _ i199)) ?_
 rintro v207 H208 ⟨G201, O202, s203, sm206, rfl⟩
 refine W.q3 (hg := gk rfl rfl gv190 rfl) (.bool (x198 == 8)) rfl rfl (W.q4 (.bool (x198 == 8)) gv190 rfl (W.q1 (.bool (x198 == 8)) rfl (.nil ?_)))
 have O209 : Ow G201 H208 (L) := O202.drop 0
 obtain rfl := zAa h200
 exact ⟨(x198 == 8), _, rfl, O209, (zAe s107 (zAe s134 (zAe s138 (zAe s145 (zAe s163 (zAe s167 (zAe s174 s203))))))), rfl⟩
def z13 (K : Nat) (p0 : zAd) : Nat -> Int -> Option (Int ⊕ Unit)
  | 0, _ => none
  | k + 1, x8 => (if (decide (x8 < (p0.size : Int))) = true then (Option.bind (((bidx p0 x8).bind fun x22 => (if (decide (x22 < 48)) = true then some true else ((bidx p0 x8).bind fun x29 => some (decide (x29 > 57)))))) (tu1 fun x32 => (if x32 = true then some (.inl 5) else z13 K p0 k (z05 .i64 (x8 + 1))))) else some (.inr ()))
def z4q (K : Nat) (p0 : zAd) : Option Int := (if ((p0.size : Int) == 0) = true then some 5 else (zae (z13 K p0 K 0) (tu1 fun a81 => some a81) (tu0 (Option.bind ((if (decide ((p0.size : Int) > 1)) = true then ((bidx p0 0).bind fun x61 => some (x61 == 48)) else some false)) (tu1 fun x65 => (if x65 = true then some 5 else (if (decide ((p0.size : Int) > 2000)) = true then some 2 else some 0)))))))
theorem z8i (p0 : zAd) (O : Ow G H (L)) (r : Int) (h : z4q K p0 = some r) :
    CR Tryd.prog 124 [(.string p0)] G H (L) (fun v G' _ => v = .int .i64 r) := by
 unfold z4q at h
 refine CR.og (n := 34) (fn := Tryd.f124) (by kernel_rfl) rfl rfl fun R kr => (.seq (.region (W.q1 (.int .i64 0) rfl (.nil (.seq (.seq ?_))))))
 refine .region (W.q2 (.string p0) rfl (W.pure (v := (.int .i64 (p0.size : Int))) rfl rfl (z1h (oo rfl rfl) un9) (W.q3 (.bool ((p0.size : Int) == 0)) rfl rfl (.nil (.cond (b := ((p0.size : Int) == 0)) rfl rfl (fun g1 => ?_) (fun g1 => ?_))))))
 .have h2 := z03 g1 h
  refine .seq (.region (W.q1 (.int .i64 5) rfl (.nil (.ret ?_))))
  obtain rfl := zAa h2
  exact z16 kr (v1 := (.int .i64 5)) (by rfl) (z09 (by rfl) (by exact rfl)) O (zAf _) rfl
 have h3 := z0h g1 h
 refine .skip (.seq (.seq (.region (W.q1 (.int .i64 0) rfl (.nil ?_)))))
 obtain ⟨q4, h5, h6⟩ := z2p h3
 refine AW.midT (fun σ' H' => ∃  (G' : GM), (.inr ()) = q4 /\ Ow G' H' (L) /\ GM.le G G') ?_ ?_
 rotate_left
 .rintro σ47 H48 fr49 ⟨G50, rfl, O51, s52⟩
  have h54 := z6j (z8a h6)
  refine .seq (.seq ?_)
  obtain ⟨q55, h56, h57⟩ := z00 h54
  refine AW.midT (fun σ' H' => ∃ (y1 : Bool) (G' : GM), y1 = q55 /\ Ow G' H' (L) /\ GM.le G50 G' /\ σ' 30 = .bool y1) ?_ ?_
  .refine .region (W.q2 (.string p0) ((fr49 0 rfl).trans rfl) (W.pure (v := (.int .i64 (p0.size : Int))) rfl rfl (z1h (oo rfl rfl) un9) (W.q3 (.bool (decide ((p0.size : Int) > 1))) rfl rfl (W.q2 (.bool (decide ((p0.size : Int) > 1))) rfl (W.splitAt (t := 26) (b := decide ((p0.size : Int) > 1)) rfl (fun g58 gv59 => ?_) (fun g58 gv59 => ?_))))))
   rotate_left
   .have h64 := z0h g58 h56
    refine W.q6 rfl gv59 (W.q6 rfl gv59 (W.q6 rfl gv59 (W.q5 (.bool false) gv59 rfl (.nil ?_))))
    obtain rfl := zAa h64
    exact ⟨false, _, rfl, O51, (zAf _), rfl⟩
   have h60 := z03 g58 h56
   refine W.q2 (hg := gk rfl rfl gv59 rfl) (.string p0) ((fr49 0 rfl).trans rfl) ?_
   obtain ⟨x61, i62, h63⟩ := z00 h60
   refine W.pure (v := (.int .u8 x61)) (gk rfl rfl gv59 rfl) rfl (z93 un9 (oo rfl rfl) (oo rfl rfl) i62) (W.q3 (hg := gk rfl rfl gv59 rfl) (.bool (x61 == 48)) rfl rfl (W.q4 (.bool (x61 == 48)) gv59 rfl (.nil ?_)))
   obtain rfl := zAa h63
   exact ⟨(x61 == 48), _, rfl, O51, (zAf _), rfl⟩
  rintro σ66 H67 fr68 ⟨x65, G69, rfl, O70, s71, t73⟩
  have h74 := z0d h57
  refine .cond (b := x65) rfl t73 (fun g75 => ?_) (fun g75 => ?_)
  .have h76 := z03 g75 h74
   refine .seq (.region (W.q1 (.int .i64 5) rfl (.nil (.ret ?_))))
   obtain rfl := zAa h76
   exact z16 kr (v1 := (.int .i64 5)) (by rfl) (z09 (by rfl) (by exact rfl)) O70 (zAe s52 s71) rfl
  have h77 := z0h g75 h74
  refine .skip (.seq (.seq (.region (W.q2 (.string p0) ((fr68 0 rfl).trans ((fr49 0 rfl).trans rfl)) (W.pure (v := (.int .i64 (p0.size : Int))) rfl rfl (z1h (oo rfl rfl) un9) (W.q3 (.bool (decide ((p0.size : Int) > 2000))) rfl rfl ?_))))))
  refine .nil (.cond (b := decide ((p0.size : Int) > 2000)) rfl rfl (fun g78 => ?_) (fun g78 => ?_))
  .have h79 := z03 g78 h77
   refine .seq (.region (W.q1 (.int .i64 2) rfl (.nil (.ret ?_))))
   obtain rfl := zAa h79
   exact z16 kr (v1 := (.int .i64 2)) (by rfl) (z09 (by rfl) (by exact rfl)) O70 (zAe s52 s71) rfl
  have h80 := z0h g78 h77
  refine .skip (.seq (.region (W.q1 (.int .i64 0) rfl (.nil (.ret ?_)))))
  obtain rfl := zAa h80
  exact z16 kr (v1 := (.int .i64 0)) (by rfl) (z09 (by rfl) (by exact rfl)) O70 (zAe s52 s71) rfl
 refine .block (AW.loop (α := Nat) (fun k' σ' H' => ∃ (y1 : Int) (G' : GM), z13 K p0 k' y1 = some q4 /\ Ow G' H' (L) /\ GM.le G G' /\ σ' 3 = .int .i64 y1) (fun k' => k') K ⟨0, _, h5, O, (zAf _), rfl⟩ ?_)
 rintro k7
 rintro σ9 H10 fr11 ⟨x8, G12, h15, O13, s14, t16⟩
 rcases k7 with _ | k7
 .exact z0a h15
 rw [z13] at h15
 refine .seq (.seq (.region (W.q2 _ t16 (W.q2 (.string p0) ((fr11 0 rfl).trans rfl) (W.pure (v := (.int .i64 (p0.size : Int))) rfl rfl (z1h (oo rfl rfl) un9) (W.q3 (.bool (decide (x8 < (p0.size : Int)))) rfl rfl ?_))))))
 refine .nil (.cond (b := decide (x8 < (p0.size : Int))) rfl rfl (fun g17 => ?_) (fun g17 => ?_))
 rotate_left
 .have h46 := z0h g17 h15
  refine .exit ?_
  obtain rfl := zAa h46
  exact ⟨_, rfl, O13, s14⟩
 have h18 := z03 g17 h15
 refine .skip (.seq (.block (.seq ?_)))
 obtain ⟨q19, h20, h21⟩ := z00 h18
 refine AW.midT (fun σ' H' => ∃ (y1 : Bool) (G' : GM), y1 = q19 /\ Ow G' H' (L) /\ GM.le G12 G' /\ σ' 22 = .bool y1) ?_ ?_
 rotate_left
 .rintro σ33 H34 fr35 ⟨x32, G36, rfl, O37, s38, t40⟩
  have h41 := z0d h21
  refine .cond (b := x32) rfl t40 (fun g42 => ?_) (fun g42 => ?_)
  .have h43 := z03 g42 h41
   refine .seq (.region (W.q1 (.int .i64 5) rfl (.nil (.ret ?_))))
   obtain rfl := zAa h43
   have h44 := z0d (z7i h6)
   obtain rfl := zAa h44
   exact z16 kr (v1 := (.int .i64 5)) (by rfl) (z09 (by rfl) (by exact rfl)) O37 (zAe s14 s38) rfl
  have h45 := z0h g42 h41
  refine .skip (.region (W.q2 _ ((fr35 3 rfl).trans t16) (W.q3 (.int .i64 (z05 .i64 (x8 + 1))) rfl rfl (W.q1 (.int .i64 (z05 .i64 (x8 + 1))) rfl (.nil ?_)))))
  exact ⟨k7, zAg _, ⟨z05 .i64 (x8 + 1), _, h45, O37, (zAe s14 s38), rfl⟩⟩
 refine .region (W.q2 (.string p0) ((fr11 0 rfl).trans rfl) (W.q2 _ t16 ?_))
 obtain ⟨x22, i23, h24⟩ := z00 h20
 refine W.pure (v := (.int .u8 x22)) rfl rfl (z93 un9 (oo rfl rfl) (oo rfl rfl) i23) (W.q3 (.bool (decide (x22 < 48))) rfl rfl (W.q2 (.bool (decide (x22 < 48))) rfl (W.splitAt (t := 17) (b := decide (x22 < 48)) rfl (fun g25 gv26 => ?_) (fun g25 gv26 => ?_))))
 .have h27 := z03 g25 h24
  refine W.q6 rfl gv26 (W.q6 rfl gv26 (W.q6 rfl gv26 (W.q6 rfl gv26 (W.q4 (.bool true) gv26 rfl (.nil ?_)))))
  obtain rfl := zAa h27
  exact ⟨true, _, rfl, O13, (zAf _), rfl⟩
 have h28 := z0h g25 h24
 refine W.q2 (hg := gk rfl rfl gv26 rfl) (.string p0) ((fr11 0 rfl).trans rfl) (W.q2 (hg := gk rfl rfl gv26 rfl) _ t16 ?_)
 obtain ⟨x29, i30, h31⟩ := z00 h28
 refine W.pure (v := (.int .u8 x29)) (gk rfl rfl gv26 rfl) rfl (z93 un9 (oo rfl rfl) (oo rfl rfl) i30) (W.q3 (hg := gk rfl rfl gv26 rfl) (.bool (decide (x29 > 57))) rfl rfl (W.q5 (.bool (decide (x29 > 57))) gv26 rfl (.nil ?_)))
 obtain rfl := zAa h31
 exact ⟨decide (x29 > 57), _, rfl, O13, (zAf _), rfl⟩
def z4r (K : Nat) : Nat -> zAd -> Option (zAd)
  | 0, _ => none
  | k + 1, x5 => (Option.bind ((if (decide ((x5.size : Int) > 1)) = true then ((bidx x5 0).bind fun x20 => some (x20 == 48)) else some false)) (tu1 fun x24 => (if x24 = true then ((ssl x5 1 (x5.size : Int)).bind fun x36 => z4r K k x36) else some x5)))
def z68 (K : Nat) (p0 : zAd) : Option zAd := (Option.bind (z4r K K p0) (tu1 fun x40 => some x40))
theorem z79 (p0 : zAd) (O : Ow G H (L)) (r : zAd) (h : z68 K p0 = some r) :
    CR Tryd.prog 125 [(.string p0)] G H (L) (fun v G' _ => v = .string r) := by
 unfold z68 at h
 refine CR.og (n := 14) (fn := Tryd.f125) (by kernel_rfl) rfl rfl fun R kr => (.seq (.region (W.q1 (.string (⟨#[]⟩ : zAd)) rfl (.nil (.seq ?_)))))
 obtain ⟨q1, h2, h3⟩ := z00 h
 refine AW.midT (fun σ' H' => ∃ (y1 : zAd) (G' : GM), y1 = q1 /\ Ow G' H' (L) /\ GM.le G G' /\ σ' 0 = .string y1) ?_ ?_
 rotate_left
 .rintro σ41 H42 fr43 ⟨x40, G44, rfl, O45, s46, t48⟩
  have h49 := z0d h3
  refine .seq (.region (W.q2 _ t48 (W.q1 (.string x40) rfl (.nil (.ret ?_)))))
  obtain rfl := zAa h49
  exact z16 kr (v1 := (.string x40)) (by rfl) (z09 (by rfl) (by exact rfl)) O45 s46 rfl
 refine .block (AW.loop (α := Nat) (fun k' σ' H' => ∃ (y1 : zAd) (G' : GM), z4r K k' y1 = some q1 /\ Ow G' H' (L) /\ GM.le G G' /\ σ' 0 = .string y1) (fun k' => k') K ⟨p0, _, h2, O, (zAf _), rfl⟩ ?_)
 rintro k4
 rintro σ6 H7 fr8 ⟨x5, G9, h12, O10, s11, t13⟩
 rcases k4 with _ | k4
 .exact z0a h12
 rw [z4r] at h12
 refine .seq (.seq ?_)
 obtain ⟨q14, h15, h16⟩ := z00 h12
 refine AW.midT (fun σ' H' => ∃ (y1 : Bool) (G' : GM), y1 = q14 /\ Ow G' H' (L) /\ GM.le G9 G' /\ σ' 10 = .bool y1) ?_ ?_
 rotate_left
 .rintro σ25 H26 fr27 ⟨x24, G28, rfl, O29, s30, t32⟩
  have h33 := z0d h16
  refine .cond (b := x24) rfl t32 (fun g34 => ?_) (fun g34 => ?_)
  rotate_left
  .have h39 := z0h g34 h33
   refine .exit ?_
   obtain rfl := zAa h39
   exact ⟨x5, _, rfl, O29, (zAe s11 s30), ((fr27 0 rfl).trans t13)⟩
  have h35 := z03 g34 h33
  refine .skip (.block (.region (W.q2 _ ((fr27 0 rfl).trans t13) ?_)))
  obtain ⟨x36, i37, h38⟩ := z00 h35
  refine W.pure (v := (.string x36)) rfl rfl (zd5 un9 (oo rfl rfl) (oo rfl rfl) i37) (W.q1 (.string x36) rfl (.nil ?_))
  exact ⟨k4, zAg _, ⟨x36, _, h38, O29, (zAe s11 s30), rfl⟩⟩
 refine .region (W.q2 _ t13 (W.pure (v := (.int .i64 (x5.size : Int))) rfl rfl (z1h (oo rfl rfl) un9) (W.q3 (.bool (decide ((x5.size : Int) > 1))) rfl rfl (W.q2 (.bool (decide ((x5.size : Int) > 1))) rfl (W.splitAt (t := 6) (b := decide ((x5.size : Int) > 1)) rfl (fun g17 gv18 => ?_) (fun g17 gv18 => ?_))))))
 rotate_left
 .have h23 := z0h g17 h15
  refine W.q6 rfl gv18 (W.q6 rfl gv18 (W.q6 rfl gv18 (W.q5 (.bool false) gv18 rfl (.nil ?_))))
  obtain rfl := zAa h23
  exact ⟨false, _, rfl, O10, (zAf _), rfl⟩
 have h19 := z03 g17 h15
 refine W.q2 (hg := gk rfl rfl gv18 rfl) _ t13 ?_
 obtain ⟨x20, i21, h22⟩ := z00 h19
 refine W.pure (v := (.int .u8 x20)) (gk rfl rfl gv18 rfl) rfl (z93 un9 (oo rfl rfl) (oo rfl rfl) i21) (W.q3 (hg := gk rfl rfl gv18 rfl) (.bool (x20 == 48)) rfl rfl (W.q4 (.bool (x20 == 48)) gv18 rfl (.nil ?_)))
 obtain rfl := zAa h22
 exact ⟨(x20 == 48), _, rfl, O10, (zAf _), rfl⟩
def z6r (K : Nat) (p0 : zAd) (p1 : zAd) : Option Int := (if (decide ((p0.size : Int) < (p1.size : Int))) = true then some (-1) else (if (decide ((p0.size : Int) > (p1.size : Int))) = true then some 1 else (if (sLt p0 p1) = true then some (-1) else (if (!(sLt p0 p1 || sEq p0 p1)) = true then some 1 else some 0))))
theorem z9x (p0 : zAd) (p1 : zAd) (O : Ow G H (L)) (r : Int) (h : z6r K p0 p1 = some r) :
    CR Tryd.prog 46 [(.string p0), (.string p1)] G H (L) (fun v G' _ => v = .int .i64 r) := by
 unfold z6r at h
 refine CR.og (n := 25) (fn := Tryd.f46) (by kernel_rfl) rfl rfl fun R kr => (.seq (.region (W.q1 (.int .i64 0) rfl (.nil (.seq (.block ?_))))))
 refine .seq (.region (W.q2 (.string p0) rfl (W.pure (v := (.int .i64 (p0.size : Int))) rfl rfl (z1h (oo rfl rfl) un9) (W.q2 (.string p1) rfl (W.pure (v := (.int .i64 (p1.size : Int))) rfl rfl (z1h (oo rfl rfl) un9) (W.q3 (.bool (decide ((p0.size : Int) < (p1.size : Int)))) rfl rfl ?_))))))
 refine W.q1 (.bool (decide ((p0.size : Int) < (p1.size : Int)))) rfl (.nil (.cond (b := decide ((p0.size : Int) < (p1.size : Int))) rfl rfl (fun g1 => ?_) (fun g1 => ?_)))
 .have h2 := z03 g1 h
  refine .seq (.region (W.q1 (.int .i64 (-1)) rfl (.nil (.ret ?_))))
  obtain rfl := zAa h2
  exact z16 kr (v1 := (.int .i64 (-1))) (by rfl) (z09 (by rfl) (by exact rfl)) O (zAf _) rfl
 have h3 := z0h g1 h
 refine .seq (.region (W.q2 (.string p0) rfl (W.pure (v := (.int .i64 (p0.size : Int))) rfl rfl (z1h (oo rfl rfl) un9) (W.q2 (.string p1) rfl (W.pure (v := (.int .i64 (p1.size : Int))) rfl rfl (z1h (oo rfl rfl) un9) (W.q3 (.bool (decide ((p0.size : Int) > (p1.size : Int)))) rfl rfl ?_))))))
 refine W.q1 (.bool (decide ((p0.size : Int) > (p1.size : Int)))) rfl (.nil (.cond (b := decide ((p0.size : Int) > (p1.size : Int))) rfl rfl (fun g4 => ?_) (fun g4 => ?_)))
 .have h5 := z03 g4 h3
  refine .seq (.region (W.q1 (.int .i64 1) rfl (.nil (.ret ?_))))
  obtain rfl := zAa h5
  exact z16 kr (v1 := (.int .i64 1)) (by rfl) (z09 (by rfl) (by exact rfl)) O (zAf _) rfl
 have h6 := z0h g4 h3
 refine .seq (.region (W.q2 (.string p0) rfl (W.q2 (.string p1) rfl (W.pure (v := (.bool (sLt p0 p1))) rfl rfl (zm8 (oo rfl rfl) (oo rfl rfl)) (W.q1 (.bool (sLt p0 p1)) rfl (.nil ?_))))))
 refine .cond (b := sLt p0 p1) rfl rfl (fun g7 => ?_) (fun g7 => ?_)
 .have h8 := z03 g7 h6
  refine .seq (.region (W.q1 (.int .i64 (-1)) rfl (.nil (.ret ?_))))
  obtain rfl := zAa h8
  exact z16 kr (v1 := (.int .i64 (-1))) (by rfl) (z09 (by rfl) (by exact rfl)) O (zAf _) rfl
 have h9 := z0h g7 h6
 refine .seq (.region (W.q2 (.string p0) rfl (W.q2 (.string p1) rfl (W.pure (v := (.bool (!(sLt p0 p1 || sEq p0 p1)))) rfl rfl (zm9 (oo rfl rfl) (oo rfl rfl)) (W.q1 (.bool (!(sLt p0 p1 || sEq p0 p1))) rfl (.nil ?_))))))
 refine .cond (b := (!(sLt p0 p1 || sEq p0 p1))) rfl rfl (fun g10 => ?_) (fun g10 => ?_)
 .have h11 := z03 g10 h9
  refine .seq (.region (W.q1 (.int .i64 1) rfl (.nil (.ret ?_))))
  obtain rfl := zAa h11
  exact z16 kr (v1 := (.int .i64 1)) (by rfl) (z09 (by rfl) (by exact rfl)) O (zAf _) rfl
 have h12 := z0h g10 h9
 refine .skip (.seq (.region (W.q1 (.int .i64 0) rfl (.nil (.ret ?_)))))
 obtain rfl := zAa h12
 exact z16 kr (v1 := (.int .i64 0)) (by rfl) (z09 (by rfl) (by exact rfl)) O (zAf _) rfl
def z4w (K : Nat) (p0 : zAd) (p1 : Int) : Option Int := (if (decide (p1 < (p0.size : Int))) = true then ((bidx p0 (z05 .i64 ((z05 .i64 ((p0.size : Int) - 1)) - p1))).bind fun x3 => some (IntKind.wrap .i64 (z05 .u8 (x3 - 48)))) else some 0)
theorem z4s (p0 : zAd) (p1 : Int) (O : Ow G H (L)) (r : Int) (h : z4w K p0 p1 = some r) :
    CR Tryd.prog 105 [(.string p0), (.int .i64 p1)] G H (L) (fun v G' _ => v = .int .i64 r) := by
 unfold z4w at h
 refine CR.og (n := 18) (fn := Tryd.f105) (by kernel_rfl) rfl rfl fun R kr => (.seq (.region (W.q1 (.int .i64 0) rfl (.nil (.seq (.seq ?_))))))
 refine .region (W.q2 (.int .i64 p1) rfl (W.q2 (.string p0) rfl (W.pure (v := (.int .i64 (p0.size : Int))) rfl rfl (z1h (oo rfl rfl) un9) (W.q3 (.bool (decide (p1 < (p0.size : Int)))) rfl rfl (.nil (.cond (b := decide (p1 < (p0.size : Int))) rfl rfl (fun g1 => ?_) (fun g1 => ?_)))))))
 rotate_left
 .have h6 := z0h g1 h
  refine .skip (.seq (.region (W.q1 (.int .i64 0) rfl (.nil (.ret ?_)))))
  obtain rfl := zAa h6
  exact z16 kr (v1 := (.int .i64 0)) (by rfl) (z09 (by rfl) (by exact rfl)) O (zAf _) rfl
 have h2 := z03 g1 h
 refine .seq (.region (W.q2 (.string p0) rfl (W.q2 (.string p0) rfl (W.pure (v := (.int .i64 (p0.size : Int))) rfl rfl (z1h (oo rfl rfl) un9) (W.q3 (.int .i64 (z05 .i64 ((p0.size : Int) - 1))) rfl rfl (W.q2 (.int .i64 p1) rfl ?_))))))
 refine W.q3 (.int .i64 (z05 .i64 ((z05 .i64 ((p0.size : Int) - 1)) - p1))) rfl rfl ?_
 obtain ⟨x3, i4, h5⟩ := z00 h2
 refine W.pure (v := (.int .u8 x3)) rfl rfl (z93 un9 (oo rfl rfl) (oo rfl rfl) i4) (W.q3 (.int .u8 (z05 .u8 (x3 - 48))) rfl rfl (W.pure (v := (.int .i64 (IntKind.wrap .i64 (z05 .u8 (x3 - 48))))) rfl rfl (z3s in5 in3 (oo rfl rfl)) (W.q1 (.int .i64 (IntKind.wrap .i64 (z05 .u8 (x3 - 48)))) rfl (.nil (.ret ?_)))))
 obtain rfl := zAa h5
 exact z16 kr (v1 := (.int .i64 (IntKind.wrap .i64 (z05 .u8 (x3 - 48))))) (by rfl) (z09 (by rfl) (by exact rfl)) O (zAf _) rfl
def z2s (K : Nat) (p0 : List Int) : Nat -> List Int -> Int -> Option (List Int)
  | 0, _, _ => none
  | k + 1, x11, x12 => (if (decide (x12 < (List.length p0 : Int))) = true then ((idx p0 x12).bind fun x23 => ((idx x11 (z05 .i64 ((z05 .i64 ((List.length p0 : Int) - 1)) - x12))).bind fun x27 => z2s K p0 k (List.set x11 (Int.toNat (z05 .i64 ((z05 .i64 ((List.length p0 : Int) - 1)) - x12))) (IntKind.wrap .u8 (z05 .i64 ((48 : Int) + x23)))) (z05 .i64 (x12 + 1)))) else some x11)
def z8o (K : Nat) (p0 : List Int) : Option zAd := (if 0 <= (List.length p0 : Int) /\ (List.length p0 : Int) <= (List.length p0 : Int) /\ (List.length p0 : Int) <= 16777216 then (Option.bind (z2s K p0 K (List.replicate (Int.toNat (List.length p0 : Int)) 0) 0) (tu1 fun x36 => (if 0 < List.length x36 then (if ((⟨#[48]⟩ : zAd)).size + ((strOfNums x36)).size <= 4611686018427387904 then ((z68 K ((⟨#[48]⟩ : zAd) ++ (strOfNums x36))).bind fun x52 => some x52) else none) else none))) else none)
theorem z9r (v0 : Value) (p0 : List Int) (hp0 : (rSl (rI .i64)).rep G [v0] p0) (O : Ow G H (L)) (r : zAd) (h : z8o K p0 = some r) :
    CR Tryd.prog 106 [v0] G H (L) (fun v G' _ => v = .string r) := by
 unfold z8o at h
 refine CR.og (n := 31) (fn := Tryd.f106) (by kernel_rfl) rfl rfl fun R kr => (.seq (.region (W.q1 (.string (⟨#[]⟩ : zAd)) rfl (.nil (.seq (.region ?_))))))
 refine W.q2 v0 rfl (W.pure (v := (.int .i64 (List.length p0 : Int))) rfl rfl (z0p (oo rfl rfl) (z0f hp0) (z06 el96)) ?_)
 obtain ⟨g2, h3⟩ := z3c h
 refine W.lo rfl rfl (Lo.makeSlice (r := (rI .u8)) (x0 := 0) (a := (List.length p0 : Int)) (c := (List.length p0 : Int)) rfl zfx ze5 sz5 (by kernel_rfl) rfl by5 (by decide) rfl rfl g2 (zI .u8) O) ?_
 rintro v5 H6 ⟨O1, sm4⟩
 refine W.q1 v5 rfl (.nil (.seq (.seq (.region (W.q2 v0 rfl (W.pure (v := (.int .i64 (List.length p0 : Int))) rfl rfl (z0p (oo rfl rfl) (z0f hp0) (z06 el96)) ?_))))))
 refine W.q2 (.int .i64 0) rfl (.nil ?_)
 obtain ⟨q7, h8, h9⟩ := z00 h3
 refine AW.midT (fun σ' H' => ∃ (y1 : List Int) (G' : GM), y1 = q7 /\ Ow G' H' (eSl v5 5 (rI .u8) y1 :: L) /\ GM.le G G') ?_ ?_
 rotate_left
 .rintro σ37 H38 fr39 ⟨x36, G40, rfl, O41, s42⟩
  have h44 := z0d h9
  refine .seq (.region (W.q2 v5 ((fr39 3 rfl).trans rfl) ?_))
  obtain ⟨es45, e46, e47⟩ := z7r (j := 0) rfl O41
  obtain ⟨g48, h49⟩ := z3c h44
  refine W.bytesStr rfl rfl zfx in5 un9 e46 e47 g48 ?_
  obtain ⟨g50, h51⟩ := z3c h49
  refine W.pure (v := (.string ((⟨#[48]⟩ : zAd) ++ (strOfNums x36)))) rfl rfl (zbe g50 (oo rfl rfl) (oo rfl rfl)) ?_
  obtain ⟨x52, i53, h54⟩ := z00 h51
  refine W.lo rfl rfl (Lo.cP rfl (fn := Tryd.f125) (by kernel_rfl) rfl (mc rfl mn) O41 (fun L' O' => z79 K ((⟨#[48]⟩ : zAd) ++ (strOfNums x36)) O' _ i53)) ?_
  rintro v61 H62 ⟨G55, O56, s57, sm60, rfl⟩
  refine W.q1 (.string x52) rfl (.nil (.ret ?_))
  have O63 : Ow G55 H62 (L) := O56.drop 0
  obtain rfl := zAa h54
  exact z16 kr (v1 := (.string x52)) (by rfl) (z09 (by rfl) (by exact rfl)) O63 (zAe s42 s57) rfl
 refine .block (AW.loop (α := Nat) (fun k' σ' H' => ∃ (y1 : List Int) (y2 : Int) (G' : GM), z2s K p0 k' y1 y2 = some q7 /\ Ow G' H' (eSl v5 5 (rI .u8) y1 :: L) /\ GM.le G G' /\ σ' 11 = .int .i64 y2) (fun k' => k') K ⟨(List.replicate (Int.toNat (List.length p0 : Int)) 0), 0, _, h8, O1, (zAf _), rfl⟩ ?_)
 rintro k10
 rintro σ13 H14 fr15 ⟨x11, x12, G16, h19, O17, s18, t20⟩
 rcases k10 with _ | k10
 .exact z0a h19
 rw [z2s] at h19
 refine .seq (.region (W.q3 (.bool (decide (x12 < (List.length p0 : Int)))) t20 ((fr15 10 rfl).trans rfl) (.nil (.seq (.cond (b := decide (x12 < (List.length p0 : Int))) rfl rfl (fun g21 => ?_) (fun g21 => ?_))))))
 rotate_left
 .have h35 := z0h g21 h19
  refine .exit ?_
  obtain rfl := zAa h35
  exact ⟨x11, _, rfl, O17, s18⟩
 have h22 := z03 g21 h19
 refine .skip (.seq (.block (.seq (.region (W.q2 _ t20 ?_)))))
 obtain ⟨x23, i24, h25⟩ := z00 h22
 have j26 := z0g i24
 refine W.pure (v := (z2t v0 (Int.toNat x12 * 1))) rfl rfl (z3b el96 sz3 (oo rfl ((fr15 9 rfl).trans rfl)) (oo rfl t20) (z0f (RT.mono _ s18 hp0)) j26.1 j26.2.1) (W.load1 (v := (.int .i64 x23)) (r := []) rfl rfl ag3 (z0q rfl (At.int (At.le (At.le (z1m hp0 j26.2.2) s18 s18) (zAf _) O17.fro))) (W.q1 (.int .i64 x12) rfl (W.q1 (.int .i64 x23) rfl (.nil (.region (W.q2 v5 ((fr15 3 rfl).trans rfl) ?_))))))
 refine W.q2 v0 ((fr15 0 rfl).trans rfl) (W.pure (v := (.int .i64 (List.length p0 : Int))) rfl rfl (z0p (oo rfl rfl) (z0f (RT.mono _ s18 hp0)) (z06 el96)) (W.q3 (.int .i64 (z05 .i64 ((List.length p0 : Int) - 1))) rfl rfl (W.q2 (.int .i64 x12) rfl (W.q3 (.int .i64 (z05 .i64 ((z05 .i64 ((List.length p0 : Int) - 1)) - x12))) rfl rfl (W.q2 (.int .i64 x23) rfl (W.q3 (.int .i64 (z05 .i64 ((48 : Int) + x23))) rfl rfl ?_))))))
 refine W.pure (v := (.int .u8 (IntKind.wrap .u8 (z05 .i64 ((48 : Int) + x23))))) rfl rfl (z3s in3 in5 (oo rfl rfl)) ?_
 obtain ⟨x27, i28, h29⟩ := z00 h25
 have j30 := z0g i28
 refine W.pure (v := (z2t v5 (Int.toNat (z05 .i64 ((z05 .i64 ((List.length p0 : Int) - 1)) - x12)) * 1))) rfl rfl (z3b zfx sz5 (oo rfl rfl) (oo rfl rfl) (O17.slLen (j := 0) rfl) j30.1 j30.2.1) (W.lo rfl rfl (Lo.storeSl0 (j := 0) (y0 := IntKind.wrap .u8 (z05 .i64 ((48 : Int) + x23))) (v := (.int .u8 (IntKind.wrap .u8 (z05 .i64 ((48 : Int) + x23))))) rfl j30.2.2  rfl sz5 rfl rfl rfl O17) ?_)
 rintro v33 H34 ⟨O31, sm32⟩
 refine .nil (.region (W.q3 (.int .i64 (z05 .i64 (x12 + 1))) t20 rfl (W.q2 (.int .i64 (z05 .i64 (x12 + 1))) rfl (.nil ?_))))
 exact ⟨k10, zAg _, ⟨(List.set x11 (Int.toNat (z05 .i64 ((z05 .i64 ((List.length p0 : Int) - 1)) - x12))) (IntKind.wrap .u8 (z05 .i64 ((48 : Int) + x23)))), z05 .i64 (x12 + 1), _, h29, O31, s18, rfl⟩⟩
def z25 (K : Nat) (p0 : zAd) (p1 : zAd) : Nat -> List Int -> Int -> Int -> Option (List Int)
  | 0, _, _, _ => none
  | k + 1, x6, x7, x8 => (if (decide (x8 < (p0.size : Int))) = true then ((z4w K p0 x8).bind fun x20 => ((z4w K p1 x8).bind fun x31 => (Option.bind ((if (decide ((z05 .i64 ((z05 .i64 (x20 - x31)) - x7)) < 0)) = true then (lt (z05 .i64 ((z05 .i64 ((z05 .i64 (x20 - x31)) - x7)) + 10)) fun x47 => some (1, x47)) else some (0, z05 .i64 ((z05 .i64 (x20 - x31)) - x7)))) (tu2 fun x51 x52 => (if List.length x6 + List.length [x52] <= 16777216 then z25 K p0 p1 k (x6 ++ [x52]) x51 (z05 .i64 (x8 + 1)) else none))))) else some x6)
def z6s (K : Nat) (p0 : zAd) (p1 : zAd) : Option zAd := (Option.bind (z25 K p0 p1 K [] 0 0) (tu1 fun x78 => ((z8o K x78).bind fun x87 => some x87)))
theorem z9y (p0 : zAd) (p1 : zAd) (O : Ow G H (L)) (r : zAd) (h : z6s K p0 p1 = some r) :
    CR Tryd.prog 47 [(.string p0), (.string p1)] G H (L) (fun v G' _ => v = .string r) := by
 unfold z6s at h
 refine CR.og (n := 34) (fn := Tryd.f47) (by kernel_rfl) rfl rfl fun R kr => (.seq (.region (W.q1 (.string (⟨#[]⟩ : zAd)) rfl (.nil (.seq (.region ?_))))))
 refine W.q1 (.slice none 0 0) rfl (.nil (.seq (.region (W.q1 (.int .i64 0) rfl (.nil (.seq ?_))))))
 refine .seq (.region (W.q2 (.string p0) rfl (W.pure (v := (.int .i64 (p0.size : Int))) rfl rfl (z1h (oo rfl rfl) un9) (W.q2 (.int .i64 0) rfl (.nil ?_)))))
 obtain ⟨q1, h2, h3⟩ := z00 h
 refine AW.midT (fun σ' H' => ∃ (y1 : List Int) (G' : GM), y1 = q1 /\ Ow G' H' (eSl (σ' 5) 3 (rI .i64) y1 :: L) /\ GM.le G G') ?_ ?_
 rotate_left
 .rintro σ79 H80 fr81 ⟨x78, G82, rfl, O83, s84⟩
  have h86 := z0d h3
  refine .seq (.region (W.q2 (σ79 5) rfl ?_))
  obtain ⟨x87, i88, h89⟩ := z00 h86
  refine W.lo rfl rfl (Lo.callB (j := 0) rfl rfl (fn := Tryd.f106) (by kernel_rfl) rfl (mc rfl mn) O83 (fun G' L' hG O' hB => z9r K (σ79 5) x78 hB O' _ i88)) ?_
  rintro v96 H97 ⟨G90, O91, s92, sm95, rfl⟩
  refine W.q1 (.string x87) rfl (.nil (.ret ?_))
  have O98 : Ow G90 H97 (L) := O91.drop 0
  obtain rfl := zAa h89
  exact z16 kr (v1 := (.string x87)) (by rfl) (z09 (by rfl) (by exact rfl)) O98 (zAe s84 s92) rfl
 refine .block ?_
 have O4 := O.nilSl 3 (rI .i64)
 refine AW.loop (α := Nat) (fun k' σ' H' => ∃ (y1 : List Int) (y2 : Int) (y3 : Int) (G' : GM), z25 K p0 p1 k' y1 y2 y3 = some q1 /\ Ow G' H' (eSl (σ' 5) 3 (rI .i64) y1 :: L) /\ GM.le G G' /\ σ' 6 = .int .i64 y2 /\ σ' 11 = .int .i64 y3) (fun k' => k') K ⟨[], 0, 0, _, h2, O4, (zAf _), rfl, rfl⟩ ?_
 rintro k5
 rintro σ9 H10 fr11 ⟨x6, x7, x8, G12, h15, O13, s14, t16, t17⟩
 rcases k5 with _ | k5
 .exact z0a h15
 rw [z25] at h15
 refine .seq (.region (W.q3 (.bool (decide (x8 < (p0.size : Int)))) t17 ((fr11 10 rfl).trans rfl) (.nil (.seq (.cond (b := decide (x8 < (p0.size : Int))) rfl rfl (fun g18 => ?_) (fun g18 => ?_))))))
 rotate_left
 .have h77 := z0h g18 h15
  refine .exit ?_
  obtain rfl := zAa h77
  exact ⟨x6, _, rfl, O13, s14⟩
 have h19 := z03 g18 h15
 refine .skip (.seq (.block (.seq (.region (W.q2 _ t17 (W.q1 (.int .i64 x8) rfl ?_))))))
 refine .nil (.seq (.region (W.q2 (.string p0) ((fr11 0 rfl).trans rfl) (W.q2 (.int .i64 x8) rfl ?_))))
 obtain ⟨x20, i21, h22⟩ := z00 h19
 refine W.lo rfl rfl (Lo.cP rfl (fn := Tryd.f105) (by kernel_rfl) rfl (mc rfl (mc rfl mn)) O13 (fun L' O' => z4s K p0 x8 O' _ i21)) ?_
 rintro v29 H30 ⟨G23, O24, s25, sm28, rfl⟩
 refine W.q2 (.string p1) ((fr11 1 rfl).trans rfl) (W.q2 (.int .i64 x8) rfl ?_)
 obtain ⟨x31, i32, h33⟩ := z00 h22
 refine W.lo rfl rfl (Lo.cP rfl (fn := Tryd.f105) (by kernel_rfl) rfl (mc rfl (mc rfl mn)) O24 (fun L' O' => z4s K p1 x8 O' _ i32)) ?_
 rintro v40 H41 ⟨G34, O35, s36, sm39, rfl⟩
 refine W.q3 (.int .i64 (z05 .i64 (x20 - x31))) rfl rfl (W.q2 _ t16 (W.q3 (.int .i64 (z05 .i64 ((z05 .i64 (x20 - x31)) - x7))) rfl rfl (W.q1 (.int .i64 (z05 .i64 ((z05 .i64 (x20 - x31)) - x7))) rfl (.nil (.seq (.region ?_))))))
 refine W.q1 (.int .i64 0) rfl (.nil (.seq (.seq (.region (W.q2 (.int .i64 (z05 .i64 ((z05 .i64 (x20 - x31)) - x7))) rfl (W.q3 (.bool (decide ((z05 .i64 ((z05 .i64 (x20 - x31)) - x7)) < 0))) rfl rfl ?_))))))
 refine .nil ?_
 obtain ⟨q42, h43, h44⟩ := z00 h33
 refine AW.midT (fun σ' H' => ∃ (y1 : Int) (y2 : Int) (G' : GM), (y1, y2) = q42 /\ Ow G' H' (eSl (σ9 5) 3 (rI .i64) x6 :: L) /\ GM.le G34 G' /\ σ' 6 = .int .i64 y1 /\ σ' 8 = .int .i64 y2) ?_ ?_
 .refine .cond (b := decide ((z05 .i64 ((z05 .i64 (x20 - x31)) - x7)) < 0)) rfl rfl (fun g45 => ?_) (fun g45 => ?_)
  rotate_left
  .have h50 := z0h g45 h43
   refine .skip ?_
   obtain rfl := zAa h50
   exact ⟨0, z05 .i64 ((z05 .i64 (x20 - x31)) - x7), _, rfl, O35, (zAf _), rfl, rfl⟩
  have h46 := z03 g45 h43
  refine .region (W.q2 (.int .i64 (z05 .i64 ((z05 .i64 (x20 - x31)) - x7))) rfl (W.q3 (.int .i64 (z05 .i64 ((z05 .i64 ((z05 .i64 (x20 - x31)) - x7)) + 10))) rfl rfl ?_))
  obtain ⟨x47, e48, h49⟩ := z6b h46
  refine W.q1 _ (congrArg (Value.int .i64) e48) (W.q1 (.int .i64 1) rfl (.nil ?_))
  obtain rfl := zAa h49
  exact ⟨1, x47, _, rfl, O35, (zAf _), rfl, rfl⟩
 rintro σ53 H54 fr55 ⟨x51, x52, G56, rfl, O57, s58, t60, t61⟩
 have h62 := z4k h44
 refine .region (W.q2 (σ9 5) ((fr55 5 rfl).trans rfl) (W.q2 _ t61 (W.lo rfl rfl (Lo.buildSlice (r := (rI .i64)) (vs := [(.int .i64 x52)]) (xs := [x52]) el96 ze3 sz3 (by kernel_rfl) rfl (qc rfl qn) rfl (.cons rfl .nil) O57) ?_)))
 rintro v65 H66 ⟨O63, sm64⟩
 obtain ⟨es68, e69, e70⟩ := z7r (j := 0) rfl O63
 obtain ⟨g71, h72⟩ := z3c h62
 refine W.lo rfl rfl (Lo.append (j := 1) (v := (σ9 5)) rfl rfl el96 ni96 ze3 sz3 by3 (by decide) (by decide) rfl e69 e70 g71 O63) ?_
 rintro v74 H75 ⟨O67, sm73⟩
 refine W.q1 v74 rfl (.nil (.region (W.q3 (.int .i64 (z05 .i64 (x8 + 1))) ((fr55 11 rfl).trans t17) rfl (W.q2 (.int .i64 (z05 .i64 (x8 + 1))) rfl (.nil ?_)))))
 have O76 : Ow G56 H75 (eSl v74 3 (rI .i64) (x6 ++ [x52]) :: L) := O67.drop 0
 exact ⟨k5, zAg _, ⟨(x6 ++ [x52]), x51, z05 .i64 (x8 + 1), _, h72, O76, (zAe s14 (zAe s25 (zAe s36 s58))), t60, rfl⟩⟩
def z2v (K : Nat) (p1 : zAd) : Nat -> zAd -> Int -> Option (zAd × Int)
  | 0, _, _ => none
  | k + 1, x56, x57 => ((z6r K x56 p1).bind fun x67 => (if (decide (x67 >= 0)) = true then ((z6s K x56 p1).bind fun x80 => z2v K p1 k x80 (z05 .u8 (x57 + 1))) else some (x56, x57)))
def z2w (K : Nat) (p0 : zAd) (p1 : zAd) : Nat -> zAd -> zAd -> Int -> Option (zAd × zAd)
  | 0, _, _, _ => none
  | k + 1, x21, x22, x23 => (if (decide (x23 < (p0.size : Int))) = true then ((ssl p0 x23 (z05 .i64 (x23 + 1))).bind fun x36 => (if (x22).size + (x36).size <= 4611686018427387904 then ((z68 K (x22 ++ x36)).bind fun x41 => (Option.bind (z2v K p1 K x41 48) (tu2 fun x92 x93 => (if (x21).size + ((Utf8.encode x93)).size <= 4611686018427387904 then z2w K p0 p1 k (x21 ++ (Utf8.encode x93)) x92 (z05 .i64 (x23 + 1)) else none)))) else none)) else some (x21, x22))
def z61 (K : Nat) (p0 : zAd) (p1 : zAd) : Option (zAd × zAd) := ((ssl p0 0 (imin (p0.size : Int) (z05 .i64 ((p1.size : Int) - 1)))).bind fun x1 => (if ((⟨#[48]⟩ : zAd)).size + (x1).size <= 4611686018427387904 then ((z68 K ((⟨#[48]⟩ : zAd) ++ x1)).bind fun x6 => (Option.bind (z2w K p0 p1 K (⟨#[48]⟩ : zAd) x6 (imin (p0.size : Int) (z05 .i64 ((p1.size : Int) - 1)))) (tu2 fun x107 x108 => ((z68 K x107).bind fun x119 => some (x119, x108))))) else none))
theorem z7y (p0 : zAd) (p1 : zAd) (O : Ow G H (L)) (r : zAd × zAd) (h : z61 K p0 p1 = some r) :
    CR Tryd.prog 104 [(.string p0), (.string p1)] G H (L) (fun v G' _ => v = .tuple #[.string r.1, .string r.2]) := by
 unfold z61 at h
 refine CR.og (n := 53) (fn := Tryd.f104) (by kernel_rfl) rfl rfl fun R kr => (.seq (.region (W.q1 (.string (⟨#[]⟩ : zAd)) rfl (W.q1 (.string (⟨#[]⟩ : zAd)) rfl (.nil (.seq ?_))))))
 refine .region (W.q2 (.string p0) rfl (W.pure (v := (.int .i64 (p0.size : Int))) rfl rfl (z1h (oo rfl rfl) un9) (W.q2 (.string p1) rfl (W.pure (v := (.int .i64 (p1.size : Int))) rfl rfl (z1h (oo rfl rfl) un9) (W.q3 (.int .i64 (z05 .i64 ((p1.size : Int) - 1))) rfl rfl (W.pure (v := (.int .i64 (imin (p0.size : Int) (z05 .i64 ((p1.size : Int) - 1))))) rfl rfl (zm7 (oo rfl rfl) (oo rfl rfl)) ?_))))))
 refine W.q1 (.int .i64 (imin (p0.size : Int) (z05 .i64 ((p1.size : Int) - 1)))) rfl (.nil (.seq (.region (W.q2 (.string p0) rfl (W.q2 (.int .i64 (imin (p0.size : Int) (z05 .i64 ((p1.size : Int) - 1)))) rfl ?_)))))
 obtain ⟨x1, i2, h3⟩ := z00 h
 refine W.pure (v := (.string x1)) rfl rfl (zgz un9 (oo rfl rfl) (oo rfl rfl) i2) ?_
 obtain ⟨g4, h5⟩ := z3c h3
 refine W.pure (v := (.string ((⟨#[48]⟩ : zAd) ++ x1))) rfl rfl (zbe g4 (oo rfl rfl) (oo rfl rfl)) ?_
 obtain ⟨x6, i7, h8⟩ := z00 h5
 refine W.lo rfl rfl (Lo.cP rfl (fn := Tryd.f125) (by kernel_rfl) rfl (mc rfl mn) O (fun L' O' => z79 K ((⟨#[48]⟩ : zAd) ++ x1) O' _ i7)) ?_
 rintro v15 H16 ⟨G9, O10, s11, sm14, rfl⟩
 refine W.q1 (.string (⟨#[48]⟩ : zAd)) rfl (W.q1 (.string x6) rfl (.nil (.seq (.seq (.region (W.q2 (.int .i64 (imin (p0.size : Int) (z05 .i64 ((p1.size : Int) - 1)))) rfl ?_))))))
 refine W.q1 (.int .i64 (imin (p0.size : Int) (z05 .i64 ((p1.size : Int) - 1)))) rfl (.nil ?_)
 obtain ⟨q17, h18, h19⟩ := z00 h8
 refine AW.midT (fun σ' H' => ∃ (y1 : zAd) (y2 : zAd) (G' : GM), (y1, y2) = q17 /\ Ow G' H' (L) /\ GM.le G9 G' /\ σ' 7 = .string y1 /\ σ' 8 = .string y2) ?_ ?_
 rotate_left
 .rintro σ109 H110 fr111 ⟨x107, x108, G112, rfl, O113, s114, t116, t117⟩
  have h118 := z4k h19
  refine .seq (.region (W.q2 _ t116 ?_))
  obtain ⟨x119, i120, h121⟩ := z00 h118
  refine W.lo rfl rfl (Lo.cP rfl (fn := Tryd.f125) (by kernel_rfl) rfl (mc rfl mn) O113 (fun L' O' => z79 K x107 O' _ i120)) ?_
  rintro v128 H129 ⟨G122, O123, s124, sm127, rfl⟩
  refine W.q2 _ t117 (W.q1 (.string x119) rfl (W.q1 (.string x108) rfl (.nil (.ret ?_))))
  obtain rfl := zAa h121
  exact zas kr (v1 := (.string x119)) (v2 := (.string x108)) (by rfl) (z09 (by rfl) (by exact rfl)) (z09 (by rfl) (by exact rfl)) O123 (zAe s11 (zAe s114 s124)) rfl
 refine .block (AW.loop (α := Nat) (fun k' σ' H' => ∃ (y1 : zAd) (y2 : zAd) (y3 : Int) (G' : GM), z2w K p0 p1 k' y1 y2 y3 = some q17 /\ Ow G' H' (L) /\ GM.le G9 G' /\ σ' 7 = .string y1 /\ σ' 8 = .string y2 /\ σ' 9 = .int .i64 y3) (fun k' => k') K ⟨(⟨#[48]⟩ : zAd), x6, imin (p0.size : Int) (z05 .i64 ((p1.size : Int) - 1)), _, h18, O10, (zAf _), rfl, rfl, rfl⟩ ?_)
 rintro k20
 rintro σ24 H25 fr26 ⟨x21, x22, x23, G27, h30, O28, s29, t31, t32, t33⟩
 rcases k20 with _ | k20
 .exact z0a h30
 rw [z2w] at h30
 refine .seq (.seq (.region (W.q2 _ t33 (W.q2 (.string p0) ((fr26 0 rfl).trans rfl) (W.pure (v := (.int .i64 (p0.size : Int))) rfl rfl (z1h (oo rfl rfl) un9) (W.q3 (.bool (decide (x23 < (p0.size : Int)))) rfl rfl ?_))))))
 refine .nil (.cond (b := decide (x23 < (p0.size : Int))) rfl rfl (fun g34 => ?_) (fun g34 => ?_))
 rotate_left
 .have h106 := z0h g34 h30
  refine .exit ?_
  obtain rfl := zAa h106
  exact ⟨x21, x22, _, rfl, O28, s29, t31, t32⟩
 have h35 := z03 g34 h30
 refine .skip (.seq (.block (.seq (.region (W.q2 _ t32 (W.q2 (.string p0) ((fr26 0 rfl).trans rfl) ?_))))))
 refine W.q2 _ t33 (W.q2 _ t33 (W.q3 (.int .i64 (z05 .i64 (x23 + 1))) rfl rfl ?_))
 obtain ⟨x36, i37, h38⟩ := z00 h35
 refine W.pure (v := (.string x36)) rfl rfl (zjn un9 (oo rfl rfl) (oo rfl rfl) (oo rfl rfl) i37) ?_
 obtain ⟨g39, h40⟩ := z3c h38
 refine W.pure (v := (.string (x22 ++ x36))) rfl rfl (zbe g39 (oo rfl rfl) (oo rfl rfl)) ?_
 obtain ⟨x41, i42, h43⟩ := z00 h40
 refine W.lo rfl rfl (Lo.cP rfl (fn := Tryd.f125) (by kernel_rfl) rfl (mc rfl mn) O28 (fun L' O' => z79 K (x22 ++ x36) O' _ i42)) ?_
 rintro v50 H51 ⟨G44, O45, s46, sm49, rfl⟩
 refine W.q1 (.string x41) rfl (.nil (.seq (.region (W.q1 (.int .u8 48) rfl (.nil (.seq ?_))))))
 obtain ⟨q52, h53, h54⟩ := z00 h43
 refine AW.midT (fun σ' H' => ∃ (y1 : zAd) (y2 : Int) (G' : GM), (y1, y2) = q52 /\ Ow G' H' (L) /\ GM.le G44 G' /\ σ' 8 = .string y1 /\ σ' 10 = .int .u8 y2) ?_ ?_
 rotate_left
 .rintro σ94 H95 fr96 ⟨x92, x93, G97, rfl, O98, s99, t101, t102⟩
  have h103 := z4k h54
  refine .region (W.q2 _ ((fr96 7 rfl).trans t31) (W.q2 _ t102 (W.pure (v := (.string (Utf8.encode x93))) rfl rfl (zkc in5 un9 (oo rfl rfl)) ?_)))
  obtain ⟨g104, h105⟩ := z3c h103
  refine W.pure (v := (.string (x21 ++ (Utf8.encode x93)))) rfl rfl (zbe g104 (oo rfl rfl) (oo rfl rfl)) (W.q1 (.string (x21 ++ (Utf8.encode x93))) rfl (.nil (.region (W.q2 _ ((fr96 9 rfl).trans t33) (W.q3 (.int .i64 (z05 .i64 (x23 + 1))) rfl rfl (W.q1 (.int .i64 (z05 .i64 (x23 + 1))) rfl ?_))))))
  refine .nil ?_
  exact ⟨k20, zAg _, ⟨(x21 ++ (Utf8.encode x93)), x92, z05 .i64 (x23 + 1), _, h105, O98, (zAe s29 (zAe s46 s99)), rfl, t101, rfl⟩⟩
 refine .block (AW.loop (α := Nat) (fun k' σ' H' => ∃ (y1 : zAd) (y2 : Int) (G' : GM), z2v K p1 k' y1 y2 = some q52 /\ Ow G' H' (L) /\ GM.le G44 G' /\ σ' 8 = .string y1 /\ σ' 10 = .int .u8 y2) (fun k' => k') K ⟨x41, 48, _, h53, O45, (zAf _), rfl, rfl⟩ ?_)
 rintro k55
 rintro σ58 H59 fr60 ⟨x56, x57, G61, h64, O62, s63, t65, t66⟩
 rcases k55 with _ | k55
 .exact z0a h64
 rw [z2v] at h64
 refine .seq (.seq (.region (W.q2 _ t65 (W.q2 (.string p1) ((fr60 1 rfl).trans ((fr26 1 rfl).trans rfl)) ?_))))
 obtain ⟨x67, i68, h69⟩ := z00 h64
 refine W.lo rfl rfl (Lo.cP rfl (fn := Tryd.f46) (by kernel_rfl) rfl (mc rfl (mc rfl mn)) O62 (fun L' O' => z9x K x56 p1 O' _ i68)) ?_
 rintro v76 H77 ⟨G70, O71, s72, sm75, rfl⟩
 refine W.q3 (.bool (decide (x67 >= 0))) rfl rfl (.nil (.cond (b := decide (x67 >= 0)) rfl rfl (fun g78 => ?_) (fun g78 => ?_)))
 rotate_left
 .have h91 := z0h g78 h69
  refine .exit ?_
  obtain rfl := zAa h91
  exact ⟨x56, x57, _, rfl, O71, (zAe s63 s72), t65, t66⟩
 have h79 := z03 g78 h69
 refine .skip (.block (.seq (.region (W.q2 _ t65 (W.q2 (.string p1) ((fr60 1 rfl).trans ((fr26 1 rfl).trans rfl)) ?_)))))
 obtain ⟨x80, i81, h82⟩ := z00 h79
 refine W.lo rfl rfl (Lo.cP rfl (fn := Tryd.f47) (by kernel_rfl) rfl (mc rfl (mc rfl mn)) O71 (fun L' O' => z9y K x56 p1 O' _ i81)) ?_
 rintro v89 H90 ⟨G83, O84, s85, sm88, rfl⟩
 refine W.q1 (.string x80) rfl (.nil (.region (W.q2 _ t66 (W.q3 (.int .u8 (z05 .u8 (x57 + 1))) rfl rfl (W.q1 (.int .u8 (z05 .u8 (x57 + 1))) rfl (.nil ?_))))))
 exact ⟨k55, zAg _, ⟨x80, z05 .u8 (x57 + 1), _, h82, O84, (zAe s63 (zAe s72 s85)), rfl, rfl⟩⟩
def z1i (K : Nat) : Nat -> zAd -> zAd -> Option (zAd)
  | 0, _, _ => none
  | k + 1, x5, x6 => (if (!(sEq x6 (⟨#[48]⟩ : zAd))) = true then ((z61 K x5 x6).bind fun x18 => z1i K k x6 x18.2) else some x5)
def z6t (K : Nat) (p0 : zAd) (p1 : zAd) : Option zAd := (Option.bind (z1i K K p0 p1) (tu1 fun x30 => some x30))
theorem z9z (p0 : zAd) (p1 : zAd) (O : Ow G H (L)) (r : zAd) (h : z6t K p0 p1 = some r) :
    CR Tryd.prog 103 [(.string p0), (.string p1)] G H (L) (fun v G' _ => v = .string r) := by
 unfold z6t at h
 refine CR.og (n := 18) (fn := Tryd.f103) (by kernel_rfl) rfl rfl fun R kr => (.seq (.region (W.q1 (.string (⟨#[]⟩ : zAd)) rfl (.nil (.seq ?_)))))
 obtain ⟨q1, h2, h3⟩ := z00 h
 refine AW.midT (fun σ' H' => ∃ (y1 : zAd) (G' : GM), y1 = q1 /\ Ow G' H' (L) /\ GM.le G G' /\ σ' 0 = .string y1) ?_ ?_
 rotate_left
 .rintro σ31 H32 fr33 ⟨x30, G34, rfl, O35, s36, t38⟩
  have h39 := z0d h3
  refine .seq (.region (W.q2 _ t38 (W.q1 (.string x30) rfl (.nil (.ret ?_)))))
  obtain rfl := zAa h39
  exact z16 kr (v1 := (.string x30)) (by rfl) (z09 (by rfl) (by exact rfl)) O35 s36 rfl
 refine .block (AW.loop (α := Nat) (fun k' σ' H' => ∃ (y1 : zAd) (y2 : zAd) (G' : GM), z1i K k' y1 y2 = some q1 /\ Ow G' H' (L) /\ GM.le G G' /\ σ' 0 = .string y1 /\ σ' 1 = .string y2) (fun k' => k') K ⟨p0, p1, _, h2, O, (zAf _), rfl, rfl⟩ ?_)
 rintro k4
 rintro σ7 H8 fr9 ⟨x5, x6, G10, h13, O11, s12, t14, t15⟩
 rcases k4 with _ | k4
 .exact z0a h13
 rw [z1i] at h13
 refine .seq (.seq (.region (W.q2 _ t15 (W.pure (v := (.bool (!(sEq x6 (⟨#[48]⟩ : zAd))))) rfl rfl (ziu (oo rfl rfl) (oo rfl rfl)) (.nil (.cond (b := (!(sEq x6 (⟨#[48]⟩ : zAd)))) rfl rfl (fun g16 => ?_) (fun g16 => ?_)))))))
 rotate_left
 .have h29 := z0h g16 h13
  refine .exit ?_
  obtain rfl := zAa h29
  exact ⟨x5, _, rfl, O11, s12, t14⟩
 have h17 := z03 g16 h13
 refine .skip (.block (.seq (.region (W.q2 _ t14 (W.q2 _ t15 ?_)))))
 obtain ⟨x18, i19, h20⟩ := z00 h17
 refine W.lo rfl rfl (Lo.cP rfl (fn := Tryd.f104) (by kernel_rfl) rfl (mc rfl (mc rfl mn)) O11 (fun L' O' => z7y K x5 x6 O' _ i19)) ?_
 rintro v27 H28 ⟨G21, O22, s23, sm26, rfl⟩
 refine W.q2 (.tuple #[(.string x18.1), (.string x18.2)]) rfl (W.pure (v := (.string x18.1)) rfl rfl (z08 (oo rfl rfl) rfl) (W.pure (v := (.string x18.2)) rfl rfl (z08 (oo rfl rfl) rfl) (W.q1 (.string x18.1) rfl (W.q1 (.string x18.2) rfl (.nil (.region ?_))))))
 refine W.q2 _ t15 (W.q2 (.string x18.2) rfl (W.q1 (.string x6) rfl (W.q1 (.string x18.2) rfl (.nil ?_))))
 exact ⟨k4, zAg _, ⟨x6, x18.2, _, h20, O22, (zAe s12 s23), rfl, rfl⟩⟩
end Go.Am.Tryd
