/- Typed functions with the same answers as the program's, and the walks that show it. -/
import Derived.Test.YtdogeclnbdldaaaGreatDoorG2Z9
import Derived.Test.YtdogeclnbdldaaaGreatDoorG18Z9
set_option maxRecDepth 100000
set_option maxHeartbeats 8000000
set_option linter.unusedVariables false
set_option linter.unusedSimpArgs false
namespace Go.Am.Tryz
open Go Go.Am Go.Proofs
variable (K : Nat) {G : GM} {H : AH} {L : List Pc}
def z12 (K : Nat) (x30 : zAd) : Nat -> Int -> zAd -> zAd -> Int -> Option (Int × zAd × zAd)
  | 0, _, _, _, _ => none
  | k + 1, x46, x47, x48, x49 => (if (decide (x49 < (x30.size : Int))) = true then (Option.bind ((Option.bind (((bidx x30 x49).bind fun x69 => (if (x69 == 47) = true then some (x46 == 1) else some false))) (tu1 fun x76 => (if x76 = true then ((ssl x30 0 x49).bind fun x93 => ((ssl x30 (z02 .i64 (x49 + 1)) (x30.size : Int)).bind fun x96 => some (2, x93, x96))) else some (x46, x47, x48))))) (tu3 fun x100 x101 x102 => z12 K x30 k x100 x101 x102 (z02 .i64 (x49 + 1)))) else some (x46, x47, x48))
def z4g (K : Nat) (p0 : zAd) : Option Int := (Option.bind ((if (decide ((p0.size : Int) > 0)) = true then ((bidx p0 0).bind fun x7 => some (x7 == 45)) else some false)) (tu1 fun x11 => (Option.bind ((if x11 = true then ((ssl p0 1 (p0.size : Int)).bind fun x26 => some (x26, true)) else some (p0, false))) (tu2 fun x30 x31 => (Option.bind (z12 K x30 K 1 x30 (⟨#[50]⟩ : zAd) 0) (tu3 fun x115 x116 x117 => ((z4d K x116).bind fun x129 => ((z4d K x117).bind fun x140 => (Option.bind ((if (x129 == 5) = true then some true else (if (x140 == 5) = true then some true else (if x31 = true then some (sEq x116 (⟨#[48]⟩ : zAd)) else some false)))) (tu1 fun x166 => (if x166 = true then some 5 else (Option.bind ((if (x129 != 0) = true then some true else some (x140 != 0))) (tu1 fun x186 => (if x186 = true then some 2 else (Option.bind ((if (x115 == 2) = true then (if (sEq x117 (⟨#[48]⟩ : zAd)) = true then some true else (if (sEq x117 (⟨#[49]⟩ : zAd)) = true then some true else ((z6h K x116 x117).bind fun x213 => some (!(sEq x213 (⟨#[49]⟩ : zAd)))))) else some false)) (tu1 fun x225 => (if x225 = true then some 3 else some 0)))))))))))))))))
theorem zax (p0 : zAd) (O : Ow G H (L)) (r : Int) (h : z4g K p0 = some r) :
    CR Tryz.prog 16 [(.string p0)] G H (L) (fun v G' _ => v = .int .i64 r) := by
 unfold z4g at h
 refine CR.og (n := 86) (fn := Tryz.f16) (by kernel_rfl) rfl rfl fun R kr => (.seq (.region (W.p1 (.int .i64 0) (.nil (.seq (.region ?_))))))
 refine W.p2 (.string p0) (W.p1 (.string p0) (W.p1 (.bool false) (W.p1 (.int .i64 1) (.nil (.seq (.seq ?_))))))
 obtain ⟨q1, h2, h3⟩ := z01 h
 refine AW.midT (fun σ' H' => ∃ (y1 : Bool) (G' : GM), y1 = q1 /\ Ow G' H' (L) /\ GM.le G G' /\ σ' 19 = .bool y1) ?_ ?_
 .refine .region (W.p2 (.string p0) (W.pv (.int .i64 (p0.size : Int)) (z1h ov un9) (W.p3 (.bool (decide ((p0.size : Int) > 0))) (W.p2 (.bool (decide ((p0.size : Int) > 0))) (W.splitAt (t := 15) (b := decide ((p0.size : Int) > 0)) rfl (fun g4 gv5 => ?_) (fun g4 gv5 => ?_))))))
  rotate_left
  .have h10 := z0j g4 h2
   refine W.q6 rfl gv5 (W.q6 rfl gv5 (W.q6 rfl gv5 (W.q5 (.bool false) gv5 rfl (.nil ?_))))
   obtain rfl := zAa h10
   exact ⟨false, _, rfl, O, (zAf _), rfl⟩
  have h6 := z05 g4 h2
  refine W.q2 (hg := gk rfl rfl gv5 rfl) (.string p0) rfl ?_
  obtain ⟨x7, i8, h9⟩ := z01 h6
  refine W.pure (v := (.int .u8 x7)) (gk rfl rfl gv5 rfl) rfl (za5 un9 ov ov i8) (W.q3 (hg := gk rfl rfl gv5 rfl) (.bool (x7 == 45)) rfl rfl (W.q4 (.bool (x7 == 45)) gv5 rfl (.nil ?_)))
  obtain rfl := zAa h9
  exact ⟨(x7 == 45), _, rfl, O, (zAf _), rfl⟩
 rintro σ12 H13 fr14 ⟨x11, G15, rfl, O16, s17, t19⟩
 have h20 := z09 h3
 obtain ⟨q21, h22, h23⟩ := z01 h20
 refine AW.midT (fun σ' H' => ∃ (y1 : zAd) (y2 : Bool) (G' : GM), (y1, y2) = q21 /\ Ow G' H' (L) /\ GM.le G15 G' /\ σ' 3 = .string y1 /\ σ' 4 = .bool y2) ?_ ?_
 .refine .cond (b := x11) rfl t19 (fun g24 => ?_) (fun g24 => ?_)
  rotate_left
  .have h29 := z0j g24 h22
   refine .skip ?_
   obtain rfl := zAa h29
   exact ⟨p0, false, _, rfl, O16, (zAf _), ((fr14 3 rfl).trans rfl), ((fr14 4 rfl).trans rfl)⟩
  have h25 := z05 g24 h22
  refine .region (W.q2 (.string p0) ((fr14 3 rfl).trans rfl) ?_)
  obtain ⟨x26, i27, h28⟩ := z01 h25
  refine W.pv (.string x26) (zdr un9 ov ov i27) (W.p1 (.string x26) (W.p1 (.bool true) (.nil ?_)))
  obtain rfl := zAa h28
  exact ⟨x26, true, _, rfl, O16, (zAf _), rfl, rfl⟩
 rintro σ32 H33 fr34 ⟨x30, x31, G35, rfl, O36, s37, t39, t40⟩
 have h41 := z52 h23
 refine .seq (.region (W.q2 _ t39 (W.p1 (.string x30) (W.p1 (.string (⟨#[50]⟩ : zAd)) (.nil (.seq ?_))))))
 refine .seq (.region (W.q2 _ t39 (W.pv (.int .i64 (x30.size : Int)) (z1h ov un9) (W.p2 (.int .i64 0) (.nil ?_)))))
 obtain ⟨q42, h43, h44⟩ := z01 h41
 refine AW.midT (fun σ' H' => ∃ (y1 : Int) (y2 : zAd) (y3 : zAd) (G' : GM), (y1, y2, y3) = q42 /\ Ow G' H' (L) /\ GM.le G35 G' /\ σ' 5 = .int .i64 y1 /\ σ' 6 = .string y2 /\ σ' 7 = .string y3) ?_ ?_
 .refine .block (AW.loop (α := Nat) (fun k' σ' H' => ∃ (y1 : Int) (y2 : zAd) (y3 : zAd) (y4 : Int) (G' : GM), z12 K x30 k' y1 y2 y3 y4 = some q42 /\ Ow G' H' (L) /\ GM.le G35 G' /\ σ' 5 = .int .i64 y1 /\ σ' 6 = .string y2 /\ σ' 7 = .string y3 /\ σ' 25 = .int .i64 y4) (fun k' => k') K ⟨1, x30, (⟨#[50]⟩ : zAd), 0, _, h43, O36, (zAf _), ((fr34 5 rfl).trans ((fr14 5 rfl).trans rfl)), rfl, rfl, rfl⟩ ?_)
  rintro k45
  rintro σ50 H51 fr52 ⟨x46, x47, x48, x49, G53, h56, O54, s55, t57, t58, t59, t60⟩
  rcases k45 with _ | k45
  .exact z07 h56
  rw [z12] at h56
  refine .seq (.region (W.q3 (.bool (decide (x49 < (x30.size : Int)))) t60 ((fr52 24 rfl).trans rfl) (.nil (.seq (.cond (b := decide (x49 < (x30.size : Int))) rfl rfl (fun g61 => ?_) (fun g61 => ?_))))))
  rotate_left
  .have h114 := z0j g61 h56
   refine .exit ?_
   obtain rfl := zAa h114
   exact ⟨x46, x47, x48, _, rfl, O54, s55, t57, t58, t59⟩
  have h62 := z05 g61 h56
  refine .skip (.seq ?_)
  obtain ⟨q63, h64, h65⟩ := z01 h62
  refine AW.midT (fun σ' H' => ∃ (y1 : Int) (y2 : zAd) (y3 : zAd) (G' : GM), (y1, y2, y3) = q63 /\ Ow G' H' (L) /\ GM.le G53 G' /\ σ' 5 = .int .i64 y1 /\ σ' 6 = .string y2 /\ σ' 7 = .string y3) ?_ ?_
  rotate_left
  .rintro σ103 H104 fr105 ⟨x100, x101, x102, G106, rfl, O107, s108, t110, t111, t112⟩
   have h113 := zel h65
   refine .region (W.q3 (.int .i64 (z02 .i64 (x49 + 1))) ((fr105 25 rfl).trans t60) rfl (W.p2 (.int .i64 (z02 .i64 (x49 + 1))) (.nil ?_)))
   exact ⟨k45, zAg _, ⟨x100, x101, x102, z02 .i64 (x49 + 1), _, h113, O107, (zAe s55 s108), t110, t111, t112, rfl⟩⟩
  refine .block (.seq (.region (W.q2 _ t60 (W.p1 (.int .i64 x49) (.nil (.seq ?_))))))
  obtain ⟨q66, h67, h68⟩ := z01 h64
  refine AW.midT (fun σ' H' => ∃ (y1 : Bool) (G' : GM), y1 = q66 /\ Ow G' H' (L) /\ GM.le G53 G' /\ σ' 35 = .bool y1) ?_ ?_
  .refine .region (W.q2 _ ((fr52 3 rfl).trans t39) (W.p2 (.int .i64 x49) ?_))
   obtain ⟨x69, i70, h71⟩ := z01 h67
   refine W.pv (.int .u8 x69) (za5 un9 ov ov i70) (W.p3 (.bool (x69 == 47)) (W.p2 (.bool (x69 == 47)) (W.splitAt (t := 32) (b := (x69 == 47)) rfl (fun g72 gv73 => ?_) (fun g72 gv73 => ?_))))
   rotate_left
   .have h75 := z0j g72 h71
    refine W.q6 rfl gv73 (W.q6 rfl gv73 (W.q5 (.bool false) gv73 rfl (.nil ?_)))
    obtain rfl := zAa h75
    exact ⟨false, _, rfl, O54, (zAf _), rfl⟩
   have h74 := z05 g72 h71
   refine W.q2 (hg := gk rfl rfl gv73 rfl) _ t57 (W.q3 (hg := gk rfl rfl gv73 rfl) (.bool (x46 == 1)) rfl rfl (W.q4 (.bool (x46 == 1)) gv73 rfl (.nil ?_)))
   obtain rfl := zAa h74
   exact ⟨(x46 == 1), _, rfl, O54, (zAf _), rfl⟩
  rintro σ77 H78 fr79 ⟨x76, G80, rfl, O81, s82, t84⟩
  have h85 := z09 h68
  refine .cond (b := x76) rfl t84 (fun g86 => ?_) (fun g86 => ?_)
  rotate_left
  .have h99 := z0j g86 h85
   refine .skip ?_
   obtain rfl := zAa h99
   exact ⟨x46, x47, x48, _, rfl, O81, s82, ((fr79 5 rfl).trans t57), ((fr79 6 rfl).trans t58), ((fr79 7 rfl).trans t59)⟩
  have h87 := z05 g86 h85
  refine .draw2 (M := [0, 0, 3, 0, 0, 16, 56, 7, 255, 511]) mixed (by kernel_rfl) (by kernel_rfl) fun H88 N92 x89 F91 => ?_
  have O90 := O81.ext x89
  refine D2.q2 _ ((fr79 3 rfl).trans ((fr52 3 rfl).trans t39)) (D2.q2 (.int .i64 x49) ((fr79 8 rfl).trans rfl) ?_)
  obtain ⟨x93, i94, h95⟩ := z01 h87
  refine D2.pv (.string x93) (zha un9 ov ov i94) (D2.q2 _ ((fr79 3 rfl).trans ((fr52 3 rfl).trans t39)) (D2.q2 (.int .i64 x49) ((fr79 8 rfl).trans rfl) (D2.p3 (.int .i64 (z02 .i64 (x49 + 1))) ?_)))
  obtain ⟨x96, i97, h98⟩ := z01 h95
  refine D2.pv (.string x96) (zdr un9 ov ov i97) (D2.p1 (.string x93) (D2.p1 (.string x96) (D2.p1 (.int .i64 2) (.nil ?_))))
  obtain rfl := zAa h98
  exact ⟨2, x93, x96, _, rfl, O90, s82, rfl, rfl, rfl⟩
 rintro σ118 H119 fr120 ⟨x115, x116, x117, G121, rfl, O122, s123, t125, t126, t127⟩
 have h128 := zel h44
 refine .seq (.region (W.q2 _ t126 ?_))
 obtain ⟨x129, i130, h131⟩ := z01 h128
 refine W.ln (Lo.cP rfl (fn := Tryz.f59) (by kernel_rfl) rfl (mc rfl mn) O122 (fun L' O' => z7x K x116 O' _ i130)) ?_
 rintro v138 H139 ⟨G132, O133, s134, sm137, rfl⟩
 refine W.q2 _ t127 ?_
 obtain ⟨x140, i141, h142⟩ := z01 h131
 refine W.ln (Lo.cP rfl (fn := Tryz.f59) (by kernel_rfl) rfl (mc rfl mn) O133 (fun L' O' => z7x K x117 O' _ i141)) ?_
 rintro v149 H150 ⟨G143, O144, s145, sm148, rfl⟩
 refine W.p1 (.int .i64 x129) (W.p1 (.int .i64 x140) (.nil (.seq (.block (.seq ?_)))))
 obtain ⟨q151, h152, h153⟩ := z01 h142
 refine AW.midT (fun σ' H' => ∃ (y1 : Bool) (G' : GM), y1 = q151 /\ Ow G' H' (L) /\ GM.le G143 G' /\ σ' 48 = .bool y1) ?_ ?_
 .refine .region (W.p2 (.int .i64 x129) (W.p3 (.bool (x129 == 5)) (W.p2 (.bool (x129 == 5)) (W.splitAt (t := 51) (b := (x129 == 5)) rfl (fun g154 gv155 => ?_) (fun g154 gv155 => ?_)))))
  .have h156 := z05 g154 h152
   refine W.q6 rfl gv155 (W.q6 rfl gv155 (W.q4 (.bool true) gv155 rfl (W.p2 (.bool true) (W.q6 rfl rfl (W.q6 rfl rfl (W.skipU rfl rfl rfl rfl ?_))))))
   refine W.skipU rfl rfl rfl rfl (W.q6 rfl rfl (W.q4 (.bool true) rfl rfl (W.p1 (.bool true) (.nil ?_))))
   obtain rfl := zAa h156
   exact ⟨true, _, rfl, O144, (zAf _), rfl⟩
  have h157 := z0j g154 h152
  refine W.q2 (hg := gk rfl rfl gv155 rfl) (.int .i64 x140) rfl (W.q3 (hg := gk rfl rfl gv155 rfl) (.bool (x140 == 5)) rfl rfl (W.q5 (.bool (x140 == 5)) gv155 rfl (W.p2 (.bool (x140 == 5)) (W.splitAt (t := 55) (b := (x140 == 5)) rfl (fun g158 gv159 => ?_) (fun g158 gv159 => ?_)))))
  .have h160 := z05 g158 h157
   refine W.q6 rfl gv159 (W.q6 rfl gv159 (W.skipU rfl rfl rfl rfl (W.skipU rfl rfl rfl rfl (W.q6 rfl gv159 (W.q4 (.bool true) gv159 rfl (W.p1 (.bool true) ?_))))))
   refine .nil ?_
   obtain rfl := zAa h160
   exact ⟨true, _, rfl, O144, (zAf _), rfl⟩
  have h161 := z0j g158 h157
  refine W.q2 (hg := gk rfl rfl gv159 rfl) _ ((fr120 4 rfl).trans t40) (W.q2 (hg := gk rfl rfl gv159 rfl) (.bool x31) rfl (W.splitAt (t := 57) (b := x31) rfl (fun g162 gv163 => ?_) (fun g162 gv163 => ?_)))
  rotate_left
  .have h165 := z0j g162 h161
   refine W.q6 rfl gv163 (W.q6 rfl gv163 (W.q5 (hg := gk rfl rfl gv159 rfl) (.bool false) gv163 rfl (W.q5 (.bool false) gv159 rfl (W.p1 (.bool false) (.nil ?_)))))
   obtain rfl := zAa h165
   exact ⟨false, _, rfl, O144, (zAf _), rfl⟩
  have h164 := z05 g162 h161
  refine W.q2 (hg := gk rfl rfl gv163 rfl) _ t126 (W.pure (v := (.bool (sEq x116 (⟨#[48]⟩ : zAd)))) (gk rfl rfl gv163 rfl) rfl (z9j ov ov) (W.q4 (hg := gk rfl rfl gv159 rfl) (.bool (sEq x116 (⟨#[48]⟩ : zAd))) gv163 rfl (W.q5 (.bool (sEq x116 (⟨#[48]⟩ : zAd))) gv159 rfl (W.p1 (.bool (sEq x116 (⟨#[48]⟩ : zAd))) (.nil ?_)))))
  obtain rfl := zAa h164
  exact ⟨sEq x116 (⟨#[48]⟩ : zAd), _, rfl, O144, (zAf _), rfl⟩
 rintro σ167 H168 fr169 ⟨x166, G170, rfl, O171, s172, t174⟩
 have h175 := z09 h153
 refine .cond (b := x166) rfl t174 (fun g176 => ?_) (fun g176 => ?_)
 .have h177 := z05 g176 h175
  refine .seq (.region (W.p1 (.int .i64 5) (.nil (.ret ?_))))
  obtain rfl := zAa h177
  exact z1q kr (v1 := (.int .i64 5)) (by rfl) rt O171 (zAe s17 (zAe s37 (zAe s123 (zAe s134 (zAe s145 s172))))) rfl
 have h178 := z0j g176 h175
 refine .seq ?_
 obtain ⟨q179, h180, h181⟩ := z01 h178
 refine AW.midT (fun σ' H' => ∃ (y1 : Bool) (G' : GM), y1 = q179 /\ Ow G' H' (L) /\ GM.le G170 G' /\ σ' 62 = .bool y1) ?_ ?_
 .refine .region (W.q2 (.int .i64 x129) ((fr169 9 rfl).trans rfl) (W.p3 (.bool (x129 != 0)) (W.p2 (.bool (x129 != 0)) (W.splitAt (t := 65) (b := (x129 != 0)) rfl (fun g182 gv183 => ?_) (fun g182 gv183 => ?_)))))
  .have h184 := z05 g182 h180
   refine W.q6 rfl gv183 (W.q6 rfl gv183 (W.q4 (.bool true) gv183 rfl (W.p1 (.bool true) (.nil ?_))))
   obtain rfl := zAa h184
   exact ⟨true, _, rfl, O171, (zAf _), rfl⟩
  have h185 := z0j g182 h180
  refine W.q2 (hg := gk rfl rfl gv183 rfl) (.int .i64 x140) ((fr169 10 rfl).trans rfl) (W.q3 (hg := gk rfl rfl gv183 rfl) (.bool (x140 != 0)) rfl rfl (W.q5 (.bool (x140 != 0)) gv183 rfl (W.p1 (.bool (x140 != 0)) (.nil ?_))))
  obtain rfl := zAa h185
  exact ⟨(x140 != 0), _, rfl, O171, (zAf _), rfl⟩
 rintro σ187 H188 fr189 ⟨x186, G190, rfl, O191, s192, t194⟩
 have h195 := z09 h181
 refine .cond (b := x186) rfl t194 (fun g196 => ?_) (fun g196 => ?_)
 .have h197 := z05 g196 h195
  refine .seq (.region (W.p1 (.int .i64 2) (.nil (.ret ?_))))
  obtain rfl := zAa h197
  exact z1q kr (v1 := (.int .i64 2)) (by rfl) rt O191 (zAe s17 (zAe s37 (zAe s123 (zAe s134 (zAe s145 (zAe s172 s192)))))) rfl
 have h198 := z0j g196 h195
 refine .seq ?_
 obtain ⟨q199, h200, h201⟩ := z01 h198
 refine AW.midT (fun σ' H' => ∃ (y1 : Bool) (G' : GM), y1 = q199 /\ Ow G' H' (L) /\ GM.le G190 G' /\ σ' 69 = .bool y1) ?_ ?_
 rotate_left
 .rintro σ226 H227 fr228 ⟨x225, G229, rfl, O230, s231, t233⟩
  have h234 := z09 h201
  refine .cond (b := x225) rfl t233 (fun g235 => ?_) (fun g235 => ?_)
  .have h236 := z05 g235 h234
   refine .seq (.region (W.p1 (.int .i64 3) (.nil (.ret ?_))))
   obtain rfl := zAa h236
   exact z1q kr (v1 := (.int .i64 3)) (by rfl) rt O230 (zAe s17 (zAe s37 (zAe s123 (zAe s134 (zAe s145 (zAe s172 (zAe s192 s231))))))) rfl
  have h237 := z0j g235 h234
  refine .skip (.seq (.region (W.p1 (.int .i64 0) (.nil (.ret ?_)))))
  obtain rfl := zAa h237
  exact z1q kr (v1 := (.int .i64 0)) (by rfl) rt O230 (zAe s17 (zAe s37 (zAe s123 (zAe s134 (zAe s145 (zAe s172 (zAe s192 s231))))))) rfl
 refine .region (W.q2 _ ((fr189 5 rfl).trans ((fr169 5 rfl).trans t125)) (W.p3 (.bool (x115 == 2)) (W.p2 (.bool (x115 == 2)) (W.splitAt (t := 72) (b := (x115 == 2)) rfl (fun g202 gv203 => ?_) (fun g202 gv203 => ?_)))))
 rotate_left
 .have h224 := z0j g202 h200
  refine W.q6 rfl gv203 (W.q6 rfl gv203 (W.q6 rfl gv203 (W.skipU rfl rfl rfl rfl (W.skipU rfl rfl rfl rfl (W.q6 rfl gv203 (W.q6 rfl gv203 ?_))))))
  refine W.skipU rfl rfl rfl rfl (W.skipU rfl rfl rfl rfl (W.skipU rfl rfl rfl rfl (W.skipU rfl rfl rfl rfl (W.q6 rfl gv203 (W.q5 (.bool false) gv203 rfl (W.p1 (.bool false) ?_))))))
  refine .nil ?_
  obtain rfl := zAa h224
  exact ⟨false, _, rfl, O191, (zAf _), rfl⟩
 have h204 := z05 g202 h200
 refine W.q2 (hg := gk rfl rfl gv203 rfl) _ ((fr189 7 rfl).trans ((fr169 7 rfl).trans t127)) (W.pure (v := (.bool (sEq x117 (⟨#[48]⟩ : zAd)))) (gk rfl rfl gv203 rfl) rfl (z9j ov ov) (W.q2 (hg := gk rfl rfl gv203 rfl) (.bool (sEq x117 (⟨#[48]⟩ : zAd))) rfl (W.splitAt (t := 75) (b := sEq x117 (⟨#[48]⟩ : zAd)) rfl (fun g205 gv206 => ?_) (fun g205 gv206 => ?_))))
 .have h207 := z05 g205 h204
  refine W.q6 rfl gv206 (W.q6 rfl gv206 (W.q4 (hg := gk rfl rfl gv203 rfl) (.bool true) gv206 rfl (W.q2 (hg := gk rfl rfl gv203 rfl) (.bool true) rfl (W.q6 rfl rfl (W.q6 rfl rfl (W.q6 rfl rfl ?_))))))
  refine W.q6 rfl rfl (W.q4 (hg := gk rfl rfl gv203 rfl) (.bool true) rfl rfl (W.q4 (.bool true) gv203 rfl (W.p1 (.bool true) (.nil ?_))))
  obtain rfl := zAa h207
  exact ⟨true, _, rfl, O191, (zAf _), rfl⟩
 have h208 := z0j g205 h204
 refine W.q2 (hg := gk rfl rfl gv206 rfl) _ ((fr189 7 rfl).trans ((fr169 7 rfl).trans t127)) (W.pure (v := (.bool (sEq x117 (⟨#[49]⟩ : zAd)))) (gk rfl rfl gv206 rfl) rfl (z9j ov ov) (W.q5 (hg := gk rfl rfl gv203 rfl) (.bool (sEq x117 (⟨#[49]⟩ : zAd))) gv206 rfl (W.q2 (hg := gk rfl rfl gv203 rfl) (.bool (sEq x117 (⟨#[49]⟩ : zAd))) rfl (W.splitAt (t := 79) (b := sEq x117 (⟨#[49]⟩ : zAd)) rfl (fun g209 gv210 => ?_) (fun g209 gv210 => ?_)))))
 .have h211 := z05 g209 h208
  refine W.q6 rfl gv210 (W.q6 rfl gv210 (W.q6 rfl gv210 (W.q6 rfl gv210 (W.q4 (hg := gk rfl rfl gv203 rfl) (.bool true) gv210 rfl (W.q4 (.bool true) gv203 rfl (W.p1 (.bool true) ?_))))))
  refine .nil ?_
  obtain rfl := zAa h211
  exact ⟨true, _, rfl, O191, (zAf _), rfl⟩
 have h212 := z0j g209 h208
 refine W.q2 (hg := gk rfl rfl gv210 rfl) _ ((fr189 6 rfl).trans ((fr169 6 rfl).trans t126)) (W.q2 (hg := gk rfl rfl gv210 rfl) _ ((fr189 7 rfl).trans ((fr169 7 rfl).trans t127)) ?_)
 obtain ⟨x213, i214, h215⟩ := z01 h212
 refine W.lo (gk rfl rfl gv210 rfl) rfl (Lo.cP rfl (fn := Tryz.f60) (by kernel_rfl) rfl (mc rfl (mc rfl mn)) O191 (fun L' O' => z9c K x116 x117 O' _ i214)) ?_
 rintro v222 H223 ⟨G216, O217, s218, sm221, rfl⟩
 refine W.pure (v := (.bool (!(sEq x213 (⟨#[49]⟩ : zAd))))) (gk rfl rfl gv210 rfl) rfl (zlp ov ov) (W.q5 (hg := gk rfl rfl gv203 rfl) (.bool (!(sEq x213 (⟨#[49]⟩ : zAd)))) gv210 rfl (W.q4 (.bool (!(sEq x213 (⟨#[49]⟩ : zAd)))) gv203 rfl (W.p1 (.bool (!(sEq x213 (⟨#[49]⟩ : zAd)))) (.nil ?_))))
 obtain rfl := zAa h215
 exact ⟨(!(sEq x213 (⟨#[49]⟩ : zAd))), _, rfl, O217, s218, rfl⟩
def z17 (K : Nat) (p0 : List zAd) : Nat -> Int -> Option (Int ⊕ Unit)
  | 0, _ => none
  | k + 1, x5 => (if (decide (x5 < (p0.length : Int))) = true then ((idx p0 x5).bind fun x16 => ((z4g K x16).bind fun x20 => (if (x20 != 0) = true then some (.inl x20) else z17 K p0 k (z02 .i64 (x5 + 1))))) else some (.inr ()))
def z4v (K : Nat) (p0 : List zAd) : Option Int := (zbw (z17 K p0 K 0) (tu1 fun a44 => some a44) (tu0 (some 0)))
theorem zae (v0 : Value) (p0 : List zAd) (hp0 : (rSl rS).rep G [v0] p0) (O : Ow G H (L)) (r : Int) (h : z4v K p0 = some r) :
    CR Tryz.prog 58 [v0] G H (L) (fun v G' _ => v = .int .i64 r) := by
 unfold z4v at h
 refine CR.og (n := 18) (fn := Tryz.f58) (by kernel_rfl) rfl rfl fun R kr => (.seq (.region (W.p1 (.int .i64 0) (.nil (.seq (.seq ?_))))))
 refine .region (W.p2 v0 (W.pv (.int .i64 (p0.length : Int)) (z0i ov (z0c hp0) (z04 el23)) (W.p2 (.int .i64 0) (.nil ?_))))
 obtain ⟨q1, h2, h3⟩ := z3m h
 refine AW.midT (fun σ' H' => ∃  (G' : GM), (.inr ()) = q1 /\ Ow G' H' (L) /\ GM.le G G') ?_ ?_
 rotate_left
 .rintro σ36 H37 fr38 ⟨G39, rfl, O40, s41⟩
  have h43 := z6y (z9i h3)
  refine .seq (.region (W.p1 (.int .i64 0) (.nil (.ret ?_))))
  obtain rfl := zAa h43
  exact z1q kr (v1 := (.int .i64 0)) (by rfl) rt O40 s41 rfl
 refine .block (AW.loop (α := Nat) (fun k' σ' H' => ∃ (y1 : Int) (G' : GM), z17 K p0 k' y1 = some q1 /\ Ow G' H' (L) /\ GM.le G G' /\ σ' 8 = .int .i64 y1) (fun k' => k') K ⟨0, _, h2, O, (zAf _), rfl⟩ ?_)
 rintro k4
 rintro σ6 H7 fr8 ⟨x5, G9, h12, O10, s11, t13⟩
 rcases k4 with _ | k4
 .exact z07 h12
 rw [z17] at h12
 refine .seq (.region (W.q3 (.bool (decide (x5 < (p0.length : Int)))) t13 ((fr8 7 rfl).trans rfl) (.nil (.seq (.cond (b := decide (x5 < (p0.length : Int))) rfl rfl (fun g14 => ?_) (fun g14 => ?_))))))
 rotate_left
 .have h35 := z0j g14 h12
  refine .exit ?_
  obtain rfl := zAa h35
  exact ⟨_, rfl, O10, s11⟩
 have h15 := z05 g14 h12
 refine .skip (.seq (.block (.seq (.region ?_))))
 obtain ⟨x16, i17, h18⟩ := z01 h15
 have j19 := z0a i17
 refine W.pv (z1m v0 (x5.toNat * 1)) (z2e el23 sz22 (ou ((fr8 6 rfl).trans rfl)) (ou t13) (z0c (RT.mono _ s11 hp0)) j19.1 j19.2.1) (W.load1 (v := (.string x16)) (r := []) rfl rfl ag22 (z0t rfl (At.str (At.le (At.le (z2f hp0 j19.2.2) s11 s11) (zAf _) O10.fro))) (W.p1 (.string x16) (.nil (.seq (.region (W.p2 (.string x16) ?_))))))
 obtain ⟨x20, i21, h22⟩ := z01 h18
 refine W.ln (Lo.cP rfl (fn := Tryz.f16) (by kernel_rfl) rfl (mc rfl mn) O10 (fun L' O' => zax K x16 O' _ i21)) ?_
 rintro v29 H30 ⟨G23, O24, s25, sm28, rfl⟩
 refine W.p1 (.int .i64 x20) (.nil (.seq (.region (W.p2 (.int .i64 x20) (W.p3 (.bool (x20 != 0)) (.nil ?_))))))
 refine .cond (b := (x20 != 0)) rfl rfl (fun g31 => ?_) (fun g31 => ?_)
 rotate_left
 .have h34 := z0j g31 h22
  refine .skip (.region (W.r3 (.int .i64 (z02 .i64 (x5 + 1))) t13 (W.p2 (.int .i64 (z02 .i64 (x5 + 1))) (.nil ?_))))
  exact ⟨k4, zAg _, ⟨z02 .i64 (x5 + 1), _, h34, O24, (zAe s11 s25), rfl⟩⟩
 have h32 := z05 g31 h22
 refine .seq (.region (W.p2 (.int .i64 x20) (W.p1 (.int .i64 x20) (.nil (.ret ?_)))))
 obtain rfl := zAa h32
 have h33 := z09 (z7t h3)
 obtain rfl := zAa h33
 exact z1q kr (v1 := (.int .i64 x20)) (by rfl) rt O24 (zAe s11 s25) rfl
def z5m (K : Nat) (p0 : List zAd) : Option Int := (if (decide ((p0.length : Int) > 40)) = true then some 2 else ((z4v K p0).bind fun x4 => some x4))
theorem zay (v0 : Value) (p0 : List zAd) (hp0 : (rSl rS).rep G [v0] p0) (O : Ow G H (L)) (r : Int) (h : z5m K p0 = some r) :
    CR Tryz.prog 33 [v0] G H (L) (fun v G' _ => v = .int .i64 r) := by
 unfold z5m at h
 refine CR.og (n := 8) (fn := Tryz.f33) (by kernel_rfl) rfl rfl fun R kr => (.seq (.region (W.p1 (.int .i64 0) (.nil (.seq (.seq ?_))))))
 refine .region (W.p2 v0 (W.pv (.int .i64 (p0.length : Int)) (z0i ov (z0c hp0) (z04 el45)) (W.p3 (.bool (decide ((p0.length : Int) > 40))) (.nil (.cond (b := decide ((p0.length : Int) > 40)) rfl rfl (fun g1 => ?_) (fun g1 => ?_))))))
 .have h2 := z05 g1 h
  refine .seq (.region (W.p1 (.int .i64 2) (.nil (.ret ?_))))
  obtain rfl := zAa h2
  exact z1q kr (v1 := (.int .i64 2)) (by rfl) rt O (zAf _) rfl
 have h3 := z0j g1 h
 refine .skip (.seq (.region (W.p2 v0 ?_)))
 obtain ⟨x4, i5, h6⟩ := z01 h3
 refine W.ln (Lo.cP rfl (fn := Tryz.f58) (by kernel_rfl) rfl (mc rfl mn) O (fun L' O' => zae K v0 p0 hp0 O' _ i5)) ?_
 rintro v13 H14 ⟨G7, O8, s9, sm12, rfl⟩
 refine W.p1 (.int .i64 x4) (.nil (.ret ?_))
 obtain rfl := zAa h6
 exact z1q kr (v1 := (.int .i64 x4)) (by rfl) rt O8 s9 rfl
def z1d (K : Nat) (p0 : List (List zAd)) : Nat -> Int -> Option (Int ⊕ Unit)
  | 0, _ => none
  | k + 1, x8 => (if (decide (x8 < (p0.length : Int))) = true then ((idx p0 x8).bind fun x24 => ((idx p0 0).bind fun x31 => (if ((x24.length : Int) != (x31.length : Int)) = true then some (.inl 3) else ((idx p0 x8).bind fun x42 => ((z5m K x42).bind fun x49 => (if (x49 != 0) = true then some (.inl x49) else z1d K p0 k (z02 .i64 (x8 + 1)))))))) else some (.inr ()))
def z3k (K : Nat) (p0 : List (List zAd)) : Option Int := (if (decide ((p0.length : Int) > 40)) = true then some 2 else (zbw (z1d K p0 K 0) (tu1 fun a73 => some a73) (tu0 (some 0))))
theorem z94 (v0 : Value) (p0 : List (List zAd)) (hp0 : (rSl (rSl rS)).rep G [v0] p0) (O : Ow G H (L)) (r : Int) (h : z3k K p0 = some r) :
    CR Tryz.prog 30 [v0] G H (L) (fun v G' _ => v = .int .i64 r) := by
 unfold z3k at h
 refine CR.og (n := 32) (fn := Tryz.f30) (by kernel_rfl) rfl rfl fun R kr => (.seq (.region (W.p1 (.int .i64 0) (.nil (.seq (.seq ?_))))))
 refine .region (W.p2 v0 (W.pv (.int .i64 (p0.length : Int)) (z0i ov (z0c hp0) (z04 el44)) (W.p3 (.bool (decide ((p0.length : Int) > 40))) (.nil (.cond (b := decide ((p0.length : Int) > 40)) rfl rfl (fun g1 => ?_) (fun g1 => ?_))))))
 .have h2 := z05 g1 h
  refine .seq (.region (W.p1 (.int .i64 2) (.nil (.ret ?_))))
  obtain rfl := zAa h2
  exact z1q kr (v1 := (.int .i64 2)) (by rfl) rt O (zAf _) rfl
 have h3 := z0j g1 h
 refine .skip (.seq (.seq (.region (W.p2 v0 (W.pv (.int .i64 (p0.length : Int)) (z0i ov (z0c hp0) (z04 el44)) (W.p2 (.int .i64 0) ?_))))))
 refine .nil ?_
 obtain ⟨q4, h5, h6⟩ := z3m h3
 refine AW.midT (fun σ' H' => ∃  (G' : GM), (.inr ()) = q4 /\ Ow G' H' (L) /\ GM.le G G') ?_ ?_
 rotate_left
 .rintro σ65 H66 fr67 ⟨G68, rfl, O69, s70⟩
  have h72 := z6y (z9i h6)
  refine .seq (.region (W.p1 (.int .i64 0) (.nil (.ret ?_))))
  obtain rfl := zAa h72
  exact z1q kr (v1 := (.int .i64 0)) (by rfl) rt O69 s70 rfl
 refine .block (AW.loop (α := Nat) (fun k' σ' H' => ∃ (y1 : Int) (G' : GM), z1d K p0 k' y1 = some q4 /\ Ow G' H' (L) /\ GM.le G G' /\ σ' 10 = .int .i64 y1) (fun k' => k') K ⟨0, _, h5, O, (zAf _), rfl⟩ ?_)
 rintro k7
 rintro σ9 H10 fr11 ⟨x8, G12, h15, O13, s14, t16⟩
 rcases k7 with _ | k7
 .exact z07 h15
 rw [z1d] at h15
 refine .seq (.region (W.q3 (.bool (decide (x8 < (p0.length : Int)))) t16 ((fr11 9 rfl).trans rfl) (.nil (.seq (.cond (b := decide (x8 < (p0.length : Int))) rfl rfl (fun g17 => ?_) (fun g17 => ?_))))))
 rotate_left
 .have h64 := z0j g17 h15
  refine .exit ?_
  obtain rfl := zAa h64
  exact ⟨_, rfl, O13, s14⟩
 have h18 := z05 g17 h15
 refine .skip (.seq (.block (.seq (.region (W.q2 _ t16 (W.p1 (.int .i64 x8) ?_))))))
 refine .nil (.seq (.seq (.draw2 (M := [0, 0, 3, 7, 15, 0, 32, 96, 224, 511]) mixed (by kernel_rfl) (by kernel_rfl) fun H19 N23 x20 F22 => ?_)))
 have O21 := O13.ext x20
 refine D2.q2 v0 ((fr11 0 rfl).trans rfl) (D2.p2 (.int .i64 x8) ?_)
 obtain ⟨x24, i25, h26⟩ := z01 h18
 have j27 := z0a i25
 refine D2.pv (z1m v0 (x8.toNat * 1)) (z2e el44 sz45 ov ov (z0c (RT.mono _ s14 hp0)) j27.1 j27.2.1) ?_
 obtain ⟨w28, p29, f30⟩ := At.sl (At.le (z2f hp0 j27.2.2) s14 s14)
 replace p29 := PtG.le p29 O21.fro
 refine D2.load1' (v := w28) (r := []) rfl rfl ag45 (z0t rfl p29) z06 (D2.pv (.int .i64 (x24.length : Int)) (z0i ov (z0c f30) (z04 el45)) (D2.q2 v0 ((fr11 0 rfl).trans rfl) ?_))
 obtain ⟨x31, i32, h33⟩ := z01 h26
 have j34 := z0a i32
 refine D2.pv (z1m v0 (Int.toNat 0 * 1)) (z2e el44 sz45 ov ov (z0c (RT.mono _ s14 hp0)) j34.1 j34.2.1) ?_
 obtain ⟨w35, p36, f37⟩ := At.sl (At.le (z2f hp0 j34.2.2) s14 s14)
 replace p36 := PtG.le p36 O21.fro
 refine D2.load1' (v := w35) (r := []) rfl rfl ag45 (z0t rfl p36) z06 (D2.pv (.int .i64 (x31.length : Int)) (z0i ov (z0c f37) (z04 el45)) (D2.p3 (.bool ((x24.length : Int) != (x31.length : Int))) (.nil (.cond (b := ((x24.length : Int) != (x31.length : Int))) rfl rfl (fun g38 => ?_) (fun g38 => ?_)))))
 .have h39 := z05 g38 h33
  refine .seq (.region (W.p1 (.int .i64 3) (.nil (.ret ?_))))
  obtain rfl := zAa h39
  have h40 := z09 (z7t h6)
  obtain rfl := zAa h40
  exact z1q kr (v1 := (.int .i64 3)) (by rfl) rt O21 s14 rfl
 have h41 := z0j g38 h33
 refine .skip (.seq (.region (W.q2 v0 ((fr11 0 rfl).trans rfl) (W.p2 (.int .i64 x8) ?_))))
 obtain ⟨x42, i43, h44⟩ := z01 h41
 have j45 := z0a i43
 refine W.pv (z1m v0 (x8.toNat * 1)) (z2e el44 sz45 ov ov (z0c (RT.mono _ s14 hp0)) j45.1 j45.2.1) ?_
 obtain ⟨w46, p47, f48⟩ := At.sl (At.le (z2f hp0 j45.2.2) s14 s14)
 replace p47 := PtG.le p47 O21.fro
 refine W.load1 (v := w46) (r := []) rfl rfl ag45 (z0t rfl p47) ?_
 obtain ⟨x49, i50, h51⟩ := z01 h44
 refine W.ln (Lo.cP rfl (fn := Tryz.f33) (by kernel_rfl) rfl (mc rfl mn) O21 (fun L' O' => zay K w46 x42 f48 O' _ i50)) ?_
 rintro v58 H59 ⟨G52, O53, s54, sm57, rfl⟩
 refine W.p1 (.int .i64 x49) (.nil (.seq (.region (W.p2 (.int .i64 x49) (W.p3 (.bool (x49 != 0)) (.nil ?_))))))
 refine .cond (b := (x49 != 0)) rfl rfl (fun g60 => ?_) (fun g60 => ?_)
 rotate_left
 .have h63 := z0j g60 h51
  refine .skip (.region (W.r3 (.int .i64 (z02 .i64 (x8 + 1))) t16 (W.p2 (.int .i64 (z02 .i64 (x8 + 1))) (.nil ?_))))
  exact ⟨k7, zAg _, ⟨z02 .i64 (x8 + 1), _, h63, O53, (zAe s14 s54), rfl⟩⟩
 have h61 := z05 g60 h51
 refine .seq (.region (W.p2 (.int .i64 x49) (W.p1 (.int .i64 x49) (.nil (.ret ?_)))))
 obtain rfl := zAa h61
 have h62 := z09 (z7t h6)
 obtain rfl := zAa h62
 exact z1q kr (v1 := (.int .i64 x49)) (by rfl) rt O53 (zAe s14 s54) rfl
def z08 (K : Nat) (p0 : List zAd) (p1 : zAd -> Option Bool) : Nat -> Int -> Option (Int ⊕ Unit)
  | 0, _ => none
  | k + 1, x5 => (if (decide (x5 < (p0.length : Int))) = true then ((idx p0 x5).bind fun x16 => ((p1 x16).bind fun x20 => (if x20 = true then some (.inl x5) else z08 K p0 p1 k (z02 .i64 (x5 + 1))))) else some (.inr ()))
def z0l (K : Nat) (p0 : List zAd) (p1 : zAd -> Option Bool) : Option Int := (zbw (z08 K p0 p1 K 0) (tu1 fun a42 => some a42) (tu0 (some (-1))))
theorem z3l (v0 : Value) (p0 : List zAd) (hp0 : (rSl rS).rep G [v0] p0) (v1 : Value) (p1 : zAd -> Option Bool) (hp1 : FnOk Tryz.prog G v1 (fun _ vs (x : (zAd)) => vs = [.string x]) (fun _ v (rr : (Bool)) => v = .bool rr) p1) (O : Ow G H (L)) (r : Int) (h : z0l K p0 p1 = some r) :
    CR Tryz.prog 143 [v0, v1] G H (L) (fun v G' _ => v = .int .i64 r) := by
 unfold z0l at h
 refine CR.og (n := 19) (fn := Tryz.f143) (by kernel_rfl) rfl rfl fun R kr => (.seq (.region (W.p1 (.int .i64 0) (.nil (.seq (.seq ?_))))))
 refine .region (W.p2 v0 (W.pv (.int .i64 (p0.length : Int)) (z0i ov (z0c hp0) (z04 el45)) (W.p2 (.int .i64 0) (.nil ?_))))
 obtain ⟨q1, h2, h3⟩ := z3m h
 refine AW.midT (fun σ' H' => ∃  (G' : GM), (.inr ()) = q1 /\ Ow G' H' (L) /\ GM.le G G') ?_ ?_
 rotate_left
 .rintro σ34 H35 fr36 ⟨G37, rfl, O38, s39⟩
  have h41 := z6y (z9i h3)
  refine .seq (.region (W.p1 (.int .i64 (-1)) (.nil (.ret ?_))))
  obtain rfl := zAa h41
  exact z1q kr (v1 := (.int .i64 (-1))) (by rfl) rt O38 s39 rfl
 refine .block (AW.loop (α := Nat) (fun k' σ' H' => ∃ (y1 : Int) (G' : GM), z08 K p0 p1 k' y1 = some q1 /\ Ow G' H' (L) /\ GM.le G G' /\ σ' 8 = .int .i64 y1) (fun k' => k') K ⟨0, _, h2, O, (zAf _), rfl⟩ ?_)
 rintro k4
 rintro σ6 H7 fr8 ⟨x5, G9, h12, O10, s11, t13⟩
 rcases k4 with _ | k4
 .exact z07 h12
 rw [z08] at h12
 refine .seq (.region (W.q3 (.bool (decide (x5 < (p0.length : Int)))) t13 ((fr8 7 rfl).trans rfl) (.nil (.seq (.cond (b := decide (x5 < (p0.length : Int))) rfl rfl (fun g14 => ?_) (fun g14 => ?_))))))
 rotate_left
 .have h33 := z0j g14 h12
  refine .exit ?_
  obtain rfl := zAa h33
  exact ⟨_, rfl, O10, s11⟩
 have h15 := z05 g14 h12
 refine .skip (.seq (.block (.seq (.region (W.q2 _ t13 (W.p1 (.int .i64 x5) ?_))))))
 refine .nil (.seq (.region (W.q2 v1 ((fr8 1 rfl).trans rfl) (W.q2 v0 ((fr8 0 rfl).trans rfl) (W.p2 (.int .i64 x5) ?_)))))
 obtain ⟨x16, i17, h18⟩ := z01 h15
 have j19 := z0a i17
 refine W.pv (z1m v0 (x5.toNat * 1)) (z2e el45 sz22 ov ov (z0c (RT.mono _ s11 hp0)) j19.1 j19.2.1) (W.load1 (v := (.string x16)) (r := []) rfl rfl ag22 (z0t rfl (At.str (At.le (At.le (z2f hp0 j19.2.2) s11 s11) (zAf _) O10.fro))) ?_)
 obtain ⟨x20, i21, h22⟩ := z01 h18
 refine W.ln (Lo.callF (x0 := x16) rfl rfl (FnOk.le hp1 s11) (mc rfl mn) rfl i21 O10) ?_
 rintro v27 H28 ⟨G23, O24, s25, sm26, rfl⟩
 refine .nil (.cond (b := x20) rfl rfl (fun g29 => ?_) (fun g29 => ?_))
 rotate_left
 .have h32 := z0j g29 h22
  refine .skip (.region (W.r3 (.int .i64 (z02 .i64 (x5 + 1))) t13 (W.p2 (.int .i64 (z02 .i64 (x5 + 1))) (.nil ?_))))
  exact ⟨k4, zAg _, ⟨z02 .i64 (x5 + 1), _, h32, O24, (zAe s11 s25), rfl⟩⟩
 have h30 := z05 g29 h22
 refine .seq (.region (W.p2 (.int .i64 x5) (W.p1 (.int .i64 x5) (.nil (.ret ?_)))))
 obtain rfl := zAa h30
 have h31 := z09 (z7t h3)
 obtain rfl := zAa h31
 exact z1q kr (v1 := (.int .i64 x5)) (by rfl) rt O24 (zAe s11 s25) rfl
def z0g (K : Nat) (p0 : List zAd) (p1 : zAd -> Option Bool) : Option Bool := ((z0l K p0 p1).bind fun x1 => some (decide (x1 >= 0)))
theorem z38 (v0 : Value) (p0 : List zAd) (hp0 : (rSl rS).rep G [v0] p0) (v1 : Value) (p1 : zAd -> Option Bool) (hp1 : FnOk Tryz.prog G v1 (fun _ vs (x : (zAd)) => vs = [.string x]) (fun _ v (rr : (Bool)) => v = .bool rr) p1) (O : Ow G H (L)) (r : Bool) (h : z0g K p0 p1 = some r) :
    CR Tryz.prog 87 [v0, v1] G H (L) (fun v G' _ => v = .bool r) := by
 unfold z0g at h
 refine CR.og (n := 9) (fn := Tryz.f87) (by kernel_rfl) rfl rfl fun R kr => (.seq (.region (W.p1 (.bool false) (.nil (.seq (.region ?_))))))
 refine W.p2 v0 (W.p2 v1 ?_)
 obtain ⟨x1, i2, h3⟩ := z01 h
 refine W.ln (Lo.cP rfl (fn := Tryz.f143) (by kernel_rfl) rfl (mc rfl (mc rfl mn)) O (fun L' O' => z3l K v0 p0 hp0 v1 p1 hp1 O' _ i2)) ?_
 rintro v10 H11 ⟨G4, O5, s6, sm9, rfl⟩
 refine W.p3 (.bool (decide (x1 >= 0))) (W.p1 (.bool (decide (x1 >= 0))) (.nil (.ret ?_)))
 obtain rfl := zAa h3
 exact z1q kr (v1 := (.bool (decide (x1 >= 0)))) (by rfl) rt O5 s6 rfl
def z5n (K : Nat) (p0 : zAd) : Option Bool := some (decide ((p0.size : Int) > 12))
theorem zaz (p0 : zAd) (O : Ow G H (L)) (r : Bool) (h : z5n K p0 = some r) :
    CR Tryz.prog 88 [(.string p0)] G H (L) (fun v G' _ => v = .bool r) := by
 unfold z5n at h
 refine CR.og (n := 6) (fn := Tryz.f88) (by kernel_rfl) rfl rfl fun R kr => (.seq (.region (W.p1 (.bool false) (.nil (.seq (.region ?_))))))
 refine W.p2 (.string p0) (W.pv (.int .i64 (p0.size : Int)) (z1h ov un22) (W.p3 (.bool (decide ((p0.size : Int) > 12))) (W.p1 (.bool (decide ((p0.size : Int) > 12))) (.nil (.ret ?_)))))
 obtain rfl := zAa h
 exact z1q kr (v1 := (.bool (decide ((p0.size : Int) > 12)))) (by rfl) rt O (zAf _) rfl
def z2r (K : Nat) (p0 : Int) (x16 : List (List zAd)) : Nat -> Int -> Option (Bool ⊕ Unit)
  | 0, _ => none
  | k + 1, x31 => (if (decide (x31 < (x16.length : Int))) = true then ((idx x16 x31).bind fun x42 => (Option.bind ((if (decide ((x42.length : Int) > p0)) = true then some true else ((z0g K x42 (fun x => z5n K x)).bind fun x56 => some x56))) (tu1 fun x67 => (if x67 = true then some (.inl true) else z2r K p0 x16 k (z02 .i64 (x31 + 1)))))) else some (.inr ()))
def z39 (K : Nat) (p0 : Int) (p1 : List (List (List zAd))) : Nat -> Int -> Option (Bool ⊕ Unit)
  | 0, _ => none
  | k + 1, x5 => (if (decide (x5 < (p1.length : Int))) = true then ((idx p1 x5).bind fun x16 => (if (decide ((x16.length : Int) > p0)) = true then some (.inl true) else (zbw (z2r K p0 x16 K 0) (tu1 fun a91 => some (.inl a91)) (tu0 (z39 K p0 p1 k (z02 .i64 (x5 + 1))))))) else some (.inr ()))
def z6i (K : Nat) (p0 : Int) (p1 : List (List (List zAd))) : Option Bool := (zbw (z39 K p0 p1 K 0) (tu1 fun a101 => some a101) (tu0 (some false)))
theorem zcz (p0 : Int) (v1 : Value) (p1 : List (List (List zAd))) (hp1 : (rSl (rSl (rSl rS))).rep G [v1] p1) (O : Ow G H (L)) (r : Bool) (h : z6i K p0 p1 = some r) :
    CR Tryz.prog 32 [(.int .i64 p0), v1] G H (L) (fun v G' _ => v = .bool r) := by
 unfold z6i at h
 refine CR.og (n := 35) (fn := Tryz.f32) (by kernel_rfl) rfl rfl fun R kr => (.seq (.region (W.p1 (.bool false) (.nil (.seq (.seq ?_))))))
 refine .region (W.p2 v1 (W.pv (.int .i64 (p1.length : Int)) (z0i ov (z0c hp1) (z04 zp9)) (W.p2 (.int .i64 0) (.nil ?_))))
 obtain ⟨q1, h2, h3⟩ := z3m h
 refine AW.midT (fun σ' H' => ∃  (G' : GM), (.inr ()) = q1 /\ Ow G' H' (L) /\ GM.le G G') ?_ ?_
 rotate_left
 .rintro σ93 H94 fr95 ⟨G96, rfl, O97, s98⟩
  have h100 := z6y (z9i h3)
  refine .seq (.region (W.p1 (.bool false) (.nil (.ret ?_))))
  obtain rfl := zAa h100
  exact z1q kr (v1 := (.bool false)) (by rfl) rt O97 s98 rfl
 refine .block (AW.loop (α := Nat) (fun k' σ' H' => ∃ (y1 : Int) (G' : GM), z39 K p0 p1 k' y1 = some q1 /\ Ow G' H' (L) /\ GM.le G G' /\ σ' 11 = .int .i64 y1) (fun k' => k') K ⟨0, _, h2, O, (zAf _), rfl⟩ ?_)
 rintro k4
 rintro σ6 H7 fr8 ⟨x5, G9, h12, O10, s11, t13⟩
 rcases k4 with _ | k4
 .exact z07 h12
 rw [z39] at h12
 refine .seq (.region (W.q3 (.bool (decide (x5 < (p1.length : Int)))) t13 ((fr8 10 rfl).trans rfl) (.nil (.seq (.cond (b := decide (x5 < (p1.length : Int))) rfl rfl (fun g14 => ?_) (fun g14 => ?_))))))
 rotate_left
 .have h92 := z0j g14 h12
  refine .exit ?_
  obtain rfl := zAa h92
  exact ⟨_, rfl, O10, s11⟩
 have h15 := z05 g14 h12
 refine .skip (.seq (.block (.seq (.region ?_))))
 obtain ⟨x16, i17, h18⟩ := z01 h15
 have j19 := z0a i17
 refine W.pv (z1m v1 (x5.toNat * 1)) (z2e zp9 sz44 (ou ((fr8 9 rfl).trans rfl)) (ou t13) (z0c (RT.mono _ s11 hp1)) j19.1 j19.2.1) ?_
 obtain ⟨w20, p21, f22⟩ := At.sl (At.le (z2f hp1 j19.2.2) s11 s11)
 replace p21 := PtG.le p21 O10.fro
 refine W.load1 (v := w20) (r := []) rfl rfl ag44 (z0t rfl p21) (W.p1 w20 (.nil (.seq (.seq (.region (W.p2 w20 ?_))))))
 refine W.pv (.int .i64 (x16.length : Int)) (z0i ov (z0c f22) (z04 el44)) (W.q2 (.int .i64 p0) ((fr8 0 rfl).trans rfl) (W.p3 (.bool (decide ((x16.length : Int) > p0))) (.nil (.cond (b := decide ((x16.length : Int) > p0)) rfl rfl (fun g23 => ?_) (fun g23 => ?_)))))
 .have h24 := z05 g23 h18
  refine .seq (.region (W.p1 (.bool true) (.nil (.ret ?_))))
  obtain rfl := zAa h24
  have h25 := z09 (z7t h3)
  obtain rfl := zAa h25
  exact z1q kr (v1 := (.bool true)) (by rfl) rt O10 s11 rfl
 have h26 := z0j g23 h18
 refine .skip (.seq (.region (W.p2 w20 (W.pv (.int .i64 (x16.length : Int)) (z0i ov (z0c f22) (z04 el44)) (W.p2 (.int .i64 0) (.nil ?_))))))
 obtain ⟨q27, h28, h29⟩ := z3m h26
 refine AW.midT (fun σ' H' => ∃  (G' : GM), (.inr ()) = q27 /\ Ow G' H' (L) /\ GM.le G9 G') ?_ ?_
 rotate_left
 .rintro σ83 H84 fr85 ⟨G86, rfl, O87, s88⟩
  have h90 := z6y (z9i h29)
  refine .region (W.q3 (.int .i64 (z02 .i64 (x5 + 1))) ((fr85 11 rfl).trans t13) rfl (W.p2 (.int .i64 (z02 .i64 (x5 + 1))) (.nil ?_)))
  exact ⟨k4, zAg _, ⟨z02 .i64 (x5 + 1), _, h90, O87, (zAe s11 s88), rfl⟩⟩
 refine .block (AW.loop (α := Nat) (fun k' σ' H' => ∃ (y1 : Int) (G' : GM), z2r K p0 x16 k' y1 = some q27 /\ Ow G' H' (L) /\ GM.le G9 G' /\ σ' 21 = .int .i64 y1) (fun k' => k') K ⟨0, _, h28, O10, (zAf _), rfl⟩ ?_)
 rintro k30
 rintro σ32 H33 fr34 ⟨x31, G35, h38, O36, s37, t39⟩
 rcases k30 with _ | k30
 .exact z07 h38
 rw [z2r] at h38
 refine .seq (.region (W.q3 (.bool (decide (x31 < (x16.length : Int)))) t39 ((fr34 20 rfl).trans rfl) (.nil (.seq (.cond (b := decide (x31 < (x16.length : Int))) rfl rfl (fun g40 => ?_) (fun g40 => ?_))))))
 rotate_left
 .have h82 := z0j g40 h38
  refine .exit ?_
  obtain rfl := zAa h82
  exact ⟨_, rfl, O36, s37⟩
 have h41 := z05 g40 h38
 refine .skip (.seq (.block (.seq (.region ?_))))
 obtain ⟨x42, i43, h44⟩ := z01 h41
 have j45 := z0a i43
 refine W.pv (z1m w20 (x31.toNat * 1)) (z2e el44 sz45 (ou ((fr34 19 rfl).trans rfl)) (ou t39) (z0c (RT.mono _ s37 f22)) j45.1 j45.2.1) ?_
 obtain ⟨w46, p47, f48⟩ := At.sl (At.le (z2f f22 j45.2.2) s37 s37)
 replace p47 := PtG.le p47 O36.fro
 refine W.load1 (v := w46) (r := []) rfl rfl ag45 (z0t rfl p47) (W.p1 w46 (.nil (.seq ?_)))
 obtain ⟨q49, h50, h51⟩ := z01 h44
 refine AW.midT (fun σ' H' => ∃ (y1 : Bool) (G' : GM), y1 = q49 /\ Ow G' H' (L) /\ GM.le G35 G' /\ σ' 32 = .bool y1) ?_ ?_
 rotate_left
 .rintro σ68 H69 fr70 ⟨x67, G71, rfl, O72, s73, t75⟩
  have h76 := z09 h51
  refine .cond (b := x67) rfl t75 (fun g77 => ?_) (fun g77 => ?_)
  rotate_left
  .have h81 := z0j g77 h76
   refine .skip (.region (W.q3 (.int .i64 (z02 .i64 (x31 + 1))) ((fr70 21 rfl).trans t39) rfl (W.p2 (.int .i64 (z02 .i64 (x31 + 1))) (.nil ?_))))
   exact ⟨k30, zAg _, ⟨z02 .i64 (x31 + 1), _, h81, O72, (zAe s37 s73), rfl⟩⟩
  have h78 := z05 g77 h76
  refine .seq (.region (W.p1 (.bool true) (.nil (.ret ?_))))
  obtain rfl := zAa h78
  have h79 := z09 (z7t h29)
  obtain rfl := zAa h79
  have h80 := z09 (z7t h3)
  obtain rfl := zAa h80
  exact z1q kr (v1 := (.bool true)) (by rfl) rt O72 (zAe s11 (zAe s37 s73)) rfl
 refine .region (W.p2 w46 (W.pv (.int .i64 (x42.length : Int)) (z0i ov (z0c f48) (z04 el45)) (W.q2 (.int .i64 p0) ((fr34 0 rfl).trans ((fr8 0 rfl).trans rfl)) (W.p3 (.bool (decide ((x42.length : Int) > p0))) (W.p2 (.bool (decide ((x42.length : Int) > p0))) (W.splitAt (t := 29) (b := decide ((x42.length : Int) > p0)) rfl (fun g52 gv53 => ?_) (fun g52 gv53 => ?_)))))))
 .have h54 := z05 g52 h50
  refine W.q6 rfl gv53 (W.q6 rfl gv53 (W.q4 (.bool true) gv53 rfl (.nil ?_)))
  obtain rfl := zAa h54
  exact ⟨true, _, rfl, O36, (zAf _), rfl⟩
 have h55 := z0j g52 h50
 refine W.q2 (hg := gk rfl rfl gv53 rfl) w46 rfl ?_
 obtain ⟨x56, i57, h58⟩ := z01 h55
 refine W.lo (gk rfl rfl gv53 rfl) rfl (Lo.cP rfl (fn := Tryz.f87) (by kernel_rfl) rfl (mc rfl (mc rfl mn)) O36 (fun L' O' => z38 K w46 x42 f48 (.func (.func 88) #[] #[]) (fun x => z5n K x) ⟨88, _, _, Tryz.f88, rfl, by kernel_rfl, rfl, fun G1 H L vs x r hG O hA hF => by obtain rfl := hA; exact zaz K x O _ hF⟩ O' _ i57)) ?_
 rintro v65 H66 ⟨G59, O60, s61, sm64, rfl⟩
 refine W.q5 (.bool x56) gv53 rfl (.nil ?_)
 obtain rfl := zAa h58
 exact ⟨x56, _, rfl, O60, s61, rfl⟩
def z7o (K : Nat) (p0 : List (List zAd)) : Option Int := (if (decide ((p0.length : Int) > 0)) = true then ((idx p0 0).bind fun x3 => some (x3.length : Int)) else some 0)
theorem zaf (v0 : Value) (p0 : List (List zAd)) (hp0 : (rSl (rSl rS)).rep G [v0] p0) (O : Ow G H (L)) (r : Int) (h : z7o K p0 = some r) :
    CR Tryz.prog 31 [v0] G H (L) (fun v G' _ => v = .int .i64 r) := by
 unfold z7o at h
 refine CR.og (n := 10) (fn := Tryz.f31) (by kernel_rfl) rfl rfl fun R kr => (.seq (.region (W.p1 (.int .i64 0) (.nil (.seq (.seq ?_))))))
 refine .region (W.p2 v0 (W.pv (.int .i64 (p0.length : Int)) (z0i ov (z0c hp0) (z04 el44)) (W.p3 (.bool (decide ((p0.length : Int) > 0))) (.nil (.cond (b := decide ((p0.length : Int) > 0)) rfl rfl (fun g1 => ?_) (fun g1 => ?_))))))
 rotate_left
 .have h10 := z0j g1 h
  refine .skip (.seq (.region (W.p1 (.int .i64 0) (.nil (.ret ?_)))))
  obtain rfl := zAa h10
  exact z1q kr (v1 := (.int .i64 0)) (by rfl) rt O (zAf _) rfl
 have h2 := z05 g1 h
 refine .seq (.region (W.p2 v0 ?_))
 obtain ⟨x3, i4, h5⟩ := z01 h2
 have j6 := z0a i4
 refine W.pv (z1m v0 (Int.toNat 0 * 1)) (z2e el44 sz45 ov ov (z0c hp0) j6.1 j6.2.1) ?_
 obtain ⟨w7, p8, f9⟩ := At.sl (z2f hp0 j6.2.2)
 replace p8 := PtG.le p8 O.fro
 refine W.load1 (v := w7) (r := []) rfl rfl ag45 (z0t rfl p8) (W.pv (.int .i64 (x3.length : Int)) (z0i ov (z0c f9) (z04 el45)) (W.p1 (.int .i64 (x3.length : Int)) (.nil (.ret ?_))))
 obtain rfl := zAa h5
 exact z1q kr (v1 := (.int .i64 (x3.length : Int))) (by rfl) rt O (zAf _) rfl
def z2v (K : Nat) (p0 : List (List zAd)) (p1 : Int) (p2 : Int) : Nat -> List (List zAd) -> Int -> Option (List (List zAd))
  | 0, _, _ => none
  | k + 1, x6, x7 => (if (decide (x7 < (p0.length : Int))) = true then (Option.bind (((idx p0 x7).bind fun x21 => (if (x7 != p1) = true then ((lsl x21 0 p2).bind fun x41 => (if List.length ([] : List zAd) + x41.length <= 16777216 then ((lsl x21 (z02 .i64 (p2 + 1)) (x21.length : Int)).bind fun x58 => (if List.length (([] : List zAd) ++ x41) + x58.length <= 16777216 then (if x6.length + List.length [((([] : List zAd) ++ x41) ++ x58)] <= 16777216 then some (x6 ++ [((([] : List zAd) ++ x41) ++ x58)]) else none) else none)) else none)) else some x6))) (tu1 fun x96 => z2v K p0 p1 p2 k x96 (z02 .i64 (x7 + 1)))) else some x6)
def z8l (K : Nat) (p0 : List (List zAd)) (p1 : Int) (p2 : Int) : Option (List (List zAd)) := (Option.bind (z2v K p0 p1 p2 K [] 0) (tu1 fun x106 => some x106))
theorem zds (v0 : Value) (p0 : List (List zAd)) (hp0 : (rSl (rSl rS)).rep G [v0] p0) (p1 : Int) (p2 : Int) (O : Ow G H (L)) (r : List (List zAd)) (h : z8l K p0 p1 p2 = some r) :
    CRF Tryz.prog 110 [v0, (.int .i64 p1), (.int .i64 p2)] G H (fun w0 => (eSl w0 45 (rSl rS) r :: L)) (fun w0 v G' => w0 = v) := by
 unfold z8l at h
 refine CRF.og (n := 35) (fn := Tryz.f110) (by kernel_rfl) rfl rfl fun R kr => (.seq (.region (W.p1 (.slice none 0 0) (.nil (.seq (.region ?_))))))
 refine W.p1 (.slice none 0 0) (.nil (.seq (.seq (.region (W.p2 v0 (W.pv (.int .i64 (p0.length : Int)) (z0i ov (z0c hp0) (z04 el44)) ?_))))))
 refine W.p2 (.int .i64 0) (.nil ?_)
 obtain ⟨q1, h2, h3⟩ := z01 h
 refine AW.midT (fun σ' H' => ∃ (y1 : List (List zAd)) (G' : GM), y1 = q1 /\ Ow G' H' (eSl (σ' 7) 45 (rSl rS) y1 :: L) /\ GM.le G G') ?_ ?_
 rotate_left
 .rintro σ107 H108 fr109 ⟨x106, G110, rfl, O111, s112⟩
  have h114 := z09 h3
  refine .seq (.region (W.p2 (σ107 7) (W.p1 (σ107 7) (.nil (.ret ?_)))))
  obtain rfl := zAa h114
  exact zat kr (σ107 7) (v1 := (σ107 7)) (by rfl) rt O111 s112 rfl
 refine .block ?_
 have O4 := O.nilSl 45 (rSl rS)
 refine AW.loop (α := Nat) (fun k' σ' H' => ∃ (y1 : List (List zAd)) (y2 : Int) (G' : GM), z2v K p0 p1 p2 k' y1 y2 = some q1 /\ Ow G' H' (eSl (σ' 7) 45 (rSl rS) y1 :: L) /\ GM.le G G' /\ σ' 12 = .int .i64 y2) (fun k' => k') K ⟨[], 0, _, h2, O4, (zAf _), rfl⟩ ?_
 rintro k5
 rintro σ8 H9 fr10 ⟨x6, x7, G11, h14, O12, s13, t15⟩
 rcases k5 with _ | k5
 .exact z07 h14
 rw [z2v] at h14
 refine .seq (.region (W.q3 (.bool (decide (x7 < (p0.length : Int)))) t15 ((fr10 11 rfl).trans rfl) (.nil (.seq (.cond (b := decide (x7 < (p0.length : Int))) rfl rfl (fun g16 => ?_) (fun g16 => ?_))))))
 rotate_left
 .have h105 := z0j g16 h14
  refine .exit ?_
  obtain rfl := zAa h105
  exact ⟨x6, _, rfl, O12, s13⟩
 have h17 := z05 g16 h14
 refine .skip (.seq ?_)
 obtain ⟨q18, h19, h20⟩ := z01 h17
 refine AW.midT (fun σ' H' => ∃ (y1 : List (List zAd)) (G' : GM), y1 = q18 /\ Ow G' H' (eSl (σ' 7) 45 (rSl rS) y1 :: L) /\ GM.le G11 G') ?_ ?_
 rotate_left
 .rintro σ97 H98 fr99 ⟨x96, G100, rfl, O101, s102⟩
  have h104 := z09 h20
  refine .region (W.q3 (.int .i64 (z02 .i64 (x7 + 1))) ((fr99 12 rfl).trans t15) rfl (W.p2 (.int .i64 (z02 .i64 (x7 + 1))) (.nil ?_)))
  exact ⟨k5, zAg _, ⟨x96, z02 .i64 (x7 + 1), _, h104, O101, (zAe s13 s102), rfl⟩⟩
 refine .block (.seq (.region (W.q2 _ t15 ?_)))
 obtain ⟨x21, i22, h23⟩ := z01 h19
 have j24 := z0a i22
 refine W.pv (z1m v0 (x7.toNat * 1)) (z2e el44 sz45 (ou ((fr10 10 rfl).trans rfl)) (ou t15) (z0c (RT.mono _ s13 hp0)) j24.1 j24.2.1) ?_
 obtain ⟨w25, p26, f27⟩ := At.sl (At.le (z2f hp0 j24.2.2) s13 s13)
 replace p26 := PtG.le p26 O12.fro
 refine W.load1 (v := w25) (r := []) rfl rfl ag45 (z0t rfl p26) (W.p1 (.int .i64 x7) (W.p1 w25 (.nil (.seq (.region (W.p2 (.int .i64 x7) ?_))))))
 refine W.q2 (.int .i64 p1) ((fr10 1 rfl).trans rfl) (W.p3 (.bool (x7 != p1)) (.nil (.cond (b := (x7 != p1)) rfl rfl (fun g28 => ?_) (fun g28 => ?_))))
 rotate_left
 .have h95 := z0j g28 h23
  refine .skip ?_
  obtain rfl := zAa h95
  exact ⟨x6, _, rfl, O12, (zAf _)⟩
 have h29 := z05 g28 h23
 refine .draw2 (M := [0, 0, 0, 0, 12, 30, 0, 0, 128, 448, 1022, 2046, 4095, 8191]) mixed (by kernel_rfl) (by kernel_rfl) fun H30 N34 x31 F33 => ?_
 have O32 := O12.ext x31
 refine D2.p2 (σ8 7) (D2.alloc (m := 14) rfl rfl (Al.buildSlice (r := rS) (vs := []) (xs := ([] : List zAd)) el45 ze22 sz22 (by kernel_rfl) rfl qn rfl .nil) (Free.up (by decide) F33) (by decide) O32 ?_)
 rintro b36 H37 ⟨O38, sm39, F40⟩
 refine D2.p2 w25 (D2.q2 (.int .i64 p2) ((fr10 2 rfl).trans rfl) ?_)
 obtain ⟨x41, i42, h43⟩ := z01 h29
 obtain ⟨w44, e45, f46⟩ := zn2 (P := Tryz.prog) (R := rS) f27 el45 sz22 i42
 refine D2.pv w44 (e45 ov ov) ?_
 obtain ⟨es48, e49, e50⟩ := zks f46 O38
 obtain ⟨g51, h52⟩ := z2l h43
 refine D2.loN rfl rfl (Lo.append (j := 0) (v := (.slice (some ⟨b36, 0, some 0⟩) 0 0)) rfl rfl el45 ni45 ze22 sz22 by22 (by decide) (by decide) rfl e49 e50 g51 O38) ?_ z06 ?_ ?_
 .rintro v54 H55 ⟨O47, sm53⟩; exact z06
 .rintro v54 H55 ⟨O47, sm53⟩; exact (faR1 (.inl (by decide)) z06)
 rintro v54 H55 ⟨O47, sm53⟩ nx56
 have F57 := Free.nx F40 nx56
 refine D2.p2 w25 (D2.q2 (.int .i64 p2) ((fr10 2 rfl).trans rfl) (D2.p3 (.int .i64 (z02 .i64 (p2 + 1))) ?_))
 obtain ⟨x58, i59, h60⟩ := z01 h52
 obtain ⟨w61, e62, f63⟩ := zn1 (P := Tryz.prog) (R := rS) f27 el45 sz22 i59
 refine D2.pv w61 (e62 ov ov) ?_
 obtain ⟨es65, e66, e67⟩ := zks f63 O47
 obtain ⟨g68, h69⟩ := z2l h60
 refine D2.loN rfl rfl (Lo.append (j := 0) (v := v54) rfl rfl el45 ni45 ze22 sz22 by22 (by decide) (by decide) rfl e66 e67 g68 O47) ?_ (z0h (by decide) z06) ?_ ?_
 .rintro v71 H72 ⟨O64, sm70⟩; exact z06
 .rintro v71 H72 ⟨O64, sm70⟩; exact (faR1 (.inl (by decide)) z06)
 rintro v71 H72 ⟨O64, sm70⟩ nx73
 have F74 := Free.nx F57 nx73
 obtain ⟨G76, O77, s78, f79⟩ := O64.frzSl (j := 0) rfl
 refine D2.alloc (m := 14) rfl rfl (Al.buildSlice (r := (rSl rS)) (vs := [v71]) (xs := [((([] : List zAd) ++ x41) ++ x58)]) el44 ze45 sz45 (by kernel_rfl) rfl (qc rfl qn) rfl (.cons (z4z f79) .nil)) (Free.up (by decide) F74) (by decide) O77 ?_
 rintro b80 H81 ⟨O82, sm83, F84⟩
 obtain ⟨es86, e87, e88⟩ := z4p (j := 0) rfl O82
 obtain ⟨g89, h90⟩ := z2l h69
 refine D2.lo rfl rfl (Lo.append (j := 1) (v := (σ8 7)) rfl rfl el44 ni44 ze45 sz45 by45 (by decide) (by decide) rfl e87 e88 g89 O82) ?_ (z0h (by decide) (z0h (by decide) z06)) ?_ ?_
 .rintro v92 H93 ⟨O85, sm91⟩; exact z06
 .rintro v92 H93 ⟨O85, sm91⟩; exact (faR1 (.inl (by decide)) (faR1 (.inl (by decide)) z06))
 rintro v92 H93 ⟨O85, sm91⟩
 refine D2.p1 v92 (.nil ?_)
 have O94 := O85.drop 0
 obtain rfl := zAa h90
 exact ⟨(x6 ++ [((([] : List zAd) ++ x41) ++ x58)]), _, rfl, O94, s78⟩
def z2w (K : Nat) (x1 : Int) (x13 : zAd) : Nat -> Int -> Option ((Bool × zAd × zAd) ⊕ Unit)
  | 0, _ => none
  | k + 1, x27 => (if (decide (x27 < (x13.size : Int))) = true then ((bidx x13 x27).bind fun x38 => (if (x38 == 47) = true then ((ssl x13 0 x27).bind fun x48 => ((ssl x13 (z02 .i64 (x27 + 1)) (x13.size : Int)).bind fun x51 => some (.inl ((x1 == 45), x48, x51)))) else z2w K x1 x13 k (z02 .i64 (x27 + 1)))) else some (.inr ()))
def z4l (K : Nat) (p0 : zAd) : Option (Bool × zAd × zAd) := ((bidx p0 0).bind fun x1 => (Option.bind ((if (x1 == 45) = true then ((ssl p0 1 (p0.size : Int)).bind fun x9 => some x9) else some p0)) (tu1 fun x13 => (zbw (z2w K x1 x13 K 0) (tu3 fun a65 a66 a67 => some (a65, a66, a67)) (tu0 (some ((x1 == 45), x13, (⟨#[49]⟩ : zAd))))))))
theorem z5o (p0 : zAd) (O : Ow G H (L)) (r : Bool × zAd × zAd) (h : z4l K p0 = some r) :
    CR Tryz.prog 61 [(.string p0)] G H (L) (fun v G' _ => v = .tuple #[.bool r.1, .string r.2.1, .string r.2.2]) := by
 unfold z4l at h
 refine CR.og (n := 35) (fn := Tryz.f61) (by kernel_rfl) rfl rfl fun R kr => (.seq (.region (W.p1 (.bool false) (W.p1 (.string (⟨#[]⟩ : zAd)) (W.p1 (.string (⟨#[]⟩ : zAd)) (.nil ?_))))))
 refine .seq (.region (W.p2 (.string p0) (W.p1 (.string p0) (.nil (.seq (.region ?_))))))
 refine W.p2 (.string p0) ?_
 obtain ⟨x1, i2, h3⟩ := z01 h
 refine W.pv (.int .u8 x1) (za5 un9 ov ov i2) (W.p3 (.bool (x1 == 45)) (W.p1 (.bool (x1 == 45)) (.nil (.seq (.seq (.region ?_))))))
 refine W.p2 (.bool (x1 == 45)) (.nil ?_)
 obtain ⟨q4, h5, h6⟩ := z01 h3
 refine AW.midT (fun σ' H' => ∃ (y1 : zAd) (G' : GM), y1 = q4 /\ Ow G' H' (L) /\ GM.le G G' /\ σ' 5 = .string y1) ?_ ?_
 .refine .cond (b := (x1 == 45)) rfl rfl (fun g7 => ?_) (fun g7 => ?_)
  rotate_left
  .have h12 := z0j g7 h5
   refine .skip ?_
   obtain rfl := zAa h12
   exact ⟨p0, _, rfl, O, (zAf _), rfl⟩
  have h8 := z05 g7 h5
  refine .region (W.p2 (.string p0) ?_)
  obtain ⟨x9, i10, h11⟩ := z01 h8
  refine W.pv (.string x9) (zdr un9 ov ov i10) (W.p1 (.string x9) (.nil ?_))
  obtain rfl := zAa h11
  exact ⟨x9, _, rfl, O, (zAf _), rfl⟩
 rintro σ14 H15 fr16 ⟨x13, G17, rfl, O18, s19, t21⟩
 have h22 := z09 h6
 refine .seq (.seq (.region (W.q2 _ t21 (W.pv (.int .i64 (x13.size : Int)) (z1h ov un9) (W.p2 (.int .i64 0) (.nil ?_))))))
 obtain ⟨q23, h24, h25⟩ := z3m h22
 refine AW.midT (fun σ' H' => ∃  (G' : GM), (.inr ()) = q23 /\ Ow G' H' (L) /\ GM.le G17 G') ?_ ?_
 rotate_left
 .rintro σ57 H58 fr59 ⟨G60, rfl, O61, s62⟩
  have h64 := z6y (z9i h25)
  refine .seq (.region (W.q2 (.bool (x1 == 45)) ((fr59 6 rfl).trans ((fr16 6 rfl).trans rfl)) (W.q2 _ ((fr59 5 rfl).trans t21) (W.p1 (.bool (x1 == 45)) (W.p1 (.string x13) (W.p1 (.string (⟨#[49]⟩ : zAd)) ?_))))))
  refine .nil (.ret ?_)
  obtain rfl := zAa h64
  exact zn4 kr (v1 := (.bool (x1 == 45))) (v2 := (.string x13)) (v3 := (.string (⟨#[49]⟩ : zAd))) (by rfl) rt rt rt O61 (zAe s19 s62) rfl
 refine .block (AW.loop (α := Nat) (fun k' σ' H' => ∃ (y1 : Int) (G' : GM), z2w K x1 x13 k' y1 = some q23 /\ Ow G' H' (L) /\ GM.le G17 G' /\ σ' 17 = .int .i64 y1) (fun k' => k') K ⟨0, _, h24, O18, (zAf _), rfl⟩ ?_)
 rintro k26
 rintro σ28 H29 fr30 ⟨x27, G31, h34, O32, s33, t35⟩
 rcases k26 with _ | k26
 .exact z07 h34
 rw [z2w] at h34
 refine .seq (.region (W.q3 (.bool (decide (x27 < (x13.size : Int)))) t35 ((fr30 16 rfl).trans rfl) (.nil (.seq (.cond (b := decide (x27 < (x13.size : Int))) rfl rfl (fun g36 => ?_) (fun g36 => ?_))))))
 rotate_left
 .have h56 := z0j g36 h34
  refine .exit ?_
  obtain rfl := zAa h56
  exact ⟨_, rfl, O32, s33⟩
 have h37 := z05 g36 h34
 refine .skip (.seq (.block (.seq (.region (W.q2 _ t35 (W.p1 (.int .i64 x27) ?_))))))
 refine .nil (.seq (.region (W.q2 _ ((fr30 5 rfl).trans t21) (W.p2 (.int .i64 x27) ?_))))
 obtain ⟨x38, i39, h40⟩ := z01 h37
 refine W.pv (.int .u8 x38) (za5 un9 ov ov i39) (W.p3 (.bool (x38 == 47)) (.nil (.cond (b := (x38 == 47)) rfl rfl (fun g41 => ?_) (fun g41 => ?_))))
 rotate_left
 .have h55 := z0j g41 h40
  refine .skip (.region (W.r3 (.int .i64 (z02 .i64 (x27 + 1))) t35 (W.p2 (.int .i64 (z02 .i64 (x27 + 1))) (.nil ?_))))
  exact ⟨k26, zAg _, ⟨z02 .i64 (x27 + 1), _, h55, O32, s33, rfl⟩⟩
 have h42 := z05 g41 h40
 refine .seq (.draw2 (M := [0, 0, 0, 6, 0, 0, 32, 112, 1, 271, 1023]) mixed (by kernel_rfl) (by kernel_rfl) fun H43 N47 x44 F46 => ?_)
 have O45 := O32.ext x44
 refine D2.q2 (.bool (x1 == 45)) ((fr30 6 rfl).trans ((fr16 6 rfl).trans rfl)) (D2.q2 _ ((fr30 5 rfl).trans t21) (D2.p2 (.int .i64 x27) ?_))
 obtain ⟨x48, i49, h50⟩ := z01 h42
 refine D2.pv (.string x48) (zha un9 ov ov i49) (D2.q2 _ ((fr30 5 rfl).trans t21) (D2.p2 (.int .i64 x27) (D2.p3 (.int .i64 (z02 .i64 (x27 + 1))) ?_)))
 obtain ⟨x51, i52, h53⟩ := z01 h50
 refine D2.pv (.string x51) (zdr un9 ov ov i52) (D2.p1 (.bool (x1 == 45)) (D2.p1 (.string x48) (D2.p1 (.string x51) (.nil (.ret ?_)))))
 obtain rfl := zAa h53
 have h54 := zel (z7t h25)
 obtain rfl := zAa h54
 exact zn4 kr (v1 := (.bool (x1 == 45))) (v2 := (.string x48)) (v3 := (.string x51)) (by rfl) rt rt rt O45 (zAe s19 s33) rfl
def z2s (K : Nat) (p1 : zAd) (x15 : Int) (x26 : Int) : Nat -> List Int -> Int -> Option (List Int)
  | 0, _, _ => none
  | k + 1, x41, x42 => (if (decide (x42 < (p1.size : Int))) = true then ((idx x41 (z02 .i64 (x15 + x42))).bind fun x58 => ((z4k K p1 x42).bind fun x62 => ((idx x41 (z02 .i64 (x15 + x42))).bind fun x73 => z2s K p1 x15 x26 k (List.set x41 (Int.toNat (z02 .i64 (x15 + x42))) (z02 .i64 (x58 + (z02 .i64 (x26 * x62))))) (z02 .i64 (x42 + 1))))) else some x41)
def z2c (K : Nat) (x91 : List Int) : Nat -> List Int -> Int -> Option (List Int)
  | 0, _, _ => none
  | k + 1, x102, x103 => (if (decide (x103 < (x91.length : Int))) = true then (Option.bind (((idx x102 x103).bind fun x117 => (if (decide (x117 > 9)) = true then ((idx x102 (z02 .i64 (x103 + 1))).bind fun x128 => ((idx x102 x103).bind fun x132 => ((idx x102 (z02 .i64 (x103 + 1))).bind fun x136 => ((idx (List.set x102 (Int.toNat (z02 .i64 (x103 + 1))) (z02 .i64 (x128 + (z02 .i64 (Int.tdiv x132 10))))) x103).bind fun x144 => ((idx (List.set x102 (Int.toNat (z02 .i64 (x103 + 1))) (z02 .i64 (x128 + (z02 .i64 (Int.tdiv x132 10))))) x103).bind fun x148 => some (List.set (List.set x102 (Int.toNat (z02 .i64 (x103 + 1))) (z02 .i64 (x128 + (z02 .i64 (Int.tdiv x132 10))))) (x103.toNat) (Int.tmod x144 10))))))) else some x102))) (tu1 fun x157 => z2c K x91 k x157 (z02 .i64 (x103 + 1)))) else some x102)
def z2t (K : Nat) (p0 : zAd) (p1 : zAd) : Nat -> List Int -> Int -> Option (List Int)
  | 0, _, _ => none
  | k + 1, x14, x15 => (if (decide (x15 < (p0.size : Int))) = true then ((z4k K p0 x15).bind fun x26 => (Option.bind (z2s K p1 x15 x26 K x14 0) (tu1 fun x82 => ((lsl x82 0 (z02 .i64 ((x82.length : Int) - 1))).bind fun x91 => (Option.bind (z2c K x91 K x82 0) (tu1 fun x167 => z2t K p0 p1 k x167 (z02 .i64 (x15 + 1)))))))) else some x14)
def z47 (K : Nat) (p0 : zAd) (p1 : zAd) : Option zAd := (lt (z02 .i64 ((z02 .i64 ((p0.size : Int) + (p1.size : Int))) + 1)) fun x1 => (if 0 <= x1 /\ x1 <= x1 /\ x1 <= 16777216 then (Option.bind (z2t K p0 p1 K (List.replicate (x1.toNat) 0) 0) (tu1 fun x177 => ((z85 K x177).bind fun x186 => some x186))) else none))
theorem z4w (p0 : zAd) (p1 : zAd) (O : Ow G H (L)) (r : zAd) (h : z47 K p0 p1 = some r) :
    CR Tryz.prog 94 [(.string p0), (.string p1)] G H (L) (fun v G' _ => v = .string r) := by
 unfold z47 at h
 refine CR.og (n := 80) (fn := Tryz.f94) (by kernel_rfl) rfl rfl fun R kr => (.seq (.region (W.p1 (.string (⟨#[]⟩ : zAd)) (.nil (.seq (.region ?_))))))
 refine W.p2 (.string p0) (W.pv (.int .i64 (p0.size : Int)) (z1h ov un9) (W.p2 (.string p1) (W.pv (.int .i64 (p1.size : Int)) (z1h ov un9) (W.p3 (.int .i64 (z02 .i64 ((p0.size : Int) + (p1.size : Int)))) (W.p3 (.int .i64 (z02 .i64 ((z02 .i64 ((p0.size : Int) + (p1.size : Int))) + 1))) ?_)))))
 obtain ⟨x1, e2, h3⟩ := z67 h
 obtain ⟨g5, h6⟩ := z2l h3
 refine W.ln (Lo.makeSlice (r := (rI .i64)) (x0 := 0) (a := x1) (c := x1) rfl z78 ze3 sz3 (by kernel_rfl) rfl by3 (by decide) (congrArg (Value.int .i64) e2) (congrArg (Value.int .i64) e2) g5 (zI .i64) O) ?_
 rintro v8 H9 ⟨O4, sm7⟩
 refine W.p1 v8 (.nil (.seq (.seq (.region (W.p2 (.string p0) (W.pv (.int .i64 (p0.size : Int)) (z1h ov un9) ?_))))))
 refine W.p2 (.int .i64 0) (.nil ?_)
 obtain ⟨q10, h11, h12⟩ := z01 h6
 refine AW.midT (fun σ' H' => ∃ (y1 : List Int) (G' : GM), y1 = q10 /\ Ow G' H' (eSl v8 3 (rI .i64) y1 :: L) /\ GM.le G G') ?_ ?_
 rotate_left
 .rintro σ178 H179 fr180 ⟨x177, G181, rfl, O182, s183⟩
  have h185 := z09 h12
  refine .seq (.region (W.q2 v8 ((fr180 5 rfl).trans rfl) ?_))
  obtain ⟨x186, i187, h188⟩ := z01 h185
  refine W.ln (Lo.callB (j := 0) rfl rfl (fn := Tryz.f150) (by kernel_rfl) rfl (mc rfl mn) O182 (fun G' L' hG O' hB => z93 K v8 x177 hB O' _ i187)) ?_
  rintro v195 H196 ⟨G189, O190, s191, sm194, rfl⟩
  refine W.p1 (.string x186) (.nil (.ret ?_))
  have O197 := O190.drop 0
  obtain rfl := zAa h188
  exact z1q kr (v1 := (.string x186)) (by rfl) rt O197 (zAe s183 s191) rfl
 refine .block (AW.loop (α := Nat) (fun k' σ' H' => ∃ (y1 : List Int) (y2 : Int) (G' : GM), z2t K p0 p1 k' y1 y2 = some q10 /\ Ow G' H' (eSl v8 3 (rI .i64) y1 :: L) /\ GM.le G G' /\ σ' 19 = .int .i64 y2) (fun k' => k') K ⟨(List.replicate (x1.toNat) 0), 0, _, h11, O4, (zAf _), rfl⟩ ?_)
 rintro k13
 rintro σ16 H17 fr18 ⟨x14, x15, G19, h22, O20, s21, t23⟩
 rcases k13 with _ | k13
 .exact z07 h22
 rw [z2t] at h22
 refine .seq (.region (W.q3 (.bool (decide (x15 < (p0.size : Int)))) t23 ((fr18 18 rfl).trans rfl) (.nil (.seq (.cond (b := decide (x15 < (p0.size : Int))) rfl rfl (fun g24 => ?_) (fun g24 => ?_))))))
 rotate_left
 .have h176 := z0j g24 h22
  refine .exit ?_
  obtain rfl := zAa h176
  exact ⟨x14, _, rfl, O20, s21⟩
 have h25 := z05 g24 h22
 refine .skip (.seq (.block (.seq (.region (W.q2 _ t23 (W.p1 (.int .i64 x15) ?_))))))
 refine .nil (.seq (.region (W.q2 (.string p0) ((fr18 0 rfl).trans rfl) (W.p2 (.int .i64 x15) ?_))))
 obtain ⟨x26, i27, h28⟩ := z01 h25
 refine W.ln (Lo.cP rfl (fn := Tryz.f149) (by kernel_rfl) rfl (mc rfl (mc rfl mn)) O20 (fun L' O' => z4f K p0 x15 O' _ i27)) ?_
 rintro v35 H36 ⟨G29, O30, s31, sm34, rfl⟩
 refine W.p1 (.int .i64 x26) (.nil (.seq (.seq (.region (W.q2 (.string p1) ((fr18 1 rfl).trans rfl) (W.pv (.int .i64 (p1.size : Int)) (z1h ov un9) ?_))))))
 refine W.p2 (.int .i64 0) (.nil ?_)
 obtain ⟨q37, h38, h39⟩ := z01 h28
 refine AW.midT (fun σ' H' => ∃ (y1 : List Int) (G' : GM), y1 = q37 /\ Ow G' H' (eSl v8 3 (rI .i64) y1 :: L) /\ GM.le G29 G') ?_ ?_
 .refine .block (AW.loop (α := Nat) (fun k' σ' H' => ∃ (y1 : List Int) (y2 : Int) (G' : GM), z2s K p1 x15 x26 k' y1 y2 = some q37 /\ Ow G' H' (eSl v8 3 (rI .i64) y1 :: L) /\ GM.le G29 G' /\ σ' 27 = .int .i64 y2) (fun k' => k') K ⟨x14, 0, _, h38, O30, (zAf _), rfl⟩ ?_)
  rintro k40
  rintro σ43 H44 fr45 ⟨x41, x42, G46, h49, O47, s48, t50⟩
  rcases k40 with _ | k40
  .exact z07 h49
  rw [z2s] at h49
  refine .seq (.region (W.q3 (.bool (decide (x42 < (p1.size : Int)))) t50 ((fr45 26 rfl).trans rfl) (.nil (.seq (.cond (b := decide (x42 < (p1.size : Int))) rfl rfl (fun g51 => ?_) (fun g51 => ?_))))))
  rotate_left
  .have h81 := z0j g51 h49
   refine .exit ?_
   obtain rfl := zAa h81
   exact ⟨x41, _, rfl, O47, s48⟩
  have h52 := z05 g51 h49
  refine .skip (.seq (.block (.seq (.region (W.q2 _ t50 (W.p1 (.int .i64 x42) ?_))))))
  refine .nil (.draw2 (M := [0, 0, 0, 6, 15, 31, 0, 0, 0, 384, 960, 2047, 4095, 8191]) mixed (by kernel_rfl) (by kernel_rfl) fun H53 N57 x54 F56 => ?_)
  have O55 := O47.ext x54
  refine D2.q2 v8 ((fr45 5 rfl).trans ((fr18 5 rfl).trans rfl)) (D2.q2 (.int .i64 x15) ((fr45 6 rfl).trans rfl) (D2.p2 (.int .i64 x42) (D2.p3 (.int .i64 (z02 .i64 (x15 + x42))) ?_)))
  obtain ⟨x58, i59, h60⟩ := z01 h52
  have j61 := z0a i59
  refine D2.pv (z1m v8 (Int.toNat (z02 .i64 (x15 + x42)) * 1)) (z2e z78 sz3 ov ov (O55.slLen (j := 0) rfl) j61.1 j61.2.1) (D2.load1' (v := (.int .i64 x58)) (r := []) rfl rfl ag3 (z0t rfl (At.int (O55.atSl (j := 0) rfl j61.2.2))) z06 (D2.q2 (.int .i64 x26) ((fr45 7 rfl).trans rfl) (D2.q2 (.string p1) ((fr45 1 rfl).trans ((fr18 1 rfl).trans rfl)) (D2.p2 (.int .i64 x42) ?_))))
  obtain ⟨x62, i63, h64⟩ := z01 h60
  refine D2.lo rfl rfl (Lo.cP rfl (fn := Tryz.f149) (by kernel_rfl) rfl (mc rfl (mc rfl mn)) O55 (fun L' O' => z4f K p1 x42 O' _ i63)) ?_ z06 ?_ ?_
  .rintro v71 H72 ⟨G65, O66, s67, sm70, rfl⟩; exact (faR1 (.inr (sm70 _ (Or.inr ⟨0, _, rfl, (O55.footSl (j := 0) rfl j61.2.2)⟩))) z06)
  .rintro v71 H72 ⟨G65, O66, s67, sm70, rfl⟩; exact z06
  rintro v71 H72 ⟨G65, O66, s67, sm70, rfl⟩
  refine D2.p3 (.int .i64 (z02 .i64 (x26 * x62))) (D2.p3 (.int .i64 (z02 .i64 (x58 + (z02 .i64 (x26 * x62))))) ?_)
  obtain ⟨x73, i74, h75⟩ := z01 h64
  have j76 := z0a i74
  refine D2.pv (z1m v8 (Int.toNat (z02 .i64 (x15 + x42)) * 1)) (z2e z78 sz3 ov ov (O66.slLen (j := 0) rfl) j76.1 j76.2.1) (D2.lo rfl rfl (Lo.storeSl0 (j := 0) (y0 := z02 .i64 (x58 + (z02 .i64 (x26 * x62)))) (v := (.int .i64 (z02 .i64 (x58 + (z02 .i64 (x26 * x62)))))) rfl j76.2.2  rfl sz3 rfl rfl rfl O66) ?_ (z0h (by decide) z06) ?_ ?_)
  .rintro v79 H80 ⟨O77, sm78⟩; exact (faR1 (.inl (by decide)) z06)
  .rintro v79 H80 ⟨O77, sm78⟩; exact z06
  rintro v79 H80 ⟨O77, sm78⟩
  refine .nil (.region (W.r3 (.int .i64 (z02 .i64 (x42 + 1))) t50 (W.p2 (.int .i64 (z02 .i64 (x42 + 1))) (.nil ?_))))
  exact ⟨k40, zAg _, ⟨(List.set x41 (Int.toNat (z02 .i64 (x15 + x42))) (z02 .i64 (x58 + (z02 .i64 (x26 * x62))))), z02 .i64 (x42 + 1), _, h75, O77, (zAe s48 s67), rfl⟩⟩
 rintro σ83 H84 fr85 ⟨x82, G86, rfl, O87, s88⟩
 have h90 := z09 h39
 refine .seq (.region (W.q2 v8 ((fr85 5 rfl).trans ((fr18 5 rfl).trans rfl)) (W.q2 v8 ((fr85 5 rfl).trans ((fr18 5 rfl).trans rfl)) (W.pv (.int .i64 (x82.length : Int)) (z0i ov (O87.slLen (j := 0) rfl) (z04 z78)) (W.p3 (.int .i64 (z02 .i64 ((x82.length : Int) - 1))) ?_)))))
 obtain ⟨x91, i92, h93⟩ := z01 h90
 obtain ⟨w94, e96, f97⟩ := O87.view (j := 0) rfl z78 sz3 i92
 refine W.pv w94 (e96 ov ov) (W.pv (.int .i64 (x91.length : Int)) (z0i ov f97 (z04 z78)) (W.p2 (.int .i64 0) (.nil ?_)))
 obtain ⟨q98, h99, h100⟩ := z01 h93
 refine AW.midT (fun σ' H' => ∃ (y1 : List Int) (G' : GM), y1 = q98 /\ Ow G' H' (eSl v8 3 (rI .i64) y1 :: L) /\ GM.le G86 G') ?_ ?_
 rotate_left
 .rintro σ168 H169 fr170 ⟨x167, G171, rfl, O172, s173⟩
  have h175 := z09 h100
  refine .region (W.q3 (.int .i64 (z02 .i64 (x15 + 1))) ((fr170 19 rfl).trans ((fr85 19 rfl).trans t23)) rfl (W.p2 (.int .i64 (z02 .i64 (x15 + 1))) (.nil ?_)))
  exact ⟨k13, zAg _, ⟨x167, z02 .i64 (x15 + 1), _, h175, O172, (zAe s21 (zAe s31 (zAe s88 s173))), rfl⟩⟩
 refine .block (AW.loop (α := Nat) (fun k' σ' H' => ∃ (y1 : List Int) (y2 : Int) (G' : GM), z2c K x91 k' y1 y2 = some q98 /\ Ow G' H' (eSl v8 3 (rI .i64) y1 :: L) /\ GM.le G86 G' /\ σ' 50 = .int .i64 y2) (fun k' => k') K ⟨x82, 0, _, h99, O87, (zAf _), rfl⟩ ?_)
 rintro k101
 rintro σ104 H105 fr106 ⟨x102, x103, G107, h110, O108, s109, t111⟩
 rcases k101 with _ | k101
 .exact z07 h110
 rw [z2c] at h110
 refine .seq (.region (W.q3 (.bool (decide (x103 < (x91.length : Int)))) t111 ((fr106 49 rfl).trans rfl) (.nil (.seq (.cond (b := decide (x103 < (x91.length : Int))) rfl rfl (fun g112 => ?_) (fun g112 => ?_))))))
 rotate_left
 .have h166 := z0j g112 h110
  refine .exit ?_
  obtain rfl := zAa h166
  exact ⟨x102, _, rfl, O108, s109⟩
 have h113 := z05 g112 h110
 refine .skip (.seq ?_)
 obtain ⟨q114, h115, h116⟩ := z01 h113
 refine AW.midT (fun σ' H' => ∃ (y1 : List Int) (G' : GM), y1 = q114 /\ Ow G' H' (eSl v8 3 (rI .i64) y1 :: L) /\ GM.le G107 G') ?_ ?_
 rotate_left
 .rintro σ158 H159 fr160 ⟨x157, G161, rfl, O162, s163⟩
  have h165 := z09 h116
  refine .region (W.q3 (.int .i64 (z02 .i64 (x103 + 1))) ((fr160 50 rfl).trans t111) rfl (W.p2 (.int .i64 (z02 .i64 (x103 + 1))) (.nil ?_)))
  exact ⟨k101, zAg _, ⟨x157, z02 .i64 (x103 + 1), _, h165, O162, (zAe s109 s163), rfl⟩⟩
 refine .block (.seq (.region (W.q2 _ t111 (W.p1 (.int .i64 x103) (.nil (.seq ?_))))))
 refine .region (W.q2 v8 ((fr106 5 rfl).trans ((fr85 5 rfl).trans ((fr18 5 rfl).trans rfl))) (W.p2 (.int .i64 x103) ?_))
 obtain ⟨x117, i118, h119⟩ := z01 h115
 have j120 := z0a i118
 refine W.pv (z1m v8 (x103.toNat * 1)) (z2e z78 sz3 ov ov (O108.slLen (j := 0) rfl) j120.1 j120.2.1) (W.load1 (v := (.int .i64 x117)) (r := []) rfl rfl ag3 (z0t rfl (At.int (O108.atSl (j := 0) rfl j120.2.2))) (W.p3 (.bool (decide (x117 > 9))) (.nil (.cond (b := decide (x117 > 9)) rfl rfl (fun g121 => ?_) (fun g121 => ?_)))))
 rotate_left
 .have h156 := z0j g121 h119
  refine .skip ?_
  obtain rfl := zAa h156
  exact ⟨x102, _, rfl, O108, (zAf _)⟩
 have h122 := z05 g121 h119
 refine .seq (.draw2 (M := [0, 0, 2, 7, 15, 0, 0, 96, 224, 480, 1023, 2047, 4095]) mixed (by kernel_rfl) (by kernel_rfl) fun H123 N127 x124 F126 => ?_)
 have O125 := O108.ext x124
 refine D2.q2 v8 ((fr106 5 rfl).trans ((fr85 5 rfl).trans ((fr18 5 rfl).trans rfl))) (D2.p2 (.int .i64 x103) (D2.p3 (.int .i64 (z02 .i64 (x103 + 1))) ?_))
 obtain ⟨x128, i129, h130⟩ := z01 h122
 have j131 := z0a i129
 refine D2.pv (z1m v8 (Int.toNat (z02 .i64 (x103 + 1)) * 1)) (z2e z78 sz3 ov ov (O125.slLen (j := 0) rfl) j131.1 j131.2.1) (D2.load1' (v := (.int .i64 x128)) (r := []) rfl rfl ag3 (z0t rfl (At.int (O125.atSl (j := 0) rfl j131.2.2))) z06 (D2.q2 v8 ((fr106 5 rfl).trans ((fr85 5 rfl).trans ((fr18 5 rfl).trans rfl))) (D2.p2 (.int .i64 x103) ?_)))
 obtain ⟨x132, i133, h134⟩ := z01 h130
 have j135 := z0a i133
 refine D2.pv (z1m v8 (x103.toNat * 1)) (z2e z78 sz3 ov ov (O125.slLen (j := 0) rfl) j135.1 j135.2.1) (D2.load1' (v := (.int .i64 x132)) (r := []) rfl rfl ag3 (z0t rfl (At.int (O125.atSl (j := 0) rfl j135.2.2))) z06 (D2.pv (.int .i64 (z02 .i64 (Int.tdiv x132 10))) (ziu (by decide) ov ov) (D2.p3 (.int .i64 (z02 .i64 (x128 + (z02 .i64 (Int.tdiv x132 10))))) ?_)))
 obtain ⟨x136, i137, h138⟩ := z01 h134
 have j139 := z0a i137
 refine D2.pv (z1m v8 (Int.toNat (z02 .i64 (x103 + 1)) * 1)) (z2e z78 sz3 ov ov (O125.slLen (j := 0) rfl) j139.1 j139.2.1) (D2.lo rfl rfl (Lo.storeSl0 (j := 0) (y0 := z02 .i64 (x128 + (z02 .i64 (Int.tdiv x132 10)))) (v := (.int .i64 (z02 .i64 (x128 + (z02 .i64 (Int.tdiv x132 10)))))) rfl j139.2.2  rfl sz3 rfl rfl rfl O125) ?_ z06 ?_ ?_)
 .rintro v142 H143 ⟨O140, sm141⟩; exact (faR1 (.inl (by decide)) (faR1 (.inl (by decide)) z06))
 .rintro v142 H143 ⟨O140, sm141⟩; exact z06
 rintro v142 H143 ⟨O140, sm141⟩
 refine .nil (.region (W.q2 v8 ((fr106 5 rfl).trans ((fr85 5 rfl).trans ((fr18 5 rfl).trans rfl))) (W.p2 (.int .i64 x103) ?_)))
 obtain ⟨x144, i145, h146⟩ := z01 h138
 have j147 := z0a i145
 refine W.pv (z1m v8 (x103.toNat * 1)) (z2e z78 sz3 ov ov (O140.slLen (j := 0) rfl) j147.1 j147.2.1) (W.load1 (v := (.int .i64 x144)) (r := []) rfl rfl ag3 (z0t rfl (At.int (O140.atSl (j := 0) rfl j147.2.2))) (W.pv (.int .i64 (Int.tmod x144 10)) (ziv (by decide) ov ov) ?_))
 obtain ⟨x148, i149, h150⟩ := z01 h146
 have j151 := z0a i149
 refine W.pv (z1m v8 (x103.toNat * 1)) (z2e z78 sz3 ov ov (O140.slLen (j := 0) rfl) j151.1 j151.2.1) (W.ln (Lo.storeSl0 (j := 0) (y0 := Int.tmod x144 10) (v := (.int .i64 (Int.tmod x144 10))) rfl j151.2.2  rfl sz3 rfl rfl rfl O140) ?_)
 rintro v154 H155 ⟨O152, sm153⟩
 refine .nil ?_
 obtain rfl := zAa h150
 exact ⟨(List.set (List.set x102 (Int.toNat (z02 .i64 (x103 + 1))) (z02 .i64 (x128 + (z02 .i64 (Int.tdiv x132 10))))) (x103.toNat) (Int.tmod x144 10)), _, rfl, O152, (zAf _)⟩
def z5u (K : Nat) (p0 : Bool) (p1 : zAd) (p2 : zAd) : Option zAd := (if (sEq p1 (⟨#[48]⟩ : zAd)) = true then some (⟨#[48]⟩ : zAd) else ((z6h K p1 p2).bind fun x4 => ((z5l K p1 x4).bind fun x15 => ((z5l K p2 x4).bind fun x26 => (Option.bind ((if p0 = true then (if ((⟨#[45]⟩ : zAd)).size + (x15.1).size <= 4611686018427387904 then some ((⟨#[45]⟩ : zAd) ++ x15.1) else none) else some x15.1)) (tu1 fun x45 => (if (sEq x26.1 (⟨#[49]⟩ : zAd)) = true then some x45 else (if (x45).size + ((⟨#[47]⟩ : zAd)).size <= 4611686018427387904 then (if ((x45 ++ (⟨#[47]⟩ : zAd))).size + (x26.1).size <= 4611686018427387904 then some ((x45 ++ (⟨#[47]⟩ : zAd)) ++ x26.1) else none) else none))))))))
theorem z6s (p0 : Bool) (p1 : zAd) (p2 : zAd) (O : Ow G H (L)) (r : zAd) (h : z5u K p0 p1 p2 = some r) :
    CR Tryz.prog 95 [(.bool p0), (.string p1), (.string p2)] G H (L) (fun v G' _ => v = .string r) := by
 unfold z5u at h
 refine CR.og (n := 35) (fn := Tryz.f95) (by kernel_rfl) rfl rfl fun R kr => (.seq (.region (W.p1 (.string (⟨#[]⟩ : zAd)) (.nil (.seq (.seq ?_))))))
 refine .region (W.p2 (.string p1) (W.pv (.bool (sEq p1 (⟨#[48]⟩ : zAd))) (z9j ov ov) (.nil (.cond (b := sEq p1 (⟨#[48]⟩ : zAd)) rfl rfl (fun g1 => ?_) (fun g1 => ?_)))))
 .have h2 := z05 g1 h
  refine .seq (.region (W.p1 (.string (⟨#[48]⟩ : zAd)) (.nil (.ret ?_))))
  obtain rfl := zAa h2
  exact z1q kr (v1 := (.string (⟨#[48]⟩ : zAd))) (by rfl) rt O (zAf _) rfl
 have h3 := z0j g1 h
 refine .skip (.seq (.region (W.p2 (.string p1) (W.p2 (.string p2) ?_))))
 obtain ⟨x4, i5, h6⟩ := z01 h3
 refine W.ln (Lo.cP rfl (fn := Tryz.f60) (by kernel_rfl) rfl (mc rfl (mc rfl mn)) O (fun L' O' => z9c K p1 p2 O' _ i5)) ?_
 rintro v13 H14 ⟨G7, O8, s9, sm12, rfl⟩
 refine W.p1 (.string x4) (.nil (.seq (.region (W.p2 (.string p1) (W.p2 (.string x4) ?_)))))
 obtain ⟨x15, i16, h17⟩ := z01 h6
 refine W.ln (Lo.cP rfl (fn := Tryz.f129) (by kernel_rfl) rfl (mc rfl (mc rfl mn)) O8 (fun L' O' => z7e K p1 x4 O' _ i16)) ?_
 rintro v24 H25 ⟨G18, O19, s20, sm23, rfl⟩
 refine W.p2 (.tuple #[(.string x15.1), (.string x15.2)]) (W.pv (.string x15.1) (z0b ov rfl) (W.pv (.string x15.2) (z0b ov rfl) (W.p1 (.string x15.1) (.nil (.seq (.region ?_))))))
 refine W.p2 (.string p2) (W.p2 (.string x4) ?_)
 obtain ⟨x26, i27, h28⟩ := z01 h17
 refine W.ln (Lo.cP rfl (fn := Tryz.f129) (by kernel_rfl) rfl (mc rfl (mc rfl mn)) O19 (fun L' O' => z7e K p2 x4 O' _ i27)) ?_
 rintro v35 H36 ⟨G29, O30, s31, sm34, rfl⟩
 refine W.p2 (.tuple #[(.string x26.1), (.string x26.2)]) (W.pv (.string x26.1) (z0b ov rfl) (W.pv (.string x26.2) (z0b ov rfl) (W.p1 (.string x26.1) (.nil (.seq (.seq ?_))))))
 refine .region (W.p2 (.bool p0) (.nil ?_))
 obtain ⟨q37, h38, h39⟩ := z01 h28
 refine AW.midT (fun σ' H' => ∃ (y1 : zAd) (G' : GM), y1 = q37 /\ Ow G' H' (L) /\ GM.le G29 G' /\ σ' 1 = .string y1) ?_ ?_
 .refine .cond (b := p0) rfl rfl (fun g40 => ?_) (fun g40 => ?_)
  rotate_left
  .have h44 := z0j g40 h38
   refine .skip ?_
   obtain rfl := zAa h44
   exact ⟨x15.1, _, rfl, O30, (zAf _), rfl⟩
  have h41 := z05 g40 h38
  refine .region (W.p2 (.string x15.1) ?_)
  obtain ⟨g42, h43⟩ := z2l h41
  refine W.pv (.string ((⟨#[45]⟩ : zAd) ++ x15.1)) (zdq g42 ov ov) (W.p1 (.string ((⟨#[45]⟩ : zAd) ++ x15.1)) (.nil ?_))
  obtain rfl := zAa h43
  exact ⟨((⟨#[45]⟩ : zAd) ++ x15.1), _, rfl, O30, (zAf _), rfl⟩
 rintro σ46 H47 fr48 ⟨x45, G49, rfl, O50, s51, t53⟩
 have h54 := z09 h39
 refine .seq (.seq (.region (W.q2 (.string x26.1) ((fr48 2 rfl).trans rfl) (W.pv (.bool (sEq x26.1 (⟨#[49]⟩ : zAd))) (z9j ov ov) (.nil (.cond (b := sEq x26.1 (⟨#[49]⟩ : zAd)) rfl rfl (fun g55 => ?_) (fun g55 => ?_)))))))
 .have h56 := z05 g55 h54
  refine .seq (.region (W.q2 _ t53 (W.p1 (.string x45) (.nil (.ret ?_)))))
  obtain rfl := zAa h56
  exact z1q kr (v1 := (.string x45)) (by rfl) rt O50 (zAe s9 (zAe s20 (zAe s31 s51))) rfl
 have h57 := z0j g55 h54
 refine .skip (.seq (.region (W.q2 _ t53 ?_)))
 obtain ⟨g58, h59⟩ := z2l h57
 refine W.pv (.string (x45 ++ (⟨#[47]⟩ : zAd))) (zdq g58 ov ov) (W.q2 (.string x26.1) ((fr48 2 rfl).trans rfl) ?_)
 obtain ⟨g60, h61⟩ := z2l h59
 refine W.pv (.string ((x45 ++ (⟨#[47]⟩ : zAd)) ++ x26.1)) (zdq g60 ov ov) (W.p1 (.string ((x45 ++ (⟨#[47]⟩ : zAd)) ++ x26.1)) (.nil (.ret ?_)))
 obtain rfl := zAa h61
 exact z1q kr (v1 := (.string ((x45 ++ (⟨#[47]⟩ : zAd)) ++ x26.1))) (by rfl) rt O50 (zAe s9 (zAe s20 (zAe s31 s51))) rfl
def z7f (K : Nat) (p0 : zAd) (p1 : zAd) : Option zAd := ((z4l K p0).bind fun x1 => ((z4l K p1).bind fun x12 => ((z47 K x1.2.1 x12.2.1).bind fun x23 => ((z47 K x1.2.2 x12.2.2).bind fun x34 => ((z5u K (!(x1.1 == x12.1)) x23 x34).bind fun x45 => some x45)))))
theorem zd0 (p0 : zAd) (p1 : zAd) (O : Ow G H (L)) (r : zAd) (h : z7f K p0 p1 = some r) :
    CR Tryz.prog 42 [(.string p0), (.string p1)] G H (L) (fun v G' _ => v = .string r) := by
 unfold z7f at h
 refine CR.og (n := 33) (fn := Tryz.f42) (by kernel_rfl) rfl rfl fun R kr => (.seq (.region (W.p1 (.string (⟨#[]⟩ : zAd)) (.nil (.seq (.region ?_))))))
 refine W.p2 (.string p0) ?_
 obtain ⟨x1, i2, h3⟩ := z01 h
 refine W.ln (Lo.cP rfl (fn := Tryz.f61) (by kernel_rfl) rfl (mc rfl mn) O (fun L' O' => z5o K p0 O' _ i2)) ?_
 rintro v10 H11 ⟨G4, O5, s6, sm9, rfl⟩
 refine W.p2 (.tuple #[(.bool x1.1), (.string x1.2.1), (.string x1.2.2)]) (W.pv (.bool x1.1) (z0b ov rfl) (W.pv (.string x1.2.1) (z0b ov rfl) (W.pv (.string x1.2.2) (z0b ov rfl) (W.p1 (.bool x1.1) (W.p1 (.string x1.2.1) (W.p1 (.string x1.2.2) ?_))))))
 refine .nil (.seq (.region (W.p2 (.string p1) ?_)))
 obtain ⟨x12, i13, h14⟩ := z01 h3
 refine W.ln (Lo.cP rfl (fn := Tryz.f61) (by kernel_rfl) rfl (mc rfl mn) O5 (fun L' O' => z5o K p1 O' _ i13)) ?_
 rintro v21 H22 ⟨G15, O16, s17, sm20, rfl⟩
 refine W.p2 (.tuple #[(.bool x12.1), (.string x12.2.1), (.string x12.2.2)]) (W.pv (.bool x12.1) (z0b ov rfl) (W.pv (.string x12.2.1) (z0b ov rfl) (W.pv (.string x12.2.2) (z0b ov rfl) (W.p1 (.bool x12.1) (W.p1 (.string x12.2.1) (W.p1 (.string x12.2.2) ?_))))))
 refine .nil (.seq (.region (W.p2 (.bool x1.1) (W.p2 (.bool x12.1) (W.pv (.bool (!(x1.1 == x12.1))) (zdo ov ov un4) (W.p2 (.string x1.2.1) ?_))))))
 refine W.p2 (.string x12.2.1) ?_
 obtain ⟨x23, i24, h25⟩ := z01 h14
 refine W.ln (Lo.cP rfl (fn := Tryz.f94) (by kernel_rfl) rfl (mc rfl (mc rfl mn)) O16 (fun L' O' => z4w K x1.2.1 x12.2.1 O' _ i24)) ?_
 rintro v32 H33 ⟨G26, O27, s28, sm31, rfl⟩
 refine W.p2 (.string x1.2.2) (W.p2 (.string x12.2.2) ?_)
 obtain ⟨x34, i35, h36⟩ := z01 h25
 refine W.ln (Lo.cP rfl (fn := Tryz.f94) (by kernel_rfl) rfl (mc rfl (mc rfl mn)) O27 (fun L' O' => z4w K x1.2.2 x12.2.2 O' _ i35)) ?_
 rintro v43 H44 ⟨G37, O38, s39, sm42, rfl⟩
 obtain ⟨x45, i46, h47⟩ := z01 h36
 refine W.ln (Lo.cP rfl (fn := Tryz.f95) (by kernel_rfl) rfl (mc rfl (mc rfl (mc rfl mn))) O38 (fun L' O' => z6s K (!(x1.1 == x12.1)) x23 x34 O' _ i46)) ?_
 rintro v54 H55 ⟨G48, O49, s50, sm53, rfl⟩
 refine W.p1 (.string x45) (.nil (.ret ?_))
 obtain rfl := zAa h47
 exact z1q kr (v1 := (.string x45)) (by rfl) rt O49 (zAe s6 (zAe s17 (zAe s28 (zAe s39 s50)))) rfl
def z5p (K : Nat) (p0 : zAd) : Option zAd := ((z4l K p0).bind fun x1 => ((z5u K (!x1.1) x1.2.1 x1.2.2).bind fun x12 => some x12))
theorem zd1 (p0 : zAd) (O : Ow G H (L)) (r : zAd) (h : z5p K p0 = some r) :
    CR Tryz.prog 111 [(.string p0)] G H (L) (fun v G' _ => v = .string r) := by
 unfold z5p at h
 refine CR.og (n := 17) (fn := Tryz.f111) (by kernel_rfl) rfl rfl fun R kr => (.seq (.region (W.p1 (.string (⟨#[]⟩ : zAd)) (.nil (.seq (.region ?_))))))
 refine W.p2 (.string p0) ?_
 obtain ⟨x1, i2, h3⟩ := z01 h
 refine W.ln (Lo.cP rfl (fn := Tryz.f61) (by kernel_rfl) rfl (mc rfl mn) O (fun L' O' => z5o K p0 O' _ i2)) ?_
 rintro v10 H11 ⟨G4, O5, s6, sm9, rfl⟩
 refine W.p2 (.tuple #[(.bool x1.1), (.string x1.2.1), (.string x1.2.2)]) (W.pv (.bool x1.1) (z0b ov rfl) (W.pv (.string x1.2.1) (z0b ov rfl) (W.pv (.string x1.2.2) (z0b ov rfl) (W.p1 (.bool x1.1) (W.p1 (.string x1.2.1) (W.p1 (.string x1.2.2) ?_))))))
 refine .nil (.seq (.region (W.p2 (.bool x1.1) (W.pv (.bool (!x1.1)) (zbu (a := x1.1) ov) (W.p2 (.string x1.2.1) (W.p2 (.string x1.2.2) ?_))))))
 obtain ⟨x12, i13, h14⟩ := z01 h3
 refine W.ln (Lo.cP rfl (fn := Tryz.f95) (by kernel_rfl) rfl (mc rfl (mc rfl (mc rfl mn))) O5 (fun L' O' => z6s K (!x1.1) x1.2.1 x1.2.2 O' _ i13)) ?_
 rintro v21 H22 ⟨G15, O16, s17, sm20, rfl⟩
 refine W.p1 (.string x12) (.nil (.ret ?_))
 obtain rfl := zAa h14
 exact z1q kr (v1 := (.string x12)) (by rfl) rt O16 (zAe s6 s17) rfl
def z21 (K : Nat) (p0 : zAd) (p1 : zAd) : Nat -> List Int -> Int -> Int -> Option (List Int)
  | 0, _, _, _ => none
  | k + 1, x6, x7, x8 => (Option.bind ((if (decide (x8 < (p0.size : Int))) = true then some true else (if (decide (x8 < (p1.size : Int))) = true then some true else some (decide (x7 > 0))))) (tu1 fun x29 => (if x29 = true then ((z4k K p0 x8).bind fun x41 => ((z4k K p1 x8).bind fun x52 => (if x6.length + List.length [Int.tmod (z02 .i64 ((z02 .i64 (x41 + x52)) + x7)) 10] <= 16777216 then (lt (z02 .i64 (Int.tdiv (z02 .i64 ((z02 .i64 (x41 + x52)) + x7)) 10)) fun x76 => z21 K p0 p1 k (x6 ++ [Int.tmod (z02 .i64 ((z02 .i64 (x41 + x52)) + x7)) 10]) x76 (z02 .i64 (x8 + 1))) else none))) else some x6)))
def z7g (K : Nat) (p0 : zAd) (p1 : zAd) : Option zAd := (Option.bind (z21 K p0 p1 K [] 0 0) (tu1 fun x81 => ((z85 K x81).bind fun x90 => some x90)))
theorem zd2 (p0 : zAd) (p1 : zAd) (O : Ow G H (L)) (r : zAd) (h : z7g K p0 p1 = some r) :
    CR Tryz.prog 96 [(.string p0), (.string p1)] G H (L) (fun v G' _ => v = .string r) := by
 unfold z7g at h
 refine CR.og (n := 43) (fn := Tryz.f96) (by kernel_rfl) rfl rfl fun R kr => (.seq (.region (W.p1 (.string (⟨#[]⟩ : zAd)) (.nil (.seq (.region ?_))))))
 refine W.p1 (.slice none 0 0) (.nil (.seq (.region (W.p1 (.int .i64 0) (.nil (.seq ?_))))))
 refine .seq (.region (W.p1 (.int .i64 0) (.nil ?_)))
 obtain ⟨q1, h2, h3⟩ := z01 h
 refine AW.midT (fun σ' H' => ∃ (y1 : List Int) (G' : GM), y1 = q1 /\ Ow G' H' (eSl (σ' 5) 3 (rI .i64) y1 :: L) /\ GM.le G G') ?_ ?_
 rotate_left
 .rintro σ82 H83 fr84 ⟨x81, G85, rfl, O86, s87⟩
  have h89 := z09 h3
  refine .seq (.region (W.p2 (σ82 5) ?_))
  obtain ⟨x90, i91, h92⟩ := z01 h89
  refine W.ln (Lo.callB (j := 0) rfl rfl (fn := Tryz.f150) (by kernel_rfl) rfl (mc rfl mn) O86 (fun G' L' hG O' hB => z93 K (σ82 5) x81 hB O' _ i91)) ?_
  rintro v99 H100 ⟨G93, O94, s95, sm98, rfl⟩
  refine W.p1 (.string x90) (.nil (.ret ?_))
  have O101 := O94.drop 0
  obtain rfl := zAa h92
  exact z1q kr (v1 := (.string x90)) (by rfl) rt O101 (zAe s87 s95) rfl
 refine .block ?_
 have O4 := O.nilSl 3 (rI .i64)
 refine AW.loop (α := Nat) (fun k' σ' H' => ∃ (y1 : List Int) (y2 : Int) (y3 : Int) (G' : GM), z21 K p0 p1 k' y1 y2 y3 = some q1 /\ Ow G' H' (eSl (σ' 5) 3 (rI .i64) y1 :: L) /\ GM.le G G' /\ σ' 6 = .int .i64 y2 /\ σ' 7 = .int .i64 y3) (fun k' => k') K ⟨[], 0, 0, _, h2, O4, (zAf _), rfl, rfl⟩ ?_
 rintro k5
 rintro σ9 H10 fr11 ⟨x6, x7, x8, G12, h15, O13, s14, t16, t17⟩
 rcases k5 with _ | k5
 .exact z07 h15
 rw [z21] at h15
 refine .seq (.seq ?_)
 obtain ⟨q18, h19, h20⟩ := z01 h15
 refine AW.midT (fun σ' H' => ∃ (y1 : Bool) (G' : GM), y1 = q18 /\ Ow G' H' (eSl (σ9 5) 3 (rI .i64) x6 :: L) /\ GM.le G12 G' /\ σ' 22 = .bool y1) ?_ ?_
 .refine .region (W.q2 _ t17 (W.q2 (.string p0) ((fr11 0 rfl).trans rfl) (W.pv (.int .i64 (p0.size : Int)) (z1h ov un9) (W.p3 (.bool (decide (x8 < (p0.size : Int)))) (W.p2 (.bool (decide (x8 < (p0.size : Int)))) (W.splitAt (t := 13) (b := decide (x8 < (p0.size : Int))) rfl (fun g21 gv22 => ?_) (fun g21 gv22 => ?_)))))))
  .have h23 := z05 g21 h19
   refine W.q6 rfl gv22 (W.q6 rfl gv22 (W.q6 rfl gv22 (W.q6 rfl gv22 (W.q4 (.bool true) gv22 rfl (W.p2 (.bool true) (W.q6 rfl rfl ?_))))))
   refine W.q6 rfl rfl (W.q4 (.bool true) rfl rfl (.nil ?_))
   obtain rfl := zAa h23
   exact ⟨true, _, rfl, O13, (zAf _), rfl⟩
  have h24 := z0j g21 h19
  refine W.q2 (hg := gk rfl rfl gv22 rfl) _ t17 (W.q2 (hg := gk rfl rfl gv22 rfl) (.string p1) ((fr11 1 rfl).trans rfl) (W.pure (v := (.int .i64 (p1.size : Int))) (gk rfl rfl gv22 rfl) rfl (z1h ov un9) (W.q3 (hg := gk rfl rfl gv22 rfl) (.bool (decide (x8 < (p1.size : Int)))) rfl rfl (W.q5 (.bool (decide (x8 < (p1.size : Int)))) gv22 rfl (W.p2 (.bool (decide (x8 < (p1.size : Int)))) (W.splitAt (t := 19) (b := decide (x8 < (p1.size : Int))) rfl (fun g25 gv26 => ?_) (fun g25 gv26 => ?_)))))))
  .have h27 := z05 g25 h24
   refine W.q6 rfl gv26 (W.q6 rfl gv26 (W.q4 (.bool true) gv26 rfl (.nil ?_)))
   obtain rfl := zAa h27
   exact ⟨true, _, rfl, O13, (zAf _), rfl⟩
  have h28 := z0j g25 h24
  refine W.q2 (hg := gk rfl rfl gv26 rfl) _ t16 (W.q3 (hg := gk rfl rfl gv26 rfl) (.bool (decide (x7 > 0))) rfl rfl (W.q5 (.bool (decide (x7 > 0))) gv26 rfl (.nil ?_)))
  obtain rfl := zAa h28
  exact ⟨decide (x7 > 0), _, rfl, O13, (zAf _), rfl⟩
 rintro σ30 H31 fr32 ⟨x29, G33, rfl, O34, s35, t37⟩
 have h38 := z09 h20
 refine .cond (b := x29) rfl t37 (fun g39 => ?_) (fun g39 => ?_)
 rotate_left
 .have h80 := z0j g39 h38
  refine .exit ?_
  obtain rfl := zAa h80
  exact ⟨x6, _, rfl, (Ow.reval (j := 0) O34 rfl ((fr32 5 rfl).trans rfl)), (zAe s14 s35)⟩
 have h40 := z05 g39 h38
 refine .skip (.seq (.block (.seq (.region (W.q2 (.string p0) ((fr32 0 rfl).trans ((fr11 0 rfl).trans rfl)) (W.q2 _ ((fr32 7 rfl).trans t17) ?_))))))
 obtain ⟨x41, i42, h43⟩ := z01 h40
 refine W.ln (Lo.cP rfl (fn := Tryz.f149) (by kernel_rfl) rfl (mc rfl (mc rfl mn)) O34 (fun L' O' => z4f K p0 x8 O' _ i42)) ?_
 rintro v50 H51 ⟨G44, O45, s46, sm49, rfl⟩
 refine W.q2 (.string p1) ((fr32 1 rfl).trans ((fr11 1 rfl).trans rfl)) (W.q2 _ ((fr32 7 rfl).trans t17) ?_)
 obtain ⟨x52, i53, h54⟩ := z01 h43
 refine W.ln (Lo.cP rfl (fn := Tryz.f149) (by kernel_rfl) rfl (mc rfl (mc rfl mn)) O45 (fun L' O' => z4f K p1 x8 O' _ i53)) ?_
 rintro v61 H62 ⟨G55, O56, s57, sm60, rfl⟩
 refine W.p3 (.int .i64 (z02 .i64 (x41 + x52))) (W.q2 _ ((fr32 6 rfl).trans t16) (W.p3 (.int .i64 (z02 .i64 ((z02 .i64 (x41 + x52)) + x7))) (W.p1 (.int .i64 (z02 .i64 ((z02 .i64 (x41 + x52)) + x7))) (.nil (.seq (.region ?_))))))
 refine W.q2 (σ9 5) ((fr32 5 rfl).trans rfl) (W.p2 (.int .i64 (z02 .i64 ((z02 .i64 (x41 + x52)) + x7))) (W.pv (.int .i64 (Int.tmod (z02 .i64 ((z02 .i64 (x41 + x52)) + x7)) 10)) (ziv (by decide) ov ov) (W.ln (Lo.buildSlice (r := (rI .i64)) (vs := [(.int .i64 (Int.tmod (z02 .i64 ((z02 .i64 (x41 + x52)) + x7)) 10))]) (xs := [Int.tmod (z02 .i64 ((z02 .i64 (x41 + x52)) + x7)) 10]) z78 ze3 sz3 (by kernel_rfl) rfl (qc rfl qn) rfl (.cons rfl .nil) O56) ?_)))
 rintro v65 H66 ⟨O63, sm64⟩
 obtain ⟨es68, e69, e70⟩ := z4p (j := 0) rfl O63
 obtain ⟨g71, h72⟩ := z2l h54
 refine W.ln (Lo.append (j := 1) (v := (σ9 5)) rfl rfl z78 zn3 ze3 sz3 by3 (by decide) (by decide) rfl e69 e70 g71 O63) ?_
 rintro v74 H75 ⟨O67, sm73⟩
 refine W.p1 v74 (.nil (.region (W.p2 (.int .i64 (z02 .i64 ((z02 .i64 (x41 + x52)) + x7))) (W.pv (.int .i64 (z02 .i64 (Int.tdiv (z02 .i64 ((z02 .i64 (x41 + x52)) + x7)) 10))) (ziu (by decide) ov ov) ?_))))
 obtain ⟨x76, e77, h78⟩ := z67 h72
 refine W.q1 _ (congrArg (Value.int .i64) e77) (.nil (.region (W.q2 _ ((fr32 7 rfl).trans t17) (W.p3 (.int .i64 (z02 .i64 (x8 + 1))) (W.p1 (.int .i64 (z02 .i64 (x8 + 1))) (.nil ?_))))))
 have O79 := O67.drop 0
 exact ⟨k5, zAg _, ⟨(x6 ++ [Int.tmod (z02 .i64 ((z02 .i64 (x41 + x52)) + x7)) 10]), x76, z02 .i64 (x8 + 1), _, h78, O79, (zAe s14 (zAe s35 (zAe s46 s57))), rfl, rfl⟩⟩
def z5q (K : Nat) (p0 : zAd) (p1 : zAd) : Option zAd := ((z4l K p0).bind fun x1 => ((z4l K p1).bind fun x12 => ((z47 K x1.2.1 x12.2.2).bind fun x23 => ((z47 K x12.2.1 x1.2.2).bind fun x34 => ((z47 K x1.2.2 x12.2.2).bind fun x45 => (if (x1.1 == x12.1) = true then ((z7g K x23 x34).bind fun x58 => ((z5u K x1.1 x58 x45).bind fun x69 => some x69)) else ((z6f K x23 x34).bind fun x81 => (Option.bind ((if (decide (x81 < 0)) = true then some (x12.1, x34, x23) else some (x1.1, x23, x34))) (tu3 fun x98 x99 x100 => ((z6g K x99 x100).bind fun x112 => ((z5u K x98 x112 x45).bind fun x123 => some x123)))))))))))
theorem zd3 (p0 : zAd) (p1 : zAd) (O : Ow G H (L)) (r : zAd) (h : z5q K p0 p1 = some r) :
    CR Tryz.prog 41 [(.string p0), (.string p1)] G H (L) (fun v G' _ => v = .string r) := by
 unfold z5q at h
 refine CR.og (n := 57) (fn := Tryz.f41) (by kernel_rfl) rfl rfl fun R kr => (.seq (.region (W.p1 (.string (⟨#[]⟩ : zAd)) (.nil (.seq (.region ?_))))))
 refine W.p2 (.string p0) ?_
 obtain ⟨x1, i2, h3⟩ := z01 h
 refine W.ln (Lo.cP rfl (fn := Tryz.f61) (by kernel_rfl) rfl (mc rfl mn) O (fun L' O' => z5o K p0 O' _ i2)) ?_
 rintro v10 H11 ⟨G4, O5, s6, sm9, rfl⟩
 refine W.p2 (.tuple #[(.bool x1.1), (.string x1.2.1), (.string x1.2.2)]) (W.pv (.bool x1.1) (z0b ov rfl) (W.pv (.string x1.2.1) (z0b ov rfl) (W.pv (.string x1.2.2) (z0b ov rfl) (W.p1 (.bool x1.1) (W.p1 (.string x1.2.1) (W.p1 (.string x1.2.2) ?_))))))
 refine .nil (.seq (.region (W.p2 (.string p1) ?_)))
 obtain ⟨x12, i13, h14⟩ := z01 h3
 refine W.ln (Lo.cP rfl (fn := Tryz.f61) (by kernel_rfl) rfl (mc rfl mn) O5 (fun L' O' => z5o K p1 O' _ i13)) ?_
 rintro v21 H22 ⟨G15, O16, s17, sm20, rfl⟩
 refine W.p2 (.tuple #[(.bool x12.1), (.string x12.2.1), (.string x12.2.2)]) (W.pv (.bool x12.1) (z0b ov rfl) (W.pv (.string x12.2.1) (z0b ov rfl) (W.pv (.string x12.2.2) (z0b ov rfl) (W.p1 (.bool x12.1) (W.p1 (.string x12.2.1) (W.p1 (.string x12.2.2) ?_))))))
 refine .nil (.seq (.region (W.p2 (.string x1.2.1) (W.p2 (.string x12.2.2) ?_))))
 obtain ⟨x23, i24, h25⟩ := z01 h14
 refine W.ln (Lo.cP rfl (fn := Tryz.f94) (by kernel_rfl) rfl (mc rfl (mc rfl mn)) O16 (fun L' O' => z4w K x1.2.1 x12.2.2 O' _ i24)) ?_
 rintro v32 H33 ⟨G26, O27, s28, sm31, rfl⟩
 refine W.p2 (.string x12.2.1) (W.p2 (.string x1.2.2) ?_)
 obtain ⟨x34, i35, h36⟩ := z01 h25
 refine W.ln (Lo.cP rfl (fn := Tryz.f94) (by kernel_rfl) rfl (mc rfl (mc rfl mn)) O27 (fun L' O' => z4w K x12.2.1 x1.2.2 O' _ i35)) ?_
 rintro v43 H44 ⟨G37, O38, s39, sm42, rfl⟩
 refine W.p2 (.string x1.2.2) (W.p2 (.string x12.2.2) ?_)
 obtain ⟨x45, i46, h47⟩ := z01 h36
 refine W.ln (Lo.cP rfl (fn := Tryz.f94) (by kernel_rfl) rfl (mc rfl (mc rfl mn)) O38 (fun L' O' => z4w K x1.2.2 x12.2.2 O' _ i46)) ?_
 rintro v54 H55 ⟨G48, O49, s50, sm53, rfl⟩
 refine W.p1 (.string x23) (W.p1 (.string x34) (W.p1 (.string x45) (.nil (.seq (.seq (.region ?_))))))
 refine W.p2 (.bool x1.1) (W.p2 (.bool x12.1) (W.pv (.bool (x1.1 == x12.1)) (zgw ov ov un4) (.nil (.cond (b := (x1.1 == x12.1)) rfl rfl (fun g56 => ?_) (fun g56 => ?_)))))
 .have h57 := z05 g56 h47
  refine .seq (.region (W.p2 (.bool x1.1) (W.p2 (.string x23) (W.p2 (.string x34) ?_))))
  obtain ⟨x58, i59, h60⟩ := z01 h57
  refine W.ln (Lo.cP rfl (fn := Tryz.f96) (by kernel_rfl) rfl (mc rfl (mc rfl mn)) O49 (fun L' O' => zd2 K x23 x34 O' _ i59)) ?_
  rintro v67 H68 ⟨G61, O62, s63, sm66, rfl⟩
  refine W.p2 (.string x45) ?_
  obtain ⟨x69, i70, h71⟩ := z01 h60
  refine W.ln (Lo.cP rfl (fn := Tryz.f95) (by kernel_rfl) rfl (mc rfl (mc rfl (mc rfl mn))) O62 (fun L' O' => z6s K x1.1 x58 x45 O' _ i70)) ?_
  rintro v78 H79 ⟨G72, O73, s74, sm77, rfl⟩
  refine W.p1 (.string x69) (.nil (.ret ?_))
  obtain rfl := zAa h71
  exact z1q kr (v1 := (.string x69)) (by rfl) rt O73 (zAe s6 (zAe s17 (zAe s28 (zAe s39 (zAe s50 (zAe s63 s74)))))) rfl
 have h80 := z0j g56 h47
 refine .skip (.seq (.seq (.region (W.p2 (.string x23) (W.p2 (.string x34) ?_)))))
 obtain ⟨x81, i82, h83⟩ := z01 h80
 refine W.ln (Lo.cP rfl (fn := Tryz.f97) (by kernel_rfl) rfl (mc rfl (mc rfl mn)) O49 (fun L' O' => z9a K x23 x34 O' _ i82)) ?_
 rintro v90 H91 ⟨G84, O85, s86, sm89, rfl⟩
 refine W.p3 (.bool (decide (x81 < 0))) (.nil ?_)
 obtain ⟨q92, h93, h94⟩ := z01 h83
 refine AW.midT (fun σ' H' => ∃ (y1 : Bool) (y2 : zAd) (y3 : zAd) (G' : GM), (y1, y2, y3) = q92 /\ Ow G' H' (L) /\ GM.le G84 G' /\ σ' 5 = .bool y1 /\ σ' 11 = .string y2 /\ σ' 12 = .string y3) ?_ ?_
 .refine .cond (b := decide (x81 < 0)) rfl rfl (fun g95 => ?_) (fun g95 => ?_)
  rotate_left
  .have h97 := z0j g95 h93
   refine .skip ?_
   obtain rfl := zAa h97
   exact ⟨x1.1, x23, x34, _, rfl, O85, (zAf _), rfl, rfl, rfl⟩
  have h96 := z05 g95 h93
  refine .region (W.p2 (.string x34) (W.p2 (.string x23) (W.p2 (.bool x12.1) (W.p1 (.string x34) (W.p1 (.string x23) (W.p1 (.bool x12.1) ?_))))))
  refine .nil ?_
  obtain rfl := zAa h96
  exact ⟨x12.1, x34, x23, _, rfl, O85, (zAf _), rfl, rfl, rfl⟩
 rintro σ101 H102 fr103 ⟨x98, x99, x100, G104, rfl, O105, s106, t108, t109, t110⟩
 have h111 := zel h94
 refine .seq (.region (W.q2 _ t108 (W.q2 _ t109 (W.q2 _ t110 ?_))))
 obtain ⟨x112, i113, h114⟩ := z01 h111
 refine W.ln (Lo.cP rfl (fn := Tryz.f98) (by kernel_rfl) rfl (mc rfl (mc rfl mn)) O105 (fun L' O' => z9b K x99 x100 O' _ i113)) ?_
 rintro v121 H122 ⟨G115, O116, s117, sm120, rfl⟩
 refine W.q2 (.string x45) ((fr103 13 rfl).trans rfl) ?_
 obtain ⟨x123, i124, h125⟩ := z01 h114
 refine W.ln (Lo.cP rfl (fn := Tryz.f95) (by kernel_rfl) rfl (mc rfl (mc rfl (mc rfl mn))) O116 (fun L' O' => z6s K x98 x112 x45 O' _ i124)) ?_
 rintro v132 H133 ⟨G126, O127, s128, sm131, rfl⟩
 refine W.p1 (.string x123) (.nil (.ret ?_))
 obtain rfl := zAa h125
 exact z1q kr (v1 := (.string x123)) (by rfl) rt O127 (zAe s6 (zAe s17 (zAe s28 (zAe s39 (zAe s50 (zAe s86 (zAe s106 (zAe s117 s128)))))))) rfl
def z48 (K : Nat) (rec : List (List zAd) -> Option zAd) (p0 : List (List zAd)) (x4 : List zAd) : Nat -> zAd -> Int -> Option (zAd)
  | 0, _, _ => none
  | k + 1, x15, x16 => (if (decide (x16 < (x4.length : Int))) = true then (Option.bind (((idx x4 x16).bind fun x31 => (if (sEq x31 (⟨#[48]⟩ : zAd)) = true then some x15 else ((z8l K p0 0 x16).bind fun x38 => ((rec x38).bind fun x51 => ((z7f K x31 x51).bind fun x62 => (Option.bind ((if ((Int.tmod x16 2) == 1) = true then ((z5p K x62).bind fun x78 => some x78) else some x62)) (tu1 fun x90 => ((z5q K x15 x90).bind fun x100 => some x100))))))))) (tu1 fun x112 => z48 K rec p0 x4 k x112 (z02 .i64 (x16 + 1)))) else some x15)
def z7y (K : Nat) : Nat -> List (List zAd) -> Option zAd
  | 0, _ => none
  | D + 1, p0 => (if ((p0.length : Int) == 0) = true then some (⟨#[49]⟩ : zAd) else ((idx p0 0).bind fun x4 => (Option.bind (z48 K (z7y K D) p0 x4 K (⟨#[48]⟩ : zAd) 0) (tu1 fun x123 => some x123))))
theorem zhg (K D : Nat) : ∀ {G : GM} {H : AH} {L : List Pc} (v0 : Value) (p0 : List (List zAd)) (hp0 : (rSl (rSl rS)).rep G [v0] p0) (O : Ow G H (L)) (r : zAd) (h : z7y K D p0 = some r),
    CR Tryz.prog 47 [v0] G H (L) (fun v G' _ => v = .string r) := by
 induction D with
 | zero => intro G H L v0 p0 hp0 O r h; exact z07 h
 | succ D ih =>
 intro G H L v0 p0 hp0 O r h
 rw [z7y] at h
 refine CR.og (n := 37) (fn := Tryz.f47) (by kernel_rfl) rfl rfl fun R kr => (.seq (.region (W.p1 (.string (⟨#[]⟩ : zAd)) (.nil (.seq (.seq ?_))))))
 refine .region (W.p2 v0 (W.pv (.int .i64 (p0.length : Int)) (z0i ov (z0c hp0) (z04 el44)) (W.p3 (.bool ((p0.length : Int) == 0)) (.nil (.cond (b := ((p0.length : Int) == 0)) rfl rfl (fun g1 => ?_) (fun g1 => ?_))))))
 .have h2 := z05 g1 h
  refine .seq (.region (W.p1 (.string (⟨#[49]⟩ : zAd)) (.nil (.ret ?_))))
  obtain rfl := zAa h2
  exact z1q kr (v1 := (.string (⟨#[49]⟩ : zAd))) (by rfl) rt O (zAf _) rfl
 have h3 := z0j g1 h
 refine .skip (.seq (.region (W.p1 (.string (⟨#[48]⟩ : zAd)) (.nil (.seq (.seq ?_))))))
 refine .region (W.p2 v0 ?_)
 obtain ⟨x4, i5, h6⟩ := z01 h3
 have j7 := z0a i5
 refine W.pv (z1m v0 (Int.toNat 0 * 1)) (z2e el44 sz45 ov ov (z0c hp0) j7.1 j7.2.1) ?_
 obtain ⟨w8, p9, f10⟩ := At.sl (z2f hp0 j7.2.2)
 replace p9 := PtG.le p9 O.fro
 refine W.load1 (v := w8) (r := []) rfl rfl ag45 (z0t rfl p9) (W.pv (.int .i64 (x4.length : Int)) (z0i ov (z0c f10) (z04 el45)) (W.p2 (.int .i64 0) (.nil ?_)))
 obtain ⟨q11, h12, h13⟩ := z01 h6
 refine AW.midT (fun σ' H' => ∃ (y1 : zAd) (G' : GM), y1 = q11 /\ Ow G' H' (L) /\ GM.le G G' /\ σ' 3 = .string y1) ?_ ?_
 rotate_left
 .rintro σ124 H125 fr126 ⟨x123, G127, rfl, O128, s129, t131⟩
  have h132 := z09 h13
  refine .seq (.region (W.q2 _ t131 (W.p1 (.string x123) (.nil (.ret ?_)))))
  obtain rfl := zAa h132
  exact z1q kr (v1 := (.string x123)) (by rfl) rt O128 s129 rfl
 refine .block (AW.loop (α := Nat) (fun k' σ' H' => ∃ (y1 : zAd) (y2 : Int) (G' : GM), z48 K (z7y K D) p0 x4 k' y1 y2 = some q11 /\ Ow G' H' (L) /\ GM.le G G' /\ σ' 3 = .string y1 /\ σ' 14 = .int .i64 y2) (fun k' => k') K ⟨(⟨#[48]⟩ : zAd), 0, _, h12, O, (zAf _), rfl, rfl⟩ ?_)
 rintro k14
 rintro σ17 H18 fr19 ⟨x15, x16, G20, h23, O21, s22, t24, t25⟩
 rcases k14 with _ | k14
 .exact z07 h23
 rw [z48] at h23
 refine .seq (.region (W.q3 (.bool (decide (x16 < (x4.length : Int)))) t25 ((fr19 13 rfl).trans rfl) (.nil (.seq (.cond (b := decide (x16 < (x4.length : Int))) rfl rfl (fun g26 => ?_) (fun g26 => ?_))))))
 rotate_left
 .have h122 := z0j g26 h23
  refine .exit ?_
  obtain rfl := zAa h122
  exact ⟨x15, _, rfl, O21, s22, t24⟩
 have h27 := z05 g26 h23
 refine .skip (.seq ?_)
 obtain ⟨q28, h29, h30⟩ := z01 h27
 refine AW.midT (fun σ' H' => ∃ (y1 : zAd) (G' : GM), y1 = q28 /\ Ow G' H' (L) /\ GM.le G20 G' /\ σ' 3 = .string y1) ?_ ?_
 rotate_left
 .rintro σ113 H114 fr115 ⟨x112, G116, rfl, O117, s118, t120⟩
  have h121 := z09 h30
  refine .region (W.q3 (.int .i64 (z02 .i64 (x16 + 1))) ((fr115 14 rfl).trans t25) rfl (W.p2 (.int .i64 (z02 .i64 (x16 + 1))) (.nil ?_)))
  exact ⟨k14, zAg _, ⟨x112, z02 .i64 (x16 + 1), _, h121, O117, (zAe s22 s118), t120, rfl⟩⟩
 refine .block (.seq (.region (W.q2 _ t25 ?_)))
 obtain ⟨x31, i32, h33⟩ := z01 h29
 have j34 := z0a i32
 refine W.pv (z1m w8 (x16.toNat * 1)) (z2e el45 sz22 (ou ((fr19 12 rfl).trans rfl)) (ou t25) (z0c (RT.mono _ s22 f10)) j34.1 j34.2.1) (W.load1 (v := (.string x31)) (r := []) rfl rfl ag22 (z0t rfl (At.str (At.le (At.le (z2f f10 j34.2.2) s22 s22) (zAf _) O21.fro))) (W.p1 (.int .i64 x16) (W.p1 (.string x31) (.nil (.seq (.seq ?_))))))
 refine .region (W.p2 (.string x31) (W.pv (.bool (sEq x31 (⟨#[48]⟩ : zAd))) (z9j ov ov) (.nil (.cond (b := sEq x31 (⟨#[48]⟩ : zAd)) rfl rfl (fun g35 => ?_) (fun g35 => ?_)))))
 .have h36 := z05 g35 h33
  refine .exit ?_
  obtain rfl := zAa h36
  exact ⟨x15, _, rfl, O21, (zAf _), t24⟩
 have h37 := z0j g35 h33
 refine .skip (.seq (.region (W.p2 (.string x31) (W.q2 v0 ((fr19 0 rfl).trans rfl) (W.p2 (.int .i64 x16) ?_)))))
 obtain ⟨x38, i39, h40⟩ := z01 h37
 refine W.ln (Lo.callPF (ps := []) (pw := fun w => [eSl w 45 (rSl rS) x38]) rfl (fn := Tryz.f110) (by kernel_rfl) rfl (mc rfl (mc rfl (mc rfl mn))) O21 (fun L' O' => zds K v0 p0 (RT.mono _ s22 hp0) 0 x16 O' _ i39)) ?_
 rintro v49 H50 ⟨w46, G41, O42, s43, sm48, rfl⟩
 obtain ⟨x51, i52, h53⟩ := z01 h40
 refine W.ln (Lo.callB (j := 0) rfl rfl (fn := Tryz.f47) (by kernel_rfl) rfl (mc rfl mn) O42 (fun G' L' hG O' hB => ih w46 x38 hB O' _ i52)) ?_
 rintro v60 H61 ⟨G54, O55, s56, sm59, rfl⟩
 obtain ⟨x62, i63, h64⟩ := z01 h53
 refine W.ln (Lo.cP rfl (fn := Tryz.f42) (by kernel_rfl) rfl (mc rfl (mc rfl mn)) O55 (fun L' O' => zd0 K x31 x51 O' _ i63)) ?_
 rintro v71 H72 ⟨G65, O66, s67, sm70, rfl⟩
 refine W.p1 (.string x62) (.nil (.seq (.seq (.region (W.p2 (.int .i64 x16) (W.pv (.int .i64 (Int.tmod x16 2)) (ziv (by decide) ov ov) ?_))))))
 refine W.p3 (.bool ((Int.tmod x16 2) == 1)) (.nil ?_)
 obtain ⟨q73, h74, h75⟩ := z01 h64
 refine AW.midT (fun σ' H' => ∃ (y1 : zAd) (G' : GM), y1 = q73 /\ Ow G' H' (eSl w46 45 (rSl rS) x38 :: L) /\ GM.le G65 G' /\ σ' 6 = .string y1) ?_ ?_
 .refine .cond (b := ((Int.tmod x16 2) == 1)) rfl rfl (fun g76 => ?_) (fun g76 => ?_)
  rotate_left
  .have h89 := z0j g76 h74
   refine .skip ?_
   obtain rfl := zAa h89
   exact ⟨x62, _, rfl, O66, (zAf _), rfl⟩
  have h77 := z05 g76 h74
  refine .region (W.p2 (.string x62) ?_)
  obtain ⟨x78, i79, h80⟩ := z01 h77
  refine W.ln (Lo.cP rfl (fn := Tryz.f111) (by kernel_rfl) rfl (mc rfl mn) O66 (fun L' O' => zd1 K x62 O' _ i79)) ?_
  rintro v87 H88 ⟨G81, O82, s83, sm86, rfl⟩
  refine W.p1 (.string x78) (.nil ?_)
  obtain rfl := zAa h80
  exact ⟨x78, _, rfl, O82, s83, rfl⟩
 rintro σ91 H92 fr93 ⟨x90, G94, rfl, O95, s96, t98⟩
 have h99 := z09 h75
 refine .region (W.q2 _ ((fr93 3 rfl).trans t24) (W.q2 _ t98 ?_))
 obtain ⟨x100, i101, h102⟩ := z01 h99
 refine W.ln (Lo.cP rfl (fn := Tryz.f41) (by kernel_rfl) rfl (mc rfl (mc rfl mn)) O95 (fun L' O' => zd3 K x15 x90 O' _ i101)) ?_
 rintro v109 H110 ⟨G103, O104, s105, sm108, rfl⟩
 refine W.p1 (.string x100) (.nil ?_)
 have O111 := O104.drop 0
 obtain rfl := zAa h102
 exact ⟨x100, _, rfl, O111, (zAe s43 (zAe s56 (zAe s67 (zAe s96 s105)))), rfl⟩
def z2j (K : Nat) (p0 : List Int) (p3 : List (List zAd)) (x28 : Int) : Nat -> List zAd -> Int -> Option (List zAd)
  | 0, _, _ => none
  | k + 1, x37, x38 => (if (decide (x38 < (p0.length : Int))) = true then ((idx p0 x38).bind fun x49 => ((idx p3 x28).bind fun x56 => ((idx x56 x49).bind fun x63 => (if x37.length + List.length [x63] <= 16777216 then z2j K p0 p3 x28 k (x37 ++ [x63]) (z02 .i64 (x38 + 1)) else none)))) else some x37)
def z22 (K : Nat) (p2 : List Int) (p0 : List Int) (p3 : List (List zAd)) : Nat -> List (List zAd) -> Int -> Option (List (List zAd))
  | 0, _, _ => none
  | k + 1, x16, x17 => (if (decide (x17 < (p2.length : Int))) = true then ((idx p2 x17).bind fun x28 => (Option.bind (z2j K p0 p3 x28 K [] 0) (tu1 fun x85 => (if x16.length + List.length [x85] <= 16777216 then z22 K p2 p0 p3 k (x16 ++ [x85]) (z02 .i64 (x17 + 1)) else none)))) else some x16)
def z4h (K : Nat) (p0 : List Int) (p1 : Bool) (p2 : List Int) (p3 : List (List zAd)) : Option Bool := (if p1 = true then some p1 else (Option.bind (z22 K p2 p0 p3 K [] 0) (tu1 fun x115 => ((z7y K K x115).bind fun x124 => some (!(sEq x124 (⟨#[48]⟩ : zAd)))))))
theorem zb0 (v0 : Value) (p0 : List Int) (hp0 : (rSl (rI .i64)).rep G [v0] p0) (b1 : Nat) (p1 : Bool) (v2 : Value) (p2 : List Int) (hp2 : At G G v2 (rSl (rI .i64)) p2) (v3 : Value) (p3 : List (List zAd)) (hp3 : At G G v3 (rSl (rSl rS)) p3) (O : Ow G H (eVar b1 4 rB p1 :: L)) (r : Bool) (h : z4h K p0 p1 p2 p3 = some r) :
    CR Tryz.prog 106 [v0, .pointer (some ⟨b1, 0, none⟩), v2, v3] G H (eVar b1 4 rB r :: L) (fun v G' _ => v = .tuple #[]) := by
 unfold z4h at h
 refine CR.og (n := 43) (fn := Tryz.f106) (by kernel_rfl) rfl rfl fun R kr => (.seq (.seq (.region (W.load1 (v := (.bool p1)) (r := []) rfl rfl ag4 (z0t rfl (At.bool (O.atVar (j := 0) rfl))) (.nil (.cond (b := p1) rfl rfl (fun g5 => ?_) (fun g5 => ?_)))))))
 .have h6 := z05 g5 h
  refine .ret ?_
  obtain rfl := zAa h6
  exact zmn kr  (by rfl)  O (zAf _) rfl
 have h7 := z0j g5 h
 refine .skip (.seq (.region (W.p1 (.slice none 0 0) (.nil (.seq (.seq ?_))))))
 refine .region ?_
 obtain ⟨w8, p9, f10⟩ := At.sl hp2
 replace p9 := PtG.le p9 O.fro
 refine W.load1 (v := w8) (r := []) rfl rfl zqd (z0t rfl p9) (W.pv (.int .i64 (p2.length : Int)) (z0i ov (z0c f10) (z04 z78)) (W.p2 (.int .i64 0) (.nil ?_)))
 obtain ⟨q11, h12, h13⟩ := z01 h7
 refine AW.midT (fun σ' H' => ∃ (y1 : List (List zAd)) (G' : GM), y1 = q11 /\ Ow G' H' (eVar b1 4 rB p1 :: eSl (σ' 5) 45 (rSl rS) y1 :: L) /\ GM.le G G') ?_ ?_
 rotate_left
 .rintro σ116 H117 fr118 ⟨x115, G119, rfl, O120, s121⟩
  have h123 := z09 h13
  refine .region (W.p2 (σ116 5) ?_)
  obtain ⟨x124, i125, h126⟩ := z01 h123
  refine W.ln (Lo.callB (j := 1) rfl rfl (fn := Tryz.f47) (by kernel_rfl) rfl (mc rfl mn) O120 (fun G' L' hG O' hB => zhg K K (σ116 5) x115 hB O' _ i125)) ?_
  rintro v133 H134 ⟨G127, O128, s129, sm132, rfl⟩
  refine W.pv (.bool (!(sEq x124 (⟨#[48]⟩ : zAd)))) (zlp ov ov) (W.ln (Lo.storeVar (j := 0) (s := rB) (y0 := (!(sEq x124 (⟨#[48]⟩ : zAd)))) (v := (.bool (!(sEq x124 (⟨#[48]⟩ : zAd))))) (o := 0) rfl ((Put.at (Put.self _) _ _)) rfl sz4 ((fr118 1 rfl).trans rfl) (by omega) rfl rfl O128) ?_)
  rintro v137 H138 ⟨O135, sm136⟩
  refine .nil ?_
  have O139 := O135.drop 1
  obtain rfl := zAa h126
  exact zmn kr  (by rfl)  O139 (zAe s121 s129) rfl
 refine .block ?_
 have O14 := O.nilSl 45 (rSl rS)
 refine AW.loop (α := Nat) (fun k' σ' H' => ∃ (y1 : List (List zAd)) (y2 : Int) (G' : GM), z22 K p2 p0 p3 k' y1 y2 = some q11 /\ Ow G' H' (eSl (σ' 5) 45 (rSl rS) y1 :: eVar b1 4 rB p1 :: L) /\ GM.le G G' /\ σ' 14 = .int .i64 y2) (fun k' => k') K ⟨[], 0, _, h12, O14, (zAf _), rfl⟩ ?_
 rintro k15
 rintro σ18 H19 fr20 ⟨x16, x17, G21, h24, O22, s23, t25⟩
 rcases k15 with _ | k15
 .exact z07 h24
 rw [z22] at h24
 refine .seq (.region (W.q3 (.bool (decide (x17 < (p2.length : Int)))) t25 ((fr20 13 rfl).trans rfl) (.nil (.seq (.cond (b := decide (x17 < (p2.length : Int))) rfl rfl (fun g26 => ?_) (fun g26 => ?_))))))
 rotate_left
 .have h112 := z0j g26 h24
  refine .exit ?_
  have O113 : Ow G21 H19 (eSl (σ18 5) 45 (rSl rS) x16 :: eVar b1 4 rB p1 :: L) := O22.front (j := 0) rfl
  have O114 : Ow G21 H19 (eVar b1 4 rB p1 :: eSl (σ18 5) 45 (rSl rS) x16 :: L) := O113.front (j := 1) rfl
  obtain rfl := zAa h112
  exact ⟨x16, _, rfl, O114, s23⟩
 have h27 := z05 g26 h24
 refine .skip (.seq (.block (.seq (.region ?_))))
 obtain ⟨x28, i29, h30⟩ := z01 h27
 have j31 := z0a i29
 refine W.pv (z1m w8 (x17.toNat * 1)) (z2e z78 sz3 (ou ((fr20 12 rfl).trans rfl)) (ou t25) (z0c (RT.mono _ s23 f10)) j31.1 j31.2.1) (W.load1 (v := (.int .i64 x28)) (r := []) rfl rfl ag3 (z0t rfl (At.int (At.le (At.le (z2f f10 j31.2.2) s23 s23) (zAf _) O22.fro))) (W.p1 (.int .i64 x28) (.nil (.seq (.region (W.p1 (.slice none 0 0) ?_))))))
 refine .nil (.seq (.seq (.region (W.q2 v0 ((fr20 0 rfl).trans rfl) (W.pv (.int .i64 (p0.length : Int)) (z0i ov (z0c (RT.mono _ s23 hp0)) (z04 z78)) (W.p2 (.int .i64 0) ?_))))))
 refine .nil ?_
 obtain ⟨q32, h33, h34⟩ := z01 h30
 refine AW.midT (fun σ' H' => ∃ (y1 : List zAd) (G' : GM), y1 = q32 /\ Ow G' H' (eSl (σ18 5) 45 (rSl rS) x16 :: eVar b1 4 rB p1 :: eSl (σ' 8) 22 rS y1 :: L) /\ GM.le G21 G') ?_ ?_
 rotate_left
 .rintro σ86 H87 fr88 ⟨x85, G89, rfl, O90, s91⟩
  have h93 := z09 h34
  refine .region (W.q2 (σ18 5) ((fr88 5 rfl).trans rfl) (W.p2 (σ86 8) ?_))
  obtain ⟨G95, O96, s97, f98⟩ := O90.frzSl (j := 2) rfl
  refine W.ln (Lo.buildSlice (r := (rSl rS)) (vs := [(σ86 8)]) (xs := [x85]) el44 ze45 sz45 (by kernel_rfl) rfl (qc rfl qn) rfl (.cons (z4z f98) .nil) O96) ?_
  rintro v100 H101 ⟨O94, sm99⟩
  obtain ⟨es103, e104, e105⟩ := z4p (j := 0) rfl O94
  obtain ⟨g106, h107⟩ := z2l h93
  refine W.ln (Lo.append (j := 1) (v := (σ18 5)) rfl rfl el44 ni44 ze45 sz45 by45 (by decide) (by decide) rfl e104 e105 g106 O94) ?_
  rintro v109 H110 ⟨O102, sm108⟩
  refine W.p1 v109 (.nil (.region (W.q3 (.int .i64 (z02 .i64 (x17 + 1))) ((fr88 14 rfl).trans t25) rfl (W.p2 (.int .i64 (z02 .i64 (x17 + 1))) (.nil ?_)))))
  have O111 := O102.drop 0
  exact ⟨k15, zAg _, ⟨(x16 ++ [x85]), z02 .i64 (x17 + 1), _, h107, O111, (zAe s23 (zAe s91 s97)), rfl⟩⟩
 refine .block ?_
 have O35 := O22.nilSl 22 rS
 refine AW.loop (α := Nat) (fun k' σ' H' => ∃ (y1 : List zAd) (y2 : Int) (G' : GM), z2j K p0 p3 x28 k' y1 y2 = some q32 /\ Ow G' H' (eSl (σ' 8) 22 rS y1 :: eSl (σ18 5) 45 (rSl rS) x16 :: eVar b1 4 rB p1 :: L) /\ GM.le G21 G' /\ σ' 20 = .int .i64 y2) (fun k' => k') K ⟨[], 0, _, h33, O35, (zAf _), rfl⟩ ?_
 rintro k36
 rintro σ39 H40 fr41 ⟨x37, x38, G42, h45, O43, s44, t46⟩
 rcases k36 with _ | k36
 .exact z07 h45
 rw [z2j] at h45
 refine .seq (.region (W.q3 (.bool (decide (x38 < (p0.length : Int)))) t46 ((fr41 19 rfl).trans rfl) (.nil (.seq (.cond (b := decide (x38 < (p0.length : Int))) rfl rfl (fun g47 => ?_) (fun g47 => ?_))))))
 rotate_left
 .have h81 := z0j g47 h45
  refine .exit ?_
  have O82 : Ow G42 H40 (eSl (σ39 8) 22 rS x37 :: eSl (σ18 5) 45 (rSl rS) x16 :: eVar b1 4 rB p1 :: L) := O43.front (j := 0) rfl
  have O83 : Ow G42 H40 (eVar b1 4 rB p1 :: eSl (σ39 8) 22 rS x37 :: eSl (σ18 5) 45 (rSl rS) x16 :: L) := O82.front (j := 2) rfl
  have O84 : Ow G42 H40 (eSl (σ18 5) 45 (rSl rS) x16 :: eVar b1 4 rB p1 :: eSl (σ39 8) 22 rS x37 :: L) := O83.front (j := 2) rfl
  obtain rfl := zAa h81
  exact ⟨x37, _, rfl, O84, s44⟩
 have h48 := z05 g47 h45
 refine .skip (.seq (.block (.seq (.region ?_))))
 obtain ⟨x49, i50, h51⟩ := z01 h48
 have j52 := z0a i50
 refine W.pv (z1m v0 (x38.toNat * 1)) (z2e z78 sz3 (ou ((fr41 18 rfl).trans rfl)) (ou t46) (z0c (RT.mono _ (zAe s23 s44) hp0)) j52.1 j52.2.1) (W.load1 (v := (.int .i64 x49)) (r := []) rfl rfl ag3 (z0t rfl (At.int (At.le (At.le (z2f hp0 j52.2.2) (zAe s23 s44) (zAe s23 s44)) (zAf _) O43.fro))) (W.p1 (.int .i64 x49) (.nil (.region (W.p2 (σ39 8) ?_)))))
 obtain ⟨w53, p54, f55⟩ := At.sl (At.le hp3 (zAe s23 s44) (zAe s23 s44))
 replace p54 := PtG.le p54 O43.fro
 refine W.load1 (v := w53) (r := []) rfl rfl ag44 (z0t ((fr41 3 rfl).trans ((fr20 3 rfl).trans rfl)) p54) (W.q2 (.int .i64 x28) ((fr41 7 rfl).trans rfl) ?_)
 obtain ⟨x56, i57, h58⟩ := z01 h51
 have j59 := z0a i57
 refine W.pv (z1m w53 (x28.toNat * 1)) (z2e el44 sz45 ov ov (z0c f55) j59.1 j59.2.1) ?_
 obtain ⟨w60, p61, f62⟩ := At.sl (z2f f55 j59.2.2)
 replace p61 := PtG.le p61 O43.fro
 refine W.load1 (v := w60) (r := []) rfl rfl ag45 (z0t rfl p61) (W.p2 (.int .i64 x49) ?_)
 obtain ⟨x63, i64, h65⟩ := z01 h58
 have j66 := z0a i64
 refine W.pv (z1m w60 (x49.toNat * 1)) (z2e el45 sz22 ov ov (z0c f62) j66.1 j66.2.1) (W.load1 (v := (.string x63)) (r := []) rfl rfl ag22 (z0t rfl (At.str (At.le (z2f f62 j66.2.2) (zAf _) O43.fro))) (W.ln (Lo.buildSlice (r := rS) (vs := [(.string x63)]) (xs := [x63]) el45 ze22 sz22 (by kernel_rfl) rfl (qc rfl qn) rfl (.cons rfl .nil) O43) ?_))
 rintro v69 H70 ⟨O67, sm68⟩
 obtain ⟨es72, e73, e74⟩ := z4p (j := 0) rfl O67
 obtain ⟨g75, h76⟩ := z2l h65
 refine W.ln (Lo.append (j := 1) (v := (σ39 8)) rfl rfl el45 ni45 ze22 sz22 by22 (by decide) (by decide) rfl e73 e74 g75 O67) ?_
 rintro v78 H79 ⟨O71, sm77⟩
 refine W.p1 v78 (.nil (.region (W.r3 (.int .i64 (z02 .i64 (x38 + 1))) t46 (W.p2 (.int .i64 (z02 .i64 (x38 + 1))) (.nil ?_)))))
 have O80 := O71.drop 0
 exact ⟨k36, zAg _, ⟨(x37 ++ [x63]), z02 .i64 (x38 + 1), _, h76, O80, s44, rfl⟩⟩
def z0m (K : Nat) (p0 : Int) (x8 : Int) : Nat -> List Int -> Int -> Option (List Int)
  | 0, _, _ => none
  | k + 1, x27, x28 => (if (decide (x28 < p0)) = true then (Option.bind ((if 0 <= x28 then (if ((iand .i64 (ishr .i64 x8 x28) 1) == 1) = true then (if x27.length + List.length [x28] <= 16777216 then some (x27 ++ [x28]) else none) else some x27) else none)) (tu1 fun x61 => z0m K p0 x8 k x61 (z02 .i64 (x28 + 1)))) else some x27)
def z0n (K : Nat) (p0 : Int) (p1 : Int) (p901 : List Int) (p902 : List (List zAd)) : Nat -> Bool -> Int -> Option (Bool)
  | 0, _, _ => none
  | k + 1, x7, x8 => (if (decide (x8 < (ishl .i64 (1 : Int) p0))) = true then (Option.bind ((Option.bind (z0m K p0 x8 K [] 0) (tu1 fun x73 => (if ((x73.length : Int) == p1) = true then ((z4h K x73 x7 p901 p902).bind fun x88 => some x88) else some x7)))) (tu1 fun x101 => z0n K p0 p1 p901 p902 k x101 (z02 .i64 (x8 + 1)))) else some x7)
def z2d (K : Nat) (p0 : Int) (p1 : Int) (p900 : Bool) (p901 : List Int) (p902 : List (List zAd)) : Option Bool := (if 0 <= p0 then (Option.bind (z0n K p0 p1 p901 p902 K p900 0) (tu1 fun x111 => some x111)) else none)
theorem z6j (p0 : Int) (p1 : Int) (b900 : Nat) (p900 : Bool) (v901 : Value) (p901 : List Int) (hp901 : At G G v901 (rSl (rI .i64)) p901) (v902 : Value) (p902 : List (List zAd)) (hp902 : At G G v902 (rSl (rSl rS)) p902) (O : Ow G H (eVar b900 4 rB p900 :: L)) (r : Bool) (h : z2d K p0 p1 p900 p901 p902 = some r) :
    CR Tryz.prog 104 [(.int .i64 p0), (.int .i64 p1), (.func (.func 106) #[] #[(.pointer (some ⟨b900, 0, none⟩)), v901, v902])] G H (eVar b900 4 rB r :: L) (fun v G' _ => v = .tuple #[]) := by
 unfold z2d at h
 refine CR.og (n := 36) (fn := Tryz.f104) (by kernel_rfl) rfl rfl fun R kr => (.seq (.region (W.p2 (.int .i64 p0) ?_)))
 obtain ⟨g1, h2⟩ := z2l h
 refine W.pv (.int .i64 (ishl .i64 (1 : Int) p0)) (zpx g1 ov ov) (W.p2 (.int .i64 0) (.nil ?_))
 obtain ⟨q3, h4, h5⟩ := z01 h2
 refine AW.midT (fun σ' H' => ∃ (y1 : Bool) (G' : GM), y1 = q3 /\ Ow G' H' (eVar b900 4 rB y1 :: L) /\ GM.le G G') ?_ ?_
 rotate_left
 .rintro σ112 H113 fr114 ⟨x111, G115, rfl, O116, s117⟩
  have h119 := z09 h5
  obtain rfl := zAa h119
  exact zmn kr  (by rfl)  O116 s117 rfl
 refine .block (AW.loop (α := Nat) (fun k' σ' H' => ∃ (y1 : Bool) (y2 : Int) (G' : GM), z0n K p0 p1 p901 p902 k' y1 y2 = some q3 /\ Ow G' H' (eVar b900 4 rB y1 :: L) /\ GM.le G G' /\ σ' 11 = .int .i64 y2) (fun k' => k') K ⟨p900, 0, _, h4, O, (zAf _), rfl⟩ ?_)
 rintro k6
 rintro σ9 H10 fr11 ⟨x7, x8, G12, h15, O13, s14, t16⟩
 rcases k6 with _ | k6
 .exact z07 h15
 rw [z0n] at h15
 refine .seq (.region (W.q3 (.bool (decide (x8 < (ishl .i64 (1 : Int) p0)))) t16 ((fr11 10 rfl).trans rfl) (.nil (.seq (.cond (b := decide (x8 < (ishl .i64 (1 : Int) p0))) rfl rfl (fun g17 => ?_) (fun g17 => ?_))))))
 rotate_left
 .have h110 := z0j g17 h15
  refine .exit ?_
  obtain rfl := zAa h110
  exact ⟨x7, _, rfl, O13, s14⟩
 have h18 := z05 g17 h15
 refine .skip (.seq ?_)
 obtain ⟨q19, h20, h21⟩ := z01 h18
 refine AW.midT (fun σ' H' => ∃ (y1 : Bool) (G' : GM), y1 = q19 /\ Ow G' H' (eVar b900 4 rB y1 :: L) /\ GM.le G12 G') ?_ ?_
 rotate_left
 .rintro σ102 H103 fr104 ⟨x101, G105, rfl, O106, s107⟩
  have h109 := z09 h21
  refine .region (W.q3 (.int .i64 (z02 .i64 (x8 + 1))) ((fr104 11 rfl).trans t16) rfl (W.p2 (.int .i64 (z02 .i64 (x8 + 1))) (.nil ?_)))
  exact ⟨k6, zAg _, ⟨x101, z02 .i64 (x8 + 1), _, h109, O106, (zAe s14 s107), rfl⟩⟩
 refine .block (.seq (.region (W.q2 _ t16 (W.p1 (.int .i64 x8) (.nil (.seq ?_))))))
 refine .region (W.p1 (.slice none 0 0) (.nil (.seq (.seq (.region (W.q2 (.int .i64 p0) ((fr11 0 rfl).trans rfl) ?_))))))
 refine W.p2 (.int .i64 0) (.nil ?_)
 obtain ⟨q22, h23, h24⟩ := z01 h20
 refine AW.midT (fun σ' H' => ∃ (y1 : List Int) (G' : GM), y1 = q22 /\ Ow G' H' (eVar b900 4 rB x7 :: eSl (σ' 7) 3 (rI .i64) y1 :: L) /\ GM.le G12 G') ?_ ?_
 rotate_left
 .rintro σ74 H75 fr76 ⟨x73, G77, rfl, O78, s79⟩
  have h81 := z09 h24
  refine .seq (.region (W.p2 (σ74 7) (W.pv (.int .i64 (x73.length : Int)) (z0i ov (O78.slLen (j := 1) rfl) (z04 z78)) (W.q2 (.int .i64 p1) ((fr76 1 rfl).trans ((fr11 1 rfl).trans rfl)) (W.p3 (.bool ((x73.length : Int) == p1)) (.nil ?_))))))
  refine .cond (b := ((x73.length : Int) == p1)) rfl rfl (fun g82 => ?_) (fun g82 => ?_)
  rotate_left
  .have h99 := z0j g82 h81
   refine .skip ?_
   have O100 := O78.drop 1
   obtain rfl := zAa h99
   exact ⟨x7, _, rfl, O100, s79⟩
  have h83 := z05 g82 h81
  refine .region (W.q2 (.func (.func 106) #[] #[(.pointer (some ⟨b900, 0, none⟩)), v901, v902]) ((fr76 2 rfl).trans ((fr11 2 rfl).trans rfl)) (W.p2 (σ74 7) ?_))
  obtain ⟨G84, O85, s86, f87⟩ := O78.frzSl (j := 1) rfl
  obtain ⟨x88, i89, h90⟩ := z01 h83
  refine W.ln (Lo.callvP (ps := [eVar b900 4 rB x7]) (ps' := [eVar b900 4 rB x88]) rfl rfl (fn := Tryz.f106) (by kernel_rfl) rfl (mc rfl mn) O85 (fun L' O' => zb0 K (σ74 7) x73 f87 b900 x7 v901 p901 (At.le hp901 (zAe s14 (zAe s79 s86)) (zAe s14 (zAe s79 s86))) v902 p902 (At.le hp902 (zAe s14 (zAe s79 s86)) (zAe s14 (zAe s79 s86))) O' _ i89)) ?_
  rintro v97 H98 ⟨G91, O92, s93, sm96, rfl⟩
  refine .nil ?_
  obtain rfl := zAa h90
  exact ⟨x88, _, rfl, O92, (zAe s79 (zAe s86 s93))⟩
 refine .block ?_
 have O25 := O13.nilSl 3 (rI .i64)
 refine AW.loop (α := Nat) (fun k' σ' H' => ∃ (y1 : List Int) (y2 : Int) (G' : GM), z0m K p0 x8 k' y1 y2 = some q22 /\ Ow G' H' (eSl (σ' 7) 3 (rI .i64) y1 :: eVar b900 4 rB x7 :: L) /\ GM.le G12 G' /\ σ' 15 = .int .i64 y2) (fun k' => k') K ⟨[], 0, _, h23, O25, (zAf _), rfl⟩ ?_
 rintro k26
 rintro σ29 H30 fr31 ⟨x27, x28, G32, h35, O33, s34, t36⟩
 rcases k26 with _ | k26
 .exact z07 h35
 rw [z0m] at h35
 refine .seq (.region (W.q3 (.bool (decide (x28 < p0))) t36 ((fr31 14 rfl).trans rfl) (.nil (.seq (.cond (b := decide (x28 < p0)) rfl rfl (fun g37 => ?_) (fun g37 => ?_))))))
 rotate_left
 .have h70 := z0j g37 h35
  refine .exit ?_
  have O71 : Ow G32 H30 (eSl (σ29 7) 3 (rI .i64) x27 :: eVar b900 4 rB x7 :: L) := O33.front (j := 0) rfl
  have O72 : Ow G32 H30 (eVar b900 4 rB x7 :: eSl (σ29 7) 3 (rI .i64) x27 :: L) := O71.front (j := 1) rfl
  obtain rfl := zAa h70
  exact ⟨x27, _, rfl, O72, s34⟩
 have h38 := z05 g37 h35
 refine .skip (.seq ?_)
 obtain ⟨q39, h40, h41⟩ := z01 h38
 refine AW.midT (fun σ' H' => ∃ (y1 : List Int) (G' : GM), y1 = q39 /\ Ow G' H' (eSl (σ' 7) 3 (rI .i64) y1 :: eVar b900 4 rB x7 :: L) /\ GM.le G32 G') ?_ ?_
 rotate_left
 .rintro σ62 H63 fr64 ⟨x61, G65, rfl, O66, s67⟩
  have h69 := z09 h41
  refine .region (W.q3 (.int .i64 (z02 .i64 (x28 + 1))) ((fr64 15 rfl).trans t36) rfl (W.p2 (.int .i64 (z02 .i64 (x28 + 1))) (.nil ?_)))
  exact ⟨k26, zAg _, ⟨x61, z02 .i64 (x28 + 1), _, h69, O66, (zAe s34 s67), rfl⟩⟩
 refine .block (.seq (.region (W.q2 _ t36 (W.p1 (.int .i64 x28) (.nil (.seq ?_))))))
 refine .region (W.q2 (.int .i64 x8) ((fr31 6 rfl).trans rfl) (W.p2 (.int .i64 x28) ?_))
 obtain ⟨g42, h43⟩ := z2l h40
 refine W.pv (.int .i64 (ishr .i64 x8 x28)) (zpy g42 ov ov) (W.p3 (.int .i64 (iand .i64 (ishr .i64 x8 x28) 1)) (W.p3 (.bool ((iand .i64 (ishr .i64 x8 x28) 1) == 1)) (.nil (.cond (b := ((iand .i64 (ishr .i64 x8 x28) 1) == 1)) rfl rfl (fun g44 => ?_) (fun g44 => ?_)))))
 rotate_left
 .have h60 := z0j g44 h43
  refine .skip ?_
  obtain rfl := zAa h60
  exact ⟨x27, _, rfl, O33, (zAf _)⟩
 have h45 := z05 g44 h43
 refine .region (W.p2 (σ29 7) (W.p2 (.int .i64 x28) (W.ln (Lo.buildSlice (r := (rI .i64)) (vs := [(.int .i64 x28)]) (xs := [x28]) z78 ze3 sz3 (by kernel_rfl) rfl (qc rfl qn) rfl (.cons rfl .nil) O33) ?_)))
 rintro v48 H49 ⟨O46, sm47⟩
 obtain ⟨es51, e52, e53⟩ := z4p (j := 0) rfl O46
 obtain ⟨g54, h55⟩ := z2l h45
 refine W.ln (Lo.append (j := 1) (v := (σ29 7)) rfl rfl z78 zn3 ze3 sz3 by3 (by decide) (by decide) rfl e52 e53 g54 O46) ?_
 rintro v57 H58 ⟨O50, sm56⟩
 refine W.p1 v57 (.nil ?_)
 have O59 := O50.drop 0
 obtain rfl := zAa h55
 exact ⟨(x27 ++ [x28]), _, rfl, O59, (zAf _)⟩
def z6k (K : Nat) (p0 : List Int) (p1 : List (List zAd)) (p2 : Int) (p3 : Bool) : Option Bool := ((z7o K p1).bind fun x18 => ((z2d K x18 p2 p3 p0 p1).bind fun x33 => some x33))
theorem zd4 (v0 : Value) (p0 : List Int) (hp0 : (rSl (rI .i64)).rep G [v0] p0) (v1 : Value) (p1 : List (List zAd)) (hp1 : At G G v1 (rSl (rSl rS)) p1) (v2 : Value) (p2 : Int) (hp2 : At G G v2 (rI .i64) p2) (b3 : Nat) (p3 : Bool) (O : Ow G H (eVar b3 4 rB p3 :: L)) (r : Bool) (h : z6k K p0 p1 p2 p3 = some r) :
    CR Tryz.prog 105 [v0, v1, v2, .pointer (some ⟨b3, 0, none⟩)] G H (eVar b3 4 rB r :: L) (fun v G' _ => v = .tuple #[]) := by
 unfold z6k at h
 refine CR.og (n := 10) (fn := Tryz.f105) (by kernel_rfl) rfl rfl fun R kr => (.seq (.region (W.ln (Lo.box (r := (rSl (rI .i64))) (x0 := p0) (v := v0) rfl rfl (z4z hp0) O) ?_)))
 rintro v8 H9 ⟨b6, rfl, O5, sm7⟩
 refine .nil (.draw2 (M := [0, 1, 0, 0, 15]) mixed (by kernel_rfl) (by kernel_rfl) fun H10 N14 x11 F13 => ?_)
 have O12 := O5.ext x11
 obtain ⟨w15, p16, f17⟩ := At.sl hp1
 replace p16 := PtG.le p16 O12.fro
 refine D2.load1' (v := w15) (r := []) rfl rfl ag44 (z0t rfl p16) z06 ?_
 obtain ⟨x18, i19, h20⟩ := z01 h
 refine D2.lo rfl rfl (Lo.cP rfl (fn := Tryz.f31) (by kernel_rfl) rfl (mc rfl mn) O12 (fun L' O' => zaf K w15 p1 f17 O' _ i19)) ?_ z06 ?_ ?_
 .rintro v27 H28 ⟨G21, O22, s23, sm26, rfl⟩; exact (faR1 (.inl (by decide)) z06)
 .rintro v27 H28 ⟨G21, O22, s23, sm26, rfl⟩; exact z06
 rintro v27 H28 ⟨G21, O22, s23, sm26, rfl⟩
 refine D2.load1' (v := (.int .i64 p2)) (r := []) rfl rfl ag3 (z0t rfl (At.int (At.le (At.le hp2 s23 s23) (zAf _) O22.fro))) (z8g (sm26 _ (zp5 (M := G) hp2 rfl)) z06) (D2.pv (.func (.func 106) #[] #[(.pointer (some ⟨b3, 0, none⟩)), (.pointer (some ⟨b6, 0, none⟩)), v1]) (zct (z9p rfl mn) (z9p rfl (mc rfl (mc rfl (mc rfl mn))))) ?_)
 obtain ⟨G29, O30, s31, f32⟩ := O22.frzVar (j := 0) rfl
 obtain ⟨x33, i34, h35⟩ := z01 h20
 refine D2.lo rfl rfl (Lo.callP (ps := [eVar b3 4 rB p3]) (ps' := [eVar b3 4 rB x33]) rfl (fn := Tryz.f104) (by kernel_rfl) rfl (mc rfl (mc rfl (mc rfl mn))) O30 (fun L' O' => z6j K x18 p2 b3 p3 (.pointer (some ⟨b6, 0, none⟩)) p0 f32 v1 p1 (At.le hp1 (zAe s23 s31) (zAe s23 s31)) O' _ i34)) ?_ (z0h (by decide) z06) ?_ ?_
 .rintro v42 H43 ⟨G36, O37, s38, sm41, rfl⟩; exact (faR1 (.inl (by decide)) (faR1 (.inl (by decide)) z06))
 .rintro v42 H43 ⟨G36, O37, s38, sm41, rfl⟩; exact z06
 rintro v42 H43 ⟨G36, O37, s38, sm41, rfl⟩
 refine .nil ?_
 obtain rfl := zAa h35
 exact zmn kr  (by rfl)  O37 (zAe s23 (zAe s31 s38)) rfl
def z0u (K : Nat) (p0 : Int) (x8 : Int) : Nat -> List Int -> Int -> Option (List Int)
  | 0, _, _ => none
  | k + 1, x27, x28 => (if (decide (x28 < p0)) = true then (Option.bind ((if 0 <= x28 then (if ((iand .i64 (ishr .i64 x8 x28) 1) == 1) = true then (if x27.length + List.length [x28] <= 16777216 then some (x27 ++ [x28]) else none) else some x27) else none)) (tu1 fun x61 => z0u K p0 x8 k x61 (z02 .i64 (x28 + 1)))) else some x27)
def z0v (K : Nat) (p0 : Int) (p1 : Int) (p900 : List (List zAd)) (p901 : Int) : Nat -> Bool -> Int -> Option (Bool)
  | 0, _, _ => none
  | k + 1, x7, x8 => (if (decide (x8 < (ishl .i64 (1 : Int) p0))) = true then (Option.bind ((Option.bind (z0u K p0 x8 K [] 0) (tu1 fun x73 => (if ((x73.length : Int) == p1) = true then ((z6k K x73 p900 p901 x7).bind fun x88 => some x88) else some x7)))) (tu1 fun x101 => z0v K p0 p1 p900 p901 k x101 (z02 .i64 (x8 + 1)))) else some x7)
def z26 (K : Nat) (p0 : Int) (p1 : Int) (p900 : List (List zAd)) (p901 : Int) (p902 : Bool) : Option Bool := (if 0 <= p0 then (Option.bind (z0v K p0 p1 p900 p901 K p902 0) (tu1 fun x111 => some x111)) else none)
theorem z6z (p0 : Int) (p1 : Int) (v900 : Value) (p900 : List (List zAd)) (hp900 : At G G v900 (rSl (rSl rS)) p900) (v901 : Value) (p901 : Int) (hp901 : At G G v901 (rI .i64) p901) (b902 : Nat) (p902 : Bool) (O : Ow G H (eVar b902 4 rB p902 :: L)) (r : Bool) (h : z26 K p0 p1 p900 p901 p902 = some r) :
    CR Tryz.prog 104 [(.int .i64 p0), (.int .i64 p1), (.func (.func 105) #[] #[v900, v901, (.pointer (some ⟨b902, 0, none⟩))])] G H (eVar b902 4 rB r :: L) (fun v G' _ => v = .tuple #[]) := by
 unfold z26 at h
 refine CR.og (n := 36) (fn := Tryz.f104) (by kernel_rfl) rfl rfl fun R kr => (.seq (.region (W.p2 (.int .i64 p0) ?_)))
 obtain ⟨g1, h2⟩ := z2l h
 refine W.pv (.int .i64 (ishl .i64 (1 : Int) p0)) (zpx g1 ov ov) (W.p2 (.int .i64 0) (.nil ?_))
 obtain ⟨q3, h4, h5⟩ := z01 h2
 refine AW.midT (fun σ' H' => ∃ (y1 : Bool) (G' : GM), y1 = q3 /\ Ow G' H' (eVar b902 4 rB y1 :: L) /\ GM.le G G') ?_ ?_
 rotate_left
 .rintro σ112 H113 fr114 ⟨x111, G115, rfl, O116, s117⟩
  have h119 := z09 h5
  obtain rfl := zAa h119
  exact zmn kr  (by rfl)  O116 s117 rfl
 refine .block (AW.loop (α := Nat) (fun k' σ' H' => ∃ (y1 : Bool) (y2 : Int) (G' : GM), z0v K p0 p1 p900 p901 k' y1 y2 = some q3 /\ Ow G' H' (eVar b902 4 rB y1 :: L) /\ GM.le G G' /\ σ' 11 = .int .i64 y2) (fun k' => k') K ⟨p902, 0, _, h4, O, (zAf _), rfl⟩ ?_)
 rintro k6
 rintro σ9 H10 fr11 ⟨x7, x8, G12, h15, O13, s14, t16⟩
 rcases k6 with _ | k6
 .exact z07 h15
 rw [z0v] at h15
 refine .seq (.region (W.q3 (.bool (decide (x8 < (ishl .i64 (1 : Int) p0)))) t16 ((fr11 10 rfl).trans rfl) (.nil (.seq (.cond (b := decide (x8 < (ishl .i64 (1 : Int) p0))) rfl rfl (fun g17 => ?_) (fun g17 => ?_))))))
 rotate_left
 .have h110 := z0j g17 h15
  refine .exit ?_
  obtain rfl := zAa h110
  exact ⟨x7, _, rfl, O13, s14⟩
 have h18 := z05 g17 h15
 refine .skip (.seq ?_)
 obtain ⟨q19, h20, h21⟩ := z01 h18
 refine AW.midT (fun σ' H' => ∃ (y1 : Bool) (G' : GM), y1 = q19 /\ Ow G' H' (eVar b902 4 rB y1 :: L) /\ GM.le G12 G') ?_ ?_
 rotate_left
 .rintro σ102 H103 fr104 ⟨x101, G105, rfl, O106, s107⟩
  have h109 := z09 h21
  refine .region (W.q3 (.int .i64 (z02 .i64 (x8 + 1))) ((fr104 11 rfl).trans t16) rfl (W.p2 (.int .i64 (z02 .i64 (x8 + 1))) (.nil ?_)))
  exact ⟨k6, zAg _, ⟨x101, z02 .i64 (x8 + 1), _, h109, O106, (zAe s14 s107), rfl⟩⟩
 refine .block (.seq (.region (W.q2 _ t16 (W.p1 (.int .i64 x8) (.nil (.seq ?_))))))
 refine .region (W.p1 (.slice none 0 0) (.nil (.seq (.seq (.region (W.q2 (.int .i64 p0) ((fr11 0 rfl).trans rfl) ?_))))))
 refine W.p2 (.int .i64 0) (.nil ?_)
 obtain ⟨q22, h23, h24⟩ := z01 h20
 refine AW.midT (fun σ' H' => ∃ (y1 : List Int) (G' : GM), y1 = q22 /\ Ow G' H' (eVar b902 4 rB x7 :: eSl (σ' 7) 3 (rI .i64) y1 :: L) /\ GM.le G12 G') ?_ ?_
 rotate_left
 .rintro σ74 H75 fr76 ⟨x73, G77, rfl, O78, s79⟩
  have h81 := z09 h24
  refine .seq (.region (W.p2 (σ74 7) (W.pv (.int .i64 (x73.length : Int)) (z0i ov (O78.slLen (j := 1) rfl) (z04 z78)) (W.q2 (.int .i64 p1) ((fr76 1 rfl).trans ((fr11 1 rfl).trans rfl)) (W.p3 (.bool ((x73.length : Int) == p1)) (.nil ?_))))))
  refine .cond (b := ((x73.length : Int) == p1)) rfl rfl (fun g82 => ?_) (fun g82 => ?_)
  rotate_left
  .have h99 := z0j g82 h81
   refine .skip ?_
   have O100 := O78.drop 1
   obtain rfl := zAa h99
   exact ⟨x7, _, rfl, O100, s79⟩
  have h83 := z05 g82 h81
  refine .region (W.q2 (.func (.func 105) #[] #[v900, v901, (.pointer (some ⟨b902, 0, none⟩))]) ((fr76 2 rfl).trans ((fr11 2 rfl).trans rfl)) (W.p2 (σ74 7) ?_))
  obtain ⟨G84, O85, s86, f87⟩ := O78.frzSl (j := 1) rfl
  obtain ⟨x88, i89, h90⟩ := z01 h83
  refine W.ln (Lo.callvP (ps := [eVar b902 4 rB x7]) (ps' := [eVar b902 4 rB x88]) rfl rfl (fn := Tryz.f105) (by kernel_rfl) rfl (mc rfl mn) O85 (fun L' O' => zd4 K (σ74 7) x73 f87 v900 p900 (At.le hp900 (zAe s14 (zAe s79 s86)) (zAe s14 (zAe s79 s86))) v901 p901 (At.le hp901 (zAe s14 (zAe s79 s86)) (zAe s14 (zAe s79 s86))) b902 x7 O' _ i89)) ?_
  rintro v97 H98 ⟨G91, O92, s93, sm96, rfl⟩
  refine .nil ?_
  obtain rfl := zAa h90
  exact ⟨x88, _, rfl, O92, (zAe s79 (zAe s86 s93))⟩
 refine .block ?_
 have O25 := O13.nilSl 3 (rI .i64)
 refine AW.loop (α := Nat) (fun k' σ' H' => ∃ (y1 : List Int) (y2 : Int) (G' : GM), z0u K p0 x8 k' y1 y2 = some q22 /\ Ow G' H' (eSl (σ' 7) 3 (rI .i64) y1 :: eVar b902 4 rB x7 :: L) /\ GM.le G12 G' /\ σ' 15 = .int .i64 y2) (fun k' => k') K ⟨[], 0, _, h23, O25, (zAf _), rfl⟩ ?_
 rintro k26
 rintro σ29 H30 fr31 ⟨x27, x28, G32, h35, O33, s34, t36⟩
 rcases k26 with _ | k26
 .exact z07 h35
 rw [z0u] at h35
 refine .seq (.region (W.q3 (.bool (decide (x28 < p0))) t36 ((fr31 14 rfl).trans rfl) (.nil (.seq (.cond (b := decide (x28 < p0)) rfl rfl (fun g37 => ?_) (fun g37 => ?_))))))
 rotate_left
 .have h70 := z0j g37 h35
  refine .exit ?_
  have O71 : Ow G32 H30 (eSl (σ29 7) 3 (rI .i64) x27 :: eVar b902 4 rB x7 :: L) := O33.front (j := 0) rfl
  have O72 : Ow G32 H30 (eVar b902 4 rB x7 :: eSl (σ29 7) 3 (rI .i64) x27 :: L) := O71.front (j := 1) rfl
  obtain rfl := zAa h70
  exact ⟨x27, _, rfl, O72, s34⟩
 have h38 := z05 g37 h35
 refine .skip (.seq ?_)
 obtain ⟨q39, h40, h41⟩ := z01 h38
 refine AW.midT (fun σ' H' => ∃ (y1 : List Int) (G' : GM), y1 = q39 /\ Ow G' H' (eSl (σ' 7) 3 (rI .i64) y1 :: eVar b902 4 rB x7 :: L) /\ GM.le G32 G') ?_ ?_
 rotate_left
 .rintro σ62 H63 fr64 ⟨x61, G65, rfl, O66, s67⟩
  have h69 := z09 h41
  refine .region (W.q3 (.int .i64 (z02 .i64 (x28 + 1))) ((fr64 15 rfl).trans t36) rfl (W.p2 (.int .i64 (z02 .i64 (x28 + 1))) (.nil ?_)))
  exact ⟨k26, zAg _, ⟨x61, z02 .i64 (x28 + 1), _, h69, O66, (zAe s34 s67), rfl⟩⟩
 refine .block (.seq (.region (W.q2 _ t36 (W.p1 (.int .i64 x28) (.nil (.seq ?_))))))
 refine .region (W.q2 (.int .i64 x8) ((fr31 6 rfl).trans rfl) (W.p2 (.int .i64 x28) ?_))
 obtain ⟨g42, h43⟩ := z2l h40
 refine W.pv (.int .i64 (ishr .i64 x8 x28)) (zpy g42 ov ov) (W.p3 (.int .i64 (iand .i64 (ishr .i64 x8 x28) 1)) (W.p3 (.bool ((iand .i64 (ishr .i64 x8 x28) 1) == 1)) (.nil (.cond (b := ((iand .i64 (ishr .i64 x8 x28) 1) == 1)) rfl rfl (fun g44 => ?_) (fun g44 => ?_)))))
 rotate_left
 .have h60 := z0j g44 h43
  refine .skip ?_
  obtain rfl := zAa h60
  exact ⟨x27, _, rfl, O33, (zAf _)⟩
 have h45 := z05 g44 h43
 refine .region (W.p2 (σ29 7) (W.p2 (.int .i64 x28) (W.ln (Lo.buildSlice (r := (rI .i64)) (vs := [(.int .i64 x28)]) (xs := [x28]) z78 ze3 sz3 (by kernel_rfl) rfl (qc rfl qn) rfl (.cons rfl .nil) O33) ?_)))
 rintro v48 H49 ⟨O46, sm47⟩
 obtain ⟨es51, e52, e53⟩ := z4p (j := 0) rfl O46
 obtain ⟨g54, h55⟩ := z2l h45
 refine W.ln (Lo.append (j := 1) (v := (σ29 7)) rfl rfl z78 zn3 ze3 sz3 by3 (by decide) (by decide) rfl e52 e53 g54 O46) ?_
 rintro v57 H58 ⟨O50, sm56⟩
 refine W.p1 v57 (.nil ?_)
 have O59 := O50.drop 0
 obtain rfl := zAa h55
 exact ⟨(x27 ++ [x28]), _, rfl, O59, (zAf _)⟩
def z3b (K : Nat) (p0 : List (List zAd)) : Nat -> Int -> Option (Int ⊕ Unit)
  | 0, _ => none
  | k + 1, x53 => (if (decide (x53 > 0)) = true then ((z26 K (p0.length : Int) x53 p0 x53 false).bind fun x76 => (if x76 = true then some (.inl x53) else z3b K p0 k (z02 .i64 (x53 - 1)))) else some (.inr ()))
def zag (K : Nat) (p0 : List (List zAd)) : Option Int := ((z7o K p0).bind fun x17 => (zbw (z3b K p0 K (imin (p0.length : Int) x17)) (tu1 fun a119 => some a119) (tu0 (some 0))))
theorem zfp (v0 : Value) (p0 : List (List zAd)) (hp0 : (rSl (rSl rS)).rep G [v0] p0) (O : Ow G H (L)) (r : Int) (h : zag K p0 = some r) :
    CR Tryz.prog 45 [v0] G H (L) (fun v G' _ => v = .int .i64 r) := by
 unfold zag at h
 refine CR.og (n := 22) (fn := Tryz.f45) (by kernel_rfl) rfl rfl fun R kr => (.seq (.region (W.ln (Lo.box (r := (rSl (rSl rS))) (x0 := p0) (v := v0) rfl rfl (z4z hp0) O) ?_)))
 rintro v4 H5 ⟨b2, rfl, O1, sm3⟩
 refine W.p1 (.int .i64 0) (.nil (.seq (.seq (.draw2 (M := [0, 1, 0, 4, 15, 0, 63]) mixed (by kernel_rfl) (by kernel_rfl) fun H6 N10 x7 F9 => ?_))))
 have O8 := O1.ext x7
 obtain ⟨w11, p12, f13⟩ := At.sl (O8.atVar (j := 0) rfl)
 refine D2.load1' (v := w11) (r := []) rfl rfl ag44 (z0t rfl p12) z06 (D2.pv (.int .i64 (p0.length : Int)) (z0i ov (z0c f13) (z04 el44)) ?_)
 obtain ⟨w14, p15, f16⟩ := At.sl (O8.atVar (j := 0) rfl)
 refine D2.load1' (v := w14) (r := []) rfl rfl ag44 (z0t rfl p15) z06 ?_
 obtain ⟨x17, i18, h19⟩ := z01 h
 refine D2.loN rfl rfl (Lo.cP rfl (fn := Tryz.f31) (by kernel_rfl) rfl (mc rfl mn) O8 (fun L' O' => zaf K w14 p0 f16 O' _ i18)) ?_ z06 ?_ ?_
 .rintro v26 H27 ⟨G20, O21, s22, sm25, rfl⟩; exact (faR1 (.inl (by decide)) (faR1 (.inr (sm25 _ (Or.inr ⟨0, _, rfl, List.mem_singleton.2 rfl⟩))) z06))
 .rintro v26 H27 ⟨G20, O21, s22, sm25, rfl⟩; exact z06
 rintro v26 H27 ⟨G20, O21, s22, sm25, rfl⟩ nx28
 have F29 := Free.nx F9 nx28
 refine D2.pv (.int .i64 (imin (p0.length : Int) x17)) (zmz ov ov) (D2.alloc (m := 7) rfl rfl (Al.alloc (r := (rI .i64)) (x0 := 0) ze3 (by kernel_rfl) (zI .i64)) (Free.up (by decide) F29) (by decide) O21 ?_)
 rintro b32 H33 ⟨O34, sm35, F36⟩
 refine D2.lo rfl rfl (Lo.storeVar (j := 0) (s := (rI .i64)) (y0 := imin (p0.length : Int) x17) (v := (.int .i64 (imin (p0.length : Int) x17))) (o := 0) rfl ((Put.at (Put.self _) _ _)) rfl sz3 rfl (by omega) rfl rfl O34) ?_ (z0h (by decide) z06) ?_ ?_
 .rintro v39 H40 ⟨O37, sm38⟩; exact (faR1 (.inl (by decide)) (faR1 (.inl (by decide)) z06))
 .rintro v39 H40 ⟨O37, sm38⟩; exact (faR1 (.inl (by decide)) z06)
 rintro v39 H40 ⟨O37, sm38⟩
 refine .nil ?_
 obtain ⟨G41, O42, s43, f44⟩ := O37.frzVar (j := 0) rfl
 obtain ⟨G45, O46, s47, f48⟩ := O42.frzVar (j := 0) rfl
 obtain ⟨q49, h50, h51⟩ := z3m h19
 refine AW.midT (fun σ' H' => ∃  (G' : GM), (.inr ()) = q49 /\ Ow G' H' (L) /\ GM.le G45 G') ?_ ?_
 rotate_left
 .rintro σ111 H112 fr113 ⟨G114, rfl, O115, s116⟩
  have h118 := z6y (z9i h51)
  refine .seq (.region (W.p1 (.int .i64 0) (.nil (.ret ?_))))
  obtain rfl := zAa h118
  exact z1q kr (v1 := (.int .i64 0)) (by rfl) rt O115 (zAe s22 (zAe s43 (zAe s47 s116))) rfl
 refine .block (AW.loop (α := Nat) (fun k' σ' H' => ∃ (y1 : Int) (G' : GM), z3b K p0 k' y1 = some q49 /\ Ow G' H' (L) /\ GM.le G45 G' /\ At G' G' (σ' 3) (rI .i64) y1) (fun k' => k') K ⟨imin (p0.length : Int) x17, _, h50, O46, (zAf _), (At.le f44 s47 s47)⟩ ?_)
 rintro k52
 rintro σ54 H55 fr56 ⟨x53, G57, h60, O58, s59, f61⟩
 rcases k52 with _ | k52
 .exact z07 h60
 rw [z3b] at h60
 refine .seq (.seq (.region (W.load1 (v := (.int .i64 x53)) (r := []) rfl rfl ag3 (z0t rfl (At.int (At.le f61 (zAf _) O58.fro))) (W.p3 (.bool (decide (x53 > 0))) (.nil (.cond (b := decide (x53 > 0)) rfl rfl (fun g62 => ?_) (fun g62 => ?_)))))))
 rotate_left
 .have h110 := z0j g62 h60
  refine .exit ?_
  obtain rfl := zAa h110
  exact ⟨_, rfl, O58, s59⟩
 have h63 := z05 g62 h60
 refine .skip (.seq (.block (.seq (.region (W.ln (Lo.alloc (r := rB) (x0 := false) ze4 (by kernel_rfl) zB O58) ?_)))))
 rintro v67 H68 ⟨b65, rfl, O64, sm66⟩
 refine W.ln (Lo.storeVar (j := 0) (s := rB) (y0 := false) (v := (.bool false)) (o := 0) rfl ((Put.at (Put.self _) _ _)) rfl sz4 rfl (by omega) rfl rfl O64) ?_
 rintro v71 H72 ⟨O69, sm70⟩
 refine .nil (.seq (.region ?_))
 obtain ⟨w73, p74, f75⟩ := At.sl (At.le f48 s59 s59)
 replace p74 := PtG.le p74 O69.fro
 refine W.load1 (v := w73) (r := []) rfl rfl ag44 (z0t ((fr56 1 rfl).trans rfl) p74) (W.pv (.int .i64 (p0.length : Int)) (z0i ov (z0c f75) (z04 el44)) (W.load1 (v := (.int .i64 x53)) (r := []) rfl rfl ag3 (z0t rfl (At.int (At.le f61 (zAf _) O69.fro))) (W.pv (.func (.func 105) #[] #[(.pointer (some ⟨b2, 0, none⟩)), (σ54 3), (.pointer (some ⟨b65, 0, none⟩))]) (zct (z9p rfl mn) (z9p rfl (mc ((fr56 1 rfl).trans rfl) (mc rfl (mc rfl mn))))) ?_)))
 obtain ⟨x76, i77, h78⟩ := z01 h63
 refine W.ln (Lo.callP (ps := [eVar b65 4 rB false]) (ps' := [eVar b65 4 rB x76]) rfl (fn := Tryz.f104) (by kernel_rfl) rfl (mc rfl (mc rfl (mc rfl mn))) O69 (fun L' O' => z6z K (p0.length : Int) x53 (.pointer (some ⟨b2, 0, none⟩)) p0 (At.le f48 s59 s59) (σ54 3) x53 f61 b65 false O' _ i77)) ?_
 rintro v85 H86 ⟨G79, O80, s81, sm84, rfl⟩
 refine .nil (.seq (.region (W.load1 (v := (.bool x76)) (r := []) rfl rfl ag4 (z0t rfl (At.bool (O80.atVar (j := 0) rfl))) (.nil (.cond (b := x76) rfl rfl (fun g87 => ?_) (fun g87 => ?_))))))
 .have h88 := z05 g87 h78
  refine .seq (.region (W.load1 (v := (.int .i64 x53)) (r := []) rfl rfl ag3 (z0t rfl (At.int (At.le (At.le f61 s81 s81) (zAf _) O80.fro))) (W.p1 (.int .i64 x53) (.nil (.ret ?_)))))
  have O89 := O80.drop 0
  obtain rfl := zAa h88
  have h90 := z09 (z7t h51)
  obtain rfl := zAa h90
  exact z1q kr (v1 := (.int .i64 x53)) (by rfl) rt O89 (zAe s22 (zAe s43 (zAe s47 (zAe s59 s81)))) rfl
 have h91 := z0j g87 h78
 refine .skip (.seq (.seq (.region (W.load1 (v := (.int .i64 x53)) (r := []) rfl rfl ag3 (z0t rfl (At.int (At.le (At.le f61 s81 s81) (zAf _) O80.fro))) (.nil (.region ?_))))))
 refine W.ln (Lo.alloc (r := (rI .i64)) (x0 := 0) ze3 (by kernel_rfl) (zI .i64) O80) ?_
 rintro v95 H96 ⟨b93, rfl, O92, sm94⟩
 refine W.ln (Lo.storeVar (j := 0) (s := (rI .i64)) (y0 := x53) (v := (.int .i64 x53)) (o := 0) rfl ((Put.at (Put.self _) _ _)) rfl sz3 rfl (by omega) rfl rfl O92) ?_
 rintro v99 H100 ⟨O97, sm98⟩
 refine .nil (.region (W.load1 (v := (.int .i64 x53)) (r := []) rfl rfl ag3 (z0t rfl (At.int (O97.atVar (j := 0) rfl))) (W.p3 (.int .i64 (z02 .i64 (x53 - 1))) (W.ln (Lo.storeVar (j := 0) (s := (rI .i64)) (y0 := z02 .i64 (x53 - 1)) (v := (.int .i64 (z02 .i64 (x53 - 1)))) (o := 0) rfl ((Put.at (Put.self _) _ _)) rfl sz3 rfl (by omega) rfl rfl O97) ?_))))
 rintro v103 H104 ⟨O101, sm102⟩
 refine .nil ?_
 obtain ⟨G105, O106, s107, f108⟩ := O101.frzVar (j := 0) rfl
 have O109 := O106.drop 0
 exact ⟨k52, zAg _, ⟨z02 .i64 (x53 - 1), _, h91, O109, (zAe s59 (zAe s81 s107)), f108⟩⟩
def z49 (K : Nat) (p0 : List (List zAd)) : Option Bool := ((z61 K ).bind fun x1 => (if (!x1) = true then some false else ((z3q K p0).bind fun x15 => ((z3k K p0).bind fun x26 => (if (x26 != 0) = true then (Option.bind ((if (x15.2 == x26) = true then some (x15.1 == 0) else some false)) (tu1 fun x46 => some x46)) else (Option.bind (((z6i K 4 [p0]).bind fun x64 => (if x64 = true then some true else (if (x15.2 == 0) = true then ((zag K p0).bind fun x83 => some (x15.1 == x83)) else some false)))) (tu1 fun x97 => some x97)))))))
theorem z8m (v0 : Value) (p0 : List (List zAd)) (hp0 : (rSl (rSl rS)).rep G [v0] p0) (O : Ow G H (L)) (r : Bool) (h : z49 K p0 = some r) :
    CR Tryz.prog 7 [v0] G H (L) (fun v G' _ => v = .bool r) := by
 unfold z49 at h
 refine CR.og (n := 37) (fn := Tryz.f7) (by kernel_rfl) rfl rfl fun R kr => (.seq (.region (W.p1 (.bool false) (.nil (.seq (.seq ?_))))))
 refine .region ?_
 obtain ⟨x1, i2, h3⟩ := z01 h
 refine W.ln (Lo.cP rfl (fn := Tryz.f43) (by kernel_rfl) rfl mn O (fun L' O' => z91 K  O' _ i2)) ?_
 rintro v10 H11 ⟨G4, O5, s6, sm9, rfl⟩
 refine W.pv (.bool (!x1)) (zbu (a := x1) ov) (.nil (.cond (b := (!x1)) rfl rfl (fun g12 => ?_) (fun g12 => ?_)))
 .have h13 := z05 g12 h3
  refine .seq (.region (W.p1 (.bool false) (.nil (.ret ?_))))
  obtain rfl := zAa h13
  exact z1q kr (v1 := (.bool false)) (by rfl) rt O5 s6 rfl
 have h14 := z0j g12 h3
 refine .skip (.seq (.region (W.p2 v0 ?_)))
 obtain ⟨x15, i16, h17⟩ := z01 h14
 refine W.ln (Lo.cP rfl (fn := Tryz.f44) (by kernel_rfl) rfl (mc rfl mn) O5 (fun L' O' => zaw K v0 p0 (RT.mono _ s6 hp0) O' _ i16)) ?_
 rintro v24 H25 ⟨G18, O19, s20, sm23, rfl⟩
 refine W.p2 (.tuple #[(.int .i64 x15.1), (.int .i64 x15.2)]) (W.pv (.int .i64 x15.1) (z0b ov rfl) (W.pv (.int .i64 x15.2) (z0b ov rfl) (W.p1 (.int .i64 x15.1) (W.p1 (.int .i64 x15.2) (.nil (.seq ?_))))))
 refine .seq (.region (W.p2 v0 ?_))
 obtain ⟨x26, i27, h28⟩ := z01 h17
 refine W.ln (Lo.cP rfl (fn := Tryz.f30) (by kernel_rfl) rfl (mc rfl mn) O19 (fun L' O' => z94 K v0 p0 (RT.mono _ (zAe s6 s20) hp0) O' _ i27)) ?_
 rintro v35 H36 ⟨G29, O30, s31, sm34, rfl⟩
 refine W.p1 (.int .i64 x26) (.nil (.seq (.region (W.p2 (.int .i64 x26) (W.p3 (.bool (x26 != 0)) (.nil ?_))))))
 refine .cond (b := (x26 != 0)) rfl rfl (fun g37 => ?_) (fun g37 => ?_)
 .have h38 := z05 g37 h28
  refine .seq ?_
  obtain ⟨q39, h40, h41⟩ := z01 h38
  refine AW.midT (fun σ' H' => ∃ (y1 : Bool) (G' : GM), y1 = q39 /\ Ow G' H' (L) /\ GM.le G29 G' /\ σ' 2 = .bool y1) ?_ ?_
  rotate_left
  .rintro σ47 H48 fr49 ⟨x46, G50, rfl, O51, s52, t54⟩
   have h55 := z09 h41
   refine .ret ?_
   obtain rfl := zAa h55
   exact z1q kr (v1 := (.bool x46)) (by rfl) (zjl (by rfl) (by exact t54)) O51 (zAe s6 (zAe s20 (zAe s31 s52))) rfl
  refine .region (W.p2 (.int .i64 x15.2) (W.p2 (.int .i64 x26) (W.p3 (.bool (x15.2 == x26)) (W.p2 (.bool (x15.2 == x26)) (W.splitAt (t := 20) (b := (x15.2 == x26)) rfl (fun g42 gv43 => ?_) (fun g42 gv43 => ?_))))))
  rotate_left
  .have h45 := z0j g42 h40
   refine W.q6 rfl gv43 (W.q6 rfl gv43 (W.q5 (.bool false) gv43 rfl (W.p1 (.bool false) (.nil ?_))))
   obtain rfl := zAa h45
   exact ⟨false, _, rfl, O30, (zAf _), rfl⟩
  have h44 := z05 g42 h40
  refine W.q2 (hg := gk rfl rfl gv43 rfl) (.int .i64 x15.1) rfl (W.q3 (hg := gk rfl rfl gv43 rfl) (.bool (x15.1 == 0)) rfl rfl (W.q4 (.bool (x15.1 == 0)) gv43 rfl (W.p1 (.bool (x15.1 == 0)) (.nil ?_))))
  obtain rfl := zAa h44
  exact ⟨(x15.1 == 0), _, rfl, O30, (zAf _), rfl⟩
 have h56 := z0j g37 h28
 refine .skip (.seq ?_)
 obtain ⟨q57, h58, h59⟩ := z01 h56
 refine AW.midT (fun σ' H' => ∃ (y1 : Bool) (G' : GM), y1 = q57 /\ Ow G' H' (L) /\ GM.le G29 G' /\ σ' 2 = .bool y1) ?_ ?_
 rotate_left
 .rintro σ98 H99 fr100 ⟨x97, G101, rfl, O102, s103, t105⟩
  have h106 := z09 h59
  refine .ret ?_
  obtain rfl := zAa h106
  exact z1q kr (v1 := (.bool x97)) (by rfl) (zjl (by rfl) (by exact t105)) O102 (zAe s6 (zAe s20 (zAe s31 s103))) rfl
 refine .region (W.p2 v0 (W.ln (Lo.buildSlice (r := (rSl (rSl rS))) (vs := [v0]) (xs := [p0]) zp9 ze44 sz44 (by kernel_rfl) rfl (qc rfl qn) rfl (.cons (z4z (RT.mono _ (zAe s6 (zAe s20 s31)) hp0)) .nil) O30) ?_))
 rintro v62 H63 ⟨O60, sm61⟩
 obtain ⟨x64, i65, h66⟩ := z01 h58
 refine W.ln (Lo.callB (j := 0) rfl rfl (fn := Tryz.f32) (by kernel_rfl) rfl (mc rfl (mc rfl mn)) O60 (fun G' L' hG O' hB => zcz K 4 v62 [p0] hB O' _ i65)) ?_
 rintro v73 H74 ⟨G67, O68, s69, sm72, rfl⟩
 refine W.p2 (.bool x64) (W.splitAt (t := 27) (b := x64) rfl (fun g75 gv76 => ?_) (fun g75 gv76 => ?_))
 .have h77 := z05 g75 h66
  refine W.q6 rfl gv76 (W.q6 rfl gv76 (W.q6 rfl gv76 (W.skipU rfl rfl rfl rfl (W.skipU rfl rfl rfl rfl (W.skipU rfl rfl rfl rfl (W.skipU rfl rfl rfl rfl ?_))))))
  refine W.q6 rfl gv76 (W.q4 (.bool true) gv76 rfl (W.p1 (.bool true) (.nil ?_)))
  have O78 := O68.drop 0
  obtain rfl := zAa h77
  exact ⟨true, _, rfl, O78, s69, rfl⟩
 have h79 := z0j g75 h66
 refine W.q2 (hg := gk rfl rfl gv76 rfl) (.int .i64 x15.2) rfl (W.q3 (hg := gk rfl rfl gv76 rfl) (.bool (x15.2 == 0)) rfl rfl (W.q2 (hg := gk rfl rfl gv76 rfl) (.bool (x15.2 == 0)) rfl (W.splitAt (t := 30) (b := (x15.2 == 0)) rfl (fun g80 gv81 => ?_) (fun g80 gv81 => ?_))))
 rotate_left
 .have h95 := z0j g80 h79
  refine W.q6 rfl gv81 (W.q6 rfl gv81 (W.q6 rfl gv81 (W.q6 rfl gv81 (W.q5 (hg := gk rfl rfl gv76 rfl) (.bool false) gv81 rfl (W.q5 (.bool false) gv76 rfl (W.p1 (.bool false) ?_))))))
  refine .nil ?_
  have O96 := O68.drop 0
  obtain rfl := zAa h95
  exact ⟨false, _, rfl, O96, s69, rfl⟩
 have h82 := z05 g80 h79
 refine W.q2 (hg := gk rfl rfl gv81 rfl) (.int .i64 x15.1) rfl (W.q2 (hg := gk rfl rfl gv81 rfl) v0 rfl ?_)
 obtain ⟨x83, i84, h85⟩ := z01 h82
 refine W.lo (gk rfl rfl gv81 rfl) rfl (Lo.cP rfl (fn := Tryz.f45) (by kernel_rfl) rfl (mc rfl mn) O68 (fun L' O' => zfp K v0 p0 (RT.mono _ (zAe s6 (zAe s20 (zAe s31 s69))) hp0) O' _ i84)) ?_
 rintro v92 H93 ⟨G86, O87, s88, sm91, rfl⟩
 refine W.q3 (hg := gk rfl rfl gv81 rfl) (.bool (x15.1 == x83)) rfl rfl (W.q4 (hg := gk rfl rfl gv76 rfl) (.bool (x15.1 == x83)) gv81 rfl (W.q5 (.bool (x15.1 == x83)) gv76 rfl (W.p1 (.bool (x15.1 == x83)) (.nil ?_))))
 have O94 := O87.drop 0
 obtain rfl := zAa h85
 exact ⟨(x15.1 == x83), _, rfl, O94, (zAe s69 s88), rfl⟩
end Go.Am.Tryz
/- Numbers: digits in a base, the least one first; decimal texts. Plain, no program. -/
namespace Go.Am
open Go
def valB (B : Int) : List Int -> Int
 | [] => 0
 | d :: l => d + B * valB B l
def DigB (B : Int) (l : List Int) : Prop := ∀ d ∈ l, 0 <= d /\ d < B
theorem DigB.nil (B : Int) : DigB B [] := fun d h => by simp at h
theorem DigB.cons {B d : Int} {l : List Int} (h : DigB B (d :: l)) : (0 <= d /\ d < B) /\ DigB B l := ⟨h d (by simp), fun x hx => h x (by simp [hx])⟩
theorem DigB.app {B : Int} {l m : List Int} (h : DigB B l) (k : DigB B m) : DigB B (l ++ m) := fun d hd => by
 rcases List.mem_append.1 hd with hd | hd
 ·exact h d hd
 ·exact k d hd
theorem z50 (B : Int) : ∀ (l m : List Int), valB B (l ++ m) = valB B l + B ^ l.length * valB B m
 | [], m => by simp [valB]
 | d :: l, m => by
  simp only [List.cons_append, valB, z50 B l m, List.length_cons, Int.pow_succ]
  rw [Int.mul_add, <- Int.mul_assoc, Int.mul_comm B (B ^ l.length), Int.add_assoc]
theorem z0w {B : Int} (hB : 0 < B) : ∀ (l : List Int), DigB B l -> 0 <= valB B l
 | [], _ => Int.le_refl _
 | d :: l, h => by
  have h1 := (h.cons).1
  have h2 := z0w hB l h.cons.2
  have := Int.mul_nonneg (Int.le_of_lt hB) h2
  simp only [valB]; omega
theorem z4a {B : Int} (hB : 0 < B) : ∀ (l : List Int), DigB B l -> valB B l < B ^ l.length
 | [], _ => by simp [valB]
 | d :: l, h => by
  have h1 := (h.cons).1
  have h2 := z4a hB l h.cons.2
  have h3 : B * (valB B l + 1) <= B * B ^ l.length := Int.mul_le_mul_of_nonneg_left (by omega) (Int.le_of_lt hB)
  rw [Int.mul_add, Int.mul_one] at h3
  simp only [valB, List.length_cons, Int.pow_succ]
  rw [Int.mul_comm (B ^ l.length) B]
  omega
def CanB (B : Int) (l : List Int) : Prop := DigB B l /\ l.getLast? ≠ some 0
theorem CanB.tail {B d : Int} {l : List Int} (h : CanB B (d :: l)) : CanB B l := by
 refine ⟨h.1.cons.2, fun e => h.2 ?_⟩
 cases l with
 | nil => simp at e
 | cons x l => rw [List.getLast?_cons_cons]; exact e
theorem zah {B : Int} (hB : 1 < B) : ∀ (l : List Int), CanB B l -> l ≠ [] -> 0 < valB B l
 | [], _, h => absurd rfl h
 | d :: l, h, _ => by
  have h1 := h.1.cons.1
  cases l with
  | nil =>
   have : d ≠ 0 := fun e => h.2 (by simp [e])
   simp only [valB]; omega
  | cons x l =>
   have h2 := zah hB (x :: l) h.tail (by simp)
   have h3 : B * 1 <= B * valB B (x :: l) := Int.mul_le_mul_of_nonneg_left (by omega) (by omega)
   simp only [valB] at h2 h3 ⊢; omega
theorem zlw {B d e x y : Int} (hd : 0 <= d /\ d < B) (he : 0 <= e /\ e < B) (h : d + B * x = e + B * y) : d = e /\ x = y := by
 have h1 : x = y := by
  rcases Int.lt_trichotomy x y with h2 | h2 | h2
  ·have : B * (x + 1) <= B * y := Int.mul_le_mul_of_nonneg_left (by omega) (by omega)
   rw [Int.mul_add, Int.mul_one] at this; omega
  ·exact h2
  ·have : B * (y + 1) <= B * x := Int.mul_le_mul_of_nonneg_left (by omega) (by omega)
   rw [Int.mul_add, Int.mul_one] at this; omega
 subst h1
 exact ⟨by omega, rfl⟩
theorem zlx {B : Int} (hB : 1 < B) : ∀ (l m : List Int), CanB B l -> CanB B m -> valB B l = valB B m -> l = m
 | [], [], _, _, _ => rfl
 | [], e :: m, _, h2, h => by
  have := zah hB (e :: m) h2 (by simp)
  rw [<- h] at this; simp [valB] at this
 | d :: l, [], h1, _, h => by
  have := zah hB (d :: l) h1 (by simp)
  rw [h] at this; simp [valB] at this
 | d :: l, e :: m, h1, h2, h => by
  obtain ⟨rfl, h3⟩ := zlw h1.1.cons.1 h2.1.cons.1 h
  rw [zlx hB l m h1.tail h2.tail h3]
def digT (c : Int) : Bool := decide (48 <= c) && decide (c <= 57)
def z51 (s : zAd) : List Int := ((z03 s).map (· - 48)).reverse
def numT (s : zAd) : Int := valB 10 (z51 s)
def CanT (s : zAd) : Prop := s.size ≠ 0 /\ (z03 s).all digT = true /\ ((z03 s).head? = some 48 -> s.size = 1)
theorem z3c {a b : zAd} (h : z03 a = z03 b) : a = b := by
 unfold z03 at h
 have h1 : a.data.toList = b.data.toList := by
  have : Function.Injective fun b : UInt8 => (b.toNat : Int) := fun x y h => by
   have : x.toNat = y.toNat := by have h' : (x.toNat : Int) = (y.toNat : Int) := h; omega
   exact UInt8.toNat_inj.1 this
  exact List.map_inj_right (fun x y h => this h) |>.1 h
 cases a; cases b
 congr 1
 exact Array.toList_inj.1 h1
theorem z6t {s : zAd} (h : (z03 s).all digT = true) : DigB 10 (z51 s) := by
 intro d hd
 unfold z51 at hd
 rw [List.mem_reverse, List.mem_map] at hd
 obtain ⟨c, hc, rfl⟩ := hd
 have := List.all_eq_true.1 h c hc
 simp only [digT, Bool.and_eq_true, decide_eq_true_eq] at this
 omega
theorem z4m (s : zAd) : (z51 s).length = s.size := by
 unfold z51
 rw [List.length_reverse, List.length_map, z00]
theorem zes {a b : zAd} (h : z51 a = z51 b) : a = b := by
 unfold z51 at h
 have h1 := List.reverse_inj.1 h
 exact z3c (List.map_inj_right (fun x y h => by omega) |>.1 h1)
theorem z7p {s : zAd} (h : CanT s) (h0 : (z03 s).head? = some 48) : z51 s = [0] := by
 have h1 := h.2.2 h0
 have hl := z00 s
 rw [h1] at hl
 match hb : z03 s, hl with
 | [c], _ => rw [hb] at h0; simp at h0; subst h0; simp [z51, hb]
theorem zc6 {s : zAd} (h : CanT s) (h0 : (z03 s).head? ≠ some 48) : CanB 10 (z51 s) := by
 refine ⟨z6t h.2.1, fun e => h0 ?_⟩
 unfold z51 at e
 rw [List.getLast?_reverse, List.head?_map] at e
 cases hb : (z03 s).head? with
 | none => rw [hb] at e; cases e
 | some c => rw [hb] at e; simp at e; congr 1; omega
theorem z86 {a b : zAd} (ha : CanT a) (hb : CanT b) (h : numT a = numT b) : a = b := by
 have pos : ∀ s : zAd, CanT s -> (z03 s).head? ≠ some 48 -> 0 < numT s := fun s hs h0 => zah (by omega) _ (zc6 hs h0) (fun e => by
  have := z4m s
  rw [e] at this
  exact hs.1 this.symm)
 by_cases h1 : (z03 a).head? = some 48 <;> by_cases h2 : (z03 b).head? = some 48
 ·exact zes (by rw [z7p ha h1, z7p hb h2])
 ·have := pos b hb h2
  unfold numT at h this
  rw [z7p ha h1] at h
  simp [valB] at h; omega
 ·have := pos a ha h1
  unfold numT at h this
  rw [z7p hb h2] at h
  simp [valB] at h; omega
 ·exact zes (zlx (by omega) _ _ (zc6 ha h1) (zc6 hb h2) h)
theorem z2k (a : zAd) (i j : Nat) : z03 (a.extract i j) = ((z03 a).drop i).take (j - i) := by
 unfold z03
 rw [ByteArray.data_extract, Array.toList_extract]
 simp [List.extract, List.map_drop, List.map_take]
theorem z1y (a b : zAd) : z03 (a ++ b) = z03 a ++ z03 b := by
 unfold z03
 rw [ByteArray.data_append, Array.toList_append, List.map_append]
theorem zfq (xs : List Int) (h : ∀ x ∈ xs, 0 <= x /\ x <= 255) : z03 (strOfNums xs) = xs := by
 unfold z03
 rw [strOfNums_data, List.map_map]
 conv => rhs; rw [<- List.map_id xs]
 apply List.map_congr_left
 intro x hx
 have := h x hx
 show ((UInt8.ofNat x.toNat).toNat : Int) = x
 rw [UInt8.toNat_ofNat']
 omega
theorem zc7 {s : zAd} {c : Int} {l : List Int} (h : z03 s = c :: l) : ∃ t, ssl s 1 (s.size : Int) = some t /\ z03 t = l /\ t.size = l.length := by
 have hn := z00 s
 rw [h] at hn
 simp at hn
 refine ⟨s.extract 1 s.size, ?_, ?_, ?_⟩
 ·unfold ssl
  rw [if_pos (by omega)]
  simp
 ·rw [z2k, h]
  simp
  exact List.take_of_length_le (by omega)
 ·rw [<- z00, z2k, h]
  simp
  omega
theorem zjq {s t : zAd} {c : Int} (h : z03 s = c :: z03 t) : numT s = numT t + 10 ^ t.size * (c - 48) := by
 unfold numT z51
 rw [h, List.map_cons, List.reverse_cons, z50]
 simp [valB, z00]
end Go.Am
/- Graphs: connected parts, their numbers, closure of a matrix, ways. Plain, no program. -/
namespace Go.Am
open Go
def Edg (l : List (Int × Int)) (U : Nat -> Bool) (a b : Nat) : Prop := ∃ k, k < l.length /\ U k = true /\ (l.getD k (0, 0) = ((a : Int), (b : Int)) \/ l.getD k (0, 0) = ((b : Int), (a : Int)))
inductive Con (l : List (Int × Int)) (U : Nat -> Bool) : Nat -> Nat -> Prop
 | refl (a : Nat) : Con l U a a
 | tail {a b c : Nat} : Con l U a b -> Edg l U b c -> Con l U a c
structure Outer (l : List (Int × Int)) (U : Nat -> Bool) (n : Nat) (cs : List Int) (m s : Nat) : Prop where
 len : cs.length = n
 rng : ∀ i < n, -1 <= cs.getD i 0 /\ cs.getD i 0 < m
 done : ∀ i < s, i < n -> 0 <= cs.getD i 0
 cls : ∀ i j, i < n -> j < n -> 0 <= cs.getD i 0 -> (cs.getD i 0 = cs.getD j 0 ↔ Con l U i j)
 last : 0 < m -> ∃ j < s, j < n /\ cs.getD j 0 = (m : Int) - 1
 rgs : ∀ i < n, 0 < cs.getD i 0 -> ∃ j < i, cs.getD j 0 = cs.getD i 0 - 1
 few : m <= s
structure Mid (l : List (Int × Int)) (U : Nat -> Bool) (n : Nat) (base : List Int) (m s : Nat) (cs : List Int) : Prop where
 len : cs.length = n
 own : ∀ i < n, (cs.getD i 0 = m /\ base.getD i 0 = -1 /\ Con l U s i) \/ cs.getD i 0 = base.getD i 0
 start : cs.getD s 0 = m
theorem z6u {cs : List Int} {i j : Nat} {v : Int} (hi : i < cs.length) : (cs.set i v).getD j 0 = if j = i then v else cs.getD j 0 := by
 rw [zAb, List.getElem?_set]
 by_cases h : i = j
 ·subst h; simp [hi]
 ·rw [if_neg h, if_neg (fun e => h e.symm), zAb]
theorem Edg.symm {l : List (Int × Int)} {U : Nat -> Bool} {a b : Nat} (h : Edg l U a b) : Edg l U b a := by
 obtain ⟨k, h1, h2, h3⟩ := h
 exact ⟨k, h1, h2, h3.symm⟩
theorem Con.trans {l : List (Int × Int)} {U : Nat -> Bool} {a b c : Nat} (h : Con l U a b) (k : Con l U b c) : Con l U a c := by
 induction k with
 | refl => exact h
 | tail _ e ih => exact .tail ih e
theorem Con.symm {l : List (Int × Int)} {U : Nat -> Bool} {a b : Nat} (h : Con l U a b) : Con l U b a := by
 induction h with
 | refl => exact .refl _
 | tail _ e ih => exact (Con.tail (.refl _) e.symm).trans ih
structure EqvOn (M : Nat -> Nat -> Bool) (n : Nat) : Prop where
 refl : ∀ a < n, M a a = true
 symm : ∀ a b, a < n -> b < n -> M a b = true -> M b a = true
 trans : ∀ a b c, a < n -> b < n -> c < n -> M a b = true -> M b c = true -> M a c = true
structure NumOk (M : Nat -> Nat -> Bool) (cs : List Int) (m i : Nat) : Prop where
 len : cs.length = i
 rng : ∀ a < i, 0 <= cs.getD a 0 /\ cs.getD a 0 < m
 cls : ∀ a b, a < i -> b < i -> (cs.getD a 0 = cs.getD b 0 ↔ M a b = true)
 last : 0 < m -> ∃ a < i, cs.getD a 0 = (m : Int) - 1
 rgs : ∀ a < i, 0 < cs.getD a 0 -> ∃ b < a, cs.getD b 0 = cs.getD a 0 - 1
 few : m <= i
structure WOk (l : List (Int × Int)) (U : Nat -> Bool) (n : Nat) (M : Nat -> Nat -> Bool) (m : Nat) : Prop where
 sound : ∀ a b, a < n -> b < n -> M a b = true -> Con l U a b
 refl : ∀ a < n, M a a = true
 edge : ∀ a b, a < n -> b < n -> Edg l U a b -> M a b = true
 tr : ∀ c < m, ∀ a b, a < n -> b < n -> M a c = true -> M c b = true -> M a b = true
def Wk (l : List (Int × Int)) (U : Nat -> Bool) (to : Nat) : Nat -> Nat -> Prop
 | 0, v => v = to
 | k + 1, v => ∃ w, Edg l U v w /\ Wk l U to k w
structure FarOk (l : List (Int × Int)) (U : Nat -> Bool) (n to : Nat) (fs : List Int) (d : Nat) : Prop where
 len : fs.length = n
 rng : ∀ v < n, -1 <= fs.getD v 0
 fnd : ∀ v < n, ∀ k : Nat, fs.getD v 0 = k -> k <= d /\ Wk l U to k v /\ ∀ j < k, ¬ Wk l U to j v
 nof : ∀ v < n, fs.getD v 0 = -1 -> ∀ j ≤ d, ¬ Wk l U to j v
structure Rnd (l : List (Int × Int)) (U : Nat -> Bool) (n to : Nat) (fs gs : List Int) (d : Nat) : Prop where
 len : gs.length = n
 old : ∀ v < n, gs.getD v 0 = fs.getD v 0 \/ (fs.getD v 0 = -1 /\ gs.getD v 0 = (d : Int) + 1 /\ Wk l U to (d + 1) v)
def neg (n : Nat) (fs : List Int) : Nat := ((List.range n).filter fun v => fs.getD v 0 == -1).length
theorem zdt {S R : Type} (n : Nat) (l : Nat -> S -> Int -> Option R) (I : S -> Nat -> Prop) (Q : R -> Prop)
  (h : ∀ k s (i : Nat), i < n -> I s i -> (∃ r, l (k + 1) s (i : Int) = some r /\ Q r) \/ ∃ s', I s' (i + 1) /\ l (k + 1) s (i : Int) = l k s' ((i + 1 : Nat) : Int))
  (h0 : ∀ k s (i : Nat), i = n -> I s i -> ∃ r, l (k + 1) s (i : Int) = some r /\ Q r) : ∀ k s, n < k -> I s 0 -> ∃ r, l k s 0 = some r /\ Q r := by
 have key : ∀ d k s (i : Nat), n - i = d -> i <= n -> d < k -> I s i -> ∃ r, l k s (i : Int) = some r /\ Q r := by
  intro d
  induction d with
  | zero =>
   intro k s i hd hi hk hI
   obtain ⟨k, rfl⟩ : ∃ m, k = m + 1 := ⟨k - 1, by omega⟩
   exact h0 k s i (by omega) hI
  | succ d ih =>
   intro k s i hd hi hk hI
   obtain ⟨k, rfl⟩ : ∃ m, k = m + 1 := ⟨k - 1, by omega⟩
   rcases h k s i (by omega) hI with h1 | ⟨s', h1, h2⟩
   ·exact h1
   ·rw [h2]; exact ih k s' (i + 1) (by omega) (by omega) (by omega) h1
 intro k s hk hI
 exact key n k s 0 (by omega) (Nat.zero_le _) hk hI
theorem zne {S R : Type} (l : Nat -> S -> Option R) (I : S -> Prop) (mu : S -> Nat) (Q : R -> Prop)
  (h : ∀ k s, I s -> (∃ r, l (k + 1) s = some r /\ Q r) \/ ∃ s', I s' /\ mu s' < mu s /\ l (k + 1) s = l k s') : ∀ k s, mu s < k -> I s -> ∃ r, l k s = some r /\ Q r := by
 intro k
 induction k with
 | zero => intro s h1; omega
 | succ k ih =>
  intro s h1 hI
  rcases h k s hI with h2 | ⟨s', h2, h3, h4⟩
  ·exact h2
  ·rw [h4]; exact ih s' (by omega) h2
def two (p : Int × Int) : List Int := [p.1, p.2]
theorem zhh {cs : List Int} {a : Nat} (h : a < cs.length) : idx cs (a : Int) = some (cs.getD a 0) := by
 apply z4q
 simp [h, zAb]
end Go.Am
/- Plain lemmas: rules for typed functions over whole numbers; digits set in place; the guess of a digit of a quotient. -/
namespace Go.Am
open Go
theorem z0e {α β : Type} (a : α) (f : α -> Option β) : Option.bind (some a) f = f a := (rfl)
theorem tu0a {β : Type} (g : Option β) (u : Unit) : tu0 g u = g := (rfl)
theorem tu1a {α β : Type} (g : α -> Option β) (a : α) : tu1 g a = g a := (rfl)
theorem tu2a {α1 α2 β : Type} (g : α1 -> α2 -> Option β) (p : α1 × α2) : tu2 g p = g p.1 p.2 := (rfl)
theorem tu3a {α1 α2 α3 β : Type} (g : α1 -> α2 -> α3 -> Option β) (p : α1 × α2 × α3) : tu3 g p = g p.1 p.2.1 p.2.2 := (rfl)
theorem tu4a {α1 α2 α3 α4 β : Type} (g : α1 -> α2 -> α3 -> α4 -> Option β) (p : α1 × α2 × α3 × α4) : tu4 g p = g p.1 p.2.1 p.2.2.1 p.2.2.2 := (rfl)
theorem tu5a {α1 α2 α3 α4 α5 β : Type} (g : α1 -> α2 -> α3 -> α4 -> α5 -> Option β) (p : α1 × α2 × α3 × α4 × α5) : tu5 g p = g p.1 p.2.1 p.2.2.1 p.2.2.2.1 p.2.2.2.2 := (rfl)
theorem lta {α β : Type} (x : α) (f : α -> Option β) : lt x f = f x := (rfl)
theorem zhi {α β γ : Type} (a : α) (f : α -> Option γ) (g : β -> Option γ) : zbw (some (.inl a)) f g = f a := (rfl)
theorem zjr {α β γ : Type} (b : β) (f : α -> Option γ) (g : β -> Option γ) : zbw (some (.inr b)) f g = g b := (rfl)
theorem zqf {α β γ : Type} (a : α) (f : α -> Option γ) (g : β -> Option γ) : outS (.inl a) f g = f a := (rfl)
theorem zqg {α β γ : Type} (b : β) (f : α -> Option γ) (g : β -> Option γ) : outS (.inr b) f g = g b := (rfl)
theorem znf {α : Type} [BEq α] [LawfulBEq α] {a b : α} : ((a == b) = true) = (a = b) := propext beq_iff_eq
theorem zng {a b : Int} : ((a != b) = true) = (a ≠ b) := by simp
theorem k64 {a : Int} (h1 : -9223372036854775808 <= a) (h2 : a <= 9223372036854775807) : z02 .i64 a = a := kw h1 h2
theorem ku64 {a : Int} (h1 : 0 <= a) (h2 : a <= 18446744073709551615) : z02 .u64 a = a := z6o (by simp [z8c]; omega)
theorem ku32 {a : Int} (h1 : 0 <= a) (h2 : a <= 4294967295) : z02 .u32 a = a := z6o (by simp [z8c]; omega)
theorem ku8 {a : Int} (h1 : 0 <= a) (h2 : a <= 255) : z02 .u8 a = a := z6o (by simp [z8c]; omega)
theorem i64w {a : Int} (h1 : -9223372036854775808 <= a) (h2 : a <= 9223372036854775807) : IntKind.wrap .i64 a = a := by rw [<- z71]; exact k64 h1 h2
theorem u64w {a : Int} (h1 : 0 <= a) (h2 : a <= 18446744073709551615) : IntKind.wrap .u64 a = a := by rw [<- z71]; exact ku64 h1 h2
theorem u32w {a : Int} (h1 : 0 <= a) (h2 : a <= 4294967295) : IntKind.wrap .u32 a = a := by rw [<- z71]; exact ku32 h1 h2
theorem u8w {a : Int} (h1 : 0 <= a) (h2 : a <= 255) : IntKind.wrap .u8 a = a := by rw [<- z71]; exact ku8 h1 h2
theorem idxI {xs : List Int} {j : Int} (h1 : 0 <= j) (h2 : j < (xs.length : Int)) : idx xs j = some (xs.getD j.toNat 0) := by
 unfold idx
 rw [if_neg (by omega), zAb, zAh (by omega)]
 rfl
theorem zoy {s : zAd} {j : Int} (h1 : 0 <= j) (h2 : j < (s.size : Int)) : bidx s j = some ((z03 s).getD j.toNat 0) := by
 rw [z99]; exact idxI h1 (by rw [z00]; exact h2)
theorem lslI {α : Type} {xs : List α} {l h : Int} (h1 : 0 <= l) (h2 : l <= h) (h3 : h <= (xs.length : Int)) : lsl xs l h = some ((xs.drop l.toNat).take (h.toNat - l.toNat)) := by unfold lsl; rw [if_pos ⟨h1, h2, h3⟩]
theorem sslI {s : zAd} {l h : Int} (h1 : 0 <= l) (h2 : l <= h) (h3 : h <= (s.size : Int)) : ssl s l h = some (s.extract l.toNat h.toNat) := by unfold ssl; rw [if_pos ⟨h1, h2, h3⟩]
theorem zq3 {a b : Int} (h : 0 <= a) : Int.tdiv a b = a / b := Int.tdiv_eq_ediv_of_nonneg h
theorem zqh {a b : Int} (h : 0 <= a) : Int.tmod a b = a % b := Int.tmod_eq_emod_of_nonneg h
theorem z87 {S R : Type} (l : Nat -> S -> Option R) (I : S -> Prop) (mu : S -> Nat) (Q : R -> Prop)
  (h : ∀ k s, I s -> (∃ r, l (k + 1) s = some r /\ Q r) \/ ∃ s', l (k + 1) s = l k s' /\ mu s' < mu s /\ I s') {k : Nat} (s : S) (hk : mu s < k) (hI : I s) : ∃ r, l k s = some r /\ Q r :=
 zne l I mu Q (fun k s hs => (h k s hs).imp id fun ⟨s', a, b, c⟩ => ⟨s', c, b, a⟩) k s hk hI
theorem z1p {B : Int} (hB : 0 < B) {x : List Int} (h : DigB B x) (k : Nat) : 0 <= x.getD k 0 /\ x.getD k 0 < B := by
 by_cases hk : k < x.length
 ·rw [zAb, zAh hk]; exact h _ (List.getElem_mem hk)
 ·rw [zAb, List.getElem?_eq_none (by omega)]; exact ⟨Int.le_refl _, hB⟩
theorem z62 (B : Int) : ∀ (l : List Int) (p : Nat) (d : Int), p < l.length -> valB B (l.set p d) = valB B l + B ^ p * (d - l.getD p 0)
 | [], p, d, h => by simp at h
 | x :: l, 0, d, _ => by simp [valB]; omega
 | x :: l, p + 1, d, h => by
  have := z62 B l p d (by simpa using h)
  simp only [List.set_cons_succ, valB, this, List.getD_cons_succ, Int.pow_succ]
  grind
theorem DigB.set {B d : Int} {l : List Int} (h : DigB B l) (p : Nat) (hd : 0 <= d /\ d < B) : DigB B (l.set p d) := fun x hx => by
 rcases List.mem_or_eq_of_mem_set hx with h1 | h1
 ·exact h x h1
 ·subst h1; exact hd
theorem DigB.take {B : Int} {l : List Int} (h : DigB B l) (k : Nat) : DigB B (l.take k) := fun x hx => h x (List.mem_of_mem_take hx)
theorem DigB.drop {B : Int} {l : List Int} (h : DigB B l) (k : Nat) : DigB B (l.drop k) := fun x hx => h x (List.mem_of_mem_drop hx)
theorem DigB.snoc {B d : Int} {l : List Int} (h : DigB B l) (hd : 0 <= d /\ d < B) : DigB B (l ++ [d]) := h.app fun x hx => by simp at hx; omega
theorem z7h (B : Int) (l : List Int) (k : Nat) (hk : k <= l.length) : valB B l = valB B (l.take k) + B ^ k * valB B (l.drop k) := by
 conv => lhs; rw [<- List.take_append_drop k l]
 rw [z50, List.length_take, Nat.min_eq_left hk]
theorem z8n (B : Int) (n : Nat) : valB B (List.replicate n 0) = 0 := by
 induction n with
 | zero => rfl
 | succ n ih => simp [List.replicate_succ, valB, ih]
theorem DigB.zeros {B : Int} (hB : 0 < B) (n : Nat) : DigB B (List.replicate n 0) := fun x hx => by
 rw [List.mem_replicate] at hx; omega
theorem z2x (B : Int) (x : List Int) (k : Nat) : valB B (x.take (k + 1)) = valB B (x.take k) + B ^ k * x.getD k 0 := by
 by_cases h : k < x.length
 ·have hx : x[k]? = some x[k] := zAh h
  rw [List.take_add_one, hx, z50, List.length_take, Nat.min_eq_left (by omega), zAb, hx]
  simp [valB]
 ·rw [List.take_of_length_le (by omega), List.take_of_length_le (by omega), zAb, List.getElem?_eq_none (by omega)]
  simp
theorem z7q (B : Int) (x : List Int) (d : Int) : valB B (x ++ [d]) = valB B x + B ^ x.length * d := by rw [z50]; simp [valB]
theorem z8o (l : List Int) (h : l ≠ []) : ∃ r d, l = r ++ [d] := by
 rcases List.eq_nil_or_concat l with rfl | ⟨r, d, rfl⟩
 ·exact absurd rfl h
 ·exact ⟨r, d, by simp⟩
theorem zhj {B : Int} (hB : 1 < B) {l : List Int} (h : CanB B l) (h0 : l ≠ []) : B ^ (l.length - 1) <= valB B l := by
 obtain ⟨r, d, rfl⟩ := z8o l h0
 have hd : d ≠ 0 := fun e => h.2 (by simp [e])
 have hd2 := h.1 d (by simp)
 have hr := z0w (B := B) (by omega) r (fun x hx => h.1 x (by simp [hx]))
 have e : (r ++ [d]).length - 1 = r.length := by simp
 rw [z7q, e]
 have h1 : B ^ r.length * 1 <= B ^ r.length * d := Int.mul_le_mul_of_nonneg_left (by omega) (Int.le_of_lt (Int.pow_pos (by omega)))
 omega
theorem zpf {B : Int} (hB : 1 < B) {l : List Int} (h : DigB B l) (h0 : l ≠ []) (hv : B ^ (l.length - 1) <= valB B l) : CanB B l := by
 refine ⟨h, fun e => ?_⟩
 obtain ⟨r, d, rfl⟩ := z8o l h0
 have hd : d = 0 := by simpa using e
 have hr := z4a (B := B) (by omega) r (fun x hx => h x (by simp [hx]))
 have e : (r ++ [(0 : Int)]).length - 1 = r.length := by simp
 rw [z7q, hd, e] at hv
 omega
theorem z7i {B : Int} (hB : 0 < B) {i j : Nat} (h : i <= j) : B ^ i <= B ^ j := by
 obtain ⟨m, rfl⟩ : ∃ m, j = i + m := ⟨j - i, by omega⟩
 rw [Int.pow_add]
 have p1 : 0 < B ^ m := Int.pow_pos hB
 have p2 : 0 < B ^ i := Int.pow_pos hB
 have := Int.mul_le_mul_of_nonneg_left (show 1 <= B ^ m by omega) (Int.le_of_lt p2)
 omega
theorem zhk {B : Int} (hB : 1 < B) {l m : List Int} (h : DigB B l) (hm : CanB B m) (hl : l.length < m.length) : valB B l < valB B m := by
 have h1 := z4a (B := B) (by omega) l h
 have h2 := zhj hB hm (by intro e; subst e; simp at hl)
 have h3 : B ^ l.length <= B ^ (m.length - 1) := by
  obtain ⟨j, hj⟩ : ∃ j, m.length - 1 = l.length + j := ⟨m.length - 1 - l.length, by omega⟩
  rw [hj, Int.pow_add]
  have p1 : 0 < B ^ j := Int.pow_pos (by omega)
  have p2 : 0 < B ^ l.length := Int.pow_pos (by omega)
  have := Int.mul_le_mul_of_nonneg_left (show 1 <= B ^ j by omega) (Int.le_of_lt p2)
  omega
 omega
theorem zd5 {B : Int} (hB : 1 < B) {l m : List Int} (h : CanB B l) (hm : DigB B m) (hv : valB B l <= valB B m) : l.length <= m.length := by
 refine Nat.not_lt.1 fun hl => ?_
 have := zhk hB hm h hl
 omega
theorem z33 {a b c : Int} (hc : 0 <= c) (h : a <= b) : c * a <= c * b := Int.mul_le_mul_of_nonneg_left h hc
theorem z7u {a b : Int} (ha : 0 <= a) (hb : 0 <= b) : 0 <= a * b := Int.mul_nonneg ha hb
structure Kn (B P v1 v2 vl top u3 ul q : Int) : Prop where
 B1 : 1 < B
 P0 : 0 < P
 v1p : 1 <= v1
 v2p : 0 <= v2
 v2b : v2 < B
 vlp : 0 <= vl
 vlb : vl < P
 tp : 0 <= top
 u3p : 0 <= u3
 u3b : u3 < B
 ulp : 0 <= ul
 ulb : ul < P
 q0 : 0 <= q
 qB : q < B
 lo : q * (P * (B * v1 + v2) + vl) <= P * (B * top + u3) + ul
 hi : P * (B * top + u3) + ul < (q + 1) * (P * (B * v1 + v2) + vl)
section
variable {B P v1 v2 vl top u3 ul q g r : Int}
theorem Kn.first (h : Kn B P v1 v2 vl top u3 ul q) : q <= top / v1 := by
 obtain ⟨B1, P0, v1p, v2p, v2b, vlp, vlb, tp, u3p, u3b, ulp, ulb, q0, qB, lo, hi⟩ := h
 rw [Int.le_ediv_iff_mul_le (by omega)]
 refine Int.le_of_lt_add_one (Int.not_le.1 fun hc => ?_)
 have a1 := z33 (Int.le_of_lt (Int.mul_pos P0 (show 0 < B by omega))) hc
 have a2 := z7u (Int.le_of_lt P0) (z7u q0 v2p)
 have a3 := z7u q0 vlp
 have a4 := z33 (Int.le_of_lt P0) (show u3 <= B - 1 by omega)
 grind
theorem Kn.down (h : Kn B P v1 v2 vl top u3 ul q) (hr : top = g * v1 + r) (hg : 0 <= g) (hc : g * v2 > r * B + u3) : q < g := by
 obtain ⟨B1, P0, v1p, v2p, v2b, vlp, vlb, tp, u3p, u3b, ulp, ulb, q0, qB, lo, hi⟩ := h
 refine Int.not_le.1 fun hq => ?_
 have hV : 0 <= P * (B * v1 + v2) + vl := by
  have := z7u (Int.le_of_lt P0) (show 0 <= B * v1 + v2 from by have := z7u (show 0 <= B by omega) (show 0 <= v1 by omega); omega)
  omega
 have a1 := z33 hV hq
 have a2 := z33 (Int.le_of_lt P0) (show r * B + u3 + 1 <= g * v2 by omega)
 have a3 := z7u hg vlp
 subst hr
 grind
theorem Kn.exitA (h : Kn B P v1 v2 vl top u3 ul q) (hr : top = g * v1 + r) (hg : 0 <= g) (hB : g < B) (hc : g * v2 <= r * B + u3) : g <= q + 1 := by
 obtain ⟨B1, P0, v1p, v2p, v2b, vlp, vlb, tp, u3p, u3b, ulp, ulb, q0, qB, lo, hi⟩ := h
 refine Int.not_lt.1 fun hq => ?_
 have hV : 0 <= P * (B * v1 + v2) + vl := by
  have := z7u (Int.le_of_lt P0) (show 0 <= B * v1 + v2 from by have := z7u (show 0 <= B by omega) (show 0 <= v1 by omega); omega)
  omega
 have a1 := z33 hV (show q + 1 <= g - 1 by omega)
 have a2 := z33 (Int.le_of_lt P0) hc
 have a3 := z33 hg (show vl <= P - 1 by omega)
 have a4 := z33 (Int.le_of_lt P0) (show g <= B - 1 by omega)
 have a5 := z33 (Int.le_of_lt (Int.mul_pos P0 (show 0 < B by omega))) v1p
 have a6 := z7u (Int.le_of_lt P0) v2p
 subst hr
 grind
theorem Kn.exitB (h : Kn B P v1 v2 vl top u3 ul q) (hr : top = g * v1 + r) (hg : 0 <= g) (hB : g <= B) (hc : B <= r) : g <= q := by
 obtain ⟨B1, P0, v1p, v2p, v2b, vlp, vlb, tp, u3p, u3b, ulp, ulb, q0, qB, lo, hi⟩ := h
 refine Int.not_lt.1 fun hq => ?_
 have hV : 0 <= P * (B * v1 + v2) + vl := by
  have := z7u (Int.le_of_lt P0) (show 0 <= B * v1 + v2 from by have := z7u (show 0 <= B by omega) (show 0 <= v1 by omega); omega)
  omega
 have a1 := z33 hV (show q + 1 <= g by omega)
 have hPg := z7u (Int.le_of_lt P0) hg
 have a2 := z33 hPg (show v2 <= B - 1 by omega)
 have a3 := z33 hg (show vl <= P - 1 by omega)
 have a4 := z33 (Int.le_of_lt (Int.mul_pos P0 (show 0 < B by omega))) (show g <= r by omega)
 have a6 := z7u (Int.le_of_lt P0) u3p
 subst hr
 grind
end
set_option linter.defProp false in
def runL := And.intro @decide_eq_true_eq (And.intro @if_pos.{1} (And.intro @if_neg.{1} (And.intro @if_true.{1} (And.intro @if_false.{1} (And.intro @z0e (And.intro @znf (And.intro @zng (And.intro @idxI (And.intro @zoy (And.intro @sslI (And.intro @lslI (And.intro @k64 (And.intro @ku64 (And.intro @ku32 (And.intro @ku8 (And.intro @i64w (And.intro @u64w (And.intro @u32w (And.intro @u8w (And.intro @zq3 (And.intro @zqh (And.intro @tu0a (And.intro @tu1a (And.intro @tu2a (And.intro @tu3a (And.intro @tu4a (And.intro @tu5a (And.intro @lta (And.intro @zhi (And.intro @zjr (And.intro @zqf (And.intro @zqg (And.intro @Int.toNat_natCast (And.intro @List.length_cons.{0} (And.intro @List.length_nil.{0} (And.intro @List.length_set.{0} (And.intro @Int.toNat_zero (@List.replicate_zero.{0}))))))))))))))))))))))))))))))))))))))
end Go.Am
/- Plain law: the program's numbers: digits in the base 10^9. -/
namespace Go.Am.Tryz
open Go Go.Am Go.Proofs
variable {K : Nat}
def NumN (n : Int) (l : List Int) : Prop := CanB 1000000000 l /\ valB 1000000000 l = n
theorem NumN.inj {n : Int} {l m : List Int} (h : NumN n l) (k : NumN n m) : l = m := zlx (B := 1000000000) (by omega) l m h.1 k.1 (h.2.trans k.2.symm)
theorem NumN.nonneg {n : Int} {l : List Int} (h : NumN n l) : 0 <= n := by rw [<- h.2]; exact z0w (by omega) l h.1.1
theorem NumN.nil : NumN 0 [] := ⟨⟨DigB.nil _, by simp⟩, rfl⟩
theorem NumN.pos {n : Int} {l : List Int} (h : NumN n l) (h0 : l ≠ []) : 0 < n := by rw [<- h.2]; exact zah (by omega) l h.1 h0
theorem NumN.nil_iff {n : Int} {l : List Int} (h : NumN n l) : l = [] ↔ n = 0 := by
 constructor
 ·rintro rfl; exact h.2.symm
 ·intro e; by_cases h0 : l = []
  ·exact h0
  ·have := h.pos h0; omega
theorem NumN.len0 {n : Int} {l : List Int} (h : NumN n l) : l.length = 0 ↔ n = 0 := by rw [<- h.nil_iff, List.length_eq_zero_iff]
theorem NumN.one {n : Int} (h : 0 < n) (h2 : n < 1000000000) : NumN n [n] := ⟨⟨fun d hd => by simp at hd; omega, by simp; omega⟩, by simp [valB]⟩
theorem zjs {B : Int} : ∀ n k (l : List Int), l.length = n -> n <= 8000000 -> n < k -> DigB B l -> ∃ t, z2g K k l = some t /\ CanB B t /\ valB B t = valB B l /\ t.length <= l.length := by
 intro n
 induction n with
 | zero =>
  intro k l hl _ hk hd
  obtain ⟨k, rfl⟩ : ∃ m, k = m + 1 := ⟨k - 1, by omega⟩
  have : l = [] := List.length_eq_zero_iff.1 hl
  subst this
  exact ⟨[], by rw [z2g]; simp [tu1], ⟨hd, by simp⟩, rfl, Nat.le_refl _⟩
 | succ n ih =>
  intro k l hl hb hk hd
  obtain ⟨k, rfl⟩ : ∃ m, k = m + 1 := ⟨k - 1, by omega⟩
  obtain ⟨r, d, rfl⟩ : ∃ r d, l = r ++ [d] := z8o l (by intro e; subst e; simp at hl)
  have hr : r.length = n := by simpa using hl
  have e1 : z02 .i64 (((r ++ [d]).length : Int) - 1) = (n : Int) := by rw [hl, kw (by omega) (by omega)]; omega
  have e2 : idx (r ++ [d]) (n : Int) = some d := z4q (by simp [<- hr])
  have e3 : lsl (r ++ [d]) 0 (n : Int) = some r := by
   unfold lsl
   rw [if_pos (by rw [hl]; omega)]
   simp [<- hr]
  have e4 : ((r ++ [d]).length : Int) > 0 := by rw [hl]; omega
  have dr : DigB B r := fun x hx => hd x (by simp [hx])
  rw [z2g, e1, e2, e3, decide_eq_true e4]
  by_cases h0 : d = 0
  ·obtain ⟨t, h1, h2, h3, h4⟩ := ih k r hr (by omega) (by omega) dr
   refine ⟨t, by simp [h0, tu1, h1], h2, ?_, by simp; omega⟩
   rw [h3, z50, h0]; simp [valB]
  ·exact ⟨r ++ [d], by simp [h0, tu1], ⟨hd, by simpa using h0⟩, rfl, Nat.le_refl _⟩
theorem zai {B : Int} {l : List Int} (hl : l.length <= 8000000) (hK : 2000000000 < K) (hd : DigB B l) : ∃ t, z1n K l = some t /\ CanB B t /\ valB B t = valB B l /\ t.length <= l.length := by
 obtain ⟨t, h1, h2⟩ := zjs (K := K) l.length K l rfl hl (by omega) hd
 exact ⟨t, by unfold z1n; rw [h1]; rfl, h2⟩
theorem zjt {x y : List Int} (hlen : y.length <= x.length) (hx : x.length <= 4000000) (hK : 2000000000 < K) (dx : DigB 1000000000 x) (dy : DigB 1000000000 y) :
  ∃ r : List Int × Int, z1w K x y K [] 0 0 = some r /\ r.1.length = x.length /\ DigB 1000000000 r.1 /\ (0 <= r.2 /\ r.2 <= 1) /\ valB 1000000000 r.1 + 1000000000 ^ x.length * r.2 = valB 1000000000 x + valB 1000000000 y := by
 refine z87 (fun k (s : List Int × Int × Int) => z1w K x y k s.1 s.2.1 s.2.2) (fun s => ∃ i : Nat, s.2.2 = i /\ i <= x.length /\ s.1.length = i /\ DigB 1000000000 s.1 /\ (0 <= s.2.1 /\ s.2.1 <= 1) /\ valB 1000000000 s.1 + 1000000000 ^ i * s.2.1 = valB 1000000000 (x.take i) + valB 1000000000 (y.take i)) (fun s => x.length - s.1.length) _ ?_ (([], 0, 0) : List Int × Int × Int) (by simp; omega) ⟨0, rfl, by omega, rfl, DigB.nil _, ⟨by simp, by simp⟩, by simp [valB]⟩
 rintro k ⟨out, c, _⟩ ⟨i, rfl, h0, h1, h2, h3, h4⟩
 dsimp only at h1 h2 h3 h4 ⊢
 by_cases hi : i < x.length
 ·right
  have ex := z1p (by omega) dx i
  have ey := z1p (by omega) dy i
  have tx := z2x 1000000000 x i
  have ty := z2x 1000000000 y i
  have hy : ¬ i < y.length -> y.getD i 0 = 0 := fun h => by rw [zAb, List.getElem?_eq_none (by omega)]; rfl
  refine ⟨(out ++ [(x.getD i 0 + c + y.getD i 0) % 1000000000], (x.getD i 0 + c + y.getD i 0) / 1000000000, (i : Int) + 1), ?_, by simp; omega, i + 1, rfl, by omega, by simp [h1], h2.snoc (by omega), by dsimp only; omega, ?_⟩
  ·rw [z1w]
   by_cases h : i < y.length
   ·simp (discharger := omega) only [runL]
   ·have e := hy h
    simp (discharger := omega) only [runL, e, Int.add_zero]
  ·have hm := Int.emod_add_mul_ediv (x.getD i 0 + c + y.getD i 0) 1000000000
   dsimp only
   rw [z7q, h1, tx, ty, Int.pow_succ]
   grind
 ·left
  refine ⟨(out, c), ?_, by dsimp only; omega, h2, h3, ?_⟩
  ·rw [z1w]; simp [hi]
  ·have : i = x.length := by omega
   subst this
   rwa [List.take_of_length_le (Nat.le_refl _), List.take_of_length_le hlen] at h4
theorem zhl {x y : List Int} {a b : Int} (hlen : y.length <= x.length) (hx : x.length <= 4000000) (hK : 2000000000 < K) (nx : NumN a x) (ny : NumN b y) :
  ∃ r : List Int × Int, z1w K x y K [] 0 0 = some r /\ r.1.length = x.length /\ NumN (a + b) (if r.2 > 0 then r.1 ++ [r.2] else r.1) := by
 obtain ⟨⟨r, c⟩, h1, h2, h3, h4, h5⟩ := zjt hlen hx hK nx.1.1 ny.1.1
 dsimp only at h2 h3 h4 h5
 rw [nx.2, ny.2] at h5
 refine ⟨_, h1, h2, ?_⟩
 dsimp only
 by_cases hc : c > 0
 ·rw [if_pos hc]
  have e : c = 1 := by omega
  subst e
  refine ⟨⟨h3.snoc (by omega), by simp⟩, ?_⟩
  rw [z7q, h2]
  exact h5
 ·rw [if_neg hc]
  have e : c = 0 := by omega
  subst e
  rw [Int.mul_zero, Int.add_zero] at h5
  refine ⟨?_, h5⟩
  by_cases h0 : r = []
  ·subst h0; exact ⟨h3, by simp⟩
  ·refine zpf (by omega) h3 h0 ?_
   have h6 := zhj (B := 1000000000) (by omega) nx.1 (by rintro rfl; exact h0 (List.length_eq_zero_iff.1 h2))
   have h7 := ny.nonneg
   rw [nx.2] at h6
   rw [h2, h5]
   omega
theorem znh {x y : List Int} {a b : Int} (hx : x.length <= 4000000) (hy : y.length <= 4000000) (hK : 2000000000 < K) (nx : NumN a x) (ny : NumN b y) : ∃ z, z6c K x y = some z /\ NumN (a + b) z /\ z.length <= max x.length y.length + 1 := by
 unfold z6c
 by_cases h : x.length < y.length
 ·obtain ⟨⟨r, c⟩, h1, h2, h3⟩ := zhl (K := K) (x := y) (y := x) (by omega) hy (by omega) ny nx
  dsimp only at h2 h3
  rw [Int.add_comm b a] at h3
  by_cases hc : c > 0
  ·rw [if_pos hc] at h3
   exact ⟨r ++ [c], by simp (discharger := omega) only [runL, h1], h3, by simp; omega⟩
  ·rw [if_neg hc] at h3
   exact ⟨r, by simp (discharger := omega) only [runL, h1], h3, by omega⟩
 ·obtain ⟨⟨r, c⟩, h1, h2, h3⟩ := zhl (K := K) (x := x) (y := y) (by omega) hx (by omega) nx ny
  dsimp only at h2 h3
  by_cases hc : c > 0
  ·rw [if_pos hc] at h3
   exact ⟨r ++ [c], by simp (discharger := omega) only [runL, h1], h3, by simp; omega⟩
  ·rw [if_neg hc] at h3
   exact ⟨r, by simp (discharger := omega) only [runL, h1], h3, by omega⟩
theorem zju {x y : List Int} (hx : x.length <= 4000000) (hK : 2000000000 < K) (dx : DigB 1000000000 x) (dy : DigB 1000000000 y) :
  ∃ r : List Int, z1x K x y K (List.replicate x.length 0) 0 0 = some r /\ r.length = x.length /\ DigB 1000000000 r /\ ∃ c : Int, (0 <= c /\ c <= 1) /\ valB 1000000000 r + valB 1000000000 (y.take x.length) = valB 1000000000 x + 1000000000 ^ x.length * c := by
 refine z87 (fun k (s : List Int × Int × Int) => z1x K x y k s.1 s.2.1 s.2.2) (fun s => ∃ i : Nat, s.2.2 = i /\ i <= x.length /\ s.1.length = x.length /\ DigB 1000000000 s.1 /\ (∀ j, i <= j -> s.1.getD j 0 = 0) /\ (0 <= s.2.1 /\ s.2.1 <= 1) /\ valB 1000000000 s.1 + valB 1000000000 (y.take i) = valB 1000000000 (x.take i) + 1000000000 ^ i * s.2.1) (fun s => (x.length - s.2.2 : Int).toNat) _ ?_ ((List.replicate x.length 0, 0, 0) : List Int × Int × Int) (by simp; omega) ⟨0, rfl, by omega, by simp, .zeros (by omega) _, fun j _ => by simp [zAb, List.getElem?_replicate]; split <;> rfl, ⟨by simp, by simp⟩, by simp [valB, z8n]⟩
 rintro k ⟨out, c, _⟩ ⟨i, rfl, h0, h1, h2, hz, h3, h4⟩
 dsimp only at h1 h2 h3 h4 hz ⊢
 by_cases hi : i < x.length
 ·right
  have ex := z1p (by omega) dx i
  have ey := z1p (by omega) dy i
  have tx := z2x 1000000000 x i
  have ty := z2x 1000000000 y i
  have hy : ¬ i < y.length -> y.getD i 0 = 0 := fun h => by rw [zAb, List.getElem?_eq_none (by omega)]; rfl
  have hset := fun d => z62 1000000000 out i d (by omega)
  have hgs := fun d j => z6u (cs := out) (i := i) (j := j) (v := d) (by omega)
  have hz0 := hz i (Nat.le_refl _)
  by_cases hn : x.getD i 0 - c - y.getD i 0 < 0
  ·refine ⟨(out.set i (x.getD i 0 - c - y.getD i 0 + 1000000000), 1, (i : Int) + 1), ?_, by dsimp only; omega, i + 1, rfl, by omega, by simp [h1], h2.set _ (by omega), fun j hj => by rw [hgs, if_neg (by omega)]; exact hz j (by omega), by simp, ?_⟩
   ·rw [z1x]
    by_cases h : i < y.length
    ·simp (discharger := omega) only [runL]
    ·have e := hy h
     rw [e, Int.sub_zero] at hn
     simp (discharger := omega) only [runL, e, Int.sub_zero]
   ·dsimp only
    rw [hset, hz0, tx, ty, Int.pow_succ]
    grind
  ·refine ⟨(out.set i (x.getD i 0 - c - y.getD i 0), 0, (i : Int) + 1), ?_, by dsimp only; omega, i + 1, rfl, by omega, by simp [h1], h2.set _ (by omega), fun j hj => by rw [hgs, if_neg (by omega)]; exact hz j (by omega), by simp, ?_⟩
   ·rw [z1x]
    by_cases h : i < y.length
    ·simp (discharger := omega) only [runL]
    ·have e := hy h
     rw [e, Int.sub_zero] at hn
     simp (discharger := omega) only [runL, e, Int.sub_zero]
   ·dsimp only
    rw [hset, hz0, tx, ty, Int.pow_succ]
    grind
 ·left
  have : i = x.length := by omega
  subst this
  rw [List.take_of_length_le (i := x.length) (l := x) (Nat.le_refl _)] at h4
  exact ⟨out, by rw [z1x]; simp (discharger := omega) only [runL], h1, h2, c, h3, h4⟩
theorem zkx {x y : List Int} {a b : Int} (hx : x.length <= 4000000) (hK : 2000000000 < K) (nx : NumN a x) (ny : NumN b y) (hab : b <= a) : ∃ z, z5e K x y = some z /\ NumN (a - b) z /\ z.length <= x.length := by
 obtain ⟨r, h1, h2, h3, c, h4, h5⟩ := zju hx hK nx.1.1 ny.1.1
 have hl : y.length <= x.length := zd5 (B := 1000000000) (by omega) ny.1 nx.1.1 (by rw [nx.2, ny.2]; exact hab)
 rw [List.take_of_length_le hl, nx.2, ny.2] at h5
 have hv := z4a (B := 1000000000) (by omega) r h3
 rw [h2] at hv
 have hc : c = 0 := by
  by_cases e : c = 0
  ·exact e
  ·have : c = 1 := by omega
   subst this; omega
 subst hc
 obtain ⟨t, t1, t2, t3, t4⟩ := zai (K := K) (B := 1000000000) (l := r) (by omega) hK h3
 refine ⟨t, ?_, ⟨t2, by rw [t3]; omega⟩, by omega⟩
 unfold z5e
 simp (discharger := omega) only [runL, h1, t1]
theorem zjv {x y : List Int} (hl : x.length = y.length) (hx : x.length <= 4000000) (hK : 2000000000 < K) (dx : DigB 1000000000 x) (dy : DigB 1000000000 y) :
  ∃ r : Int ⊕ Unit, z1f K x y K ((x.length : Int) - 1) = some r /\ r = (if valB 1000000000 x < valB 1000000000 y then .inl (-1) else if valB 1000000000 x = valB 1000000000 y then .inr () else .inl 1) := by
 have hdrop : ∀ (l : List Int) j, valB 1000000000 (l.drop j) = l.getD j 0 + 1000000000 * valB 1000000000 (l.drop (j + 1)) := fun l j => by
  by_cases h : j < l.length
  ·rw [List.drop_eq_getElem_cons h, zAb, zAh h]; rfl
  ·rw [List.drop_eq_nil_of_le (by omega), List.drop_eq_nil_of_le (by omega), zAb, List.getElem?_eq_none (by omega)]; rfl
 refine z87 (fun k (s : Int) => z1f K x y k s) (fun s => ∃ j : Nat, s = (j : Int) - 1 /\ j <= x.length /\ valB 1000000000 (x.drop j) = valB 1000000000 (y.drop j)) (fun s => (s + 1).toNat) _ ?_ ((x.length : Int) - 1) (by omega) ⟨x.length, rfl, Nat.le_refl _, by rw [List.drop_eq_nil_of_le (Nat.le_refl _), List.drop_eq_nil_of_le (by omega)]⟩
 rintro k _ ⟨j, rfl, hj, he⟩
 by_cases h0 : j = 0
 ·subst h0
  left
  rw [List.drop_zero, List.drop_zero] at he
  rw [z1f]
  refine ⟨.inr (), by simp (discharger := omega) only [runL], ?_⟩
  rw [if_neg (by omega), if_pos he]
 ·obtain ⟨i, rfl⟩ : ∃ i, j = i + 1 := ⟨j - 1, by omega⟩
  have e1 : ((i + 1 : Nat) : Int) - 1 = i := by omega
  rw [e1]
  have ex := z1p (by omega) dx i
  have ey := z1p (by omega) dy i
  have sx := z7h 1000000000 x i (by omega)
  have sy := z7h 1000000000 y i (by omega)
  have ax := hdrop x i
  have ay := hdrop y i
  have bx := z4a (B := 1000000000) (by omega) _ (dx.take i)
  have by' := z4a (B := 1000000000) (by omega) _ (dy.take i)
  have cx := z0w (B := 1000000000) (by omega) _ (dx.take i)
  have cy := z0w (B := 1000000000) (by omega) _ (dy.take i)
  rw [List.length_take, Nat.min_eq_left (by omega)] at bx by'
  have p0 : 0 < (1000000000 : Int) ^ i := Int.pow_pos (by omega)
  rw [ax, he] at sx
  rw [ay] at sy
  by_cases h1 : x.getD i 0 < y.getD i 0
  ·left
   refine ⟨.inl (-1), by rw [z1f]; simp (discharger := omega) only [runL], ?_⟩
   have := z33 (Int.le_of_lt p0) (show x.getD i 0 + 1 <= y.getD i 0 by omega)
   rw [if_pos (by grind)]
  ·by_cases h2 : x.getD i 0 > y.getD i 0
   ·left
    refine ⟨.inl 1, by rw [z1f]; simp (discharger := omega) only [runL], ?_⟩
    have := z33 (Int.le_of_lt p0) (show y.getD i 0 + 1 <= x.getD i 0 by omega)
    rw [if_neg (by grind), if_neg (by grind)]
   ·right
    refine ⟨(i : Int) - 1, by rw [z1f]; simp (discharger := omega) only [runL], by omega, i, rfl, by omega, ?_⟩
    rw [ax, ay, he]
    omega
theorem zet {x y : List Int} {a b : Int} (hx : x.length <= 4000000) (hy : y.length <= 4000000) (hK : 2000000000 < K) (nx : NumN a x) (ny : NumN b y) : z3t K x y = some (if a < b then -1 else if a = b then 0 else 1) := by
 unfold z3t
 by_cases h : x.length = y.length
 ·obtain ⟨r, h1, h2⟩ := zjv (K := K) h hx hK nx.1.1 ny.1.1
  rw [nx.2, ny.2] at h2
  have e : ((x.length : Int) != (y.length : Int)) = false := by simp; omega
  rw [e]
  rw [k64 (by omega) (by omega), h1, h2]
  simp only [Bool.false_eq_true, if_false, zbw, Option.bind_some]
  by_cases c1 : a < b
  ·simp [c1, tu1]
  ·by_cases c2 : a = b
   ·subst c2; simp [tu0]
   ·simp [c1, c2, tu1]
 ·have e : ((x.length : Int) != (y.length : Int)) = true := by simp; omega
  rw [e, if_pos rfl]
  by_cases h1 : x.length < y.length
  ·have := zhk (B := 1000000000) (by omega) nx.1.1 ny.1 h1
   rw [nx.2, ny.2] at this
   simp (discharger := omega) only [runL]
  ·have := zhk (B := 1000000000) (by omega) ny.1.1 nx.1 (by omega)
   rw [nx.2, ny.2] at this
   simp (discharger := omega) only [runL]
end Go.Am.Tryz
/- Plain law: products of the program's numbers; division by one digit. -/
namespace Go.Am.Tryz
open Go Go.Am Go.Proofs
variable {K : Nat}
theorem zky {a b : Int} (ha : 0 <= a /\ a < 1000000000) (hb : 0 <= b /\ b < 1000000000) : 0 <= a * b /\ a * b <= 999999998000000001 := by
 refine ⟨Int.mul_nonneg ha.1 hb.1, ?_⟩
 have h1 := z33 ha.1 (show b <= 999999999 by omega)
 omega
theorem zni {y out : List Int} {u : Int} {i : Nat} (hl : i + y.length <= out.length) (ho : out.length <= 8000000) (hK : 2000000000 < K) (hu : 0 <= u /\ u < 1000000000) (dy : DigB 1000000000 y) (d0 : DigB 1000000000 out) :
  ∃ r : List Int × Int, z2a K y (i : Int) u K out 0 0 = some r /\ r.1.length = out.length /\ DigB 1000000000 r.1 /\ (0 <= r.2 /\ r.2 < 1000000000) /\ (∀ j, i + y.length <= j -> r.1.getD j 0 = out.getD j 0) ∧
   valB 1000000000 r.1 + 1000000000 ^ (i + y.length) * r.2 = valB 1000000000 out + 1000000000 ^ i * (u * valB 1000000000 y) := by
 refine z87 (fun k (s : List Int × Int × Int) => z2a K y (i : Int) u k s.1 s.2.1 s.2.2) (fun s => ∃ q : Nat, s.2.2 = q /\ q <= y.length /\ s.1.length = out.length /\ DigB 1000000000 s.1 /\ (0 <= s.2.1 /\ s.2.1 < 1000000000) /\ (∀ j, i + q <= j -> s.1.getD j 0 = out.getD j 0) ∧
   valB 1000000000 s.1 + 1000000000 ^ (i + q) * s.2.1 = valB 1000000000 out + 1000000000 ^ i * (u * valB 1000000000 (y.take q))) (fun s => (y.length - s.2.2 : Int).toNat) _ ?_ ((out, 0, 0) : List Int × Int × Int) (by simp; omega) ⟨0, rfl, by omega, rfl, d0, by simp, fun _ _ => rfl, by simp [valB]⟩
 rintro k ⟨o, c, _⟩ ⟨q, rfl, h0, h1, h2, h3, hz, h4⟩
 dsimp only at h1 h2 h3 h4 hz ⊢
 by_cases hq : q < y.length
 ·right
  have ey := z1p (by omega) dy q
  have eo := z1p (by omega) h2 (i + q)
  have ty := z2x 1000000000 y q
  have hm := zky hu ey
  have hset := fun d => z62 1000000000 o (i + q) d (by omega)
  have hgs := fun d j => z6u (cs := o) (i := i + q) (j := j) (v := d) (by omega)
  have e1 : ((i : Int) + (q : Int)) = ((i + q : Nat) : Int) := by omega
  generalize hw : u * y.getD q 0 = w at hm
  generalize ho : o.getD (i + q) 0 = z at eo hset
  have hdm := Int.emod_add_mul_ediv (w + z + c) 1000000000
  refine ⟨(o.set (i + q) ((w + z + c) % 1000000000), (w + z + c) / 1000000000, (q : Int) + 1), ?_, by dsimp only; omega, q + 1, rfl, by omega, by simp [h1], h2.set _ (by omega), by dsimp only; omega, fun j hj => by rw [hgs, if_neg (by omega)]; exact hz j (by omega), ?_⟩
  ·rw [z2a]
   simp (discharger := omega) only [runL, e1, hw, ho]
  ·dsimp only
   rw [hset, ty]
   have e2 : (1000000000 : Int) ^ (i + (q + 1)) = 1000000000 ^ i * 1000000000 ^ q * 1000000000 := by rw [<- Nat.add_assoc, Int.pow_succ, Int.pow_add]
   rw [e2]
   rw [Int.pow_add] at h4 ⊢
   subst hw
   generalize (u * y.getD q 0 + z + c) / 1000000000 = Q at *
   generalize (u * y.getD q 0 + z + c) % 1000000000 = R at *
   grind
 ·left
  have : q = y.length := by omega
  subst this
  rw [List.take_of_length_le (Nat.le_refl _)] at h4
  exact ⟨(o, c), by rw [z2a]; simp (discharger := omega) only [runL], h1, h2, h3, hz, h4⟩
theorem zjw {x y : List Int} (hl : x.length + y.length <= 8000000) (hK : 2000000000 < K) (dx : DigB 1000000000 x) (dy : DigB 1000000000 y) :
  ∃ r : List Int, z2b K x y K (List.replicate (x.length + y.length) 0) 0 = some r /\ r.length = x.length + y.length /\ DigB 1000000000 r /\ valB 1000000000 r = valB 1000000000 x * valB 1000000000 y := by
 refine z87 (fun k (s : List Int × Int) => z2b K x y k s.1 s.2) (fun s => ∃ i : Nat, s.2 = i /\ i <= x.length /\ s.1.length = x.length + y.length /\ DigB 1000000000 s.1 /\ (∀ j, i + y.length <= j -> s.1.getD j 0 = 0) /\ valB 1000000000 s.1 = valB 1000000000 (x.take i) * valB 1000000000 y) (fun s => (x.length - s.2 : Int).toNat) _ ?_ ((List.replicate (x.length + y.length) 0, 0) : List Int × Int) (by simp; omega) ⟨0, rfl, by omega, by simp, .zeros (by omega) _, fun j _ => by simp [zAb, List.getElem?_replicate]; split <;> rfl, by simp [valB, z8n]⟩
 rintro k ⟨out, _⟩ ⟨i, rfl, h0, h1, h2, hz, h4⟩
 dsimp only at h1 h2 h4 hz ⊢
 by_cases hi : i < x.length
 ·right
  have ex := z1p (by omega) dx i
  have tx := z2x 1000000000 x i
  obtain ⟨⟨r, c⟩, r1, r2, r3, r4, r5, r6⟩ := zni (K := K) (y := y) (out := out) (u := x.getD i 0) (i := i) (by omega) (by omega) hK ex dy h2
  dsimp only at r2 r3 r4 r5 r6
  have hz0 := r5 (i + y.length) (Nat.le_refl _)
  rw [hz _ (Nat.le_refl _)] at hz0
  have hset := z62 1000000000 r (i + y.length) c (by omega)
  have hgs := fun d j => z6u (cs := r) (i := i + y.length) (j := j) (v := d) (by omega)
  have e1 : ((i : Int) + (y.length : Int)) = ((i + y.length : Nat) : Int) := by omega
  refine ⟨(r.set (i + y.length) c, (i : Int) + 1), ?_, by dsimp only; omega, i + 1, rfl, by omega, by simp [r2, h1], r3.set _ r4, fun j hj => by rw [hgs, if_neg (by omega), r5 j (by omega)]; exact hz j (by omega), ?_⟩
  ·rw [z2b]
   simp (discharger := omega) only [runL, r1, e1]
  ·dsimp only
   rw [hset, hz0, tx]
   grind
 ·left
  have : i = x.length := by omega
  subst this
  rw [List.take_of_length_le (Nat.le_refl _)] at h4
  exact ⟨out, by rw [z2b]; simp (discharger := omega) only [runL], h1, h2, h4⟩
theorem z8p {x y : List Int} {a b : Int} (hl : x.length + y.length <= 8000000) (hK : 2000000000 < K) (nx : NumN a x) (ny : NumN b y) : ∃ z, z23 K x y = some z /\ NumN (a * b) z /\ z.length <= x.length + y.length := by
 obtain ⟨r, h1, h2, h3, h4⟩ := zjw hl hK nx.1.1 ny.1.1
 rw [nx.2, ny.2] at h4
 obtain ⟨t, t1, t2, t3, t4⟩ := zai (K := K) (B := 1000000000) (l := r) (by omega) hK h3
 refine ⟨t, ?_, ⟨t2, by rw [t3, h4]⟩, by omega⟩
 unfold z23
 have e1 : ((x.length : Int) + (y.length : Int)) = ((x.length + y.length : Nat) : Int) := by omega
 simp (discharger := omega) only [runL, h1, t1, e1]
theorem zhm (l : List Int) (j : Nat) : valB 1000000000 (l.drop j) = l.getD j 0 + 1000000000 * valB 1000000000 (l.drop (j + 1)) := by
 by_cases h : j < l.length
 ·rw [List.drop_eq_getElem_cons h, zAb, zAh h]; rfl
 ·rw [List.drop_eq_nil_of_le (by omega), List.drop_eq_nil_of_le (by omega), zAb, List.getElem?_eq_none (by omega)]; rfl
theorem zfr {x : List Int} {d : Int} (hl : x.length <= 8000000) (hK : 2000000000 < K) (dx : DigB 1000000000 x) (hd : 1 <= d /\ d <= 1000000000) :
  ∃ r : List Int × Int, z1i K x d K (List.replicate x.length 0) 0 ((x.length : Int) - 1) = some r /\ r.1.length = x.length /\ DigB 1000000000 r.1 /\ (0 <= r.2 /\ r.2 < d) /\ valB 1000000000 x = d * valB 1000000000 r.1 + r.2 := by
 refine z87 (fun k (s : List Int × Int × Int) => z1i K x d k s.1 s.2.1 s.2.2) (fun s => ∃ j : Nat, s.2.2 = (j : Int) - 1 /\ j <= x.length /\ s.1.length = x.length /\ DigB 1000000000 s.1 /\ (0 <= s.2.1 /\ s.2.1 < d) /\ valB 1000000000 (x.drop j) = d * valB 1000000000 (s.1.drop j) + s.2.1) (fun s => (s.2.2 + 1).toNat) _ ?_ ((List.replicate x.length 0, 0, (x.length : Int) - 1) : List Int × Int × Int) (by dsimp only; omega) ⟨x.length, rfl, Nat.le_refl _, by simp, .zeros (by omega) _, by dsimp only; omega, by simp [valB]⟩
 rintro k ⟨out, c, _⟩ ⟨j, rfl, hj, h1, h2, h3, h4⟩
 dsimp only at h1 h2 h3 h4 ⊢
 by_cases h0 : j = 0
 ·left
  subst h0
  rw [List.drop_zero, List.drop_zero] at h4
  exact ⟨(out, c), by rw [z1i]; simp (discharger := omega) only [runL], h1, h2, h3, h4⟩
 ·right
  obtain ⟨i, rfl⟩ : ∃ i, j = i + 1 := ⟨j - 1, by omega⟩
  have e1 : ((i + 1 : Nat) : Int) - 1 = i := by omega
  rw [e1]
  have ex := z1p (by omega) dx i
  have ax := zhm x i
  generalize hu : x.getD i 0 = u at ex ax
  have hq0 : 0 <= (c * 1000000000 + u) / d := Int.ediv_nonneg (by omega) (by omega)
  have hqB : (c * 1000000000 + u) / d < 1000000000 := Int.ediv_lt_of_lt_mul (by omega) (by omega)
  have hr0 : 0 <= (c * 1000000000 + u) % d := Int.emod_nonneg _ (by omega)
  have hrd : (c * 1000000000 + u) % d < d := Int.emod_lt_of_pos _ (by omega)
  have hdm := Int.emod_add_mul_ediv (c * 1000000000 + u) d
  refine ⟨(out.set i ((c * 1000000000 + u) / d), (c * 1000000000 + u) % d, (i : Int) - 1), ?_, by dsimp only; omega, i, rfl, by omega, by simp [h1], h2.set _ ⟨hq0, hqB⟩, ⟨hr0, hrd⟩, ?_⟩
  ·rw [z1i]
   have hd' : d ≠ 0 := by omega
   simp (discharger := omega) only [runL, hu]
  ·dsimp only
   rw [zhm (out.set i _) i, List.drop_set_of_lt (by omega), z6u (by omega), if_pos rfl, ax, h4]
   generalize (c * 1000000000 + u) / d = Q at *
   generalize (c * 1000000000 + u) % d = R at *
   grind
theorem zjx {d : Int} (hd : 0 <= d /\ d < 1000000000) (hK : 2000000000 < K) : ∃ z, z1n K [d] = some z /\ NumN d z /\ z.length <= 1 := by
 obtain ⟨t, t1, t2, t3, t4⟩ := zai (K := K) (B := 1000000000) (l := [d]) (by simp) hK (fun x hx => by simp at hx; omega)
 exact ⟨t, t1, ⟨t2, by rw [t3]; simp [valB]⟩, by simpa using t4⟩
theorem zaj {n d q r : Int} (hd : 0 < d) (h : n = d * q + r) (h0 : 0 <= r) (h1 : r < d) : q = n / d /\ r = n % d := by
 have e1 : n / d = q := by
  rw [h, Int.add_comm, Int.add_mul_ediv_left _ _ (by omega), Int.ediv_eq_zero_of_lt h0 h1]; omega
 refine ⟨e1.symm, ?_⟩
 have := Int.emod_add_mul_ediv n d
 rw [e1] at this
 omega
theorem zeu {x : List Int} {a d : Int} (hl : x.length <= 8000000) (hK : 2000000000 < K) (nx : NumN a x) (hd : 1 <= d /\ d <= 1000000000) : ∃ q r, z3u K x d = some (q, r) /\ NumN (a / d) q /\ NumN (a % d) r /\ q.length <= x.length /\ r.length <= 1 := by
 obtain ⟨⟨o, c⟩, h1, h2, h3, h4, h5⟩ := zfr hl hK nx.1.1 hd
 dsimp only at h2 h3 h4 h5
 rw [nx.2] at h5
 obtain ⟨e1, e2⟩ := zaj (by omega) h5 h4.1 h4.2
 obtain ⟨t, t1, t2, t3, t4⟩ := zai (K := K) (B := 1000000000) (l := o) (by omega) hK h3
 obtain ⟨z, z1, z2, z3⟩ := zjx (K := K) (d := c) (by omega) hK
 refine ⟨t, z, ?_, ⟨t2, by rw [t3, e1]⟩, by rw [<- e2]; exact z2, by omega, z3⟩
 unfold z3u
 simp (discharger := omega) only [runL, h1, t1, z1]
end Go.Am.Tryz
/- Plain law: texts and the program's numbers: Read and Text. -/
namespace Go.Am.Tryz
open Go Go.Am Go.Proofs
variable {K : Nat}
def numB (l : List Int) : Int := valB 10 ((l.map (· - 48)).reverse)
theorem zjy (s : zAd) : numT s = numB (z03 s) := rfl
theorem zc8 : numB [] = 0 := rfl
theorem z9r (l : List Int) (c : Int) : numB (l ++ [c]) = numB l * 10 + (c - 48) := by
 unfold numB
 simp [valB]
 omega
theorem zhn (l m : List Int) : numB (l ++ m) = numB m + 10 ^ m.length * numB l := by
 unfold numB
 rw [List.map_append, List.reverse_append, z50]
 simp
theorem zev (c : Int) (l : List Int) : numB (c :: l) = numB l + 10 ^ l.length * (c - 48) := by
 have := zhn [c] l
 simpa [numB, valB] using this
theorem zho {l : List Int} (h : l.all digT = true) : DigB 10 ((l.map (· - 48)).reverse) := by
 intro d hd
 rw [List.mem_reverse, List.mem_map] at hd
 obtain ⟨c, hc, rfl⟩ := hd
 have := List.all_eq_true.1 h c hc
 simp only [digT, Bool.and_eq_true, decide_eq_true_eq] at this
 omega
theorem z6l {l : List Int} (h : l.all digT = true) : 0 <= numB l := z0w (by omega) _ (zho h)
theorem zba {l : List Int} (h : l.all digT = true) : numB l < 10 ^ l.length := by
 have := z4a (B := 10) (by omega) _ (zho h)
 simpa [numB] using this
theorem digT_iff {c : Int} : digT c = true ↔ 48 <= c /\ c <= 57 := by simp [digT]
theorem zak {l : List Int} (h : l.all digT = true) (k : Nat) : (l.take k).all digT = true := List.all_eq_true.2 fun x hx => List.all_eq_true.1 h x (List.mem_of_mem_take hx)
theorem zly {l : List Int} (h : l.all digT = true) (k : Nat) : (l.drop k).all digT = true := List.all_eq_true.2 fun x hx => List.all_eq_true.1 h x (List.mem_of_mem_drop hx)
theorem zew {l : List Int} {i : Nat} (h : i < l.length) : l.take (i + 1) = l.take i ++ [l.getD i 0] := by
 rw [List.take_add_one, zAh h, zAb, zAh h]; rfl
theorem zex {l : List Int} (h : l.all digT = true) {i : Nat} (hi : i < l.length) : 48 <= l.getD i 0 /\ l.getD i 0 <= 57 := by
 rw [zAb, zAh hi]
 exact digT_iff.1 (List.all_eq_true.1 h _ (List.getElem_mem hi))
theorem zjz {t : zAd} (ht : t.size <= 9) (hK : 2000000000 < K) (hd : (z03 t).all digT = true) : z29 K t K 0 0 = some (numT t) := by
 suffices h : ∃ r, z29 K t K 0 0 = some r /\ r = numT t by obtain ⟨r, h1, rfl⟩ := h; exact h1
 have hn := z00 t
 refine z87 (fun k (s : Int × Int) => z29 K t k s.1 s.2) (fun s => ∃ i : Nat, s.2 = i /\ i <= t.size /\ s.1 = numB ((z03 t).take i)) (fun s => (t.size - s.2 : Int).toNat) _ ?_ ((0, 0) : Int × Int) (by simp; omega) ⟨0, rfl, by omega, by simp [zc8]⟩
 rintro k ⟨_, _⟩ ⟨i, rfl, h0, rfl⟩
 dsimp only
 by_cases hi : i < t.size
 ·right
  have b1 := z6l (zak hd i)
  have b2 := zba (zak hd i)
  have b3 : (10 : Int) ^ (List.take i (z03 t)).length <= 10 ^ 8 := by
   rw [List.length_take, hn, Nat.min_eq_left (by omega)]
   exact z7i (by omega) (by omega)
  have hc := zex hd (i := i) (by omega)
  have hs := zew (l := z03 t) (i := i) (by omega)
  have b4 : (10 : Int) ^ 8 = 100000000 := by decide
  refine ⟨(numB ((z03 t).take (i + 1)), (i : Int) + 1), ?_, by dsimp only; omega, i + 1, rfl, by omega, rfl⟩
  rw [z29, hs, z9r]
  generalize numB ((z03 t).take i) = d at *
  rw [hn]
  have hi' : (i : Int) < ((z03 t).length : Int) := by omega
  simp (discharger := omega) only [runL]
 ·left
  have : i = t.size := by omega
  subst this
  refine ⟨numB ((z03 t).take t.size), by rw [z29, hn]; simp (discharger := omega) only [runL], ?_⟩
  rw [List.take_of_length_le (by omega)]
  rfl
theorem zk0 {s : zAd} (hs : s.size <= 8000000) (hK : 2000000000 < K) (hd : (z03 s).all digT = true) :
  ∃ r : List Int, z2o K s K [] (s.size : Int) = some r /\ 9 * r.length < s.size + 9 /\ DigB 1000000000 r /\ valB 1000000000 r = numT s := by
 have hn := z00 s
 refine z87 (fun k (q : List Int × Int) => z2o K s k q.1 q.2) (fun q => q.2 = (s.size : Int) - 9 * q.1.length /\ 9 * q.1.length < s.size + 9 /\ DigB 1000000000 q.1 /\ valB 1000000000 q.1 + 1000000000 ^ q.1.length * numB ((z03 s).take q.2.toNat) = numT s) (fun q => (q.2 + 9).toNat) _ ?_ (([], (s.size : Int)) : List Int × Int) (by dsimp only; omega) ⟨by simp, by simp, .nil _, by simp [valB]; rw [List.take_of_length_le (by omega)]; rfl⟩
 rintro k ⟨out, e⟩ ⟨h1, h2, h3, h4⟩
 dsimp only at h1 h2 h3 h4 ⊢
 by_cases he : e > 0
 ·right
  obtain ⟨lo, hlo, hm⟩ : ∃ lo : Nat, imax 0 (z02 .i64 (e - 9)) = lo /\ ((lo : Int) = e - 9 \/ ((lo = 0) /\ e < 9)) := by
   rw [k64 (by omega) (by omega)]
   unfold imax
   by_cases h9 : e - 9 > 0
   ·exact ⟨(e - 9).toNat, by rw [if_pos h9]; omega, .inl (by omega)⟩
   ·exact ⟨0, by rw [if_neg h9]; rfl, by omega⟩
  have hb : z03 (s.extract lo e.toNat) = ((z03 s).drop lo).take (e.toNat - lo) := z2k _ _ _
  have hsz : (s.extract lo e.toNat).size = e.toNat - lo := by rw [<- z00, hb, List.length_take, List.length_drop]; omega
  have hdp : (z03 (s.extract lo e.toNat)).all digT = true := by rw [hb]; exact zak (zly hd _) _
  have hp := zjz (K := K) (t := s.extract lo e.toNat) (by omega) hK hdp
  have hv0 := z6l hdp
  have hv1 := zba hdp
  have hsplit : (z03 s).take e.toNat = (z03 s).take lo ++ z03 (s.extract lo e.toNat) := by
   rw [hb, show e.toNat = lo + (e.toNat - lo) by omega, List.take_add]; simp
  have hlen : (z03 (s.extract lo e.toNat)).length = e.toNat - lo := by rw [z00]; exact hsz
  have hBv : numB (z03 (s.extract lo e.toNat)) < 1000000000 := by
   have : (10 : Int) ^ (z03 (s.extract lo e.toNat)).length <= 10 ^ 9 := z7i (by omega) (by omega)
   have e9 : (10 : Int) ^ 9 = 1000000000 := by decide
   omega
  refine ⟨(out ++ [numT (s.extract lo e.toNat)], e - 9), ?_, by dsimp only; omega, by simp; omega, by simp; omega, h3.snoc ⟨hv0, hBv⟩, ?_⟩
  ·rw [z2o, hlo]
   simp (discharger := omega) only [runL, hp]
  ·dsimp only
   rw [z7q, List.length_append, List.length_singleton, Int.pow_succ, zjy]
   rw [hsplit, zhn, hlen] at h4
   rcases hm with hm | ⟨hm, h9⟩
   ·have e9 : e.toNat - lo = 9 := by omega
    have e10 : (10 : Int) ^ 9 = 1000000000 := by decide
    have el : (e - 9).toNat = lo := by omega
    rw [e9, e10] at h4
    rw [el]
    grind
   ·subst hm
    have el : (e - 9).toNat = 0 := by omega
    rw [el, List.take_zero, zc8] at *
    grind
 ·left
  have el : e.toNat = 0 := by omega
  rw [el, List.take_zero, zc8] at h4
  exact ⟨out, by rw [z2o]; simp (discharger := omega) only [runL], h2, h3, by omega⟩
theorem z97 {s : zAd} (hs : s.size <= 8000000) (hK : 2000000000 < K) (hd : (z03 s).all digT = true) : ∃ z, z4t K s = some z /\ NumN (numT s) z /\ 9 * z.length < s.size + 9 := by
 obtain ⟨r, h1, h2, h3, h4⟩ := zk0 hs hK hd
 obtain ⟨t, t1, t2, t3, t4⟩ := zai (K := K) (B := 1000000000) (l := r) (by omega) hK h3
 exact ⟨t, by unfold z4t; simp (discharger := omega) only [runL, h1, t1], ⟨t2, by rw [t3, h4]⟩, by omega⟩
end Go.Am.Tryz
/- Plain law: the reference's texts of digits. -/
namespace Go.Am.Tryz
open Go Go.Am Go.Proofs
variable {K : Nat}
theorem zk1 {s : zAd} {c : Int} {l : List Int} (h : z03 s = c :: l) : bidx s 0 = some c := by rw [z99, h]; rfl
theorem zhp : ∀ n k (s : zAd), s.size = n -> n < k -> 0 < n -> (z03 s).all digT = true -> ∃ t, z4e K k s = some t /\ CanT t /\ numT t = numT s := by
 intro n
 induction n with
 | zero => intro k s _ _ h; omega
 | succ n ih =>
  intro k s hs hk _ hd
  obtain ⟨k, rfl⟩ : ∃ m, k = m + 1 := ⟨k - 1, by omega⟩
  have hn := z00 s
  cases hb : z03 s with
  | nil => rw [hb] at hn; simp at hn; omega
  | cons c l =>
   rw [z4e, zk1 hb]
   by_cases h1 : (s.size : Int) > 1
   ·by_cases h2 : c = 48
    ·obtain ⟨t, h3, h4, h5⟩ := zc7 hb
     have hl : l.length = n := by rw [hb] at hn; simp at hn; omega
     obtain ⟨r, h6, h7, h8⟩ := ih k t (by omega) (by omega) (by omega) (by rw [h4]; rw [hb] at hd; simp only [List.all_cons, Bool.and_eq_true] at hd; exact hd.2)
     refine ⟨r, ?_, h7, ?_⟩
     ·simp [h1, h2, h3, h6, tu1]
     ·rw [h8, zjq (s := s) (t := t) (c := c) (by rw [hb, h4]), h2]; simp
    ·refine ⟨s, by simp [h1, h2, tu1], ⟨by omega, hd, fun e => ?_⟩, rfl⟩
     rw [hb] at e; simp at e; exact absurd e h2
   ·exact ⟨s, by simp [h1, tu1], ⟨by omega, hd, fun e => by omega⟩, rfl⟩
theorem z9s {s : zAd} (hs : s.size <= 1048576) (h0 : 0 < s.size) (hK : s.size < K) (hd : (z03 s).all digT = true) : ∃ t, z5t K s = some t /\ CanT t /\ numT t = numT s := by
 obtain ⟨t, h1, h2⟩ := zhp (K := K) s.size K s rfl hK h0 hd
 exact ⟨t, by unfold z5t; rw [h1]; rfl, h2⟩
theorem z7r {s : zAd} (hs : s.size <= 1048576) (hd : (z03 s).all digT = true) (k : Nat) (hk : k <= 1048577) : z4k K s k = some ((z51 s).getD k 0) := by
 have hn := z00 s
 unfold z4k
 by_cases h : k < s.size
 ·have h' : ((k : Int) < (s.size : Int)) := by omega
  have hi : s.size - 1 - k < (z03 s).length := by omega
  have e1 : z02 .i64 (z02 .i64 ((s.size : Int) - 1) - (k : Int)) = ((s.size - 1 - k : Nat) : Int) := by
   rw [kw (a := (s.size : Int) - 1) (by omega) (by omega), kw (by omega) (by omega)]; omega
  have hx : (z03 s)[s.size - 1 - k]? = some (z03 s)[s.size - 1 - k] := zAh hi
  have hc := List.all_eq_true.1 hd _ (List.getElem_mem hi)
  simp only [digT, Bool.and_eq_true, decide_eq_true_eq] at hc
  rw [decide_eq_true h', if_pos rfl, e1, z99, z4q hx]
  have hg : (z51 s).getD k 0 = (z03 s)[s.size - 1 - k] - 48 := by
   unfold z51
   rw [zAb, List.getElem?_reverse (by simp; omega), List.length_map, hn, List.getElem?_map, hx]
   rfl
  rw [hg]
  generalize (z03 s)[s.size - 1 - k] = c at hc
  have e2 : z02 .u8 (c - 48) = c - 48 := z6o (by simp [z8c]; omega)
  have e3 : IntKind.wrap .i64 (c - 48) = c - 48 := by rw [<- z71]; exact kw (by omega) (by omega)
  simp [e2, e3]
 ·have h' : ¬ ((k : Int) < (s.size : Int)) := by omega
  rw [decide_eq_false h', if_neg (by simp)]
  congr 1
  rw [zAb, List.getElem?_eq_none (by rw [z4m]; omega)]
  rfl
theorem zqi {x : Int} (h : 0 <= x) (h' : x <= 255) : z02 .u8 x = x := z6o (by simp [z8c]; omega)
theorem zk2 {l : List Int} (hl : l.length <= 1048577) (hK : l.length < K) (hd : DigB 10 l) : z2n K l K (List.replicate l.length 0) 0 = some (l.map (48 + ·)).reverse := by
 suffices h : ∃ r, z2n K l K (List.replicate l.length 0) 0 = some r /\ r = (l.map (48 + ·)).reverse by
  obtain ⟨r, h1, rfl⟩ := h; exact h1
 refine zdt (S := List Int) l.length (fun k s i => z2n K l k s i) (fun b i => b.length = l.length /\ ∀ j < l.length, b.getD j 0 = if l.length - 1 - j < i then 48 + l.getD (l.length - 1 - j) 0 else 0) _ ?_ ?_ K _ hK ⟨by simp, fun j hj => by simp [zAb, hj]⟩
 ·rintro k b i hi ⟨hb, hj⟩
  right
  have hp : l.length - 1 - i < b.length := by omega
  have e1 : z02 .i64 (z02 .i64 ((l.length : Int) - 1) - (i : Int)) = ((l.length - 1 - i : Nat) : Int) := by
   rw [kw (a := (l.length : Int) - 1) (by omega) (by omega), kw (by omega) (by omega)]; omega
  have hx := hd (l.getD i 0) (by rw [zAb, zAh hi]; simp)
  have e2 : IntKind.wrap .u8 (z02 .i64 (48 + l.getD i 0)) = 48 + l.getD i 0 := by
   rw [kw (a := 48 + l.getD i 0) (by omega) (by omega), <- z71]; exact zqi (by omega) (by omega)
  refine ⟨b.set (l.length - 1 - i) (48 + l.getD i 0), ⟨by simp [hb], fun j hjl => ?_⟩, ?_⟩
  ·have hg : (b.set (l.length - 1 - i) (48 + l.getD i 0)).getD j 0 = if j = l.length - 1 - i then 48 + l.getD i 0 else b.getD j 0 := z6u hp
   rw [hg, hj j hjl]
   by_cases e : j = l.length - 1 - i
   ·have e3 : l.length - 1 - j = i := by omega
    rw [if_pos e, e3, if_pos (zAg i)]
   ·rw [if_neg e]
    by_cases e3 : l.length - 1 - j < i
    ·rw [if_pos e3, if_pos (by omega)]
    ·rw [if_neg e3, if_neg (by omega)]
  ·show z2n K l (k + 1) b i = _
   rw [z2n, zjo hi, if_pos rfl, zhh hi]
   simp only [Option.bind_some, e1, zhh hp, e2, Int.toNat_natCast, kw1 hi (by omega)]
 ·rintro k b i rfl ⟨hb, hj⟩
  refine ⟨b, ?_, ?_⟩
  ·show z2n K l (k + 1) b l.length = _
   rw [z2n, zep (Nat.le_refl _)]; simp
  ·apply List.ext_getElem (by simp [hb])
   intro j h1 h2
   have h3 := hj j (by omega)
   rw [if_pos (by omega), zAb, zAh h1, zAb, zAh (show l.length - 1 - j < l.length by omega)] at h3
   simp at h3
   simp [h3]
theorem zdu {l : List Int} (hl : l.length <= 1048575) (h0 : l ≠ []) (hK : l.length + 1 < K) (hd : DigB 10 l) : ∃ t, z85 K l = some t /\ CanT t /\ numT t = valB 10 l := by
 have hlen : 0 < l.length := by cases l with | nil => exact absurd rfl h0 | cons _ _ => simp
 have hrange : ∀ x ∈ (l.map (48 + ·)).reverse, 0 <= x /\ x <= 255 := fun x hx => by
  rw [List.mem_reverse, List.mem_map] at hx
  obtain ⟨d, h1, rfl⟩ := hx
  have := hd d h1
  omega
 have hb := zfq _ hrange
 have hz : z03 ((⟨#[48]⟩ : zAd) ++ strOfNums (l.map (48 + ·)).reverse) = 48 :: (l.map (48 + ·)).reverse := by
  rw [z1y, hb]; rfl
 have hsz : ((⟨#[48]⟩ : zAd) ++ strOfNums (l.map (48 + ·)).reverse).size = l.length + 1 := by
  rw [<- z00, hz]; simp
 have hdg : (z03 ((⟨#[48]⟩ : zAd) ++ strOfNums (l.map (48 + ·)).reverse)).all digT = true := by
  rw [hz, List.all_eq_true]
  intro x hx
  rcases List.mem_cons.1 hx with rfl | hx
  ·rfl
  ·rw [List.mem_reverse, List.mem_map] at hx
   obtain ⟨d, h1, rfl⟩ := hx
   have := hd d h1
   simp [digT]; omega
 obtain ⟨t, h1, h2, h3⟩ := z9s (K := K) (s := (⟨#[48]⟩ : zAd) ++ strOfNums (l.map (48 + ·)).reverse) (by omega) (by omega) (by omega) hdg
 refine ⟨t, ?_, h2, ?_⟩
 ·unfold z85
  rw [if_pos (by omega), Int.toNat_natCast, zk2 (by omega) (by omega) hd]
  have e1 : (⟨#[48]⟩ : zAd).size = 1 := rfl
  simp only [Option.bind_some, tu1, List.length_reverse, List.length_map, strOfNums_size, e1]
  rw [if_pos hlen, if_pos (by omega), h1]
  rfl
 ·rw [h3]
  unfold numT z51
  rw [hz, List.map_cons, List.reverse_cons, z50, List.map_reverse, List.reverse_reverse, List.map_map]
  have : l.map ((fun x => x - 48) ∘ (fun x => 48 + x)) = l := by
   conv => rhs; rw [<- List.map_id l]
   apply List.map_congr_left
   intro x _
   show 48 + x - 48 = x
   omega
  rw [this]
  simp [valB]
end Go.Am.Tryz
/- Plain law: the reference's sum and difference of texts. -/
namespace Go.Am.Tryz
open Go Go.Am Go.Proofs
variable {K : Nat}
theorem zc9 (B : Int) (x : List Int) (k : Nat) : valB B (x.take (k + 1)) = valB B (x.take k) + B ^ k * x.getD k 0 := by
 by_cases h : k < x.length
 ·have hx : x[k]? = some x[k] := zAh h
  rw [List.take_add_one, hx, z50, List.length_take, Nat.min_eq_left (by omega), zAb, hx]
  simp [valB]
 ·rw [List.take_of_length_le (by omega), List.take_of_length_le (by omega), zAb, List.getElem?_eq_none (by omega)]
  simp
theorem zk3 {B : Int} (hB : 0 < B) {x : List Int} (h : DigB B x) (k : Nat) : 0 <= x.getD k 0 /\ x.getD k 0 < B := by
 by_cases hk : k < x.length
 ·rw [zAb, zAh hk]
  exact h _ (List.getElem_mem hk)
 ·rw [zAb, List.getElem?_eq_none (by omega)]
  simp [hB]
theorem zhq {i j : Nat} (h : i <= j) : (10 : Int) ^ i <= 10 ^ j := by
 have h1 : (10 : Nat) ^ i <= 10 ^ j := Nat.pow_le_pow_right (by omega) h
 have h2 : ((10 ^ i : Nat) : Int) <= ((10 ^ j : Nat) : Int) := by omega
 simpa using h2
theorem zk4 (i : Nat) : 0 < (10 : Int) ^ i := by
 have h1 : 0 < (10 : Nat) ^ i := Nat.pow_pos (by omega)
 have h2 : (0 : Int) < ((10 ^ i : Nat) : Int) := by omega
 simpa using h2
theorem znj {a b : zAd} (ha : a.size <= 1000000) (hb : b.size <= 1000000) (h0 : 0 < a.size) (hK : 1048580 < K) (da : (z03 a).all digT = true) (db : (z03 b).all digT = true) : ∃ t, z7g K a b = some t /\ CanT t /\ numT t = numT a + numT b := by
 have dx := z6t da
 have dy := z6t db
 have lx := z4m a
 have ly := z4m b
 have vx := z4a (B := 10) (by omega) _ dx
 have vy := z4a (B := 10) (by omega) _ dy
 have key : ∃ r, z21 K a b K [] 0 0 = some r /\ r ≠ [] /\ r.length <= 1048575 /\ DigB 10 r /\ valB 10 r = numT a + numT b := by
  refine zdt (S := List Int × Int) (max a.size b.size + 1) (fun k s i => z21 K a b k s.1 s.2 i) (fun s i => s.1.length = i /\ DigB 10 s.1 /\ (0 <= s.2 /\ s.2 <= 1) /\ valB 10 s.1 + 10 ^ i * s.2 = valB 10 ((z51 a).take i) + valB 10 ((z51 b).take i)) _ ?_ ?_ K ([], 0) (by omega) ⟨rfl, DigB.nil 10, ⟨by omega, by omega⟩, by simp [valB]⟩
  ·rintro k ⟨out, c⟩ i hi ⟨h1, h2, h3, h4⟩
   simp only at h1 h2 h3 h4
   have hcond : (if (decide ((i : Int) < (a.size : Int))) = true then some true else (if (decide ((i : Int) < (b.size : Int))) = true then some true else some (decide (c > 0)))) = some (decide ((i < a.size \/ i < b.size) \/ c > 0)) := by
    by_cases e1 : i < a.size
    ·simp [e1]
    ·by_cases e2 : i < b.size
     ·simp [e1, e2]
     ·simp [e1, e2]
   show (∃ r, z21 K a b (k + 1) out c i = some r /\ _) \/ _
   rw [z21, hcond]
   simp only [Option.bind_some, tu1]
   by_cases hc : (i < a.size \/ i < b.size) \/ c > 0
   ·right
    have ex := zk3 (by omega) dx i
    have ey := zk3 (by omega) dy i
    rw [decide_eq_true hc, if_pos rfl, z7r (by omega) da i (by omega), z7r (by omega) db i (by omega)]
    have tx := zc9 10 (z51 a) i
    have ty := zc9 10 (z51 b) i
    generalize (z51 a).getD i 0 = x at ex tx
    generalize (z51 b).getD i 0 = y at ey ty
    have e1 : z02 .i64 (x + y) = x + y := kw (by omega) (by omega)
    have e2 : z02 .i64 (x + y + c) = x + y + c := kw (by omega) (by omega)
    have e3 : Int.tmod (x + y + c) 10 = (x + y + c) % 10 := Int.tmod_eq_emod_of_nonneg (by omega)
    have e4 : Int.tdiv (x + y + c) 10 = (x + y + c) / 10 := Int.tdiv_eq_ediv_of_nonneg (by omega)
    have e5 : z02 .i64 ((x + y + c) / 10) = (x + y + c) / 10 := kw (by omega) (by omega)
    refine ⟨(out ++ [(x + y + c) % 10], (x + y + c) / 10), ⟨by simp [h1], h2.app (fun d hd => by simp at hd; omega), ⟨by omega, by omega⟩, ?_⟩, ?_⟩
    ·have hm := Int.emod_add_mul_ediv (x + y + c) 10
     generalize hq : (x + y + c) / 10 = q at hm
     generalize hr : (x + y + c) % 10 = r at hm
     simp only
     rw [z50, h1, tx, ty, Int.pow_succ]
     simp only [valB, Int.mul_zero, Int.add_zero]
     generalize valB 10 ((z51 a).take i) = A at h4
     generalize valB 10 ((z51 b).take i) = B at h4
     generalize valB 10 out = C at h4
     generalize (10 : Int) ^ i = p at h4
     have e6 : p * (r + 10 * q) = p * (x + y + c) := by rw [hm]
     rw [Int.mul_add, Int.mul_add, Int.mul_add, <- Int.mul_assoc] at e6
     omega
    ·simp only [Option.bind_some, e1, e2, e3, e4, e5, lt, List.length_cons, List.length_nil, kw1 hi (by omega)]
     rw [if_pos (by omega)]
   ·left
    rw [decide_eq_false hc]
    refine ⟨out, by simp, ?_, by omega, h2, ?_⟩
    ·intro e; rw [e] at h1; simp at h1; omega
    ·rw [List.take_of_length_le (by omega), List.take_of_length_le (by omega)] at h4
     have : c = 0 := by omega
     rw [this] at h4
     unfold numT
     omega
  ·rintro k ⟨out, c⟩ i rfl ⟨h1, h2, h3, h4⟩
   simp only at h1 h2 h3 h4
   rw [List.take_of_length_le (by omega), List.take_of_length_le (by omega)] at h4
   have p1 : (10 : Int) ^ (z51 a).length <= 10 ^ (max a.size b.size) := zhq (by omega)
   have p2 : (10 : Int) ^ (z51 b).length <= 10 ^ (max a.size b.size) := zhq (by omega)
   have p3 := z0w (B := 10) (by omega) _ h2
   have p4 := zk4 (max a.size b.size)
   have hc0 : c = 0 := by
    by_cases e : c = 0
    ·exact e
    ·have e1 : c = 1 := by omega
     rw [e1, Int.mul_one, Int.pow_succ] at h4
     omega
   subst hc0
   have hcond : (if (decide (((max a.size b.size + 1 : Nat) : Int) < (a.size : Int))) = true then some true else (if (decide (((max a.size b.size + 1 : Nat) : Int) < (b.size : Int))) = true then some true else some (decide ((0 : Int) > 0)))) = some false := by
    rw [decide_eq_false (by omega), decide_eq_false (by omega)]; rfl
   refine ⟨out, ?_, ?_, by omega, h2, by unfold numT; omega⟩
   ·show z21 K a b (k + 1) out 0 _ = _
    rw [z21, hcond]; rfl
   ·intro e; rw [e] at h1; simp at h1
 obtain ⟨r, h1, h2, h3, h4, h5⟩ := key
 obtain ⟨t, h6, h7, h8⟩ := zdu (K := K) h3 h2 (by omega) h4
 refine ⟨t, ?_, h7, by rw [h8, h5]⟩
 unfold z7g
 rw [h1]
 simp only [Option.bind_some, tu1, h6]
theorem zhr {a b : zAd} (ha : a.size <= 1000000) (hb : b.size <= a.size) (h0 : 0 < a.size) (hK : 1048580 < K) (da : (z03 a).all digT = true) (db : (z03 b).all digT = true) (hle : numT b <= numT a) : ∃ t, z6g K a b = some t /\ CanT t /\ numT t = numT a - numT b := by
 have dx := z6t da
 have dy := z6t db
 have lx := z4m a
 have ly := z4m b
 have key : ∃ r, z20 K a b K [] 0 0 = some r /\ r ≠ [] /\ r.length <= 1048575 /\ DigB 10 r /\ valB 10 r = numT a - numT b := by
  refine zdt (S := List Int × Int) a.size (fun k s i => z20 K a b k s.1 s.2 i) (fun s i => s.1.length = i /\ DigB 10 s.1 /\ (0 <= s.2 /\ s.2 <= 1) /\ valB 10 s.1 + valB 10 ((z51 b).take i) = valB 10 ((z51 a).take i) + 10 ^ i * s.2) _ ?_ ?_ K ([], 0) (by omega) ⟨rfl, DigB.nil 10, ⟨by omega, by omega⟩, by simp [valB]⟩
  ·rintro k ⟨out, c⟩ i hi ⟨h1, h2, h3, h4⟩
   simp only at h1 h2 h3 h4
   right
   have ex := zk3 (by omega) dx i
   have ey := zk3 (by omega) dy i
   show ∃ s', _ /\ z20 K a b (k + 1) out c i = _
   rw [z20, zjo hi, if_pos rfl, z7r (by omega) da i (by omega), z7r (by omega) db i (by omega)]
   have tx := zc9 10 (z51 a) i
   have ty := zc9 10 (z51 b) i
   generalize (z51 a).getD i 0 = x at ex tx
   generalize (z51 b).getD i 0 = y at ey ty
   have e1 : z02 .i64 (x - y) = x - y := kw (by omega) (by omega)
   have e2 : z02 .i64 (x - y - c) = x - y - c := kw (by omega) (by omega)
   have e3 : z02 .i64 (x - y - c + 10) = x - y - c + 10 := kw (by omega) (by omega)
   simp only [Option.bind_some, e1, e2, e3, lt, tu2, List.length_cons, List.length_nil, kw1 hi (by omega)]
   have h9 : out.length + (0 + 1) <= 16777216 := by omega
   by_cases hn : x - y - c < 0
   ·refine ⟨(out ++ [x - y - c + 10], 1), ⟨by simp [h1], h2.app (fun d hd => by simp at hd; omega), ⟨by omega, by omega⟩, ?_⟩, ?_⟩
    ·simp only
     rw [z50, h1, tx, ty, Int.pow_succ]
     simp only [valB, Int.mul_zero, Int.add_zero, Int.mul_one]
     generalize valB 10 ((z51 a).take i) = A at h4
     generalize valB 10 ((z51 b).take i) = B at h4
     generalize valB 10 out = C at h4
     generalize (10 : Int) ^ i = p at h4
     rw [Int.mul_add, Int.mul_sub, Int.mul_sub]
     omega
    ·rw [decide_eq_true hn]
     simp only [if_true, Option.bind_some, if_pos h9, tu2]
   ·refine ⟨(out ++ [x - y - c], 0), ⟨by simp [h1], h2.app (fun d hd => by simp at hd; omega), ⟨by omega, by omega⟩, ?_⟩, ?_⟩
    ·simp only
     rw [z50, h1, tx, ty, Int.pow_succ]
     simp only [valB, Int.mul_zero, Int.add_zero]
     generalize valB 10 ((z51 a).take i) = A at h4
     generalize valB 10 ((z51 b).take i) = B at h4
     generalize valB 10 out = C at h4
     generalize (10 : Int) ^ i = p at h4
     rw [Int.mul_sub, Int.mul_sub]
     omega
    ·rw [decide_eq_false hn]
     simp only [Bool.false_eq_true, if_false, Option.bind_some, if_pos h9, tu2]
  ·rintro k ⟨out, c⟩ i rfl ⟨h1, h2, h3, h4⟩
   simp only at h1 h2 h3 h4
   rw [List.take_of_length_le (by omega), List.take_of_length_le (by omega)] at h4
   have p3 := z4a (B := 10) (by omega) _ h2
   rw [h1] at p3
   have hle' : valB 10 (z51 b) <= valB 10 (z51 a) := hle
   have hc0 : c = 0 := by
    by_cases e : c = 0
    ·exact e
    ·have e1 : c = 1 := by omega
     rw [e1, Int.mul_one] at h4
     omega
   subst hc0
   refine ⟨out, ?_, ?_, by omega, h2, by unfold numT; omega⟩
   ·show z20 K a b (k + 1) out 0 _ = _
    rw [z20, zep (Nat.le_refl _)]; simp
   ·intro e; rw [e] at h1; simp at h1; omega
 obtain ⟨r, h1, h2, h3, h4, h5⟩ := key
 obtain ⟨t, h6, h7, h8⟩ := zdu (K := K) h3 h2 (by omega) h4
 refine ⟨t, ?_, h7, by rw [h8, h5]⟩
 unfold z6g
 rw [h1]
 simp only [Option.bind_some, tu1, h6]
end Go.Am.Tryz
/- Plain law: the reference's comparison, product, quotient and divisor of texts. -/
namespace Go.Am.Tryz
open Go Go.Am Go.Proofs
variable {K : Nat}
theorem z31 {s : zAd} (h : (z03 s).all digT = true) : 0 <= numT s := z6l h
theorem zal {s : zAd} (h : (z03 s).all digT = true) : numT s < 10 ^ s.size := by
 have := zba h
 rwa [z00] at this
theorem zd6 {s : zAd} (h : CanT s) (h2 : 2 <= s.size) : (10 : Int) ^ (s.size - 1) <= numT s := by
 have hh : (z03 s).head? ≠ some 48 := fun e => by have := h.2.2 e; omega
 have h3 := zhj (B := 10) (by omega) (zc6 h hh) (by intro e; have := z4m s; rw [e] at this; simp at this; omega)
 rwa [z4m] at h3
theorem zam {a b : zAd} (ha : (z03 a).all digT = true) (hb : CanT b) (h0 : a.size ≠ 0) (h : a.size < b.size) : numT a < numT b := by
 have h1 := zal ha
 have h2 := zd6 hb (by omega)
 have h3 : (10 : Int) ^ a.size <= 10 ^ (b.size - 1) := z7i (by omega) (by omega)
 omega
theorem z3d {a b : zAd} (ha : CanT a) (hb : CanT b) (h : numT b <= numT a) : b.size <= a.size := by
 refine Nat.not_lt.1 fun hl => ?_
 have := zam ha.2.1 hb ha.1 hl
 omega
theorem z8q : CanT ⟨#[48]⟩ := ⟨by decide, rfl, fun _ => rfl⟩
theorem z56 : numT ⟨#[48]⟩ = 0 := rfl
theorem z6v : CanT ⟨#[49]⟩ := ⟨by decide, rfl, fun h => by simp [z03] at h⟩
theorem z63 : numT ⟨#[49]⟩ = 1 := rfl
theorem zca {s : zAd} (h : CanT s) : numT s = 0 ↔ s = ⟨#[48]⟩ := ⟨fun e => z86 h z8q (by rw [e, z56]), fun e => by rw [e, z56]⟩
theorem z9d : ∀ (x y : List UInt8), x.length = y.length -> (x.map fun b => (b.toNat : Int)).all digT = true -> (y.map fun b => (b.toNat : Int)).all digT = true -> (Op.bytesLess x y = true ↔ numB (x.map fun b => (b.toNat : Int)) < numB (y.map fun b => (b.toNat : Int)))
 | [], [], _, _, _ => by simp [Op.bytesLess]
 | [], _ :: _, h, _, _ => by simp at h
 | _ :: _, [], h, _, _ => by simp at h
 | a :: x, b :: y, h, hx, hy => by
  simp only [List.map_cons, List.all_cons, Bool.and_eq_true] at hx hy
  simp only [List.length_cons, Nat.add_right_cancel_iff] at h
  have ih := z9d x y h hx.2 hy.2
  have dx := digT_iff.1 hx.1
  have dy := digT_iff.1 hy.1
  simp only [Op.bytesLess, List.map_cons, zev, List.length_map, h]
  have lx0 := z6l hx.2
  have lx1 := zba hx.2
  have ly0 := z6l hy.2
  have ly1 := zba hy.2
  rw [List.length_map] at lx1 ly1
  rw [h] at lx1
  generalize numB (x.map fun b => (b.toNat : Int)) = X at *
  generalize numB (y.map fun b => (b.toNat : Int)) = Y at *
  have p0 : (0 : Int) < 10 ^ y.length := Int.pow_pos (by omega)
  generalize (10 : Int) ^ y.length = P at *
  rw [Bool.or_eq_true, Bool.and_eq_true, ih, decide_eq_true_eq, beq_iff_eq, UInt8.lt_iff_toNat_lt]
  rcases Nat.lt_trichotomy a.toNat b.toNat with h1 | h1 | h1
  ·have := z33 (Int.le_of_lt p0) (show ((a.toNat : Int) - 48) + 1 <= (b.toNat : Int) - 48 by omega)
   rw [Int.mul_add, Int.mul_one] at this
   exact ⟨fun _ => by omega, fun _ => .inl h1⟩
  ·have e : a = b := UInt8.toNat_inj.1 h1
   subst e
   exact ⟨fun h => by rcases h with h | h <;> omega, fun h => .inr ⟨rfl, by omega⟩⟩
  ·have := z33 (Int.le_of_lt p0) (show ((b.toNat : Int) - 48) + 1 <= (a.toNat : Int) - 48 by omega)
   rw [Int.mul_add, Int.mul_one] at this
   refine ⟨fun h => ?_, fun h => by omega⟩
   rcases h with h | ⟨h, _⟩
   ·omega
   ·subst h; omega
theorem znk {a b : zAd} (h : a.size = b.size) (ha : (z03 a).all digT = true) (hb : (z03 b).all digT = true) : sLt a b = decide (numT a < numT b) := by
 have := z9d a.data.toList b.data.toList (by simpa using h) ha hb
 unfold sLt
 rw [ByteArray.toList_eq, ByteArray.toList_eq]
 by_cases c : numT a < numT b
 ·rw [decide_eq_true c]; exact this.2 c
 ·rw [decide_eq_false c]
  cases e : Op.bytesLess a.data.toList b.data.toList with
  | false => rfl
  | true => exact absurd (this.1 e) c
theorem zkz {a b : zAd} (ha : CanT a) (hb : CanT b) : z6f K a b = some (if numT a < numT b then -1 else if numT a = numT b then 0 else 1) := by
 unfold z6f
 by_cases h1 : a.size < b.size
 ·have := zam ha.2.1 hb ha.1 h1
  simp (discharger := omega) only [runL]
 ·by_cases h2 : a.size > b.size
  ·have := zam hb.2.1 ha hb.1 h2
   simp (discharger := omega) only [runL]
  ·have he : a.size = b.size := by omega
   rw [if_neg (by simp; omega), if_neg (by simp; omega), znk he ha.2.1 hb.2.1]
   by_cases c : numT a < numT b
   ·simp (discharger := omega) only [runL]
   ·by_cases d : numT a = numT b
    ·have : a = b := z86 ha hb d
     subst this
     have e : sEq a a = true := sEq_iff.2 rfl
     simp [e]
    ·have e : sEq a b = false := by
      cases e : sEq a b with
      | false => rfl
      | true => rw [sEq_iff] at e; subst e; exact absurd rfl d
     simp [e, c, d]
theorem znl {b : zAd} {out : List Int} {u : Int} {i : Nat} (hb : b.size <= 1000000) (hl : i + b.size < out.length) (ho : out.length <= 8000000) (hK : 2000000000 < K) (hu : 0 <= u /\ u <= 9) (db : (z03 b).all digT = true) (d0 : DigB 10 out) :
  ∃ r : List Int, z2s K b (i : Int) u K out 0 = some r /\ r.length = out.length /\ (∀ j, 0 <= r.getD j 0 /\ r.getD j 0 <= 90) /\ valB 10 r = valB 10 out + 10 ^ i * (u * numT b) := by
 have dx := z6t db
 have lx := z4m b
 refine z87 (fun k (s : List Int × Int) => z2s K b (i : Int) u k s.1 s.2) (fun s => ∃ q : Nat, s.2 = q /\ q <= b.size /\ s.1.length = out.length /\ (∀ j, 0 <= s.1.getD j 0 /\ s.1.getD j 0 <= 90) /\ (∀ j, i + q <= j -> s.1.getD j 0 <= 9) /\ valB 10 s.1 = valB 10 out + 10 ^ i * (u * valB 10 ((z51 b).take q))) (fun s => (b.size - s.2 : Int).toNat) _ ?_ ((out, 0) : List Int × Int) (by simp; omega) ⟨0, rfl, by omega, rfl, fun j => by have := z1p (by omega) d0 j; dsimp only; omega, fun j _ => by have := z1p (by omega) d0 j; dsimp only; omega, by simp [valB]⟩
 rintro k ⟨o, _⟩ ⟨q, rfl, h0, h1, h2, h3, h4⟩
 dsimp only at h1 h2 h3 h4 ⊢
 by_cases hq : q < b.size
 ·right
  have ey := z1p (by omega) dx q
  have eo := h2 (i + q)
  have eo9 := h3 (i + q) (Nat.le_refl _)
  have ty := z2x 10 (z51 b) q
  have hdg := z7r (K := K) (s := b) (by omega) db q (by omega)
  have hm : 0 <= u * (z51 b).getD q 0 /\ u * (z51 b).getD q 0 <= 81 := by
   have := z33 hu.1 (show (z51 b).getD q 0 <= 9 by omega)
   exact ⟨z7u hu.1 ey.1, by omega⟩
  have hset := fun d => z62 10 o (i + q) d (by omega)
  have hgs := fun d j => z6u (cs := o) (i := i + q) (j := j) (v := d) (by omega)
  have e1 : ((i : Int) + (q : Int)) = ((i + q : Nat) : Int) := by omega
  generalize hw : u * (z51 b).getD q 0 = w at hm
  generalize ho : o.getD (i + q) 0 = z at eo eo9 hset
  refine ⟨(o.set (i + q) (z + w), (q : Int) + 1), ?_, by dsimp only; omega, q + 1, rfl, by omega, by simp [h1], fun j => ?_, fun j hj => ?_, ?_⟩
  ·rw [z2s, hdg]
   simp (discharger := omega) only [runL, e1, hw, ho]
  ·dsimp only; rw [hgs]; split
   ·omega
   ·exact h2 j
  ·dsimp only; rw [hgs, if_neg (by omega)]; exact h3 j (by omega)
  ·dsimp only
   rw [hset, h4, ty, <- hw, Int.pow_add]
   grind
 ·left
  have : q = b.size := by omega
  subst this
  rw [List.take_of_length_le (by omega)] at h4
  exact ⟨o, by rw [z2s]; simp (discharger := omega) only [runL], h1, h2, h4⟩
theorem zhs {c v : List Int} (hv : v.length + 1 = c.length) (hl : c.length <= 8000000) (hK : 2000000000 < K) (hc : ∀ j, 0 <= c.getD j 0 /\ c.getD j 0 <= 90) :
  ∃ r : List Int, z2c K v K c 0 = some r /\ r.length = c.length /\ (∀ j, 0 <= r.getD j 0) /\ (∀ j < v.length, r.getD j 0 <= 9) /\ valB 10 r = valB 10 c := by
 refine z87 (fun k (s : List Int × Int) => z2c K v k s.1 s.2) (fun s => ∃ i : Nat, s.2 = i /\ i <= v.length /\ s.1.length = c.length /\ (∀ j, 0 <= s.1.getD j 0 /\ s.1.getD j 0 <= 100) /\ (∀ j, i < j -> s.1.getD j 0 <= 90) /\ (∀ j < i, s.1.getD j 0 <= 9) /\ valB 10 s.1 = valB 10 c) (fun s => (v.length - s.2 : Int).toNat) _ ?_ ((c, 0) : List Int × Int) (by simp; omega) ⟨0, rfl, by omega, rfl, fun j => by have := hc j; dsimp only; omega, fun j _ => by have := hc j; dsimp only; omega, fun j hj => by omega, rfl⟩
 rintro k ⟨o, _⟩ ⟨i, rfl, h0, h1, h2, h3, h4, h5⟩
 dsimp only at h1 h2 h3 h4 h5 ⊢
 by_cases hi : i < v.length
 ·right
  have e1 : ((i : Int) + 1).toNat = i + 1 := by omega
  have b1 := h2 i
  have b2 := h2 (i + 1)
  have b3 := h3 (i + 1) (by omega)
  by_cases h9 : o.getD i 0 > 9
  ·generalize hz : o.getD i 0 = z at *
   generalize hz1 : o.getD (i + 1) 0 = z1 at *
   have hdm := Int.emod_add_mul_ediv z 10
   have hset := fun d => z62 10 o (i + 1) d (by omega)
   have hset2 := fun d e => z62 10 (o.set (i + 1) d) i e (by simp; omega)
   have hgs := fun d j => z6u (cs := o) (i := i + 1) (j := j) (v := d) (by omega)
   have hgs2 := fun d e j => z6u (cs := o.set (i + 1) d) (i := i) (j := j) (v := e) (by simp; omega)
   have hgi := fun d => hgs d i
   simp only [show ¬ i = i + 1 by omega, if_false, hz] at hgi
   have hsi : ∀ d, idx (o.set (i + 1) d) (i : Int) = some z := fun d => by rw [idxI (by omega) (by simp; omega), Int.toNat_natCast, hgi]
   refine ⟨((o.set (i + 1) (z1 + z / 10)).set i (z % 10), (i : Int) + 1), ?_, by dsimp only; omega, i + 1, rfl, by omega, by simp [h1], fun j => ?_, fun j hj => ?_, fun j hj => ?_, ?_⟩
   ·rw [z2c]
    simp (discharger := omega) only [runL, e1, hz, hz1, hsi]
   ·dsimp only; rw [hgs2, hgs]
    have := h2 j
    split
    ·omega
    ·split <;> omega
   ·dsimp only; rw [hgs2, hgs, if_neg (by omega), if_neg (by omega)]; exact h3 j (by omega)
   ·dsimp only; rw [hgs2]
    split
    ·omega
    ·rw [hgs, if_neg (by omega)]; exact h4 j (by omega)
   ·dsimp only
    rw [hset2, hset, hgi, hz1, h5, Int.pow_succ]
    grind
  ·refine ⟨(o, (i : Int) + 1), ?_, by dsimp only; omega, i + 1, rfl, by omega, h1, h2, fun j hj => h3 j (by omega), fun j hj => ?_, h5⟩
   ·have e : decide (o.getD i 0 > 9) = false := decide_eq_false h9
    rw [z2c]
    simp (discharger := omega) only [runL, e, Bool.false_eq_true]
   ·by_cases hj2 : j = i
    ·subst hj2; dsimp only; omega
    ·exact h4 j (by omega)
 ·left
  have : i = v.length := by omega
  subst this
  exact ⟨o, by rw [z2c]; simp (discharger := omega) only [runL], h1, fun j => (h2 j).1, h4, h5⟩
theorem kr1 {A B p q X : Int} : A * B + p * (q * B) = (A + p * q) * B := by grind
theorem zk5 {a b : zAd} (ha : a.size <= 500000) (hb : b.size <= 500000) (hK : 2000000000 < K) (da : (z03 a).all digT = true) (db : (z03 b).all digT = true) :
  ∃ r : List Int, z2t K a b K (List.replicate (a.size + b.size + 1) 0) 0 = some r /\ r.length = a.size + b.size + 1 /\ DigB 10 r /\ valB 10 r = numT a * numT b := by
 have dx := z6t da
 have lx := z4m a
 refine z87 (fun k (s : List Int × Int) => z2t K a b k s.1 s.2) (fun s => ∃ i : Nat, s.2 = i /\ i <= a.size /\ s.1.length = a.size + b.size + 1 /\ DigB 10 s.1 /\ valB 10 s.1 = valB 10 ((z51 a).take i) * numT b) (fun s => (a.size - s.2 : Int).toNat) _ ?_ ((List.replicate (a.size + b.size + 1) 0, 0) : List Int × Int) (by simp; omega) ⟨0, rfl, by omega, by simp, .zeros (by omega) _, by simp [valB, z8n]⟩
 rintro k ⟨o, _⟩ ⟨i, rfl, h0, h1, h2, h4⟩
 dsimp only at h1 h2 h4 ⊢
 by_cases hi : i < a.size
 ·right
  have ex := z1p (by omega) dx i
  have tx := z2x 10 (z51 a) i
  have hdg := z7r (K := K) (s := a) (by omega) da i (by omega)
  obtain ⟨c, c1, c2, c3, c4⟩ := znl (K := K) (b := b) (out := o) (u := (z51 a).getD i 0) (i := i) (by omega) (by omega) (by omega) hK ⟨ex.1, by omega⟩ db h2
  obtain ⟨v, hv⟩ : ∃ v, lsl c 0 ((c.length : Int) - 1) = some v := ⟨_, lslI (by omega) (by omega) (by omega)⟩
  have hvl : v.length + 1 = c.length := by
   rw [lslI (by omega) (by omega) (by omega)] at hv
   cases hv
   rw [List.length_take, List.length_drop]
   omega
  obtain ⟨r, r1, r2, r3, r4, r5⟩ := zhs (K := K) (c := c) (v := v) hvl (by omega) hK c3
  have hval : valB 10 r = valB 10 ((z51 a).take (i + 1)) * numT b := by
   rw [r5, c4, h4, tx, kr1 (X := 0)]
  -- no digit is left over
  have htop : r.getD v.length 0 = 0 := by
   have s1 := z7h 10 r v.length (by omega)
   have dlow : DigB 10 (r.take v.length) := fun d hd => by
    obtain ⟨j, hj, rfl⟩ := List.mem_iff_getElem.1 hd
    rw [List.length_take] at hj
    have q1 := r3 j
    have q2 := r4 j (by omega)
    rw [List.getElem_take]
    rw [zAb, zAh (by omega)] at q1 q2
    simp at q1 q2
    omega
   have s2 := z0w (B := 10) (by omega) _ dlow
   have s3 : r.drop v.length = [r.getD v.length 0] := by
    rw [List.drop_eq_getElem_cons (by omega), List.drop_eq_nil_of_le (by omega), zAb, zAh (by omega)]; rfl
   rw [s3] at s1
   simp only [valB, Int.mul_zero, Int.add_zero] at s1
   have t1 := z4a (B := 10) (by omega) _ (dx.take (i + 1))
   have t2 := zal db
   have t3 := z31 db
   have t4 := z0w (B := 10) (by omega) _ (dx.take (i + 1))
   have t5 : (10 : Int) ^ ((z51 a).take (i + 1)).length <= 10 ^ a.size := z7i (by omega) (by rw [List.length_take]; omega)
   have t6 : valB 10 r < 10 ^ v.length := by
    rw [hval, show v.length = a.size + b.size by omega, Int.pow_add]
    have p0 : (0 : Int) < 10 ^ b.size := Int.pow_pos (by omega)
    have m1 := z33 t4 (show numT b <= 10 ^ b.size by omega)
    have m2 := Int.mul_lt_mul_of_pos_right (show valB 10 ((z51 a).take (i + 1)) < 10 ^ a.size by omega) p0
    omega
   refine Int.le_antisymm (Int.not_lt.1 fun hlt => ?_) (r3 _)
   have p0 : (0 : Int) < 10 ^ v.length := Int.pow_pos (by omega)
   have := z33 (Int.le_of_lt p0) (show 1 <= r.getD v.length 0 by omega)
   omega
  have dr : DigB 10 r := fun d hd => by
   obtain ⟨j, hj, rfl⟩ := List.mem_iff_getElem.1 hd
   have q1 := r3 j
   have q2 : r.getD j 0 <= 9 := by
    by_cases hjv : j < v.length
    ·exact r4 j hjv
    ·have : j = v.length := by omega
     subst this; omega
   rw [zAb, zAh hj] at q1 q2
   simp at q1 q2
   omega
  refine ⟨(r, (i : Int) + 1), ?_, by dsimp only; omega, i + 1, rfl, by omega, by dsimp only; omega, dr, hval⟩
  have hcl : (c.length : Int) - 1 = c.length - 1 := rfl
  rw [z2t, hdg, if_pos (decide_eq_true (by omega)), z0e, c1, z0e, tu1a, k64 (by omega) (by omega), hv, z0e, r1, z0e, tu1a, k64 (by omega) (by omega)]
 ·left
  have : i = a.size := by omega
  subst this
  rw [List.take_of_length_le (by omega)] at h4
  exact ⟨o, by rw [z2t]; simp (discharger := omega) only [runL], h1, h2, h4⟩
theorem zd7 {a b : zAd} (ha : a.size <= 500000) (hb : b.size <= 500000) (hK : 2000000000 < K) (da : (z03 a).all digT = true) (db : (z03 b).all digT = true) : ∃ t, z47 K a b = some t /\ CanT t /\ numT t = numT a * numT b := by
 obtain ⟨r, h1, h2, h3, h4⟩ := zk5 ha hb hK da db
 obtain ⟨t, t1, t2, t3⟩ := zdu (K := K) (l := r) (by omega) (by intro e; rw [e] at h2; simp at h2) (by omega) h3
 refine ⟨t, ?_, t2, by rw [t3, h4]⟩
 unfold z47
 have e1 : ((a.size : Int) + (b.size : Int) + 1) = ((a.size + b.size + 1 : Nat) : Int) := by omega
 simp (discharger := omega) only [runL, e1, h1, t1]
end Go.Am.Tryz
