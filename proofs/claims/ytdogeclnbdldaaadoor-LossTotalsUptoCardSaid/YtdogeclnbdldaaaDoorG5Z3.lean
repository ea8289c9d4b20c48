/- Typed functions with the same answers as the program's, and the walks that show it. -/
import Derived.Test.YtdogeclnbdldaaaDoorG2Z3
import Derived.Test.YtdogeclnbdldaaaDoorG4Z3
set_option maxRecDepth 100000
set_option maxHeartbeats 8000000
set_option linter.unusedVariables false
set_option linter.unusedSimpArgs false
namespace Go.Am.Tryd
open Go Go.Am Go.Proofs
variable (K : Nat) {G : GM} {H : AH} {L : List Pc}
def z1a (K : Nat) (x30 : zAd) : Nat -> Int -> zAd -> zAd -> Int -> Option (Int × zAd × zAd)
  | 0, _, _, _, _ => none
  | k + 1, x46, x47, x48, x49 => (if (decide (x49 < (x30.size : Int))) = true then (Option.bind ((Option.bind (((bidx x30 x49).bind fun x69 => (if (x69 == 47) = true then some (x46 == 1) else some false))) (tu1 fun x76 => (if x76 = true then ((ssl x30 0 x49).bind fun x93 => ((ssl x30 (z05 .i64 (x49 + 1)) (x30.size : Int)).bind fun x96 => some (2, x93, x96))) else some (x46, x47, x48))))) (tu3 fun x100 x101 x102 => z1a K x30 k x100 x101 x102 (z05 .i64 (x49 + 1)))) else some (x46, x47, x48))
def z4t (K : Nat) (p0 : zAd) : Option Int := (Option.bind ((if (decide ((p0.size : Int) > 0)) = true then ((bidx p0 0).bind fun x7 => some (x7 == 45)) else some false)) (tu1 fun x11 => (Option.bind ((if x11 = true then ((ssl p0 1 (p0.size : Int)).bind fun x26 => some (x26, true)) else some (p0, false))) (tu2 fun x30 x31 => (Option.bind (z1a K x30 K 1 x30 (⟨#[50]⟩ : zAd) 0) (tu3 fun x115 x116 x117 => ((z4q K x116).bind fun x129 => ((z4q K x117).bind fun x140 => (Option.bind ((if (x129 == 5) = true then some true else (if (x140 == 5) = true then some true else (if x31 = true then some (sEq x116 (⟨#[48]⟩ : zAd)) else some false)))) (tu1 fun x166 => (if x166 = true then some 5 else (Option.bind ((if (x129 != 0) = true then some true else some (x140 != 0))) (tu1 fun x186 => (if x186 = true then some 2 else (Option.bind ((if (x115 == 2) = true then (if (sEq x117 (⟨#[48]⟩ : zAd)) = true then some true else (if (sEq x117 (⟨#[49]⟩ : zAd)) = true then some true else ((z6t K x116 x117).bind fun x213 => some (!(sEq x213 (⟨#[49]⟩ : zAd)))))) else some false)) (tu1 fun x225 => (if x225 = true then some 3 else some 0)))))))))))))))))
theorem zbk (p0 : zAd) (O : Ow G H (L)) (r : Int) (h : z4t K p0 = some r) :
    CR Tryd.prog 100 [(.string p0)] G H (L) (fun v G' _ => v = .int .i64 r) := by
 unfold z4t at h
 refine CR.og (n := 86) (fn := Tryd.f100) (by kernel_rfl) rfl rfl fun R kr => (.seq (.region (W.q1 (.int .i64 0) rfl (.nil (.seq (.region ?_))))))
 refine W.q2 (.string p0) rfl (W.q1 (.string p0) rfl (W.q1 (.bool false) rfl (W.q1 (.int .i64 1) rfl (.nil (.seq (.seq ?_))))))
 obtain ⟨q1, h2, h3⟩ := z00 h
 refine AW.midT (fun σ' H' => ∃ (y1 : Bool) (G' : GM), y1 = q1 /\ Ow G' H' (L) /\ GM.le G G' /\ σ' 19 = .bool y1) ?_ ?_
 .refine .region (W.q2 (.string p0) rfl (W.pure (v := (.int .i64 (p0.size : Int))) rfl rfl (z1h (oo rfl rfl) un9) (W.q3 (.bool (decide ((p0.size : Int) > 0))) rfl rfl (W.q2 (.bool (decide ((p0.size : Int) > 0))) rfl (W.splitAt (t := 15) (b := decide ((p0.size : Int) > 0)) rfl (fun g4 gv5 => ?_) (fun g4 gv5 => ?_))))))
  rotate_left
  .have h10 := z0h g4 h2
   refine W.q6 rfl gv5 (W.q6 rfl gv5 (W.q6 rfl gv5 (W.q5 (.bool false) gv5 rfl (.nil ?_))))
   obtain rfl := zAa h10
   exact ⟨false, _, rfl, O, (zAf _), rfl⟩
  have h6 := z03 g4 h2
  refine W.q2 (hg := gk rfl rfl gv5 rfl) (.string p0) rfl ?_
  obtain ⟨x7, i8, h9⟩ := z00 h6
  refine W.pure (v := (.int .u8 x7)) (gk rfl rfl gv5 rfl) rfl (z93 un9 (oo rfl rfl) (oo rfl rfl) i8) (W.q3 (hg := gk rfl rfl gv5 rfl) (.bool (x7 == 45)) rfl rfl (W.q4 (.bool (x7 == 45)) gv5 rfl (.nil ?_)))
  obtain rfl := zAa h9
  exact ⟨(x7 == 45), _, rfl, O, (zAf _), rfl⟩
 rintro σ12 H13 fr14 ⟨x11, G15, rfl, O16, s17, t19⟩
 have h20 := z0d h3
 obtain ⟨q21, h22, h23⟩ := z00 h20
 refine AW.midT (fun σ' H' => ∃ (y1 : zAd) (y2 : Bool) (G' : GM), (y1, y2) = q21 /\ Ow G' H' (L) /\ GM.le G15 G' /\ σ' 3 = .string y1 /\ σ' 4 = .bool y2) ?_ ?_
 .refine .cond (b := x11) rfl t19 (fun g24 => ?_) (fun g24 => ?_)
  rotate_left
  .have h29 := z0h g24 h22
   refine .skip ?_
   obtain rfl := zAa h29
   exact ⟨p0, false, _, rfl, O16, (zAf _), ((fr14 3 rfl).trans rfl), ((fr14 4 rfl).trans rfl)⟩
  have h25 := z03 g24 h22
  refine .region (W.q2 (.string p0) ((fr14 3 rfl).trans rfl) ?_)
  obtain ⟨x26, i27, h28⟩ := z00 h25
  refine W.pure (v := (.string x26)) rfl rfl (zd5 un9 (oo rfl rfl) (oo rfl rfl) i27) (W.q1 (.string x26) rfl (W.q1 (.bool true) rfl (.nil ?_)))
  obtain rfl := zAa h28
  exact ⟨x26, true, _, rfl, O16, (zAf _), rfl, rfl⟩
 rintro σ32 H33 fr34 ⟨x30, x31, G35, rfl, O36, s37, t39, t40⟩
 have h41 := z4k h23
 refine .seq (.region (W.q2 _ t39 (W.q1 (.string x30) rfl (W.q1 (.string (⟨#[50]⟩ : zAd)) rfl (.nil (.seq ?_))))))
 refine .seq (.region (W.q2 _ t39 (W.pure (v := (.int .i64 (x30.size : Int))) rfl rfl (z1h (oo rfl rfl) un9) (W.q2 (.int .i64 0) rfl (.nil ?_)))))
 obtain ⟨q42, h43, h44⟩ := z00 h41
 refine AW.midT (fun σ' H' => ∃ (y1 : Int) (y2 : zAd) (y3 : zAd) (G' : GM), (y1, y2, y3) = q42 /\ Ow G' H' (L) /\ GM.le G35 G' /\ σ' 5 = .int .i64 y1 /\ σ' 6 = .string y2 /\ σ' 7 = .string y3) ?_ ?_
 .refine .block (AW.loop (α := Nat) (fun k' σ' H' => ∃ (y1 : Int) (y2 : zAd) (y3 : zAd) (y4 : Int) (G' : GM), z1a K x30 k' y1 y2 y3 y4 = some q42 /\ Ow G' H' (L) /\ GM.le G35 G' /\ σ' 5 = .int .i64 y1 /\ σ' 6 = .string y2 /\ σ' 7 = .string y3 /\ σ' 25 = .int .i64 y4) (fun k' => k') K ⟨1, x30, (⟨#[50]⟩ : zAd), 0, _, h43, O36, (zAf _), ((fr34 5 rfl).trans ((fr14 5 rfl).trans rfl)), rfl, rfl, rfl⟩ ?_)
  rintro k45
  rintro σ50 H51 fr52 ⟨x46, x47, x48, x49, G53, h56, O54, s55, t57, t58, t59, t60⟩
  rcases k45 with _ | k45
  .exact z0a h56
  rw [z1a] at h56
  refine .seq (.region (W.q3 (.bool (decide (x49 < (x30.size : Int)))) t60 ((fr52 24 rfl).trans rfl) (.nil (.seq (.cond (b := decide (x49 < (x30.size : Int))) rfl rfl (fun g61 => ?_) (fun g61 => ?_))))))
  rotate_left
  .have h114 := z0h g61 h56
   refine .exit ?_
   obtain rfl := zAa h114
   exact ⟨x46, x47, x48, _, rfl, O54, s55, t57, t58, t59⟩
  have h62 := z03 g61 h56
  refine .skip (.seq ?_)
  obtain ⟨q63, h64, h65⟩ := z00 h62
  refine AW.midT (fun σ' H' => ∃ (y1 : Int) (y2 : zAd) (y3 : zAd) (G' : GM), (y1, y2, y3) = q63 /\ Ow G' H' (L) /\ GM.le G53 G' /\ σ' 5 = .int .i64 y1 /\ σ' 6 = .string y2 /\ σ' 7 = .string y3) ?_ ?_
  rotate_left
  .rintro σ103 H104 fr105 ⟨x100, x101, x102, G106, rfl, O107, s108, t110, t111, t112⟩
   have h113 := zes h65
   refine .region (W.q3 (.int .i64 (z05 .i64 (x49 + 1))) ((fr105 25 rfl).trans t60) rfl (W.q2 (.int .i64 (z05 .i64 (x49 + 1))) rfl (.nil ?_)))
   exact ⟨k45, zAg _, ⟨x100, x101, x102, z05 .i64 (x49 + 1), _, h113, O107, (zAe s55 s108), t110, t111, t112, rfl⟩⟩
  refine .block (.seq (.region (W.q2 _ t60 (W.q1 (.int .i64 x49) rfl (.nil (.seq ?_))))))
  obtain ⟨q66, h67, h68⟩ := z00 h64
  refine AW.midT (fun σ' H' => ∃ (y1 : Bool) (G' : GM), y1 = q66 /\ Ow G' H' (L) /\ GM.le G53 G' /\ σ' 35 = .bool y1) ?_ ?_
  .refine .region (W.q2 _ ((fr52 3 rfl).trans t39) (W.q2 (.int .i64 x49) rfl ?_))
   obtain ⟨x69, i70, h71⟩ := z00 h67
   refine W.pure (v := (.int .u8 x69)) rfl rfl (z93 un9 (oo rfl rfl) (oo rfl rfl) i70) (W.q3 (.bool (x69 == 47)) rfl rfl (W.q2 (.bool (x69 == 47)) rfl (W.splitAt (t := 32) (b := (x69 == 47)) rfl (fun g72 gv73 => ?_) (fun g72 gv73 => ?_))))
   rotate_left
   .have h75 := z0h g72 h71
    refine W.q6 rfl gv73 (W.q6 rfl gv73 (W.q5 (.bool false) gv73 rfl (.nil ?_)))
    obtain rfl := zAa h75
    exact ⟨false, _, rfl, O54, (zAf _), rfl⟩
   have h74 := z03 g72 h71
   refine W.q2 (hg := gk rfl rfl gv73 rfl) _ t57 (W.q3 (hg := gk rfl rfl gv73 rfl) (.bool (x46 == 1)) rfl rfl (W.q4 (.bool (x46 == 1)) gv73 rfl (.nil ?_)))
   obtain rfl := zAa h74
   exact ⟨(x46 == 1), _, rfl, O54, (zAf _), rfl⟩
  rintro σ77 H78 fr79 ⟨x76, G80, rfl, O81, s82, t84⟩
  have h85 := z0d h68
  refine .cond (b := x76) rfl t84 (fun g86 => ?_) (fun g86 => ?_)
  rotate_left
  .have h99 := z0h g86 h85
   refine .skip ?_
   obtain rfl := zAa h99
   exact ⟨x46, x47, x48, _, rfl, O81, s82, ((fr79 5 rfl).trans t57), ((fr79 6 rfl).trans t58), ((fr79 7 rfl).trans t59)⟩
  have h87 := z03 g86 h85
  refine .draw2 (M := [0, 0, 3, 0, 0, 16, 56, 7, 255, 511]) mixed (by kernel_rfl) (by kernel_rfl) fun H88 N92 x89 F91 => ?_
  have O90 := O81.ext x89
  refine D2.q2 _ ((fr79 3 rfl).trans ((fr52 3 rfl).trans t39)) (D2.q2 (.int .i64 x49) ((fr79 8 rfl).trans rfl) ?_)
  obtain ⟨x93, i94, h95⟩ := z00 h87
  refine D2.pure (v := (.string x93)) rfl rfl (zgz un9 (oo rfl rfl) (oo rfl rfl) i94) (D2.q2 _ ((fr79 3 rfl).trans ((fr52 3 rfl).trans t39)) (D2.q2 (.int .i64 x49) ((fr79 8 rfl).trans rfl) (D2.q3 (.int .i64 (z05 .i64 (x49 + 1))) rfl rfl ?_)))
  obtain ⟨x96, i97, h98⟩ := z00 h95
  refine D2.pure (v := (.string x96)) rfl rfl (zd5 un9 (oo rfl rfl) (oo rfl rfl) i97) (D2.q1 (.string x93) rfl (D2.q1 (.string x96) rfl (D2.q1 (.int .i64 2) rfl (.nil ?_))))
  obtain rfl := zAa h98
  exact ⟨2, x93, x96, _, rfl, O90, s82, rfl, rfl, rfl⟩
 rintro σ118 H119 fr120 ⟨x115, x116, x117, G121, rfl, O122, s123, t125, t126, t127⟩
 have h128 := zes h44
 refine .seq (.region (W.q2 _ t126 ?_))
 obtain ⟨x129, i130, h131⟩ := z00 h128
 refine W.lo rfl rfl (Lo.cP rfl (fn := Tryd.f124) (by kernel_rfl) rfl (mc rfl mn) O122 (fun L' O' => z8i K x116 O' _ i130)) ?_
 rintro v138 H139 ⟨G132, O133, s134, sm137, rfl⟩
 refine W.q2 _ t127 ?_
 obtain ⟨x140, i141, h142⟩ := z00 h131
 refine W.lo rfl rfl (Lo.cP rfl (fn := Tryd.f124) (by kernel_rfl) rfl (mc rfl mn) O133 (fun L' O' => z8i K x117 O' _ i141)) ?_
 rintro v149 H150 ⟨G143, O144, s145, sm148, rfl⟩
 refine W.q1 (.int .i64 x129) rfl (W.q1 (.int .i64 x140) rfl (.nil (.seq (.block (.seq ?_)))))
 obtain ⟨q151, h152, h153⟩ := z00 h142
 refine AW.midT (fun σ' H' => ∃ (y1 : Bool) (G' : GM), y1 = q151 /\ Ow G' H' (L) /\ GM.le G143 G' /\ σ' 48 = .bool y1) ?_ ?_
 .refine .region (W.q2 (.int .i64 x129) rfl (W.q3 (.bool (x129 == 5)) rfl rfl (W.q2 (.bool (x129 == 5)) rfl (W.splitAt (t := 51) (b := (x129 == 5)) rfl (fun g154 gv155 => ?_) (fun g154 gv155 => ?_)))))
  .have h156 := z03 g154 h152
   refine W.q6 rfl gv155 (W.q6 rfl gv155 (W.q4 (.bool true) gv155 rfl (W.q2 (.bool true) rfl (W.q6 rfl rfl (W.q6 rfl rfl (W.skipU rfl rfl rfl rfl ?_))))))
   refine W.skipU rfl rfl rfl rfl (W.q6 rfl rfl (W.q4 (.bool true) rfl rfl (W.q1 (.bool true) rfl (.nil ?_))))
   obtain rfl := zAa h156
   exact ⟨true, _, rfl, O144, (zAf _), rfl⟩
  have h157 := z0h g154 h152
  refine W.q2 (hg := gk rfl rfl gv155 rfl) (.int .i64 x140) rfl (W.q3 (hg := gk rfl rfl gv155 rfl) (.bool (x140 == 5)) rfl rfl (W.q5 (.bool (x140 == 5)) gv155 rfl (W.q2 (.bool (x140 == 5)) rfl (W.splitAt (t := 55) (b := (x140 == 5)) rfl (fun g158 gv159 => ?_) (fun g158 gv159 => ?_)))))
  .have h160 := z03 g158 h157
   refine W.q6 rfl gv159 (W.q6 rfl gv159 (W.skipU rfl rfl rfl rfl (W.skipU rfl rfl rfl rfl (W.q6 rfl gv159 (W.q4 (.bool true) gv159 rfl (W.q1 (.bool true) rfl ?_))))))
   refine .nil ?_
   obtain rfl := zAa h160
   exact ⟨true, _, rfl, O144, (zAf _), rfl⟩
  have h161 := z0h g158 h157
  refine W.q2 (hg := gk rfl rfl gv159 rfl) _ ((fr120 4 rfl).trans t40) (W.q2 (hg := gk rfl rfl gv159 rfl) (.bool x31) rfl (W.splitAt (t := 57) (b := x31) rfl (fun g162 gv163 => ?_) (fun g162 gv163 => ?_)))
  rotate_left
  .have h165 := z0h g162 h161
   refine W.q6 rfl gv163 (W.q6 rfl gv163 (W.q5 (hg := gk rfl rfl gv159 rfl) (.bool false) gv163 rfl (W.q5 (.bool false) gv159 rfl (W.q1 (.bool false) rfl (.nil ?_)))))
   obtain rfl := zAa h165
   exact ⟨false, _, rfl, O144, (zAf _), rfl⟩
  have h164 := z03 g162 h161
  refine W.q2 (hg := gk rfl rfl gv163 rfl) _ t126 (W.pure (v := (.bool (sEq x116 (⟨#[48]⟩ : zAd)))) (gk rfl rfl gv163 rfl) rfl (z6c (oo rfl rfl) (oo rfl rfl)) (W.q4 (hg := gk rfl rfl gv159 rfl) (.bool (sEq x116 (⟨#[48]⟩ : zAd))) gv163 rfl (W.q5 (.bool (sEq x116 (⟨#[48]⟩ : zAd))) gv159 rfl (W.q1 (.bool (sEq x116 (⟨#[48]⟩ : zAd))) rfl (.nil ?_)))))
  obtain rfl := zAa h164
  exact ⟨sEq x116 (⟨#[48]⟩ : zAd), _, rfl, O144, (zAf _), rfl⟩
 rintro σ167 H168 fr169 ⟨x166, G170, rfl, O171, s172, t174⟩
 have h175 := z0d h153
 refine .cond (b := x166) rfl t174 (fun g176 => ?_) (fun g176 => ?_)
 .have h177 := z03 g176 h175
  refine .seq (.region (W.q1 (.int .i64 5) rfl (.nil (.ret ?_))))
  obtain rfl := zAa h177
  exact z16 kr (v1 := (.int .i64 5)) (by rfl) (z09 (by rfl) (by exact rfl)) O171 (zAe s17 (zAe s37 (zAe s123 (zAe s134 (zAe s145 s172))))) rfl
 have h178 := z0h g176 h175
 refine .seq ?_
 obtain ⟨q179, h180, h181⟩ := z00 h178
 refine AW.midT (fun σ' H' => ∃ (y1 : Bool) (G' : GM), y1 = q179 /\ Ow G' H' (L) /\ GM.le G170 G' /\ σ' 62 = .bool y1) ?_ ?_
 .refine .region (W.q2 (.int .i64 x129) ((fr169 9 rfl).trans rfl) (W.q3 (.bool (x129 != 0)) rfl rfl (W.q2 (.bool (x129 != 0)) rfl (W.splitAt (t := 65) (b := (x129 != 0)) rfl (fun g182 gv183 => ?_) (fun g182 gv183 => ?_)))))
  .have h184 := z03 g182 h180
   refine W.q6 rfl gv183 (W.q6 rfl gv183 (W.q4 (.bool true) gv183 rfl (W.q1 (.bool true) rfl (.nil ?_))))
   obtain rfl := zAa h184
   exact ⟨true, _, rfl, O171, (zAf _), rfl⟩
  have h185 := z0h g182 h180
  refine W.q2 (hg := gk rfl rfl gv183 rfl) (.int .i64 x140) ((fr169 10 rfl).trans rfl) (W.q3 (hg := gk rfl rfl gv183 rfl) (.bool (x140 != 0)) rfl rfl (W.q5 (.bool (x140 != 0)) gv183 rfl (W.q1 (.bool (x140 != 0)) rfl (.nil ?_))))
  obtain rfl := zAa h185
  exact ⟨(x140 != 0), _, rfl, O171, (zAf _), rfl⟩
 rintro σ187 H188 fr189 ⟨x186, G190, rfl, O191, s192, t194⟩
 have h195 := z0d h181
 refine .cond (b := x186) rfl t194 (fun g196 => ?_) (fun g196 => ?_)
 .have h197 := z03 g196 h195
  refine .seq (.region (W.q1 (.int .i64 2) rfl (.nil (.ret ?_))))
  obtain rfl := zAa h197
  exact z16 kr (v1 := (.int .i64 2)) (by rfl) (z09 (by rfl) (by exact rfl)) O191 (zAe s17 (zAe s37 (zAe s123 (zAe s134 (zAe s145 (zAe s172 s192)))))) rfl
 have h198 := z0h g196 h195
 refine .seq ?_
 obtain ⟨q199, h200, h201⟩ := z00 h198
 refine AW.midT (fun σ' H' => ∃ (y1 : Bool) (G' : GM), y1 = q199 /\ Ow G' H' (L) /\ GM.le G190 G' /\ σ' 69 = .bool y1) ?_ ?_
 rotate_left
 .rintro σ226 H227 fr228 ⟨x225, G229, rfl, O230, s231, t233⟩
  have h234 := z0d h201
  refine .cond (b := x225) rfl t233 (fun g235 => ?_) (fun g235 => ?_)
  .have h236 := z03 g235 h234
   refine .seq (.region (W.q1 (.int .i64 3) rfl (.nil (.ret ?_))))
   obtain rfl := zAa h236
   exact z16 kr (v1 := (.int .i64 3)) (by rfl) (z09 (by rfl) (by exact rfl)) O230 (zAe s17 (zAe s37 (zAe s123 (zAe s134 (zAe s145 (zAe s172 (zAe s192 s231))))))) rfl
  have h237 := z0h g235 h234
  refine .skip (.seq (.region (W.q1 (.int .i64 0) rfl (.nil (.ret ?_)))))
  obtain rfl := zAa h237
  exact z16 kr (v1 := (.int .i64 0)) (by rfl) (z09 (by rfl) (by exact rfl)) O230 (zAe s17 (zAe s37 (zAe s123 (zAe s134 (zAe s145 (zAe s172 (zAe s192 s231))))))) rfl
 refine .region (W.q2 _ ((fr189 5 rfl).trans ((fr169 5 rfl).trans t125)) (W.q3 (.bool (x115 == 2)) rfl rfl (W.q2 (.bool (x115 == 2)) rfl (W.splitAt (t := 72) (b := (x115 == 2)) rfl (fun g202 gv203 => ?_) (fun g202 gv203 => ?_)))))
 rotate_left
 .have h224 := z0h g202 h200
  refine W.q6 rfl gv203 (W.q6 rfl gv203 (W.q6 rfl gv203 (W.skipU rfl rfl rfl rfl (W.skipU rfl rfl rfl rfl (W.q6 rfl gv203 (W.q6 rfl gv203 ?_))))))
  refine W.skipU rfl rfl rfl rfl (W.skipU rfl rfl rfl rfl (W.skipU rfl rfl rfl rfl (W.skipU rfl rfl rfl rfl (W.q6 rfl gv203 (W.q5 (.bool false) gv203 rfl (W.q1 (.bool false) rfl ?_))))))
  refine .nil ?_
  obtain rfl := zAa h224
  exact ⟨false, _, rfl, O191, (zAf _), rfl⟩
 have h204 := z03 g202 h200
 refine W.q2 (hg := gk rfl rfl gv203 rfl) _ ((fr189 7 rfl).trans ((fr169 7 rfl).trans t127)) (W.pure (v := (.bool (sEq x117 (⟨#[48]⟩ : zAd)))) (gk rfl rfl gv203 rfl) rfl (z6c (oo rfl rfl) (oo rfl rfl)) (W.q2 (hg := gk rfl rfl gv203 rfl) (.bool (sEq x117 (⟨#[48]⟩ : zAd))) rfl (W.splitAt (t := 75) (b := sEq x117 (⟨#[48]⟩ : zAd)) rfl (fun g205 gv206 => ?_) (fun g205 gv206 => ?_))))
 .have h207 := z03 g205 h204
  refine W.q6 rfl gv206 (W.q6 rfl gv206 (W.q4 (hg := gk rfl rfl gv203 rfl) (.bool true) gv206 rfl (W.q2 (hg := gk rfl rfl gv203 rfl) (.bool true) rfl (W.q6 rfl rfl (W.q6 rfl rfl (W.q6 rfl rfl ?_))))))
  refine W.q6 rfl rfl (W.q4 (hg := gk rfl rfl gv203 rfl) (.bool true) rfl rfl (W.q4 (.bool true) gv203 rfl (W.q1 (.bool true) rfl (.nil ?_))))
  obtain rfl := zAa h207
  exact ⟨true, _, rfl, O191, (zAf _), rfl⟩
 have h208 := z0h g205 h204
 refine W.q2 (hg := gk rfl rfl gv206 rfl) _ ((fr189 7 rfl).trans ((fr169 7 rfl).trans t127)) (W.pure (v := (.bool (sEq x117 (⟨#[49]⟩ : zAd)))) (gk rfl rfl gv206 rfl) rfl (z6c (oo rfl rfl) (oo rfl rfl)) (W.q5 (hg := gk rfl rfl gv203 rfl) (.bool (sEq x117 (⟨#[49]⟩ : zAd))) gv206 rfl (W.q2 (hg := gk rfl rfl gv203 rfl) (.bool (sEq x117 (⟨#[49]⟩ : zAd))) rfl (W.splitAt (t := 79) (b := sEq x117 (⟨#[49]⟩ : zAd)) rfl (fun g209 gv210 => ?_) (fun g209 gv210 => ?_)))))
 .have h211 := z03 g209 h208
  refine W.q6 rfl gv210 (W.q6 rfl gv210 (W.q6 rfl gv210 (W.q6 rfl gv210 (W.q4 (hg := gk rfl rfl gv203 rfl) (.bool true) gv210 rfl (W.q4 (.bool true) gv203 rfl (W.q1 (.bool true) rfl ?_))))))
  refine .nil ?_
  obtain rfl := zAa h211
  exact ⟨true, _, rfl, O191, (zAf _), rfl⟩
 have h212 := z0h g209 h208
 refine W.q2 (hg := gk rfl rfl gv210 rfl) _ ((fr189 6 rfl).trans ((fr169 6 rfl).trans t126)) (W.q2 (hg := gk rfl rfl gv210 rfl) _ ((fr189 7 rfl).trans ((fr169 7 rfl).trans t127)) ?_)
 obtain ⟨x213, i214, h215⟩ := z00 h212
 refine W.lo (gk rfl rfl gv210 rfl) rfl (Lo.cP rfl (fn := Tryd.f103) (by kernel_rfl) rfl (mc rfl (mc rfl mn)) O191 (fun L' O' => z9z K x116 x117 O' _ i214)) ?_
 rintro v222 H223 ⟨G216, O217, s218, sm221, rfl⟩
 refine W.pure (v := (.bool (!(sEq x213 (⟨#[49]⟩ : zAd))))) (gk rfl rfl gv210 rfl) rfl (ziu (oo rfl rfl) (oo rfl rfl)) (W.q5 (hg := gk rfl rfl gv203 rfl) (.bool (!(sEq x213 (⟨#[49]⟩ : zAd)))) gv210 rfl (W.q4 (.bool (!(sEq x213 (⟨#[49]⟩ : zAd)))) gv203 rfl (W.q1 (.bool (!(sEq x213 (⟨#[49]⟩ : zAd)))) rfl (.nil ?_))))
 obtain rfl := zAa h215
 exact ⟨(!(sEq x213 (⟨#[49]⟩ : zAd))), _, rfl, O217, s218, rfl⟩
def z1f (K : Nat) (p0 : List zAd) : Nat -> Int -> Option (Int ⊕ Unit)
  | 0, _ => none
  | k + 1, x5 => (if (decide (x5 < (List.length p0 : Int))) = true then ((idx p0 x5).bind fun x16 => ((z4t K x16).bind fun x20 => (if (x20 != 0) = true then some (.inl x20) else z1f K p0 k (z05 .i64 (x5 + 1))))) else some (.inr ()))
def z55 (K : Nat) (p0 : List zAd) : Option Int := (zae (z1f K p0 K 0) (tu1 fun a44 => some a44) (tu0 (some 0)))
theorem zaz (v0 : Value) (p0 : List zAd) (hp0 : (rSl rS).rep G [v0] p0) (O : Ow G H (L)) (r : Int) (h : z55 K p0 = some r) :
    CR Tryd.prog 38 [v0] G H (L) (fun v G' _ => v = .int .i64 r) := by
 unfold z55 at h
 refine CR.og (n := 18) (fn := Tryd.f38) (by kernel_rfl) rfl rfl fun R kr => (.seq (.region (W.q1 (.int .i64 0) rfl (.nil (.seq (.seq ?_))))))
 refine .region (W.q2 v0 rfl (W.pure (v := (.int .i64 (List.length p0 : Int))) rfl rfl (z0p (oo rfl rfl) (z0f hp0) (z06 el22)) (W.q2 (.int .i64 0) rfl (.nil ?_))))
 obtain ⟨q1, h2, h3⟩ := z2p h
 refine AW.midT (fun σ' H' => ∃  (G' : GM), (.inr ()) = q1 /\ Ow G' H' (L) /\ GM.le G G') ?_ ?_
 rotate_left
 .rintro σ36 H37 fr38 ⟨G39, rfl, O40, s41⟩
  have h43 := z6j (z8a h3)
  refine .seq (.region (W.q1 (.int .i64 0) rfl (.nil (.ret ?_))))
  obtain rfl := zAa h43
  exact z16 kr (v1 := (.int .i64 0)) (by rfl) (z09 (by rfl) (by exact rfl)) O40 s41 rfl
 refine .block (AW.loop (α := Nat) (fun k' σ' H' => ∃ (y1 : Int) (G' : GM), z1f K p0 k' y1 = some q1 /\ Ow G' H' (L) /\ GM.le G G' /\ σ' 8 = .int .i64 y1) (fun k' => k') K ⟨0, _, h2, O, (zAf _), rfl⟩ ?_)
 rintro k4
 rintro σ6 H7 fr8 ⟨x5, G9, h12, O10, s11, t13⟩
 rcases k4 with _ | k4
 .exact z0a h12
 rw [z1f] at h12
 refine .seq (.region (W.q3 (.bool (decide (x5 < (List.length p0 : Int)))) t13 ((fr8 7 rfl).trans rfl) (.nil (.seq (.cond (b := decide (x5 < (List.length p0 : Int))) rfl rfl (fun g14 => ?_) (fun g14 => ?_))))))
 rotate_left
 .have h35 := z0h g14 h12
  refine .exit ?_
  obtain rfl := zAa h35
  exact ⟨_, rfl, O10, s11⟩
 have h15 := z03 g14 h12
 refine .skip (.seq (.block (.seq (.region ?_))))
 obtain ⟨x16, i17, h18⟩ := z00 h15
 have j19 := z0g i17
 refine W.pure (v := (z2t v0 (Int.toNat x5 * 1))) rfl rfl (z3b el22 sz25 (oo rfl ((fr8 6 rfl).trans rfl)) (oo rfl t13) (z0f (RT.mono _ s11 hp0)) j19.1 j19.2.1) (W.load1 (v := (.string x16)) (r := []) rfl rfl ag25 (z0q rfl (At.str (At.le (At.le (z1m hp0 j19.2.2) s11 s11) (zAf _) O10.fro))) (W.q1 (.string x16) rfl (.nil (.seq (.region (W.q2 (.string x16) rfl ?_))))))
 obtain ⟨x20, i21, h22⟩ := z00 h18
 refine W.lo rfl rfl (Lo.cP rfl (fn := Tryd.f100) (by kernel_rfl) rfl (mc rfl mn) O10 (fun L' O' => zbk K x16 O' _ i21)) ?_
 rintro v29 H30 ⟨G23, O24, s25, sm28, rfl⟩
 refine W.q1 (.int .i64 x20) rfl (.nil (.seq (.region (W.q2 (.int .i64 x20) rfl (W.q3 (.bool (x20 != 0)) rfl rfl (.nil ?_))))))
 refine .cond (b := (x20 != 0)) rfl rfl (fun g31 => ?_) (fun g31 => ?_)
 rotate_left
 .have h34 := z0h g31 h22
  refine .skip (.region (W.q3 (.int .i64 (z05 .i64 (x5 + 1))) t13 rfl (W.q2 (.int .i64 (z05 .i64 (x5 + 1))) rfl (.nil ?_))))
  exact ⟨k4, zAg _, ⟨z05 .i64 (x5 + 1), _, h34, O24, (zAe s11 s25), rfl⟩⟩
 have h32 := z03 g31 h22
 refine .seq (.region (W.q2 (.int .i64 x20) rfl (W.q1 (.int .i64 x20) rfl (.nil (.ret ?_)))))
 obtain rfl := zAa h32
 have h33 := z0d (z7i h3)
 obtain rfl := zAa h33
 exact z16 kr (v1 := (.int .i64 x20)) (by rfl) (z09 (by rfl) (by exact rfl)) O24 (zAe s11 s25) rfl
def z4u (K : Nat) (p0 : List zAd) : Option Int := (if (decide ((List.length p0 : Int) > 40)) = true then some 2 else ((z55 K p0).bind fun x4 => some x4))
theorem z8j (v0 : Value) (p0 : List zAd) (hp0 : (rSl rS).rep G [v0] p0) (O : Ow G H (L)) (r : Int) (h : z4u K p0 = some r) :
    CR Tryd.prog 9 [v0] G H (L) (fun v G' _ => v = .int .i64 r) := by
 unfold z4u at h
 refine CR.og (n := 8) (fn := Tryd.f9) (by kernel_rfl) rfl rfl fun R kr => (.seq (.region (W.q1 (.int .i64 0) rfl (.nil (.seq (.seq ?_))))))
 refine .region (W.q2 v0 rfl (W.pure (v := (.int .i64 (List.length p0 : Int))) rfl rfl (z0p (oo rfl rfl) (z0f hp0) (z06 el23)) (W.q3 (.bool (decide ((List.length p0 : Int) > 40))) rfl rfl (.nil (.cond (b := decide ((List.length p0 : Int) > 40)) rfl rfl (fun g1 => ?_) (fun g1 => ?_))))))
 .have h2 := z03 g1 h
  refine .seq (.region (W.q1 (.int .i64 2) rfl (.nil (.ret ?_))))
  obtain rfl := zAa h2
  exact z16 kr (v1 := (.int .i64 2)) (by rfl) (z09 (by rfl) (by exact rfl)) O (zAf _) rfl
 have h3 := z0h g1 h
 refine .skip (.seq (.region (W.q2 v0 rfl ?_)))
 obtain ⟨x4, i5, h6⟩ := z00 h3
 refine W.lo rfl rfl (Lo.cP rfl (fn := Tryd.f38) (by kernel_rfl) rfl (mc rfl mn) O (fun L' O' => zaz K v0 p0 hp0 O' _ i5)) ?_
 rintro v13 H14 ⟨G7, O8, s9, sm12, rfl⟩
 refine W.q1 (.int .i64 x4) rfl (.nil (.ret ?_))
 obtain rfl := zAa h6
 exact z16 kr (v1 := (.int .i64 x4)) (by rfl) (z09 (by rfl) (by exact rfl)) O8 s9 rfl
def z34 (K : Nat) (p0 : List Int) : Nat -> Int -> Option (Int ⊕ Unit)
  | 0, _ => none
  | k + 1, x5 => (if (decide (x5 < (List.length p0 : Int))) = true then ((idx p0 x5).bind fun x16 => (if (x16 != 0) = true then some (.inl x16) else z34 K p0 k (z05 .i64 (x5 + 1)))) else some (.inr ()))
def z5s (K : Nat) (p0 : List Int) : Option Int := (zae (z34 K p0 K 0) (tu1 fun a33 => some a33) (tu0 (some 0)))
theorem zck (v0 : Value) (p0 : List Int) (hp0 : (rSl (rI .i64)).rep G [v0] p0) (O : Ow G H (L)) (r : Int) (h : z5s K p0 = some r) :
    CR Tryd.prog 8 [v0] G H (L) (fun v G' _ => v = .int .i64 r) := by
 unfold z5s at h
 refine CR.og (n := 15) (fn := Tryd.f8) (by kernel_rfl) rfl rfl fun R kr => (.seq (.region (W.q1 (.int .i64 0) rfl (.nil (.seq (.seq ?_))))))
 refine .region (W.q2 v0 rfl (W.pure (v := (.int .i64 (List.length p0 : Int))) rfl rfl (z0p (oo rfl rfl) (z0f hp0) (z06 el71)) (W.q2 (.int .i64 0) rfl (.nil ?_))))
 obtain ⟨q1, h2, h3⟩ := z2p h
 refine AW.midT (fun σ' H' => ∃  (G' : GM), (.inr ()) = q1 /\ Ow G' H' (L) /\ GM.le G G') ?_ ?_
 rotate_left
 .rintro σ25 H26 fr27 ⟨G28, rfl, O29, s30⟩
  have h32 := z6j (z8a h3)
  refine .seq (.region (W.q1 (.int .i64 0) rfl (.nil (.ret ?_))))
  obtain rfl := zAa h32
  exact z16 kr (v1 := (.int .i64 0)) (by rfl) (z09 (by rfl) (by exact rfl)) O29 s30 rfl
 refine .block (AW.loop (α := Nat) (fun k' σ' H' => ∃ (y1 : Int) (G' : GM), z34 K p0 k' y1 = some q1 /\ Ow G' H' (L) /\ GM.le G G' /\ σ' 7 = .int .i64 y1) (fun k' => k') K ⟨0, _, h2, O, (zAf _), rfl⟩ ?_)
 rintro k4
 rintro σ6 H7 fr8 ⟨x5, G9, h12, O10, s11, t13⟩
 rcases k4 with _ | k4
 .exact z0a h12
 rw [z34] at h12
 refine .seq (.region (W.q3 (.bool (decide (x5 < (List.length p0 : Int)))) t13 ((fr8 6 rfl).trans rfl) (.nil (.seq (.cond (b := decide (x5 < (List.length p0 : Int))) rfl rfl (fun g14 => ?_) (fun g14 => ?_))))))
 rotate_left
 .have h24 := z0h g14 h12
  refine .exit ?_
  obtain rfl := zAa h24
  exact ⟨_, rfl, O10, s11⟩
 have h15 := z03 g14 h12
 refine .skip (.seq (.block (.seq (.region ?_))))
 obtain ⟨x16, i17, h18⟩ := z00 h15
 have j19 := z0g i17
 refine W.pure (v := (z2t v0 (Int.toNat x5 * 1))) rfl rfl (z3b el71 sz26 (oo rfl ((fr8 5 rfl).trans rfl)) (oo rfl t13) (z0f (RT.mono _ s11 hp0)) j19.1 j19.2.1) (W.load1 (v := (.int .i64 x16)) (r := []) rfl rfl ag26 (z0q rfl (At.int (At.le (At.le (z1m hp0 j19.2.2) s11 s11) (zAf _) O10.fro))) (W.q1 (.int .i64 x16) rfl (.nil (.seq (.region (W.q2 (.int .i64 x16) rfl ?_))))))
 refine W.q3 (.bool (x16 != 0)) rfl rfl (.nil (.cond (b := (x16 != 0)) rfl rfl (fun g20 => ?_) (fun g20 => ?_)))
 rotate_left
 .have h23 := z0h g20 h18
  refine .skip (.region (W.q3 (.int .i64 (z05 .i64 (x5 + 1))) t13 rfl (W.q2 (.int .i64 (z05 .i64 (x5 + 1))) rfl (.nil ?_))))
  exact ⟨k4, zAg _, ⟨z05 .i64 (x5 + 1), _, h23, O10, s11, rfl⟩⟩
 have h21 := z03 g20 h18
 refine .seq (.region (W.q2 (.int .i64 x16) rfl (W.q1 (.int .i64 x16) rfl (.nil (.ret ?_)))))
 obtain rfl := zAa h21
 have h22 := z0d (z7i h3)
 obtain rfl := zAa h22
 exact z16 kr (v1 := (.int .i64 x16)) (by rfl) (z09 (by rfl) (by exact rfl)) O10 s11 rfl
def z0b (K : Nat) (p0 : List zAd) (p1 : zAd -> Option Bool) : Nat -> Int -> Option (Int ⊕ Unit)
  | 0, _ => none
  | k + 1, x5 => (if (decide (x5 < (List.length p0 : Int))) = true then ((idx p0 x5).bind fun x16 => ((p1 x16).bind fun x20 => (if x20 = true then some (.inl x5) else z0b K p0 p1 k (z05 .i64 (x5 + 1))))) else some (.inr ()))
def z0s (K : Nat) (p0 : List zAd) (p1 : zAd -> Option Bool) : Option Int := (zae (z0b K p0 p1 K 0) (tu1 fun a42 => some a42) (tu0 (some (-1))))
theorem z3t (v0 : Value) (p0 : List zAd) (hp0 : (rSl rS).rep G [v0] p0) (v1 : Value) (p1 : zAd -> Option Bool) (hp1 : FnOk Tryd.prog G v1 (fun _ vs (x : (zAd)) => vs = [.string x]) (fun _ v (rr : (Bool)) => v = .bool rr) p1) (O : Ow G H (L)) (r : Int) (h : z0s K p0 p1 = some r) :
    CR Tryd.prog 39 [v0, v1] G H (L) (fun v G' _ => v = .int .i64 r) := by
 unfold z0s at h
 refine CR.og (n := 19) (fn := Tryd.f39) (by kernel_rfl) rfl rfl fun R kr => (.seq (.region (W.q1 (.int .i64 0) rfl (.nil (.seq (.seq ?_))))))
 refine .region (W.q2 v0 rfl (W.pure (v := (.int .i64 (List.length p0 : Int))) rfl rfl (z0p (oo rfl rfl) (z0f hp0) (z06 el23)) (W.q2 (.int .i64 0) rfl (.nil ?_))))
 obtain ⟨q1, h2, h3⟩ := z2p h
 refine AW.midT (fun σ' H' => ∃  (G' : GM), (.inr ()) = q1 /\ Ow G' H' (L) /\ GM.le G G') ?_ ?_
 rotate_left
 .rintro σ34 H35 fr36 ⟨G37, rfl, O38, s39⟩
  have h41 := z6j (z8a h3)
  refine .seq (.region (W.q1 (.int .i64 (-1)) rfl (.nil (.ret ?_))))
  obtain rfl := zAa h41
  exact z16 kr (v1 := (.int .i64 (-1))) (by rfl) (z09 (by rfl) (by exact rfl)) O38 s39 rfl
 refine .block (AW.loop (α := Nat) (fun k' σ' H' => ∃ (y1 : Int) (G' : GM), z0b K p0 p1 k' y1 = some q1 /\ Ow G' H' (L) /\ GM.le G G' /\ σ' 8 = .int .i64 y1) (fun k' => k') K ⟨0, _, h2, O, (zAf _), rfl⟩ ?_)
 rintro k4
 rintro σ6 H7 fr8 ⟨x5, G9, h12, O10, s11, t13⟩
 rcases k4 with _ | k4
 .exact z0a h12
 rw [z0b] at h12
 refine .seq (.region (W.q3 (.bool (decide (x5 < (List.length p0 : Int)))) t13 ((fr8 7 rfl).trans rfl) (.nil (.seq (.cond (b := decide (x5 < (List.length p0 : Int))) rfl rfl (fun g14 => ?_) (fun g14 => ?_))))))
 rotate_left
 .have h33 := z0h g14 h12
  refine .exit ?_
  obtain rfl := zAa h33
  exact ⟨_, rfl, O10, s11⟩
 have h15 := z03 g14 h12
 refine .skip (.seq (.block (.seq (.region (W.q2 _ t13 (W.q1 (.int .i64 x5) rfl ?_))))))
 refine .nil (.seq (.region (W.q2 v1 ((fr8 1 rfl).trans rfl) (W.q2 v0 ((fr8 0 rfl).trans rfl) (W.q2 (.int .i64 x5) rfl ?_)))))
 obtain ⟨x16, i17, h18⟩ := z00 h15
 have j19 := z0g i17
 refine W.pure (v := (z2t v0 (Int.toNat x5 * 1))) rfl rfl (z3b el23 sz25 (oo rfl rfl) (oo rfl rfl) (z0f (RT.mono _ s11 hp0)) j19.1 j19.2.1) (W.load1 (v := (.string x16)) (r := []) rfl rfl ag25 (z0q rfl (At.str (At.le (At.le (z1m hp0 j19.2.2) s11 s11) (zAf _) O10.fro))) ?_)
 obtain ⟨x20, i21, h22⟩ := z00 h18
 refine W.lo rfl rfl (Lo.callF (x0 := x16) rfl rfl (FnOk.le hp1 s11) (mc rfl mn) rfl i21 O10) ?_
 rintro v27 H28 ⟨G23, O24, s25, sm26, rfl⟩
 refine .nil (.cond (b := x20) rfl rfl (fun g29 => ?_) (fun g29 => ?_))
 rotate_left
 .have h32 := z0h g29 h22
  refine .skip (.region (W.q3 (.int .i64 (z05 .i64 (x5 + 1))) t13 rfl (W.q2 (.int .i64 (z05 .i64 (x5 + 1))) rfl (.nil ?_))))
  exact ⟨k4, zAg _, ⟨z05 .i64 (x5 + 1), _, h32, O24, (zAe s11 s25), rfl⟩⟩
 have h30 := z03 g29 h22
 refine .seq (.region (W.q2 (.int .i64 x5) rfl (W.q1 (.int .i64 x5) rfl (.nil (.ret ?_)))))
 obtain rfl := zAa h30
 have h31 := z0d (z7i h3)
 obtain rfl := zAa h31
 exact z16 kr (v1 := (.int .i64 x5)) (by rfl) (z09 (by rfl) (by exact rfl)) O24 (zAe s11 s25) rfl
def z0e (K : Nat) (p0 : List zAd) (p1 : zAd -> Option Bool) : Option Bool := ((z0s K p0 p1).bind fun x1 => some (decide (x1 >= 0)))
theorem z1r (v0 : Value) (p0 : List zAd) (hp0 : (rSl rS).rep G [v0] p0) (v1 : Value) (p1 : zAd -> Option Bool) (hp1 : FnOk Tryd.prog G v1 (fun _ vs (x : (zAd)) => vs = [.string x]) (fun _ v (rr : (Bool)) => v = .bool rr) p1) (O : Ow G H (L)) (r : Bool) (h : z0e K p0 p1 = some r) :
    CR Tryd.prog 10 [v0, v1] G H (L) (fun v G' _ => v = .bool r) := by
 unfold z0e at h
 refine CR.og (n := 9) (fn := Tryd.f10) (by kernel_rfl) rfl rfl fun R kr => (.seq (.region (W.q1 (.bool false) rfl (.nil (.seq (.region ?_))))))
 refine W.q2 v0 rfl (W.q2 v1 rfl ?_)
 obtain ⟨x1, i2, h3⟩ := z00 h
 refine W.lo rfl rfl (Lo.cP rfl (fn := Tryd.f39) (by kernel_rfl) rfl (mc rfl (mc rfl mn)) O (fun L' O' => z3t K v0 p0 hp0 v1 p1 hp1 O' _ i2)) ?_
 rintro v10 H11 ⟨G4, O5, s6, sm9, rfl⟩
 refine W.q3 (.bool (decide (x1 >= 0))) rfl rfl (W.q1 (.bool (decide (x1 >= 0))) rfl (.nil (.ret ?_)))
 obtain rfl := zAa h3
 exact z16 kr (v1 := (.bool (decide (x1 >= 0)))) (by rfl) (z09 (by rfl) (by exact rfl)) O5 s6 rfl
def z35 (K : Nat) (x1 : Int) (x13 : zAd) : Nat -> Int -> Option ((Bool × zAd × zAd) ⊕ Unit)
  | 0, _ => none
  | k + 1, x27 => (if (decide (x27 < (x13.size : Int))) = true then ((bidx x13 x27).bind fun x38 => (if (x38 == 47) = true then ((ssl x13 0 x27).bind fun x48 => ((ssl x13 (z05 .i64 (x27 + 1)) (x13.size : Int)).bind fun x51 => some (.inl ((x1 == 45), x48, x51)))) else z35 K x1 x13 k (z05 .i64 (x27 + 1)))) else some (.inr ()))
def z4x (K : Nat) (p0 : zAd) : Option (Bool × zAd × zAd) := ((bidx p0 0).bind fun x1 => (Option.bind ((if (x1 == 45) = true then ((ssl p0 1 (p0.size : Int)).bind fun x9 => some x9) else some p0)) (tu1 fun x13 => (zae (z35 K x1 x13 K 0) (tu3 fun a65 a66 a67 => some (a65, a66, a67)) (tu0 (some ((x1 == 45), x13, (⟨#[49]⟩ : zAd))))))))
theorem z62 (p0 : zAd) (O : Ow G H (L)) (r : Bool × zAd × zAd) (h : z4x K p0 = some r) :
    CR Tryd.prog 40 [(.string p0)] G H (L) (fun v G' _ => v = .tuple #[.bool r.1, .string r.2.1, .string r.2.2]) := by
 unfold z4x at h
 refine CR.og (n := 35) (fn := Tryd.f40) (by kernel_rfl) rfl rfl fun R kr => (.seq (.region (W.q1 (.bool false) rfl (W.q1 (.string (⟨#[]⟩ : zAd)) rfl (W.q1 (.string (⟨#[]⟩ : zAd)) rfl (.nil ?_))))))
 refine .seq (.region (W.q2 (.string p0) rfl (W.q1 (.string p0) rfl (.nil (.seq (.region ?_))))))
 refine W.q2 (.string p0) rfl ?_
 obtain ⟨x1, i2, h3⟩ := z00 h
 refine W.pure (v := (.int .u8 x1)) rfl rfl (z93 un9 (oo rfl rfl) (oo rfl rfl) i2) (W.q3 (.bool (x1 == 45)) rfl rfl (W.q1 (.bool (x1 == 45)) rfl (.nil (.seq (.seq (.region ?_))))))
 refine W.q2 (.bool (x1 == 45)) rfl (.nil ?_)
 obtain ⟨q4, h5, h6⟩ := z00 h3
 refine AW.midT (fun σ' H' => ∃ (y1 : zAd) (G' : GM), y1 = q4 /\ Ow G' H' (L) /\ GM.le G G' /\ σ' 5 = .string y1) ?_ ?_
 .refine .cond (b := (x1 == 45)) rfl rfl (fun g7 => ?_) (fun g7 => ?_)
  rotate_left
  .have h12 := z0h g7 h5
   refine .skip ?_
   obtain rfl := zAa h12
   exact ⟨p0, _, rfl, O, (zAf _), rfl⟩
  have h8 := z03 g7 h5
  refine .region (W.q2 (.string p0) rfl ?_)
  obtain ⟨x9, i10, h11⟩ := z00 h8
  refine W.pure (v := (.string x9)) rfl rfl (zd5 un9 (oo rfl rfl) (oo rfl rfl) i10) (W.q1 (.string x9) rfl (.nil ?_))
  obtain rfl := zAa h11
  exact ⟨x9, _, rfl, O, (zAf _), rfl⟩
 rintro σ14 H15 fr16 ⟨x13, G17, rfl, O18, s19, t21⟩
 have h22 := z0d h6
 refine .seq (.seq (.region (W.q2 _ t21 (W.pure (v := (.int .i64 (x13.size : Int))) rfl rfl (z1h (oo rfl rfl) un9) (W.q2 (.int .i64 0) rfl (.nil ?_))))))
 obtain ⟨q23, h24, h25⟩ := z2p h22
 refine AW.midT (fun σ' H' => ∃  (G' : GM), (.inr ()) = q23 /\ Ow G' H' (L) /\ GM.le G17 G') ?_ ?_
 rotate_left
 .rintro σ57 H58 fr59 ⟨G60, rfl, O61, s62⟩
  have h64 := z6j (z8a h25)
  refine .seq (.region (W.q2 (.bool (x1 == 45)) ((fr59 6 rfl).trans ((fr16 6 rfl).trans rfl)) (W.q2 _ ((fr59 5 rfl).trans t21) (W.q1 (.bool (x1 == 45)) rfl (W.q1 (.string x13) rfl (W.q1 (.string (⟨#[49]⟩ : zAd)) rfl ?_))))))
  refine .nil (.ret ?_)
  obtain rfl := zAa h64
  exact zh3 kr (v1 := (.bool (x1 == 45))) (v2 := (.string x13)) (v3 := (.string (⟨#[49]⟩ : zAd))) (by rfl) (z09 (by rfl) (by exact rfl)) (z09 (by rfl) (by exact rfl)) (z09 (by rfl) (by exact rfl)) O61 (zAe s19 s62) rfl
 refine .block (AW.loop (α := Nat) (fun k' σ' H' => ∃ (y1 : Int) (G' : GM), z35 K x1 x13 k' y1 = some q23 /\ Ow G' H' (L) /\ GM.le G17 G' /\ σ' 17 = .int .i64 y1) (fun k' => k') K ⟨0, _, h24, O18, (zAf _), rfl⟩ ?_)
 rintro k26
 rintro σ28 H29 fr30 ⟨x27, G31, h34, O32, s33, t35⟩
 rcases k26 with _ | k26
 .exact z0a h34
 rw [z35] at h34
 refine .seq (.region (W.q3 (.bool (decide (x27 < (x13.size : Int)))) t35 ((fr30 16 rfl).trans rfl) (.nil (.seq (.cond (b := decide (x27 < (x13.size : Int))) rfl rfl (fun g36 => ?_) (fun g36 => ?_))))))
 rotate_left
 .have h56 := z0h g36 h34
  refine .exit ?_
  obtain rfl := zAa h56
  exact ⟨_, rfl, O32, s33⟩
 have h37 := z03 g36 h34
 refine .skip (.seq (.block (.seq (.region (W.q2 _ t35 (W.q1 (.int .i64 x27) rfl ?_))))))
 refine .nil (.seq (.region (W.q2 _ ((fr30 5 rfl).trans t21) (W.q2 (.int .i64 x27) rfl ?_))))
 obtain ⟨x38, i39, h40⟩ := z00 h37
 refine W.pure (v := (.int .u8 x38)) rfl rfl (z93 un9 (oo rfl rfl) (oo rfl rfl) i39) (W.q3 (.bool (x38 == 47)) rfl rfl (.nil (.cond (b := (x38 == 47)) rfl rfl (fun g41 => ?_) (fun g41 => ?_))))
 rotate_left
 .have h55 := z0h g41 h40
  refine .skip (.region (W.q3 (.int .i64 (z05 .i64 (x27 + 1))) t35 rfl (W.q2 (.int .i64 (z05 .i64 (x27 + 1))) rfl (.nil ?_))))
  exact ⟨k26, zAg _, ⟨z05 .i64 (x27 + 1), _, h55, O32, s33, rfl⟩⟩
 have h42 := z03 g41 h40
 refine .seq (.draw2 (M := [0, 0, 0, 6, 0, 0, 32, 112, 1, 271, 1023]) mixed (by kernel_rfl) (by kernel_rfl) fun H43 N47 x44 F46 => ?_)
 have O45 := O32.ext x44
 refine D2.q2 (.bool (x1 == 45)) ((fr30 6 rfl).trans ((fr16 6 rfl).trans rfl)) (D2.q2 _ ((fr30 5 rfl).trans t21) (D2.q2 (.int .i64 x27) rfl ?_))
 obtain ⟨x48, i49, h50⟩ := z00 h42
 refine D2.pure (v := (.string x48)) rfl rfl (zgz un9 (oo rfl rfl) (oo rfl rfl) i49) (D2.q2 _ ((fr30 5 rfl).trans t21) (D2.q2 (.int .i64 x27) rfl (D2.q3 (.int .i64 (z05 .i64 (x27 + 1))) rfl rfl ?_)))
 obtain ⟨x51, i52, h53⟩ := z00 h50
 refine D2.pure (v := (.string x51)) rfl rfl (zd5 un9 (oo rfl rfl) (oo rfl rfl) i52) (D2.q1 (.bool (x1 == 45)) rfl (D2.q1 (.string x48) rfl (D2.q1 (.string x51) rfl (.nil (.ret ?_)))))
 obtain rfl := zAa h53
 have h54 := zes (z7i h25)
 obtain rfl := zAa h54
 exact zh3 kr (v1 := (.bool (x1 == 45))) (v2 := (.string x48)) (v3 := (.string x51)) (by rfl) (z09 (by rfl) (by exact rfl)) (z09 (by rfl) (by exact rfl)) (z09 (by rfl) (by exact rfl)) O45 (zAe s19 s33) rfl
def z6u (K : Nat) (p0 : zAd) : Option Int := ((z4x K p0).bind fun x1 => (if (sEq x1.2.1 (⟨#[48]⟩ : zAd)) = true then some 0 else (if x1.1 = true then some (-1) else some 1)))
theorem zcl (p0 : zAd) (O : Ow G H (L)) (r : Int) (h : z6u K p0 = some r) :
    CR Tryd.prog 12 [(.string p0)] G H (L) (fun v G' _ => v = .int .i64 r) := by
 unfold z6u at h
 refine CR.og (n := 17) (fn := Tryd.f12) (by kernel_rfl) rfl rfl fun R kr => (.seq (.region (W.q1 (.int .i64 0) rfl (.nil (.seq (.region ?_))))))
 refine W.q2 (.string p0) rfl ?_
 obtain ⟨x1, i2, h3⟩ := z00 h
 refine W.lo rfl rfl (Lo.cP rfl (fn := Tryd.f40) (by kernel_rfl) rfl (mc rfl mn) O (fun L' O' => z62 K p0 O' _ i2)) ?_
 rintro v10 H11 ⟨G4, O5, s6, sm9, rfl⟩
 refine W.q2 (.tuple #[(.bool x1.1), (.string x1.2.1), (.string x1.2.2)]) rfl (W.pure (v := (.bool x1.1)) rfl rfl (z08 (oo rfl rfl) rfl) (W.pure (v := (.string x1.2.1)) rfl rfl (z08 (oo rfl rfl) rfl) (W.pure (v := (.string x1.2.2)) rfl rfl (z08 (oo rfl rfl) rfl) (W.q1 (.bool x1.1) rfl (W.q1 (.string x1.2.1) rfl (W.q1 (.string x1.2.2) rfl ?_))))))
 refine .nil (.seq (.block (.seq (.region (W.q2 (.string x1.2.1) rfl (W.pure (v := (.bool (sEq x1.2.1 (⟨#[48]⟩ : zAd)))) rfl rfl (z6c (oo rfl rfl) (oo rfl rfl)) ?_))))))
 refine W.q1 (.bool (sEq x1.2.1 (⟨#[48]⟩ : zAd))) rfl (.nil (.cond (b := sEq x1.2.1 (⟨#[48]⟩ : zAd)) rfl rfl (fun g12 => ?_) (fun g12 => ?_)))
 .have h13 := z03 g12 h3
  refine .seq (.region (W.q1 (.int .i64 0) rfl (.nil (.ret ?_))))
  obtain rfl := zAa h13
  exact z16 kr (v1 := (.int .i64 0)) (by rfl) (z09 (by rfl) (by exact rfl)) O5 s6 rfl
 have h14 := z0h g12 h3
 refine .seq (.region (W.q2 (.bool x1.1) rfl (W.q1 (.bool x1.1) rfl (.nil (.cond (b := x1.1) rfl rfl (fun g15 => ?_) (fun g15 => ?_))))))
 .have h16 := z03 g15 h14
  refine .seq (.region (W.q1 (.int .i64 (-1)) rfl (.nil (.ret ?_))))
  obtain rfl := zAa h16
  exact z16 kr (v1 := (.int .i64 (-1))) (by rfl) (z09 (by rfl) (by exact rfl)) O5 s6 rfl
 have h17 := z0h g15 h14
 refine .skip (.seq (.region (W.q1 (.int .i64 1) rfl (.nil (.ret ?_)))))
 obtain rfl := zAa h17
 exact z16 kr (v1 := (.int .i64 1)) (by rfl) (z09 (by rfl) (by exact rfl)) O5 s6 rfl
def z2a (K : Nat) (p0 : zAd) : Option Bool := ((z6u K p0).bind fun x1 => some (decide (x1 < 0)))
theorem z8c (p0 : zAd) (O : Ow G H (L)) (r : Bool) (h : z2a K p0 = some r) :
    CR Tryd.prog 11 [(.string p0)] G H (L) (fun v G' _ => v = .bool r) := by
 unfold z2a at h
 refine CR.og (n := 6) (fn := Tryd.f11) (by kernel_rfl) rfl rfl fun R kr => (.seq (.region (W.q1 (.bool false) rfl (.nil (.seq (.region ?_))))))
 refine W.q2 (.string p0) rfl ?_
 obtain ⟨x1, i2, h3⟩ := z00 h
 refine W.lo rfl rfl (Lo.cP rfl (fn := Tryd.f12) (by kernel_rfl) rfl (mc rfl mn) O (fun L' O' => zcl K p0 O' _ i2)) ?_
 rintro v10 H11 ⟨G4, O5, s6, sm9, rfl⟩
 refine W.q3 (.bool (decide (x1 < 0))) rfl rfl (W.q1 (.bool (decide (x1 < 0))) rfl (.nil (.ret ?_)))
 obtain rfl := zAa h3
 exact z16 kr (v1 := (.bool (decide (x1 < 0)))) (by rfl) (z09 (by rfl) (by exact rfl)) O5 s6 rfl
def z63 (K : Nat) (p0 : zAd) : Option Bool := some (decide ((p0.size : Int) > 12))
theorem zbl (p0 : zAd) (O : Ow G H (L)) (r : Bool) (h : z63 K p0 = some r) :
    CR Tryd.prog 41 [(.string p0)] G H (L) (fun v G' _ => v = .bool r) := by
 unfold z63 at h
 refine CR.og (n := 6) (fn := Tryd.f41) (by kernel_rfl) rfl rfl fun R kr => (.seq (.region (W.q1 (.bool false) rfl (.nil (.seq (.region ?_))))))
 refine W.q2 (.string p0) rfl (W.pure (v := (.int .i64 (p0.size : Int))) rfl rfl (z1h (oo rfl rfl) un25) (W.q3 (.bool (decide ((p0.size : Int) > 12))) rfl rfl (W.q1 (.bool (decide ((p0.size : Int) > 12))) rfl (.nil (.ret ?_)))))
 obtain rfl := zAa h
 exact z16 kr (v1 := (.bool (decide ((p0.size : Int) > 12)))) (by rfl) (z09 (by rfl) (by exact rfl)) O (zAf _) rfl
def z2x (K : Nat) (p0 : Int) (x16 : List (List zAd)) : Nat -> Int -> Option (Bool ⊕ Unit)
  | 0, _ => none
  | k + 1, x31 => (if (decide (x31 < (List.length x16 : Int))) = true then ((idx x16 x31).bind fun x42 => (Option.bind ((if (decide ((List.length x42 : Int) > p0)) = true then some true else ((z0e K x42 (fun x => z63 K x)).bind fun x56 => some x56))) (tu1 fun x67 => (if x67 = true then some (.inl true) else z2x K p0 x16 k (z05 .i64 (x31 + 1)))))) else some (.inr ()))
def z3i (K : Nat) (p0 : Int) (p1 : List (List (List zAd))) : Nat -> Int -> Option (Bool ⊕ Unit)
  | 0, _ => none
  | k + 1, x5 => (if (decide (x5 < (List.length p1 : Int))) = true then ((idx p1 x5).bind fun x16 => (if (decide ((List.length x16 : Int) > p0)) = true then some (.inl true) else (zae (z2x K p0 x16 K 0) (tu1 fun a91 => some (.inl a91)) (tu0 (z3i K p0 p1 k (z05 .i64 (x5 + 1))))))) else some (.inr ()))
def z6v (K : Nat) (p0 : Int) (p1 : List (List (List zAd))) : Option Bool := (zae (z3i K p0 p1 K 0) (tu1 fun a101 => some a101) (tu0 (some false)))
theorem zdf (p0 : Int) (v1 : Value) (p1 : List (List (List zAd))) (hp1 : (rSl (rSl (rSl rS))).rep G [v1] p1) (O : Ow G H (L)) (r : Bool) (h : z6v K p0 p1 = some r) :
    CR Tryd.prog 13 [(.int .i64 p0), v1] G H (L) (fun v G' _ => v = .bool r) := by
 unfold z6v at h
 refine CR.og (n := 35) (fn := Tryd.f13) (by kernel_rfl) rfl rfl fun R kr => (.seq (.region (W.q1 (.bool false) rfl (.nil (.seq (.seq ?_))))))
 refine .region (W.q2 v1 rfl (W.pure (v := (.int .i64 (List.length p1 : Int))) rfl rfl (z0p (oo rfl rfl) (z0f hp1) (z06 el75)) (W.q2 (.int .i64 0) rfl (.nil ?_))))
 obtain ⟨q1, h2, h3⟩ := z2p h
 refine AW.midT (fun σ' H' => ∃  (G' : GM), (.inr ()) = q1 /\ Ow G' H' (L) /\ GM.le G G') ?_ ?_
 rotate_left
 .rintro σ93 H94 fr95 ⟨G96, rfl, O97, s98⟩
  have h100 := z6j (z8a h3)
  refine .seq (.region (W.q1 (.bool false) rfl (.nil (.ret ?_))))
  obtain rfl := zAa h100
  exact z16 kr (v1 := (.bool false)) (by rfl) (z09 (by rfl) (by exact rfl)) O97 s98 rfl
 refine .block (AW.loop (α := Nat) (fun k' σ' H' => ∃ (y1 : Int) (G' : GM), z3i K p0 p1 k' y1 = some q1 /\ Ow G' H' (L) /\ GM.le G G' /\ σ' 11 = .int .i64 y1) (fun k' => k') K ⟨0, _, h2, O, (zAf _), rfl⟩ ?_)
 rintro k4
 rintro σ6 H7 fr8 ⟨x5, G9, h12, O10, s11, t13⟩
 rcases k4 with _ | k4
 .exact z0a h12
 rw [z3i] at h12
 refine .seq (.region (W.q3 (.bool (decide (x5 < (List.length p1 : Int)))) t13 ((fr8 10 rfl).trans rfl) (.nil (.seq (.cond (b := decide (x5 < (List.length p1 : Int))) rfl rfl (fun g14 => ?_) (fun g14 => ?_))))))
 rotate_left
 .have h92 := z0h g14 h12
  refine .exit ?_
  obtain rfl := zAa h92
  exact ⟨_, rfl, O10, s11⟩
 have h15 := z03 g14 h12
 refine .skip (.seq (.block (.seq (.region ?_))))
 obtain ⟨x16, i17, h18⟩ := z00 h15
 have j19 := z0g i17
 refine W.pure (v := (z2t v1 (Int.toNat x5 * 1))) rfl rfl (z3b el75 sz36 (oo rfl ((fr8 9 rfl).trans rfl)) (oo rfl t13) (z0f (RT.mono _ s11 hp1)) j19.1 j19.2.1) ?_
 obtain ⟨w20, p21, f22⟩ := At.sl (At.le (z1m hp1 j19.2.2) s11 s11)
 replace p21 := PtG.le p21 O10.fro
 refine W.load1 (v := w20) (r := []) rfl rfl ag36 (z0q rfl p21) (W.q1 w20 rfl (.nil (.seq (.seq (.region (W.q2 w20 rfl ?_))))))
 refine W.pure (v := (.int .i64 (List.length x16 : Int))) rfl rfl (z0p (oo rfl rfl) (z0f f22) (z06 el36)) (W.q2 (.int .i64 p0) ((fr8 0 rfl).trans rfl) (W.q3 (.bool (decide ((List.length x16 : Int) > p0))) rfl rfl (.nil (.cond (b := decide ((List.length x16 : Int) > p0)) rfl rfl (fun g23 => ?_) (fun g23 => ?_)))))
 .have h24 := z03 g23 h18
  refine .seq (.region (W.q1 (.bool true) rfl (.nil (.ret ?_))))
  obtain rfl := zAa h24
  have h25 := z0d (z7i h3)
  obtain rfl := zAa h25
  exact z16 kr (v1 := (.bool true)) (by rfl) (z09 (by rfl) (by exact rfl)) O10 s11 rfl
 have h26 := z0h g23 h18
 refine .skip (.seq (.region (W.q2 w20 rfl (W.pure (v := (.int .i64 (List.length x16 : Int))) rfl rfl (z0p (oo rfl rfl) (z0f f22) (z06 el36)) (W.q2 (.int .i64 0) rfl (.nil ?_))))))
 obtain ⟨q27, h28, h29⟩ := z2p h26
 refine AW.midT (fun σ' H' => ∃  (G' : GM), (.inr ()) = q27 /\ Ow G' H' (L) /\ GM.le G9 G') ?_ ?_
 rotate_left
 .rintro σ83 H84 fr85 ⟨G86, rfl, O87, s88⟩
  have h90 := z6j (z8a h29)
  refine .region (W.q3 (.int .i64 (z05 .i64 (x5 + 1))) ((fr85 11 rfl).trans t13) rfl (W.q2 (.int .i64 (z05 .i64 (x5 + 1))) rfl (.nil ?_)))
  exact ⟨k4, zAg _, ⟨z05 .i64 (x5 + 1), _, h90, O87, (zAe s11 s88), rfl⟩⟩
 refine .block (AW.loop (α := Nat) (fun k' σ' H' => ∃ (y1 : Int) (G' : GM), z2x K p0 x16 k' y1 = some q27 /\ Ow G' H' (L) /\ GM.le G9 G' /\ σ' 21 = .int .i64 y1) (fun k' => k') K ⟨0, _, h28, O10, (zAf _), rfl⟩ ?_)
 rintro k30
 rintro σ32 H33 fr34 ⟨x31, G35, h38, O36, s37, t39⟩
 rcases k30 with _ | k30
 .exact z0a h38
 rw [z2x] at h38
 refine .seq (.region (W.q3 (.bool (decide (x31 < (List.length x16 : Int)))) t39 ((fr34 20 rfl).trans rfl) (.nil (.seq (.cond (b := decide (x31 < (List.length x16 : Int))) rfl rfl (fun g40 => ?_) (fun g40 => ?_))))))
 rotate_left
 .have h82 := z0h g40 h38
  refine .exit ?_
  obtain rfl := zAa h82
  exact ⟨_, rfl, O36, s37⟩
 have h41 := z03 g40 h38
 refine .skip (.seq (.block (.seq (.region ?_))))
 obtain ⟨x42, i43, h44⟩ := z00 h41
 have j45 := z0g i43
 refine W.pure (v := (z2t w20 (Int.toNat x31 * 1))) rfl rfl (z3b el36 sz23 (oo rfl ((fr34 19 rfl).trans rfl)) (oo rfl t39) (z0f (RT.mono _ s37 f22)) j45.1 j45.2.1) ?_
 obtain ⟨w46, p47, f48⟩ := At.sl (At.le (z1m f22 j45.2.2) s37 s37)
 replace p47 := PtG.le p47 O36.fro
 refine W.load1 (v := w46) (r := []) rfl rfl ag23 (z0q rfl p47) (W.q1 w46 rfl (.nil (.seq ?_)))
 obtain ⟨q49, h50, h51⟩ := z00 h44
 refine AW.midT (fun σ' H' => ∃ (y1 : Bool) (G' : GM), y1 = q49 /\ Ow G' H' (L) /\ GM.le G35 G' /\ σ' 32 = .bool y1) ?_ ?_
 rotate_left
 .rintro σ68 H69 fr70 ⟨x67, G71, rfl, O72, s73, t75⟩
  have h76 := z0d h51
  refine .cond (b := x67) rfl t75 (fun g77 => ?_) (fun g77 => ?_)
  rotate_left
  .have h81 := z0h g77 h76
   refine .skip (.region (W.q3 (.int .i64 (z05 .i64 (x31 + 1))) ((fr70 21 rfl).trans t39) rfl (W.q2 (.int .i64 (z05 .i64 (x31 + 1))) rfl (.nil ?_))))
   exact ⟨k30, zAg _, ⟨z05 .i64 (x31 + 1), _, h81, O72, (zAe s37 s73), rfl⟩⟩
  have h78 := z03 g77 h76
  refine .seq (.region (W.q1 (.bool true) rfl (.nil (.ret ?_))))
  obtain rfl := zAa h78
  have h79 := z0d (z7i h29)
  obtain rfl := zAa h79
  have h80 := z0d (z7i h3)
  obtain rfl := zAa h80
  exact z16 kr (v1 := (.bool true)) (by rfl) (z09 (by rfl) (by exact rfl)) O72 (zAe s11 (zAe s37 s73)) rfl
 refine .region (W.q2 w46 rfl (W.pure (v := (.int .i64 (List.length x42 : Int))) rfl rfl (z0p (oo rfl rfl) (z0f f48) (z06 el23)) (W.q2 (.int .i64 p0) ((fr34 0 rfl).trans ((fr8 0 rfl).trans rfl)) (W.q3 (.bool (decide ((List.length x42 : Int) > p0))) rfl rfl (W.q2 (.bool (decide ((List.length x42 : Int) > p0))) rfl (W.splitAt (t := 29) (b := decide ((List.length x42 : Int) > p0)) rfl (fun g52 gv53 => ?_) (fun g52 gv53 => ?_)))))))
 .have h54 := z03 g52 h50
  refine W.q6 rfl gv53 (W.q6 rfl gv53 (W.q4 (.bool true) gv53 rfl (.nil ?_)))
  obtain rfl := zAa h54
  exact ⟨true, _, rfl, O36, (zAf _), rfl⟩
 have h55 := z0h g52 h50
 refine W.q2 (hg := gk rfl rfl gv53 rfl) w46 rfl ?_
 obtain ⟨x56, i57, h58⟩ := z00 h55
 refine W.lo (gk rfl rfl gv53 rfl) rfl (Lo.cP rfl (fn := Tryd.f10) (by kernel_rfl) rfl (mc rfl (mc rfl mn)) O36 (fun L' O' => z1r K w46 x42 f48 (.func (.func 41) #[] #[]) (fun x => z63 K x) ⟨41, _, _, Tryd.f41, rfl, by kernel_rfl, rfl, fun G1 H L vs x r hG O hA hF => by obtain rfl := hA; exact zbl K x O _ hF⟩ O' _ i57)) ?_
 rintro v65 H66 ⟨G59, O60, s61, sm64, rfl⟩
 refine W.q5 (.bool x56) gv53 rfl (.nil ?_)
 obtain rfl := zAa h58
 exact ⟨x56, _, rfl, O60, s61, rfl⟩
def z2y (K : Nat) (p1 : zAd) (x15 : Int) (x26 : Int) : Nat -> List Int -> Int -> Option (List Int)
  | 0, _, _ => none
  | k + 1, x41, x42 => (if (decide (x42 < (p1.size : Int))) = true then ((idx x41 (z05 .i64 (x15 + x42))).bind fun x58 => ((z4w K p1 x42).bind fun x62 => ((idx x41 (z05 .i64 (x15 + x42))).bind fun x73 => z2y K p1 x15 x26 k (List.set x41 (Int.toNat (z05 .i64 (x15 + x42))) (z05 .i64 (x58 + (z05 .i64 (x26 * x62))))) (z05 .i64 (x42 + 1))))) else some x41)
def z2l (K : Nat) (x91 : List Int) : Nat -> List Int -> Int -> Option (List Int)
  | 0, _, _ => none
  | k + 1, x102, x103 => (if (decide (x103 < (List.length x91 : Int))) = true then (Option.bind (((idx x102 x103).bind fun x117 => (if (decide (x117 > 9)) = true then ((idx x102 (z05 .i64 (x103 + 1))).bind fun x128 => ((idx x102 x103).bind fun x132 => ((idx x102 (z05 .i64 (x103 + 1))).bind fun x136 => ((idx (List.set x102 (Int.toNat (z05 .i64 (x103 + 1))) (z05 .i64 (x128 + (z05 .i64 (Int.tdiv x132 10))))) x103).bind fun x144 => ((idx (List.set x102 (Int.toNat (z05 .i64 (x103 + 1))) (z05 .i64 (x128 + (z05 .i64 (Int.tdiv x132 10))))) x103).bind fun x148 => some (List.set (List.set x102 (Int.toNat (z05 .i64 (x103 + 1))) (z05 .i64 (x128 + (z05 .i64 (Int.tdiv x132 10))))) (Int.toNat x103) (Int.tmod x144 10))))))) else some x102))) (tu1 fun x157 => z2l K x91 k x157 (z05 .i64 (x103 + 1)))) else some x102)
def z2z (K : Nat) (p0 : zAd) (p1 : zAd) : Nat -> List Int -> Int -> Option (List Int)
  | 0, _, _ => none
  | k + 1, x14, x15 => (if (decide (x15 < (p0.size : Int))) = true then ((z4w K p0 x15).bind fun x26 => (Option.bind (z2y K p1 x15 x26 K x14 0) (tu1 fun x82 => ((lsl x82 0 (z05 .i64 ((List.length x82 : Int) - 1))).bind fun x91 => (Option.bind (z2l K x91 K x82 0) (tu1 fun x167 => z2z K p0 p1 k x167 (z05 .i64 (x15 + 1)))))))) else some x14)
def z4h (K : Nat) (p0 : zAd) (p1 : zAd) : Option zAd := (lt (z05 .i64 ((z05 .i64 ((p0.size : Int) + (p1.size : Int))) + 1)) fun x1 => (if 0 <= x1 /\ x1 <= x1 /\ x1 <= 16777216 then (Option.bind (z2z K p0 p1 K (List.replicate (Int.toNat x1) 0) 0) (tu1 fun x177 => ((z8o K x177).bind fun x186 => some x186))) else none))
theorem z56 (p0 : zAd) (p1 : zAd) (O : Ow G H (L)) (r : zAd) (h : z4h K p0 p1 = some r) :
    CR Tryd.prog 44 [(.string p0), (.string p1)] G H (L) (fun v G' _ => v = .string r) := by
 unfold z4h at h
 refine CR.og (n := 80) (fn := Tryd.f44) (by kernel_rfl) rfl rfl fun R kr => (.seq (.region (W.q1 (.string (⟨#[]⟩ : zAd)) rfl (.nil (.seq (.region ?_))))))
 refine W.q2 (.string p0) rfl (W.pure (v := (.int .i64 (p0.size : Int))) rfl rfl (z1h (oo rfl rfl) un9) (W.q2 (.string p1) rfl (W.pure (v := (.int .i64 (p1.size : Int))) rfl rfl (z1h (oo rfl rfl) un9) (W.q3 (.int .i64 (z05 .i64 ((p0.size : Int) + (p1.size : Int)))) rfl rfl (W.q3 (.int .i64 (z05 .i64 ((z05 .i64 ((p0.size : Int) + (p1.size : Int))) + 1))) rfl rfl ?_)))))
 obtain ⟨x1, e2, h3⟩ := z6b h
 obtain ⟨g5, h6⟩ := z3c h3
 refine W.lo rfl rfl (Lo.makeSlice (r := (rI .i64)) (x0 := 0) (a := x1) (c := x1) rfl el96 ze3 sz3 (by kernel_rfl) rfl by3 (by decide) (congrArg (Value.int .i64) e2) (congrArg (Value.int .i64) e2) g5 (zI .i64) O) ?_
 rintro v8 H9 ⟨O4, sm7⟩
 refine W.q1 v8 rfl (.nil (.seq (.seq (.region (W.q2 (.string p0) rfl (W.pure (v := (.int .i64 (p0.size : Int))) rfl rfl (z1h (oo rfl rfl) un9) ?_))))))
 refine W.q2 (.int .i64 0) rfl (.nil ?_)
 obtain ⟨q10, h11, h12⟩ := z00 h6
 refine AW.midT (fun σ' H' => ∃ (y1 : List Int) (G' : GM), y1 = q10 /\ Ow G' H' (eSl v8 3 (rI .i64) y1 :: L) /\ GM.le G G') ?_ ?_
 rotate_left
 .rintro σ178 H179 fr180 ⟨x177, G181, rfl, O182, s183⟩
  have h185 := z0d h12
  refine .seq (.region (W.q2 v8 ((fr180 5 rfl).trans rfl) ?_))
  obtain ⟨x186, i187, h188⟩ := z00 h185
  refine W.lo rfl rfl (Lo.callB (j := 0) rfl rfl (fn := Tryd.f106) (by kernel_rfl) rfl (mc rfl mn) O182 (fun G' L' hG O' hB => z9r K v8 x177 hB O' _ i187)) ?_
  rintro v195 H196 ⟨G189, O190, s191, sm194, rfl⟩
  refine W.q1 (.string x186) rfl (.nil (.ret ?_))
  have O197 : Ow G189 H196 (L) := O190.drop 0
  obtain rfl := zAa h188
  exact z16 kr (v1 := (.string x186)) (by rfl) (z09 (by rfl) (by exact rfl)) O197 (zAe s183 s191) rfl
 refine .block (AW.loop (α := Nat) (fun k' σ' H' => ∃ (y1 : List Int) (y2 : Int) (G' : GM), z2z K p0 p1 k' y1 y2 = some q10 /\ Ow G' H' (eSl v8 3 (rI .i64) y1 :: L) /\ GM.le G G' /\ σ' 19 = .int .i64 y2) (fun k' => k') K ⟨(List.replicate (Int.toNat x1) 0), 0, _, h11, O4, (zAf _), rfl⟩ ?_)
 rintro k13
 rintro σ16 H17 fr18 ⟨x14, x15, G19, h22, O20, s21, t23⟩
 rcases k13 with _ | k13
 .exact z0a h22
 rw [z2z] at h22
 refine .seq (.region (W.q3 (.bool (decide (x15 < (p0.size : Int)))) t23 ((fr18 18 rfl).trans rfl) (.nil (.seq (.cond (b := decide (x15 < (p0.size : Int))) rfl rfl (fun g24 => ?_) (fun g24 => ?_))))))
 rotate_left
 .have h176 := z0h g24 h22
  refine .exit ?_
  obtain rfl := zAa h176
  exact ⟨x14, _, rfl, O20, s21⟩
 have h25 := z03 g24 h22
 refine .skip (.seq (.block (.seq (.region (W.q2 _ t23 (W.q1 (.int .i64 x15) rfl ?_))))))
 refine .nil (.seq (.region (W.q2 (.string p0) ((fr18 0 rfl).trans rfl) (W.q2 (.int .i64 x15) rfl ?_))))
 obtain ⟨x26, i27, h28⟩ := z00 h25
 refine W.lo rfl rfl (Lo.cP rfl (fn := Tryd.f105) (by kernel_rfl) rfl (mc rfl (mc rfl mn)) O20 (fun L' O' => z4s K p0 x15 O' _ i27)) ?_
 rintro v35 H36 ⟨G29, O30, s31, sm34, rfl⟩
 refine W.q1 (.int .i64 x26) rfl (.nil (.seq (.seq (.region (W.q2 (.string p1) ((fr18 1 rfl).trans rfl) (W.pure (v := (.int .i64 (p1.size : Int))) rfl rfl (z1h (oo rfl rfl) un9) ?_))))))
 refine W.q2 (.int .i64 0) rfl (.nil ?_)
 obtain ⟨q37, h38, h39⟩ := z00 h28
 refine AW.midT (fun σ' H' => ∃ (y1 : List Int) (G' : GM), y1 = q37 /\ Ow G' H' (eSl v8 3 (rI .i64) y1 :: L) /\ GM.le G29 G') ?_ ?_
 .refine .block (AW.loop (α := Nat) (fun k' σ' H' => ∃ (y1 : List Int) (y2 : Int) (G' : GM), z2y K p1 x15 x26 k' y1 y2 = some q37 /\ Ow G' H' (eSl v8 3 (rI .i64) y1 :: L) /\ GM.le G29 G' /\ σ' 27 = .int .i64 y2) (fun k' => k') K ⟨x14, 0, _, h38, O30, (zAf _), rfl⟩ ?_)
  rintro k40
  rintro σ43 H44 fr45 ⟨x41, x42, G46, h49, O47, s48, t50⟩
  rcases k40 with _ | k40
  .exact z0a h49
  rw [z2y] at h49
  refine .seq (.region (W.q3 (.bool (decide (x42 < (p1.size : Int)))) t50 ((fr45 26 rfl).trans rfl) (.nil (.seq (.cond (b := decide (x42 < (p1.size : Int))) rfl rfl (fun g51 => ?_) (fun g51 => ?_))))))
  rotate_left
  .have h81 := z0h g51 h49
   refine .exit ?_
   obtain rfl := zAa h81
   exact ⟨x41, _, rfl, O47, s48⟩
  have h52 := z03 g51 h49
  refine .skip (.seq (.block (.seq (.region (W.q2 _ t50 (W.q1 (.int .i64 x42) rfl ?_))))))
  refine .nil (.draw2 (M := [0, 0, 0, 6, 15, 31, 0, 0, 0, 384, 960, 2047, 4095, 8191]) mixed (by kernel_rfl) (by kernel_rfl) fun H53 N57 x54 F56 => ?_)
  have O55 := O47.ext x54
  refine D2.q2 v8 ((fr45 5 rfl).trans ((fr18 5 rfl).trans rfl)) (D2.q2 (.int .i64 x15) ((fr45 6 rfl).trans rfl) (D2.q2 (.int .i64 x42) rfl (D2.q3 (.int .i64 (z05 .i64 (x15 + x42))) rfl rfl ?_)))
  obtain ⟨x58, i59, h60⟩ := z00 h52
  have j61 := z0g i59
  refine D2.pure (v := (z2t v8 (Int.toNat (z05 .i64 (x15 + x42)) * 1))) rfl rfl (z3b el96 sz3 (oo rfl rfl) (oo rfl rfl) (O55.slLen (j := 0) rfl) j61.1 j61.2.1) (D2.load1' (v := (.int .i64 x58)) (r := []) rfl rfl ag3 (z0q rfl (At.int (O55.atSl (j := 0) rfl j61.2.2))) z02 (D2.q2 (.int .i64 x26) ((fr45 7 rfl).trans rfl) (D2.q2 (.string p1) ((fr45 1 rfl).trans ((fr18 1 rfl).trans rfl)) (D2.q2 (.int .i64 x42) rfl ?_))))
  obtain ⟨x62, i63, h64⟩ := z00 h60
  refine D2.lo rfl rfl (Lo.cP rfl (fn := Tryd.f105) (by kernel_rfl) rfl (mc rfl (mc rfl mn)) O55 (fun L' O' => z4s K p1 x42 O' _ i63)) ?_ z02 ?_ ?_
  .rintro v71 H72 ⟨G65, O66, s67, sm70, rfl⟩; exact (faR1 (.inr (sm70 _ (Or.inr ⟨0, _, rfl, (O55.footSl (j := 0) rfl j61.2.2)⟩))) z02)
  .rintro v71 H72 ⟨G65, O66, s67, sm70, rfl⟩; exact z02
  rintro v71 H72 ⟨G65, O66, s67, sm70, rfl⟩
  refine D2.q3 (.int .i64 (z05 .i64 (x26 * x62))) rfl rfl (D2.q3 (.int .i64 (z05 .i64 (x58 + (z05 .i64 (x26 * x62))))) rfl rfl ?_)
  obtain ⟨x73, i74, h75⟩ := z00 h64
  have j76 := z0g i74
  refine D2.pure (v := (z2t v8 (Int.toNat (z05 .i64 (x15 + x42)) * 1))) rfl rfl (z3b el96 sz3 (oo rfl rfl) (oo rfl rfl) (O66.slLen (j := 0) rfl) j76.1 j76.2.1) (D2.lo rfl rfl (Lo.storeSl0 (j := 0) (y0 := z05 .i64 (x58 + (z05 .i64 (x26 * x62)))) (v := (.int .i64 (z05 .i64 (x58 + (z05 .i64 (x26 * x62)))))) rfl j76.2.2  rfl sz3 rfl rfl rfl O66) ?_ (z07 (by decide) z02) ?_ ?_)
  .rintro v79 H80 ⟨O77, sm78⟩; exact (faR1 (.inl (by decide)) z02)
  .rintro v79 H80 ⟨O77, sm78⟩; exact z02
  rintro v79 H80 ⟨O77, sm78⟩
  refine .nil (.region (W.q3 (.int .i64 (z05 .i64 (x42 + 1))) t50 rfl (W.q2 (.int .i64 (z05 .i64 (x42 + 1))) rfl (.nil ?_))))
  exact ⟨k40, zAg _, ⟨(List.set x41 (Int.toNat (z05 .i64 (x15 + x42))) (z05 .i64 (x58 + (z05 .i64 (x26 * x62))))), z05 .i64 (x42 + 1), _, h75, O77, (zAe s48 s67), rfl⟩⟩
 rintro σ83 H84 fr85 ⟨x82, G86, rfl, O87, s88⟩
 have h90 := z0d h39
 refine .seq (.region (W.q2 v8 ((fr85 5 rfl).trans ((fr18 5 rfl).trans rfl)) (W.q2 v8 ((fr85 5 rfl).trans ((fr18 5 rfl).trans rfl)) (W.pure (v := (.int .i64 (List.length x82 : Int))) rfl rfl (z0p (oo rfl rfl) (O87.slLen (j := 0) rfl) (z06 el96)) (W.q3 (.int .i64 (z05 .i64 ((List.length x82 : Int) - 1))) rfl rfl ?_)))))
 obtain ⟨x91, i92, h93⟩ := z00 h90
 obtain ⟨w94, e96, f97⟩ := O87.view (j := 0) rfl el96 sz3 i92
 refine W.pure (v := w94) rfl rfl (e96 (oo rfl rfl) (oo rfl rfl)) (W.pure (v := (.int .i64 (List.length x91 : Int))) rfl rfl (z0p (oo rfl rfl) f97 (z06 el96)) (W.q2 (.int .i64 0) rfl (.nil ?_)))
 obtain ⟨q98, h99, h100⟩ := z00 h93
 refine AW.midT (fun σ' H' => ∃ (y1 : List Int) (G' : GM), y1 = q98 /\ Ow G' H' (eSl v8 3 (rI .i64) y1 :: L) /\ GM.le G86 G') ?_ ?_
 rotate_left
 .rintro σ168 H169 fr170 ⟨x167, G171, rfl, O172, s173⟩
  have h175 := z0d h100
  refine .region (W.q3 (.int .i64 (z05 .i64 (x15 + 1))) ((fr170 19 rfl).trans ((fr85 19 rfl).trans t23)) rfl (W.q2 (.int .i64 (z05 .i64 (x15 + 1))) rfl (.nil ?_)))
  exact ⟨k13, zAg _, ⟨x167, z05 .i64 (x15 + 1), _, h175, O172, (zAe s21 (zAe s31 (zAe s88 s173))), rfl⟩⟩
 refine .block (AW.loop (α := Nat) (fun k' σ' H' => ∃ (y1 : List Int) (y2 : Int) (G' : GM), z2l K x91 k' y1 y2 = some q98 /\ Ow G' H' (eSl v8 3 (rI .i64) y1 :: L) /\ GM.le G86 G' /\ σ' 50 = .int .i64 y2) (fun k' => k') K ⟨x82, 0, _, h99, O87, (zAf _), rfl⟩ ?_)
 rintro k101
 rintro σ104 H105 fr106 ⟨x102, x103, G107, h110, O108, s109, t111⟩
 rcases k101 with _ | k101
 .exact z0a h110
 rw [z2l] at h110
 refine .seq (.region (W.q3 (.bool (decide (x103 < (List.length x91 : Int)))) t111 ((fr106 49 rfl).trans rfl) (.nil (.seq (.cond (b := decide (x103 < (List.length x91 : Int))) rfl rfl (fun g112 => ?_) (fun g112 => ?_))))))
 rotate_left
 .have h166 := z0h g112 h110
  refine .exit ?_
  obtain rfl := zAa h166
  exact ⟨x102, _, rfl, O108, s109⟩
 have h113 := z03 g112 h110
 refine .skip (.seq ?_)
 obtain ⟨q114, h115, h116⟩ := z00 h113
 refine AW.midT (fun σ' H' => ∃ (y1 : List Int) (G' : GM), y1 = q114 /\ Ow G' H' (eSl v8 3 (rI .i64) y1 :: L) /\ GM.le G107 G') ?_ ?_
 rotate_left
 .rintro σ158 H159 fr160 ⟨x157, G161, rfl, O162, s163⟩
  have h165 := z0d h116
  refine .region (W.q3 (.int .i64 (z05 .i64 (x103 + 1))) ((fr160 50 rfl).trans t111) rfl (W.q2 (.int .i64 (z05 .i64 (x103 + 1))) rfl (.nil ?_)))
  exact ⟨k101, zAg _, ⟨x157, z05 .i64 (x103 + 1), _, h165, O162, (zAe s109 s163), rfl⟩⟩
 refine .block (.seq (.region (W.q2 _ t111 (W.q1 (.int .i64 x103) rfl (.nil (.seq ?_))))))
 refine .region (W.q2 v8 ((fr106 5 rfl).trans ((fr85 5 rfl).trans ((fr18 5 rfl).trans rfl))) (W.q2 (.int .i64 x103) rfl ?_))
 obtain ⟨x117, i118, h119⟩ := z00 h115
 have j120 := z0g i118
 refine W.pure (v := (z2t v8 (Int.toNat x103 * 1))) rfl rfl (z3b el96 sz3 (oo rfl rfl) (oo rfl rfl) (O108.slLen (j := 0) rfl) j120.1 j120.2.1) (W.load1 (v := (.int .i64 x117)) (r := []) rfl rfl ag3 (z0q rfl (At.int (O108.atSl (j := 0) rfl j120.2.2))) (W.q3 (.bool (decide (x117 > 9))) rfl rfl (.nil (.cond (b := decide (x117 > 9)) rfl rfl (fun g121 => ?_) (fun g121 => ?_)))))
 rotate_left
 .have h156 := z0h g121 h119
  refine .skip ?_
  obtain rfl := zAa h156
  exact ⟨x102, _, rfl, O108, (zAf _)⟩
 have h122 := z03 g121 h119
 refine .seq (.draw2 (M := [0, 0, 2, 7, 15, 0, 0, 96, 224, 480, 1023, 2047, 4095]) mixed (by kernel_rfl) (by kernel_rfl) fun H123 N127 x124 F126 => ?_)
 have O125 := O108.ext x124
 refine D2.q2 v8 ((fr106 5 rfl).trans ((fr85 5 rfl).trans ((fr18 5 rfl).trans rfl))) (D2.q2 (.int .i64 x103) rfl (D2.q3 (.int .i64 (z05 .i64 (x103 + 1))) rfl rfl ?_))
 obtain ⟨x128, i129, h130⟩ := z00 h122
 have j131 := z0g i129
 refine D2.pure (v := (z2t v8 (Int.toNat (z05 .i64 (x103 + 1)) * 1))) rfl rfl (z3b el96 sz3 (oo rfl rfl) (oo rfl rfl) (O125.slLen (j := 0) rfl) j131.1 j131.2.1) (D2.load1' (v := (.int .i64 x128)) (r := []) rfl rfl ag3 (z0q rfl (At.int (O125.atSl (j := 0) rfl j131.2.2))) z02 (D2.q2 v8 ((fr106 5 rfl).trans ((fr85 5 rfl).trans ((fr18 5 rfl).trans rfl))) (D2.q2 (.int .i64 x103) rfl ?_)))
 obtain ⟨x132, i133, h134⟩ := z00 h130
 have j135 := z0g i133
 refine D2.pure (v := (z2t v8 (Int.toNat x103 * 1))) rfl rfl (z3b el96 sz3 (oo rfl rfl) (oo rfl rfl) (O125.slLen (j := 0) rfl) j135.1 j135.2.1) (D2.load1' (v := (.int .i64 x132)) (r := []) rfl rfl ag3 (z0q rfl (At.int (O125.atSl (j := 0) rfl j135.2.2))) z02 (D2.pure (v := (.int .i64 (z05 .i64 (Int.tdiv x132 10)))) rfl rfl (zgr (by decide) (oo rfl rfl) (oo rfl rfl)) (D2.q3 (.int .i64 (z05 .i64 (x128 + (z05 .i64 (Int.tdiv x132 10))))) rfl rfl ?_)))
 obtain ⟨x136, i137, h138⟩ := z00 h134
 have j139 := z0g i137
 refine D2.pure (v := (z2t v8 (Int.toNat (z05 .i64 (x103 + 1)) * 1))) rfl rfl (z3b el96 sz3 (oo rfl rfl) (oo rfl rfl) (O125.slLen (j := 0) rfl) j139.1 j139.2.1) (D2.lo rfl rfl (Lo.storeSl0 (j := 0) (y0 := z05 .i64 (x128 + (z05 .i64 (Int.tdiv x132 10)))) (v := (.int .i64 (z05 .i64 (x128 + (z05 .i64 (Int.tdiv x132 10)))))) rfl j139.2.2  rfl sz3 rfl rfl rfl O125) ?_ z02 ?_ ?_)
 .rintro v142 H143 ⟨O140, sm141⟩; exact (faR1 (.inl (by decide)) (faR1 (.inl (by decide)) z02))
 .rintro v142 H143 ⟨O140, sm141⟩; exact z02
 rintro v142 H143 ⟨O140, sm141⟩
 refine .nil (.region (W.q2 v8 ((fr106 5 rfl).trans ((fr85 5 rfl).trans ((fr18 5 rfl).trans rfl))) (W.q2 (.int .i64 x103) rfl ?_)))
 obtain ⟨x144, i145, h146⟩ := z00 h138
 have j147 := z0g i145
 refine W.pure (v := (z2t v8 (Int.toNat x103 * 1))) rfl rfl (z3b el96 sz3 (oo rfl rfl) (oo rfl rfl) (O140.slLen (j := 0) rfl) j147.1 j147.2.1) (W.load1 (v := (.int .i64 x144)) (r := []) rfl rfl ag3 (z0q rfl (At.int (O140.atSl (j := 0) rfl j147.2.2))) (W.pure (v := (.int .i64 (Int.tmod x144 10))) rfl rfl (zi9 (by decide) (oo rfl rfl) (oo rfl rfl)) ?_))
 obtain ⟨x148, i149, h150⟩ := z00 h146
 have j151 := z0g i149
 refine W.pure (v := (z2t v8 (Int.toNat x103 * 1))) rfl rfl (z3b el96 sz3 (oo rfl rfl) (oo rfl rfl) (O140.slLen (j := 0) rfl) j151.1 j151.2.1) (W.lo rfl rfl (Lo.storeSl0 (j := 0) (y0 := Int.tmod x144 10) (v := (.int .i64 (Int.tmod x144 10))) rfl j151.2.2  rfl sz3 rfl rfl rfl O140) ?_)
 rintro v154 H155 ⟨O152, sm153⟩
 refine .nil ?_
 obtain rfl := zAa h150
 exact ⟨(List.set (List.set x102 (Int.toNat (z05 .i64 (x103 + 1))) (z05 .i64 (x128 + (z05 .i64 (Int.tdiv x132 10))))) (Int.toNat x103) (Int.tmod x144 10)), _, rfl, O152, (zAf _)⟩
def z7a (K : Nat) (p0 : Bool) (p1 : zAd) (p2 : zAd) : Option zAd := (if (sEq p1 (⟨#[48]⟩ : zAd)) = true then some (⟨#[48]⟩ : zAd) else ((z6t K p1 p2).bind fun x4 => ((z61 K p1 x4).bind fun x15 => ((z61 K p2 x4).bind fun x26 => (Option.bind ((if p0 = true then (if ((⟨#[45]⟩ : zAd)).size + (x15.1).size <= 4611686018427387904 then some ((⟨#[45]⟩ : zAd) ++ x15.1) else none) else some x15.1)) (tu1 fun x45 => (if (sEq x26.1 (⟨#[49]⟩ : zAd)) = true then some x45 else (if (x45).size + ((⟨#[47]⟩ : zAd)).size <= 4611686018427387904 then (if ((x45 ++ (⟨#[47]⟩ : zAd))).size + (x26.1).size <= 4611686018427387904 then some ((x45 ++ (⟨#[47]⟩ : zAd)) ++ x26.1) else none) else none))))))))
theorem z8p (p0 : Bool) (p1 : zAd) (p2 : zAd) (O : Ow G H (L)) (r : zAd) (h : z7a K p0 p1 p2 = some r) :
    CR Tryd.prog 43 [(.bool p0), (.string p1), (.string p2)] G H (L) (fun v G' _ => v = .string r) := by
 unfold z7a at h
 refine CR.og (n := 35) (fn := Tryd.f43) (by kernel_rfl) rfl rfl fun R kr => (.seq (.region (W.q1 (.string (⟨#[]⟩ : zAd)) rfl (.nil (.seq (.seq ?_))))))
 refine .region (W.q2 (.string p1) rfl (W.pure (v := (.bool (sEq p1 (⟨#[48]⟩ : zAd)))) rfl rfl (z6c (oo rfl rfl) (oo rfl rfl)) (.nil (.cond (b := sEq p1 (⟨#[48]⟩ : zAd)) rfl rfl (fun g1 => ?_) (fun g1 => ?_)))))
 .have h2 := z03 g1 h
  refine .seq (.region (W.q1 (.string (⟨#[48]⟩ : zAd)) rfl (.nil (.ret ?_))))
  obtain rfl := zAa h2
  exact z16 kr (v1 := (.string (⟨#[48]⟩ : zAd))) (by rfl) (z09 (by rfl) (by exact rfl)) O (zAf _) rfl
 have h3 := z0h g1 h
 refine .skip (.seq (.region (W.q2 (.string p1) rfl (W.q2 (.string p2) rfl ?_))))
 obtain ⟨x4, i5, h6⟩ := z00 h3
 refine W.lo rfl rfl (Lo.cP rfl (fn := Tryd.f103) (by kernel_rfl) rfl (mc rfl (mc rfl mn)) O (fun L' O' => z9z K p1 p2 O' _ i5)) ?_
 rintro v13 H14 ⟨G7, O8, s9, sm12, rfl⟩
 refine W.q1 (.string x4) rfl (.nil (.seq (.region (W.q2 (.string p1) rfl (W.q2 (.string x4) rfl ?_)))))
 obtain ⟨x15, i16, h17⟩ := z00 h6
 refine W.lo rfl rfl (Lo.cP rfl (fn := Tryd.f104) (by kernel_rfl) rfl (mc rfl (mc rfl mn)) O8 (fun L' O' => z7y K p1 x4 O' _ i16)) ?_
 rintro v24 H25 ⟨G18, O19, s20, sm23, rfl⟩
 refine W.q2 (.tuple #[(.string x15.1), (.string x15.2)]) rfl (W.pure (v := (.string x15.1)) rfl rfl (z08 (oo rfl rfl) rfl) (W.pure (v := (.string x15.2)) rfl rfl (z08 (oo rfl rfl) rfl) (W.q1 (.string x15.1) rfl (.nil (.seq (.region ?_))))))
 refine W.q2 (.string p2) rfl (W.q2 (.string x4) rfl ?_)
 obtain ⟨x26, i27, h28⟩ := z00 h17
 refine W.lo rfl rfl (Lo.cP rfl (fn := Tryd.f104) (by kernel_rfl) rfl (mc rfl (mc rfl mn)) O19 (fun L' O' => z7y K p2 x4 O' _ i27)) ?_
 rintro v35 H36 ⟨G29, O30, s31, sm34, rfl⟩
 refine W.q2 (.tuple #[(.string x26.1), (.string x26.2)]) rfl (W.pure (v := (.string x26.1)) rfl rfl (z08 (oo rfl rfl) rfl) (W.pure (v := (.string x26.2)) rfl rfl (z08 (oo rfl rfl) rfl) (W.q1 (.string x26.1) rfl (.nil (.seq (.seq ?_))))))
 refine .region (W.q2 (.bool p0) rfl (.nil ?_))
 obtain ⟨q37, h38, h39⟩ := z00 h28
 refine AW.midT (fun σ' H' => ∃ (y1 : zAd) (G' : GM), y1 = q37 /\ Ow G' H' (L) /\ GM.le G29 G' /\ σ' 1 = .string y1) ?_ ?_
 .refine .cond (b := p0) rfl rfl (fun g40 => ?_) (fun g40 => ?_)
  rotate_left
  .have h44 := z0h g40 h38
   refine .skip ?_
   obtain rfl := zAa h44
   exact ⟨x15.1, _, rfl, O30, (zAf _), rfl⟩
  have h41 := z03 g40 h38
  refine .region (W.q2 (.string x15.1) rfl ?_)
  obtain ⟨g42, h43⟩ := z3c h41
  refine W.pure (v := (.string ((⟨#[45]⟩ : zAd) ++ x15.1))) rfl rfl (zbe g42 (oo rfl rfl) (oo rfl rfl)) (W.q1 (.string ((⟨#[45]⟩ : zAd) ++ x15.1)) rfl (.nil ?_))
  obtain rfl := zAa h43
  exact ⟨((⟨#[45]⟩ : zAd) ++ x15.1), _, rfl, O30, (zAf _), rfl⟩
 rintro σ46 H47 fr48 ⟨x45, G49, rfl, O50, s51, t53⟩
 have h54 := z0d h39
 refine .seq (.seq (.region (W.q2 (.string x26.1) ((fr48 2 rfl).trans rfl) (W.pure (v := (.bool (sEq x26.1 (⟨#[49]⟩ : zAd)))) rfl rfl (z6c (oo rfl rfl) (oo rfl rfl)) (.nil (.cond (b := sEq x26.1 (⟨#[49]⟩ : zAd)) rfl rfl (fun g55 => ?_) (fun g55 => ?_)))))))
 .have h56 := z03 g55 h54
  refine .seq (.region (W.q2 _ t53 (W.q1 (.string x45) rfl (.nil (.ret ?_)))))
  obtain rfl := zAa h56
  exact z16 kr (v1 := (.string x45)) (by rfl) (z09 (by rfl) (by exact rfl)) O50 (zAe s9 (zAe s20 (zAe s31 s51))) rfl
 have h57 := z0h g55 h54
 refine .skip (.seq (.region (W.q2 _ t53 ?_)))
 obtain ⟨g58, h59⟩ := z3c h57
 refine W.pure (v := (.string (x45 ++ (⟨#[47]⟩ : zAd)))) rfl rfl (zbe g58 (oo rfl rfl) (oo rfl rfl)) (W.q2 (.string x26.1) ((fr48 2 rfl).trans rfl) ?_)
 obtain ⟨g60, h61⟩ := z3c h59
 refine W.pure (v := (.string ((x45 ++ (⟨#[47]⟩ : zAd)) ++ x26.1))) rfl rfl (zbe g60 (oo rfl rfl) (oo rfl rfl)) (W.q1 (.string ((x45 ++ (⟨#[47]⟩ : zAd)) ++ x26.1)) rfl (.nil (.ret ?_)))
 obtain rfl := zAa h61
 exact z16 kr (v1 := (.string ((x45 ++ (⟨#[47]⟩ : zAd)) ++ x26.1))) (by rfl) (z09 (by rfl) (by exact rfl)) O50 (zAe s9 (zAe s20 (zAe s31 s51))) rfl
def z6w (K : Nat) (p0 : zAd) (p1 : zAd) : Option zAd := ((z4x K p0).bind fun x1 => ((z4x K p1).bind fun x12 => ((z4h K x1.2.1 x12.2.1).bind fun x23 => ((z4h K x1.2.2 x12.2.2).bind fun x34 => ((z7a K (!(x1.1 == x12.1)) x23 x34).bind fun x45 => some x45)))))
theorem za0 (p0 : zAd) (p1 : zAd) (O : Ow G H (L)) (r : zAd) (h : z6w K p0 p1 = some r) :
    CR Tryd.prog 15 [(.string p0), (.string p1)] G H (L) (fun v G' _ => v = .string r) := by
 unfold z6w at h
 refine CR.og (n := 33) (fn := Tryd.f15) (by kernel_rfl) rfl rfl fun R kr => (.seq (.region (W.q1 (.string (⟨#[]⟩ : zAd)) rfl (.nil (.seq (.region ?_))))))
 refine W.q2 (.string p0) rfl ?_
 obtain ⟨x1, i2, h3⟩ := z00 h
 refine W.lo rfl rfl (Lo.cP rfl (fn := Tryd.f40) (by kernel_rfl) rfl (mc rfl mn) O (fun L' O' => z62 K p0 O' _ i2)) ?_
 rintro v10 H11 ⟨G4, O5, s6, sm9, rfl⟩
 refine W.q2 (.tuple #[(.bool x1.1), (.string x1.2.1), (.string x1.2.2)]) rfl (W.pure (v := (.bool x1.1)) rfl rfl (z08 (oo rfl rfl) rfl) (W.pure (v := (.string x1.2.1)) rfl rfl (z08 (oo rfl rfl) rfl) (W.pure (v := (.string x1.2.2)) rfl rfl (z08 (oo rfl rfl) rfl) (W.q1 (.bool x1.1) rfl (W.q1 (.string x1.2.1) rfl (W.q1 (.string x1.2.2) rfl ?_))))))
 refine .nil (.seq (.region (W.q2 (.string p1) rfl ?_)))
 obtain ⟨x12, i13, h14⟩ := z00 h3
 refine W.lo rfl rfl (Lo.cP rfl (fn := Tryd.f40) (by kernel_rfl) rfl (mc rfl mn) O5 (fun L' O' => z62 K p1 O' _ i13)) ?_
 rintro v21 H22 ⟨G15, O16, s17, sm20, rfl⟩
 refine W.q2 (.tuple #[(.bool x12.1), (.string x12.2.1), (.string x12.2.2)]) rfl (W.pure (v := (.bool x12.1)) rfl rfl (z08 (oo rfl rfl) rfl) (W.pure (v := (.string x12.2.1)) rfl rfl (z08 (oo rfl rfl) rfl) (W.pure (v := (.string x12.2.2)) rfl rfl (z08 (oo rfl rfl) rfl) (W.q1 (.bool x12.1) rfl (W.q1 (.string x12.2.1) rfl (W.q1 (.string x12.2.2) rfl ?_))))))
 refine .nil (.seq (.region (W.q2 (.bool x1.1) rfl (W.q2 (.bool x12.1) rfl (W.pure (v := (.bool (!(x1.1 == x12.1)))) rfl rfl (ze1 (oo rfl rfl) (oo rfl rfl) un4) (W.q2 (.string x1.2.1) rfl ?_))))))
 refine W.q2 (.string x12.2.1) rfl ?_
 obtain ⟨x23, i24, h25⟩ := z00 h14
 refine W.lo rfl rfl (Lo.cP rfl (fn := Tryd.f44) (by kernel_rfl) rfl (mc rfl (mc rfl mn)) O16 (fun L' O' => z56 K x1.2.1 x12.2.1 O' _ i24)) ?_
 rintro v32 H33 ⟨G26, O27, s28, sm31, rfl⟩
 refine W.q2 (.string x1.2.2) rfl (W.q2 (.string x12.2.2) rfl ?_)
 obtain ⟨x34, i35, h36⟩ := z00 h25
 refine W.lo rfl rfl (Lo.cP rfl (fn := Tryd.f44) (by kernel_rfl) rfl (mc rfl (mc rfl mn)) O27 (fun L' O' => z56 K x1.2.2 x12.2.2 O' _ i35)) ?_
 rintro v43 H44 ⟨G37, O38, s39, sm42, rfl⟩
 obtain ⟨x45, i46, h47⟩ := z00 h36
 refine W.lo rfl rfl (Lo.cP rfl (fn := Tryd.f43) (by kernel_rfl) rfl (mc rfl (mc rfl (mc rfl mn))) O38 (fun L' O' => z8p K (!(x1.1 == x12.1)) x23 x34 O' _ i46)) ?_
 rintro v54 H55 ⟨G48, O49, s50, sm53, rfl⟩
 refine W.q1 (.string x45) rfl (.nil (.ret ?_))
 obtain rfl := zAa h47
 exact z16 kr (v1 := (.string x45)) (by rfl) (z09 (by rfl) (by exact rfl)) O49 (zAe s6 (zAe s17 (zAe s28 (zAe s39 s50)))) rfl
def z26 (K : Nat) (p0 : zAd) (p1 : zAd) : Nat -> List Int -> Int -> Int -> Option (List Int)
  | 0, _, _, _ => none
  | k + 1, x6, x7, x8 => (Option.bind ((if (decide (x8 < (p0.size : Int))) = true then some true else (if (decide (x8 < (p1.size : Int))) = true then some true else some (decide (x7 > 0))))) (tu1 fun x29 => (if x29 = true then ((z4w K p0 x8).bind fun x41 => ((z4w K p1 x8).bind fun x52 => (if List.length x6 + List.length [Int.tmod (z05 .i64 ((z05 .i64 (x41 + x52)) + x7)) 10] <= 16777216 then (lt (z05 .i64 (Int.tdiv (z05 .i64 ((z05 .i64 (x41 + x52)) + x7)) 10)) fun x76 => z26 K p0 p1 k (x6 ++ [Int.tmod (z05 .i64 ((z05 .i64 (x41 + x52)) + x7)) 10]) x76 (z05 .i64 (x8 + 1))) else none))) else some x6)))
def z7z (K : Nat) (p0 : zAd) (p1 : zAd) : Option zAd := (Option.bind (z26 K p0 p1 K [] 0 0) (tu1 fun x81 => ((z8o K x81).bind fun x90 => some x90)))
theorem zdg (p0 : zAd) (p1 : zAd) (O : Ow G H (L)) (r : zAd) (h : z7z K p0 p1 = some r) :
    CR Tryd.prog 45 [(.string p0), (.string p1)] G H (L) (fun v G' _ => v = .string r) := by
 unfold z7z at h
 refine CR.og (n := 43) (fn := Tryd.f45) (by kernel_rfl) rfl rfl fun R kr => (.seq (.region (W.q1 (.string (⟨#[]⟩ : zAd)) rfl (.nil (.seq (.region ?_))))))
 refine W.q1 (.slice none 0 0) rfl (.nil (.seq (.region (W.q1 (.int .i64 0) rfl (.nil (.seq ?_))))))
 refine .seq (.region (W.q1 (.int .i64 0) rfl (.nil ?_)))
 obtain ⟨q1, h2, h3⟩ := z00 h
 refine AW.midT (fun σ' H' => ∃ (y1 : List Int) (G' : GM), y1 = q1 /\ Ow G' H' (eSl (σ' 5) 3 (rI .i64) y1 :: L) /\ GM.le G G') ?_ ?_
 rotate_left
 .rintro σ82 H83 fr84 ⟨x81, G85, rfl, O86, s87⟩
  have h89 := z0d h3
  refine .seq (.region (W.q2 (σ82 5) rfl ?_))
  obtain ⟨x90, i91, h92⟩ := z00 h89
  refine W.lo rfl rfl (Lo.callB (j := 0) rfl rfl (fn := Tryd.f106) (by kernel_rfl) rfl (mc rfl mn) O86 (fun G' L' hG O' hB => z9r K (σ82 5) x81 hB O' _ i91)) ?_
  rintro v99 H100 ⟨G93, O94, s95, sm98, rfl⟩
  refine W.q1 (.string x90) rfl (.nil (.ret ?_))
  have O101 : Ow G93 H100 (L) := O94.drop 0
  obtain rfl := zAa h92
  exact z16 kr (v1 := (.string x90)) (by rfl) (z09 (by rfl) (by exact rfl)) O101 (zAe s87 s95) rfl
 refine .block ?_
 have O4 := O.nilSl 3 (rI .i64)
 refine AW.loop (α := Nat) (fun k' σ' H' => ∃ (y1 : List Int) (y2 : Int) (y3 : Int) (G' : GM), z26 K p0 p1 k' y1 y2 y3 = some q1 /\ Ow G' H' (eSl (σ' 5) 3 (rI .i64) y1 :: L) /\ GM.le G G' /\ σ' 6 = .int .i64 y2 /\ σ' 7 = .int .i64 y3) (fun k' => k') K ⟨[], 0, 0, _, h2, O4, (zAf _), rfl, rfl⟩ ?_
 rintro k5
 rintro σ9 H10 fr11 ⟨x6, x7, x8, G12, h15, O13, s14, t16, t17⟩
 rcases k5 with _ | k5
 .exact z0a h15
 rw [z26] at h15
 refine .seq (.seq ?_)
 obtain ⟨q18, h19, h20⟩ := z00 h15
 refine AW.midT (fun σ' H' => ∃ (y1 : Bool) (G' : GM), y1 = q18 /\ Ow G' H' (eSl (σ9 5) 3 (rI .i64) x6 :: L) /\ GM.le G12 G' /\ σ' 22 = .bool y1) ?_ ?_
 .refine .region (W.q2 _ t17 (W.q2 (.string p0) ((fr11 0 rfl).trans rfl) (W.pure (v := (.int .i64 (p0.size : Int))) rfl rfl (z1h (oo rfl rfl) un9) (W.q3 (.bool (decide (x8 < (p0.size : Int)))) rfl rfl (W.q2 (.bool (decide (x8 < (p0.size : Int)))) rfl (W.splitAt (t := 13) (b := decide (x8 < (p0.size : Int))) rfl (fun g21 gv22 => ?_) (fun g21 gv22 => ?_)))))))
  .have h23 := z03 g21 h19
   refine W.q6 rfl gv22 (W.q6 rfl gv22 (W.q6 rfl gv22 (W.q6 rfl gv22 (W.q4 (.bool true) gv22 rfl (W.q2 (.bool true) rfl (W.q6 rfl rfl ?_))))))
   refine W.q6 rfl rfl (W.q4 (.bool true) rfl rfl (.nil ?_))
   obtain rfl := zAa h23
   exact ⟨true, _, rfl, O13, (zAf _), rfl⟩
  have h24 := z0h g21 h19
  refine W.q2 (hg := gk rfl rfl gv22 rfl) _ t17 (W.q2 (hg := gk rfl rfl gv22 rfl) (.string p1) ((fr11 1 rfl).trans rfl) (W.pure (v := (.int .i64 (p1.size : Int))) (gk rfl rfl gv22 rfl) rfl (z1h (oo rfl rfl) un9) (W.q3 (hg := gk rfl rfl gv22 rfl) (.bool (decide (x8 < (p1.size : Int)))) rfl rfl (W.q5 (.bool (decide (x8 < (p1.size : Int)))) gv22 rfl (W.q2 (.bool (decide (x8 < (p1.size : Int)))) rfl (W.splitAt (t := 19) (b := decide (x8 < (p1.size : Int))) rfl (fun g25 gv26 => ?_) (fun g25 gv26 => ?_)))))))
  .have h27 := z03 g25 h24
   refine W.q6 rfl gv26 (W.q6 rfl gv26 (W.q4 (.bool true) gv26 rfl (.nil ?_)))
   obtain rfl := zAa h27
   exact ⟨true, _, rfl, O13, (zAf _), rfl⟩
  have h28 := z0h g25 h24
  refine W.q2 (hg := gk rfl rfl gv26 rfl) _ t16 (W.q3 (hg := gk rfl rfl gv26 rfl) (.bool (decide (x7 > 0))) rfl rfl (W.q5 (.bool (decide (x7 > 0))) gv26 rfl (.nil ?_)))
  obtain rfl := zAa h28
  exact ⟨decide (x7 > 0), _, rfl, O13, (zAf _), rfl⟩
 rintro σ30 H31 fr32 ⟨x29, G33, rfl, O34, s35, t37⟩
 have h38 := z0d h20
 refine .cond (b := x29) rfl t37 (fun g39 => ?_) (fun g39 => ?_)
 rotate_left
 .have h80 := z0h g39 h38
  refine .exit ?_
  obtain rfl := zAa h80
  exact ⟨x6, _, rfl, (Ow.reval (j := 0) O34 rfl ((fr32 5 rfl).trans rfl)), (zAe s14 s35)⟩
 have h40 := z03 g39 h38
 refine .skip (.seq (.block (.seq (.region (W.q2 (.string p0) ((fr32 0 rfl).trans ((fr11 0 rfl).trans rfl)) (W.q2 _ ((fr32 7 rfl).trans t17) ?_))))))
 obtain ⟨x41, i42, h43⟩ := z00 h40
 refine W.lo rfl rfl (Lo.cP rfl (fn := Tryd.f105) (by kernel_rfl) rfl (mc rfl (mc rfl mn)) O34 (fun L' O' => z4s K p0 x8 O' _ i42)) ?_
 rintro v50 H51 ⟨G44, O45, s46, sm49, rfl⟩
 refine W.q2 (.string p1) ((fr32 1 rfl).trans ((fr11 1 rfl).trans rfl)) (W.q2 _ ((fr32 7 rfl).trans t17) ?_)
 obtain ⟨x52, i53, h54⟩ := z00 h43
 refine W.lo rfl rfl (Lo.cP rfl (fn := Tryd.f105) (by kernel_rfl) rfl (mc rfl (mc rfl mn)) O45 (fun L' O' => z4s K p1 x8 O' _ i53)) ?_
 rintro v61 H62 ⟨G55, O56, s57, sm60, rfl⟩
 refine W.q3 (.int .i64 (z05 .i64 (x41 + x52))) rfl rfl (W.q2 _ ((fr32 6 rfl).trans t16) (W.q3 (.int .i64 (z05 .i64 ((z05 .i64 (x41 + x52)) + x7))) rfl rfl (W.q1 (.int .i64 (z05 .i64 ((z05 .i64 (x41 + x52)) + x7))) rfl (.nil (.seq (.region ?_))))))
 refine W.q2 (σ9 5) ((fr32 5 rfl).trans rfl) (W.q2 (.int .i64 (z05 .i64 ((z05 .i64 (x41 + x52)) + x7))) rfl (W.pure (v := (.int .i64 (Int.tmod (z05 .i64 ((z05 .i64 (x41 + x52)) + x7)) 10))) rfl rfl (zi9 (by decide) (oo rfl rfl) (oo rfl rfl)) (W.lo rfl rfl (Lo.buildSlice (r := (rI .i64)) (vs := [(.int .i64 (Int.tmod (z05 .i64 ((z05 .i64 (x41 + x52)) + x7)) 10))]) (xs := [Int.tmod (z05 .i64 ((z05 .i64 (x41 + x52)) + x7)) 10]) el96 ze3 sz3 (by kernel_rfl) rfl (qc rfl qn) rfl (.cons rfl .nil) O56) ?_)))
 rintro v65 H66 ⟨O63, sm64⟩
 obtain ⟨es68, e69, e70⟩ := z7r (j := 0) rfl O63
 obtain ⟨g71, h72⟩ := z3c h54
 refine W.lo rfl rfl (Lo.append (j := 1) (v := (σ9 5)) rfl rfl el96 ni96 ze3 sz3 by3 (by decide) (by decide) rfl e69 e70 g71 O63) ?_
 rintro v74 H75 ⟨O67, sm73⟩
 refine W.q1 v74 rfl (.nil (.region (W.q2 (.int .i64 (z05 .i64 ((z05 .i64 (x41 + x52)) + x7))) rfl (W.pure (v := (.int .i64 (z05 .i64 (Int.tdiv (z05 .i64 ((z05 .i64 (x41 + x52)) + x7)) 10)))) rfl rfl (zgr (by decide) (oo rfl rfl) (oo rfl rfl)) ?_))))
 obtain ⟨x76, e77, h78⟩ := z6b h72
 refine W.q1 _ (congrArg (Value.int .i64) e77) (.nil (.region (W.q2 _ ((fr32 7 rfl).trans t17) (W.q3 (.int .i64 (z05 .i64 (x8 + 1))) rfl rfl (W.q1 (.int .i64 (z05 .i64 (x8 + 1))) rfl (.nil ?_))))))
 have O79 : Ow G55 H75 (eSl v74 3 (rI .i64) (x6 ++ [Int.tmod (z05 .i64 ((z05 .i64 (x41 + x52)) + x7)) 10]) :: L) := O67.drop 0
 exact ⟨k5, zAg _, ⟨(x6 ++ [Int.tmod (z05 .i64 ((z05 .i64 (x41 + x52)) + x7)) 10]), x76, z05 .i64 (x8 + 1), _, h78, O79, (zAe s14 (zAe s35 (zAe s46 s57))), rfl, rfl⟩⟩
def z80 (K : Nat) (p0 : zAd) (p1 : zAd) : Option zAd := ((z4x K p0).bind fun x1 => ((z4x K p1).bind fun x12 => ((z4h K x1.2.1 x12.2.2).bind fun x23 => ((z4h K x12.2.1 x1.2.2).bind fun x34 => ((z4h K x1.2.2 x12.2.2).bind fun x45 => (if (x1.1 == x12.1) = true then ((z7z K x23 x34).bind fun x58 => ((z7a K x1.1 x58 x45).bind fun x69 => some x69)) else ((z6r K x23 x34).bind fun x81 => (Option.bind ((if (decide (x81 < 0)) = true then some (x12.1, x34, x23) else some (x1.1, x23, x34))) (tu3 fun x98 x99 x100 => ((z6s K x99 x100).bind fun x112 => ((z7a K x98 x112 x45).bind fun x123 => some x123)))))))))))
theorem zdh (p0 : zAd) (p1 : zAd) (O : Ow G H (L)) (r : zAd) (h : z80 K p0 p1 = some r) :
    CR Tryd.prog 16 [(.string p0), (.string p1)] G H (L) (fun v G' _ => v = .string r) := by
 unfold z80 at h
 refine CR.og (n := 57) (fn := Tryd.f16) (by kernel_rfl) rfl rfl fun R kr => (.seq (.region (W.q1 (.string (⟨#[]⟩ : zAd)) rfl (.nil (.seq (.region ?_))))))
 refine W.q2 (.string p0) rfl ?_
 obtain ⟨x1, i2, h3⟩ := z00 h
 refine W.lo rfl rfl (Lo.cP rfl (fn := Tryd.f40) (by kernel_rfl) rfl (mc rfl mn) O (fun L' O' => z62 K p0 O' _ i2)) ?_
 rintro v10 H11 ⟨G4, O5, s6, sm9, rfl⟩
 refine W.q2 (.tuple #[(.bool x1.1), (.string x1.2.1), (.string x1.2.2)]) rfl (W.pure (v := (.bool x1.1)) rfl rfl (z08 (oo rfl rfl) rfl) (W.pure (v := (.string x1.2.1)) rfl rfl (z08 (oo rfl rfl) rfl) (W.pure (v := (.string x1.2.2)) rfl rfl (z08 (oo rfl rfl) rfl) (W.q1 (.bool x1.1) rfl (W.q1 (.string x1.2.1) rfl (W.q1 (.string x1.2.2) rfl ?_))))))
 refine .nil (.seq (.region (W.q2 (.string p1) rfl ?_)))
 obtain ⟨x12, i13, h14⟩ := z00 h3
 refine W.lo rfl rfl (Lo.cP rfl (fn := Tryd.f40) (by kernel_rfl) rfl (mc rfl mn) O5 (fun L' O' => z62 K p1 O' _ i13)) ?_
 rintro v21 H22 ⟨G15, O16, s17, sm20, rfl⟩
 refine W.q2 (.tuple #[(.bool x12.1), (.string x12.2.1), (.string x12.2.2)]) rfl (W.pure (v := (.bool x12.1)) rfl rfl (z08 (oo rfl rfl) rfl) (W.pure (v := (.string x12.2.1)) rfl rfl (z08 (oo rfl rfl) rfl) (W.pure (v := (.string x12.2.2)) rfl rfl (z08 (oo rfl rfl) rfl) (W.q1 (.bool x12.1) rfl (W.q1 (.string x12.2.1) rfl (W.q1 (.string x12.2.2) rfl ?_))))))
 refine .nil (.seq (.region (W.q2 (.string x1.2.1) rfl (W.q2 (.string x12.2.2) rfl ?_))))
 obtain ⟨x23, i24, h25⟩ := z00 h14
 refine W.lo rfl rfl (Lo.cP rfl (fn := Tryd.f44) (by kernel_rfl) rfl (mc rfl (mc rfl mn)) O16 (fun L' O' => z56 K x1.2.1 x12.2.2 O' _ i24)) ?_
 rintro v32 H33 ⟨G26, O27, s28, sm31, rfl⟩
 refine W.q2 (.string x12.2.1) rfl (W.q2 (.string x1.2.2) rfl ?_)
 obtain ⟨x34, i35, h36⟩ := z00 h25
 refine W.lo rfl rfl (Lo.cP rfl (fn := Tryd.f44) (by kernel_rfl) rfl (mc rfl (mc rfl mn)) O27 (fun L' O' => z56 K x12.2.1 x1.2.2 O' _ i35)) ?_
 rintro v43 H44 ⟨G37, O38, s39, sm42, rfl⟩
 refine W.q2 (.string x1.2.2) rfl (W.q2 (.string x12.2.2) rfl ?_)
 obtain ⟨x45, i46, h47⟩ := z00 h36
 refine W.lo rfl rfl (Lo.cP rfl (fn := Tryd.f44) (by kernel_rfl) rfl (mc rfl (mc rfl mn)) O38 (fun L' O' => z56 K x1.2.2 x12.2.2 O' _ i46)) ?_
 rintro v54 H55 ⟨G48, O49, s50, sm53, rfl⟩
 refine W.q1 (.string x23) rfl (W.q1 (.string x34) rfl (W.q1 (.string x45) rfl (.nil (.seq (.seq (.region ?_))))))
 refine W.q2 (.bool x1.1) rfl (W.q2 (.bool x12.1) rfl (W.pure (v := (.bool (x1.1 == x12.1))) rfl rfl (zgk (oo rfl rfl) (oo rfl rfl) un4) (.nil (.cond (b := (x1.1 == x12.1)) rfl rfl (fun g56 => ?_) (fun g56 => ?_)))))
 .have h57 := z03 g56 h47
  refine .seq (.region (W.q2 (.bool x1.1) rfl (W.q2 (.string x23) rfl (W.q2 (.string x34) rfl ?_))))
  obtain ⟨x58, i59, h60⟩ := z00 h57
  refine W.lo rfl rfl (Lo.cP rfl (fn := Tryd.f45) (by kernel_rfl) rfl (mc rfl (mc rfl mn)) O49 (fun L' O' => zdg K x23 x34 O' _ i59)) ?_
  rintro v67 H68 ⟨G61, O62, s63, sm66, rfl⟩
  refine W.q2 (.string x45) rfl ?_
  obtain ⟨x69, i70, h71⟩ := z00 h60
  refine W.lo rfl rfl (Lo.cP rfl (fn := Tryd.f43) (by kernel_rfl) rfl (mc rfl (mc rfl (mc rfl mn))) O62 (fun L' O' => z8p K x1.1 x58 x45 O' _ i70)) ?_
  rintro v78 H79 ⟨G72, O73, s74, sm77, rfl⟩
  refine W.q1 (.string x69) rfl (.nil (.ret ?_))
  obtain rfl := zAa h71
  exact z16 kr (v1 := (.string x69)) (by rfl) (z09 (by rfl) (by exact rfl)) O73 (zAe s6 (zAe s17 (zAe s28 (zAe s39 (zAe s50 (zAe s63 s74)))))) rfl
 have h80 := z0h g56 h47
 refine .skip (.seq (.seq (.region (W.q2 (.string x23) rfl (W.q2 (.string x34) rfl ?_)))))
 obtain ⟨x81, i82, h83⟩ := z00 h80
 refine W.lo rfl rfl (Lo.cP rfl (fn := Tryd.f46) (by kernel_rfl) rfl (mc rfl (mc rfl mn)) O49 (fun L' O' => z9x K x23 x34 O' _ i82)) ?_
 rintro v90 H91 ⟨G84, O85, s86, sm89, rfl⟩
 refine W.q3 (.bool (decide (x81 < 0))) rfl rfl (.nil ?_)
 obtain ⟨q92, h93, h94⟩ := z00 h83
 refine AW.midT (fun σ' H' => ∃ (y1 : Bool) (y2 : zAd) (y3 : zAd) (G' : GM), (y1, y2, y3) = q92 /\ Ow G' H' (L) /\ GM.le G84 G' /\ σ' 5 = .bool y1 /\ σ' 11 = .string y2 /\ σ' 12 = .string y3) ?_ ?_
 .refine .cond (b := decide (x81 < 0)) rfl rfl (fun g95 => ?_) (fun g95 => ?_)
  rotate_left
  .have h97 := z0h g95 h93
   refine .skip ?_
   obtain rfl := zAa h97
   exact ⟨x1.1, x23, x34, _, rfl, O85, (zAf _), rfl, rfl, rfl⟩
  have h96 := z03 g95 h93
  refine .region (W.q2 (.string x34) rfl (W.q2 (.string x23) rfl (W.q2 (.bool x12.1) rfl (W.q1 (.string x34) rfl (W.q1 (.string x23) rfl (W.q1 (.bool x12.1) rfl ?_))))))
  refine .nil ?_
  obtain rfl := zAa h96
  exact ⟨x12.1, x34, x23, _, rfl, O85, (zAf _), rfl, rfl, rfl⟩
 rintro σ101 H102 fr103 ⟨x98, x99, x100, G104, rfl, O105, s106, t108, t109, t110⟩
 have h111 := zes h94
 refine .seq (.region (W.q2 _ t108 (W.q2 _ t109 (W.q2 _ t110 ?_))))
 obtain ⟨x112, i113, h114⟩ := z00 h111
 refine W.lo rfl rfl (Lo.cP rfl (fn := Tryd.f47) (by kernel_rfl) rfl (mc rfl (mc rfl mn)) O105 (fun L' O' => z9y K x99 x100 O' _ i113)) ?_
 rintro v121 H122 ⟨G115, O116, s117, sm120, rfl⟩
 refine W.q2 (.string x45) ((fr103 13 rfl).trans rfl) ?_
 obtain ⟨x123, i124, h125⟩ := z00 h114
 refine W.lo rfl rfl (Lo.cP rfl (fn := Tryd.f43) (by kernel_rfl) rfl (mc rfl (mc rfl (mc rfl mn))) O116 (fun L' O' => z8p K x98 x112 x45 O' _ i124)) ?_
 rintro v132 H133 ⟨G126, O127, s128, sm131, rfl⟩
 refine W.q1 (.string x123) rfl (.nil (.ret ?_))
 obtain rfl := zAa h125
 exact z16 kr (v1 := (.string x123)) (by rfl) (z09 (by rfl) (by exact rfl)) O127 (zAe s6 (zAe s17 (zAe s28 (zAe s39 (zAe s50 (zAe s86 (zAe s106 (zAe s117 s128)))))))) rfl
def z0t (K : Nat) (p0 : List zAd) (p1 : List zAd) : Nat -> zAd -> Int -> Option (Bool ⊕ zAd)
  | 0, _, _ => none
  | k + 1, x193, x194 => (if (decide (x194 < (List.length p0 : Int))) = true then ((idx p0 x194).bind fun x206 => ((idx p1 x194).bind fun x210 => ((z4o K x206 x210).bind fun x214 => ((idx p1 x194).bind fun x230 => ((idx p1 x194).bind fun x234 => ((z6w K x230 x234).bind fun x238 => ((z6w K x206 x238).bind fun x249 => (Option.bind ((if (x214.2 != 0) = true then some true else some (!(sEq x214.1 x249)))) (tu1 fun x267 => (if x267 = true then some (.inl false) else ((z80 K x193 x214.1).bind fun x283 => z0t K p0 p1 k x283 (z05 .i64 (x194 + 1))))))))))))) else some (.inr x193))
def z4i (K : Nat) (p0 : List zAd) (p1 : List zAd) : Option Bool := ((z5k K ).bind fun x1 => (if (!x1) = true then some false else ((z4p K p0 p1).bind fun x15 => ((z4u K p0).bind fun x26 => ((z4u K p1).bind fun x37 => ((z5s K [x26, x37]).bind fun x52 => (Option.bind ((if (x52 == 0) = true then some ((List.length p0 : Int) != (List.length p1 : Int)) else some false)) (tu1 fun x70 => (Option.bind ((if x70 = true then some 3 else some x52)) (tu1 fun x86 => (Option.bind ((if (x86 == 0) = true then ((z0e K p0 (fun x => z2a K x)).bind fun x102 => some x102) else some false)) (tu1 fun x114 => (Option.bind ((if x114 = true then some 4 else some x86)) (tu1 fun x130 => (if (x130 != 0) = true then (Option.bind ((if (x15.2 == x130) = true then some (sEq x15.1 (⟨#[]⟩ : zAd)) else some false)) (tu1 fun x149 => some x149)) else ((z6v K 40 [[p0, p1]]).bind fun x173 => (if x173 = true then some true else (zae (z0t K p0 p1 K (⟨#[48]⟩ : zAd) 0) (tu1 fun a324 => some a324) (tu1 fun x295 => (Option.bind ((if (x15.2 == 0) = true then some (sEq x15.1 x295) else some false)) (tu1 fun x312 => some x312)))))))))))))))))))))
theorem z9c (v0 : Value) (p0 : List zAd) (hp0 : (rSl rS).rep G [v0] p0) (v1 : Value) (p1 : List zAd) (hp1 : (rSl rS).rep G [v1] p1) (O : Ow G H (L)) (r : Bool) (h : z4i K p0 p1 = some r) :
    CR Tryd.prog 3 [v0, v1] G H (L) (fun v G' _ => v = .bool r) := by
 unfold z4i at h
 refine CR.og (n := 102) (fn := Tryd.f3) (by kernel_rfl) rfl rfl fun R kr => (.seq (.region (W.q1 (.bool false) rfl (.nil (.seq (.seq ?_))))))
 refine .region ?_
 obtain ⟨x1, i2, h3⟩ := z00 h
 refine W.lo rfl rfl (Lo.cP rfl (fn := Tryd.f6) (by kernel_rfl) rfl mn O (fun L' O' => zaa K  O' _ i2)) ?_
 rintro v10 H11 ⟨G4, O5, s6, sm9, rfl⟩
 refine W.pure (v := (.bool (!x1))) rfl rfl (zcd (a := x1) (oo rfl rfl)) (.nil (.cond (b := (!x1)) rfl rfl (fun g12 => ?_) (fun g12 => ?_)))
 .have h13 := z03 g12 h3
  refine .seq (.region (W.q1 (.bool false) rfl (.nil (.ret ?_))))
  obtain rfl := zAa h13
  exact z16 kr (v1 := (.bool false)) (by rfl) (z09 (by rfl) (by exact rfl)) O5 s6 rfl
 have h14 := z0h g12 h3
 refine .skip (.seq (.region (W.q2 v0 rfl (W.q2 v1 rfl ?_))))
 obtain ⟨x15, i16, h17⟩ := z00 h14
 refine W.lo rfl rfl (Lo.cP rfl (fn := Tryd.f7) (by kernel_rfl) rfl (mc rfl (mc rfl mn)) O5 (fun L' O' => z8h K v0 p0 (RT.mono _ s6 hp0) v1 p1 (RT.mono _ s6 hp1) O' _ i16)) ?_
 rintro v24 H25 ⟨G18, O19, s20, sm23, rfl⟩
 refine W.q2 (.tuple #[(.string x15.1), (.int .i64 x15.2)]) rfl (W.pure (v := (.string x15.1)) rfl rfl (z08 (oo rfl rfl) rfl) (W.pure (v := (.int .i64 x15.2)) rfl rfl (z08 (oo rfl rfl) rfl) (W.q1 (.string x15.1) rfl (W.q1 (.int .i64 x15.2) rfl (.nil (.seq ?_))))))
 refine .region (W.q2 v0 rfl ?_)
 obtain ⟨x26, i27, h28⟩ := z00 h17
 refine W.lo rfl rfl (Lo.cP rfl (fn := Tryd.f9) (by kernel_rfl) rfl (mc rfl mn) O19 (fun L' O' => z8j K v0 p0 (RT.mono _ (zAe s6 s20) hp0) O' _ i27)) ?_
 rintro v35 H36 ⟨G29, O30, s31, sm34, rfl⟩
 refine W.q2 v1 rfl ?_
 obtain ⟨x37, i38, h39⟩ := z00 h28
 refine W.lo rfl rfl (Lo.cP rfl (fn := Tryd.f9) (by kernel_rfl) rfl (mc rfl mn) O30 (fun L' O' => z8j K v1 p1 (RT.mono _ (zAe s6 (zAe s20 s31)) hp1) O' _ i38)) ?_
 rintro v46 H47 ⟨G40, O41, s42, sm45, rfl⟩
 refine W.lo rfl rfl (Lo.buildSlice (r := (rI .i64)) (vs := [(.int .i64 x26), (.int .i64 x37)]) (xs := [x26, x37]) el71 ze26 sz26 (by kernel_rfl) rfl (qc rfl (qc rfl qn)) rfl (.cons rfl (.cons rfl .nil)) O41) ?_
 rintro v50 H51 ⟨O48, sm49⟩
 obtain ⟨x52, i53, h54⟩ := z00 h39
 refine W.lo rfl rfl (Lo.callB (j := 0) rfl rfl (fn := Tryd.f8) (by kernel_rfl) rfl (mc rfl mn) O48 (fun G' L' hG O' hB => zck K v50 [x26, x37] hB O' _ i53)) ?_
 rintro v61 H62 ⟨G55, O56, s57, sm60, rfl⟩
 refine W.q1 (.int .i64 x52) rfl (.nil (.seq (.seq ?_)))
 obtain ⟨q63, h64, h65⟩ := z00 h54
 refine AW.midT (fun σ' H' => ∃ (y1 : Bool) (G' : GM), y1 = q63 /\ Ow G' H' (eSl v50 26 (rI .i64) [x26, x37] :: L) /\ GM.le G55 G' /\ σ' 36 = .bool y1) ?_ ?_
 .refine .region (W.q2 (.int .i64 x52) rfl (W.q3 (.bool (x52 == 0)) rfl rfl (W.q2 (.bool (x52 == 0)) rfl (W.splitAt (t := 30) (b := (x52 == 0)) rfl (fun g66 gv67 => ?_) (fun g66 gv67 => ?_)))))
  rotate_left
  .have h69 := z0h g66 h64
   refine W.q6 rfl gv67 (W.q6 rfl gv67 (W.q6 rfl gv67 (W.q6 rfl gv67 (W.q6 rfl gv67 (W.q5 (.bool false) gv67 rfl (.nil ?_))))))
   obtain rfl := zAa h69
   exact ⟨false, _, rfl, O56, (zAf _), rfl⟩
  have h68 := z03 g66 h64
  refine W.q2 (hg := gk rfl rfl gv67 rfl) v0 rfl (W.pure (v := (.int .i64 (List.length p0 : Int))) (gk rfl rfl gv67 rfl) rfl (z0p (oo rfl rfl) (z0f (RT.mono _ (zAe s6 (zAe s20 (zAe s31 (zAe s42 s57)))) hp0)) (z06 el23)) (W.q2 (hg := gk rfl rfl gv67 rfl) v1 rfl (W.pure (v := (.int .i64 (List.length p1 : Int))) (gk rfl rfl gv67 rfl) rfl (z0p (oo rfl rfl) (z0f (RT.mono _ (zAe s6 (zAe s20 (zAe s31 (zAe s42 s57)))) hp1)) (z06 el23)) (W.q3 (hg := gk rfl rfl gv67 rfl) (.bool ((List.length p0 : Int) != (List.length p1 : Int))) rfl rfl (W.q4 (.bool ((List.length p0 : Int) != (List.length p1 : Int))) gv67 rfl (.nil ?_))))))
  obtain rfl := zAa h68
  exact ⟨((List.length p0 : Int) != (List.length p1 : Int)), _, rfl, O56, (zAf _), rfl⟩
 rintro σ71 H72 fr73 ⟨x70, G74, rfl, O75, s76, t78⟩
 have h79 := z0d h65
 obtain ⟨q80, h81, h82⟩ := z00 h79
 refine AW.midT (fun σ' H' => ∃ (y1 : Int) (G' : GM), y1 = q80 /\ Ow G' H' (eSl v50 26 (rI .i64) [x26, x37] :: L) /\ GM.le G74 G' /\ σ' 7 = .int .i64 y1) ?_ ?_
 .refine .cond (b := x70) rfl t78 (fun g83 => ?_) (fun g83 => ?_)
  rotate_left
  .have h85 := z0h g83 h81
   refine .skip ?_
   obtain rfl := zAa h85
   exact ⟨x52, _, rfl, O75, (zAf _), ((fr73 7 rfl).trans rfl)⟩
  have h84 := z03 g83 h81
  refine .region (W.q1 (.int .i64 3) rfl (.nil ?_))
  obtain rfl := zAa h84
  exact ⟨3, _, rfl, O75, (zAf _), rfl⟩
 rintro σ87 H88 fr89 ⟨x86, G90, rfl, O91, s92, t94⟩
 have h95 := z0d h82
 refine .seq (.seq ?_)
 obtain ⟨q96, h97, h98⟩ := z00 h95
 refine AW.midT (fun σ' H' => ∃ (y1 : Bool) (G' : GM), y1 = q96 /\ Ow G' H' (eSl v50 26 (rI .i64) [x26, x37] :: L) /\ GM.le G90 G' /\ σ' 42 = .bool y1) ?_ ?_
 .refine .region (W.q2 _ t94 (W.q3 (.bool (x86 == 0)) rfl rfl (W.q2 (.bool (x86 == 0)) rfl (W.splitAt (t := 39) (b := (x86 == 0)) rfl (fun g99 gv100 => ?_) (fun g99 gv100 => ?_)))))
  rotate_left
  .have h113 := z0h g99 h97
   refine W.q6 rfl gv100 (W.q6 rfl gv100 (W.q5 (.bool false) gv100 rfl (.nil ?_)))
   obtain rfl := zAa h113
   exact ⟨false, _, rfl, O91, (zAf _), rfl⟩
  have h101 := z03 g99 h97
  refine W.q2 (hg := gk rfl rfl gv100 rfl) v0 ((fr89 0 rfl).trans ((fr73 0 rfl).trans rfl)) ?_
  obtain ⟨x102, i103, h104⟩ := z00 h101
  refine W.lo (gk rfl rfl gv100 rfl) rfl (Lo.cP rfl (fn := Tryd.f10) (by kernel_rfl) rfl (mc rfl (mc rfl mn)) O91 (fun L' O' => z1r K v0 p0 (RT.mono _ (zAe s6 (zAe s20 (zAe s31 (zAe s42 (zAe s57 (zAe s76 s92)))))) hp0) (.func (.func 11) #[] #[]) (fun x => z2a K x) ⟨11, _, _, Tryd.f11, rfl, by kernel_rfl, rfl, fun G1 H L vs x r hG O hA hF => by obtain rfl := hA; exact z8c K x O _ hF⟩ O' _ i103)) ?_
  rintro v111 H112 ⟨G105, O106, s107, sm110, rfl⟩
  refine W.q4 (.bool x102) gv100 rfl (.nil ?_)
  obtain rfl := zAa h104
  exact ⟨x102, _, rfl, O106, s107, rfl⟩
 rintro σ115 H116 fr117 ⟨x114, G118, rfl, O119, s120, t122⟩
 have h123 := z0d h98
 obtain ⟨q124, h125, h126⟩ := z00 h123
 refine AW.midT (fun σ' H' => ∃ (y1 : Int) (G' : GM), y1 = q124 /\ Ow G' H' (eSl v50 26 (rI .i64) [x26, x37] :: L) /\ GM.le G118 G' /\ σ' 7 = .int .i64 y1) ?_ ?_
 .refine .cond (b := x114) rfl t122 (fun g127 => ?_) (fun g127 => ?_)
  rotate_left
  .have h129 := z0h g127 h125
   refine .skip ?_
   obtain rfl := zAa h129
   exact ⟨x86, _, rfl, O119, (zAf _), ((fr117 7 rfl).trans t94)⟩
  have h128 := z03 g127 h125
  refine .region (W.q1 (.int .i64 4) rfl (.nil ?_))
  obtain rfl := zAa h128
  exact ⟨4, _, rfl, O119, (zAf _), rfl⟩
 rintro σ131 H132 fr133 ⟨x130, G134, rfl, O135, s136, t138⟩
 have h139 := z0d h126
 refine .seq (.seq (.region (W.q2 _ t138 (W.q3 (.bool (x130 != 0)) rfl rfl (.nil (.cond (b := (x130 != 0)) rfl rfl (fun g140 => ?_) (fun g140 => ?_)))))))
 .have h141 := z03 g140 h139
  refine .seq ?_
  obtain ⟨q142, h143, h144⟩ := z00 h141
  refine AW.midT (fun σ' H' => ∃ (y1 : Bool) (G' : GM), y1 = q142 /\ Ow G' H' (eSl v50 26 (rI .i64) [x26, x37] :: L) /\ GM.le G134 G' /\ σ' 4 = .bool y1) ?_ ?_
  rotate_left
  .rintro σ150 H151 fr152 ⟨x149, G153, rfl, O154, s155, t157⟩
   have h158 := z0d h144
   refine .ret ?_
   have O159 : Ow G153 H151 (L) := O154.drop 0
   obtain rfl := zAa h158
   exact z16 kr (v1 := (.bool x149)) (by rfl) (z09 (by rfl) (by exact t157)) O159 (zAe s6 (zAe s20 (zAe s31 (zAe s42 (zAe s57 (zAe s76 (zAe s92 (zAe s120 (zAe s136 s155))))))))) rfl
  refine .region (W.q2 (.int .i64 x15.2) ((fr133 6 rfl).trans ((fr117 6 rfl).trans ((fr89 6 rfl).trans ((fr73 6 rfl).trans rfl)))) (W.q2 _ t138 (W.q3 (.bool (x15.2 == x130)) rfl rfl (W.q2 (.bool (x15.2 == x130)) rfl (W.splitAt (t := 48) (b := (x15.2 == x130)) rfl (fun g145 gv146 => ?_) (fun g145 gv146 => ?_))))))
  rotate_left
  .have h148 := z0h g145 h143
   refine W.q6 rfl gv146 (W.q6 rfl gv146 (W.q5 (.bool false) gv146 rfl (W.q1 (.bool false) rfl (.nil ?_))))
   obtain rfl := zAa h148
   exact ⟨false, _, rfl, O135, (zAf _), rfl⟩
  have h147 := z03 g145 h143
  refine W.q2 (hg := gk rfl rfl gv146 rfl) (.string x15.1) ((fr133 5 rfl).trans ((fr117 5 rfl).trans ((fr89 5 rfl).trans ((fr73 5 rfl).trans rfl)))) (W.pure (v := (.bool (sEq x15.1 (⟨#[]⟩ : zAd)))) (gk rfl rfl gv146 rfl) rfl (z6c (oo rfl rfl) (oo rfl rfl)) (W.q4 (.bool (sEq x15.1 (⟨#[]⟩ : zAd))) gv146 rfl (W.q1 (.bool (sEq x15.1 (⟨#[]⟩ : zAd))) rfl (.nil ?_))))
  obtain rfl := zAa h147
  exact ⟨sEq x15.1 (⟨#[]⟩ : zAd), _, rfl, O135, (zAf _), rfl⟩
 have h160 := z0h g140 h139
 refine .skip (.seq (.seq (.region (W.q2 v0 ((fr133 0 rfl).trans ((fr117 0 rfl).trans ((fr89 0 rfl).trans ((fr73 0 rfl).trans rfl)))) (W.q2 v1 ((fr133 1 rfl).trans ((fr117 1 rfl).trans ((fr89 1 rfl).trans ((fr73 1 rfl).trans rfl)))) (W.lo rfl rfl (Lo.buildSlice (r := (rSl rS)) (vs := [v0, v1]) (xs := [p0, p1]) el36 ze23 sz23 (by kernel_rfl) rfl (qc rfl (qc rfl qn)) rfl (.cons (z4c (RT.mono _ (zAe s6 (zAe s20 (zAe s31 (zAe s42 (zAe s57 (zAe s76 (zAe s92 (zAe s120 s136)))))))) hp0)) (.cons (z4c (RT.mono _ (zAe s6 (zAe s20 (zAe s31 (zAe s42 (zAe s57 (zAe s76 (zAe s92 (zAe s120 s136)))))))) hp1)) .nil)) O135) ?_))))))
 rintro v163 H164 ⟨O161, sm162⟩
 obtain ⟨G166, O167, s168, f169⟩ := O161.frzSl (j := 0) rfl
 refine W.lo rfl rfl (Lo.buildSlice (r := (rSl (rSl rS))) (vs := [v163]) (xs := [[p0, p1]]) el75 ze36 sz36 (by kernel_rfl) rfl (qc rfl qn) rfl (.cons (z4c f169) .nil) O167) ?_
 rintro v171 H172 ⟨O165, sm170⟩
 obtain ⟨x173, i174, h175⟩ := z00 h160
 refine W.lo rfl rfl (Lo.callB (j := 0) rfl rfl (fn := Tryd.f13) (by kernel_rfl) rfl (mc rfl (mc rfl mn)) O165 (fun G' L' hG O' hB => zdf K 40 v171 [[p0, p1]] hB O' _ i174)) ?_
 rintro v182 H183 ⟨G176, O177, s178, sm181, rfl⟩
 refine .nil (.cond (b := x173) rfl rfl (fun g184 => ?_) (fun g184 => ?_))
 .have h185 := z03 g184 h175
  refine .seq (.region (W.q1 (.bool true) rfl (.nil (.ret ?_))))
  have O186 : Ow G176 H183 (eSl v50 26 (rI .i64) [x26, x37] :: L) := O177.drop 0
  have O187 : Ow G176 H183 (L) := O186.drop 0
  obtain rfl := zAa h185
  exact z16 kr (v1 := (.bool true)) (by rfl) (z09 (by rfl) (by exact rfl)) O187 (zAe s6 (zAe s20 (zAe s31 (zAe s42 (zAe s57 (zAe s76 (zAe s92 (zAe s120 (zAe s136 (zAe s168 s178)))))))))) rfl
 have h188 := z0h g184 h175
 refine .skip (.seq (.region (W.q1 (.string (⟨#[48]⟩ : zAd)) rfl (.nil (.seq (.seq ?_))))))
 refine .region (W.q2 v0 ((fr133 0 rfl).trans ((fr117 0 rfl).trans ((fr89 0 rfl).trans ((fr73 0 rfl).trans rfl)))) (W.pure (v := (.int .i64 (List.length p0 : Int))) rfl rfl (z0p (oo rfl rfl) (z0f (RT.mono _ (zAe s6 (zAe s20 (zAe s31 (zAe s42 (zAe s57 (zAe s76 (zAe s92 (zAe s120 (zAe s136 (zAe s168 s178)))))))))) hp0)) (z06 el23)) (W.q2 (.int .i64 0) rfl (.nil ?_))))
 obtain ⟨q189, h190, h191⟩ := z2p h188
 refine AW.midT (fun σ' H' => ∃ (y1 : zAd) (G' : GM), (.inr y1) = q189 /\ Ow G' H' (eSl v171 36 (rSl (rSl rS)) [[p0, p1]] :: eSl v50 26 (rI .i64) [x26, x37] :: L) /\ GM.le G176 G' /\ σ' 8 = .string y1) ?_ ?_
 rotate_left
 .rintro σ296 H297 fr298 ⟨x295, G299, rfl, O300, s301, t303⟩
  have h304 := z0d (z8a h191)
  refine .seq ?_
  obtain ⟨q305, h306, h307⟩ := z00 h304
  refine AW.midT (fun σ' H' => ∃ (y1 : Bool) (G' : GM), y1 = q305 /\ Ow G' H' (eSl v171 36 (rSl (rSl rS)) [[p0, p1]] :: eSl v50 26 (rI .i64) [x26, x37] :: L) /\ GM.le G299 G' /\ σ' 4 = .bool y1) ?_ ?_
  rotate_left
  .rintro σ313 H314 fr315 ⟨x312, G316, rfl, O317, s318, t320⟩
   have h321 := z0d h307
   refine .ret ?_
   have O322 : Ow G316 H314 (eSl v50 26 (rI .i64) [x26, x37] :: L) := O317.drop 0
   have O323 : Ow G316 H314 (L) := O322.drop 0
   obtain rfl := zAa h321
   exact z16 kr (v1 := (.bool x312)) (by rfl) (z09 (by rfl) (by exact t320)) O323 (zAe s6 (zAe s20 (zAe s31 (zAe s42 (zAe s57 (zAe s76 (zAe s92 (zAe s120 (zAe s136 (zAe s168 (zAe s178 (zAe s301 s318)))))))))))) rfl
  refine .region (W.q2 (.int .i64 x15.2) ((fr298 6 rfl).trans ((fr133 6 rfl).trans ((fr117 6 rfl).trans ((fr89 6 rfl).trans ((fr73 6 rfl).trans rfl))))) (W.q3 (.bool (x15.2 == 0)) rfl rfl (W.q2 (.bool (x15.2 == 0)) rfl (W.splitAt (t := 97) (b := (x15.2 == 0)) rfl (fun g308 gv309 => ?_) (fun g308 gv309 => ?_)))))
  rotate_left
  .have h311 := z0h g308 h306
   refine W.q6 rfl gv309 (W.q6 rfl gv309 (W.q6 rfl gv309 (W.q5 (.bool false) gv309 rfl (W.q1 (.bool false) rfl (.nil ?_)))))
   obtain rfl := zAa h311
   exact ⟨false, _, rfl, O300, (zAf _), rfl⟩
  have h310 := z03 g308 h306
  refine W.q2 (hg := gk rfl rfl gv309 rfl) (.string x15.1) ((fr298 5 rfl).trans ((fr133 5 rfl).trans ((fr117 5 rfl).trans ((fr89 5 rfl).trans ((fr73 5 rfl).trans rfl))))) (W.q2 (hg := gk rfl rfl gv309 rfl) _ t303 (W.pure (v := (.bool (sEq x15.1 x295))) (gk rfl rfl gv309 rfl) rfl (z6c (oo rfl rfl) (oo rfl rfl)) (W.q4 (.bool (sEq x15.1 x295)) gv309 rfl (W.q1 (.bool (sEq x15.1 x295)) rfl (.nil ?_)))))
  obtain rfl := zAa h310
  exact ⟨sEq x15.1 x295, _, rfl, O300, (zAf _), rfl⟩
 refine .block (AW.loop (α := Nat) (fun k' σ' H' => ∃ (y1 : zAd) (y2 : Int) (G' : GM), z0t K p0 p1 k' y1 y2 = some q189 /\ Ow G' H' (eSl v171 36 (rSl (rSl rS)) [[p0, p1]] :: eSl v50 26 (rI .i64) [x26, x37] :: L) /\ GM.le G176 G' /\ σ' 8 = .string y1 /\ σ' 59 = .int .i64 y2) (fun k' => k') K ⟨(⟨#[48]⟩ : zAd), 0, _, h190, O177, (zAf _), rfl, rfl⟩ ?_)
 rintro k192
 rintro σ195 H196 fr197 ⟨x193, x194, G198, h201, O199, s200, t202, t203⟩
 rcases k192 with _ | k192
 .exact z0a h201
 rw [z0t] at h201
 refine .seq (.region (W.q3 (.bool (decide (x194 < (List.length p0 : Int)))) t203 ((fr197 58 rfl).trans rfl) (.nil (.seq (.cond (b := decide (x194 < (List.length p0 : Int))) rfl rfl (fun g204 => ?_) (fun g204 => ?_))))))
 rotate_left
 .have h294 := z0h g204 h201
  refine .exit ?_
  obtain rfl := zAa h294
  exact ⟨x193, _, rfl, O199, s200, t202⟩
 have h205 := z03 g204 h201
 refine .skip (.seq (.block (.seq (.region (W.q2 _ t203 ?_)))))
 obtain ⟨x206, i207, h208⟩ := z00 h205
 have j209 := z0g i207
 refine W.pure (v := (z2t v0 (Int.toNat x194 * 1))) rfl rfl (z3b el23 sz25 (oo rfl ((fr197 57 rfl).trans rfl)) (oo rfl t203) (z0f (RT.mono _ (zAe s6 (zAe s20 (zAe s31 (zAe s42 (zAe s57 (zAe s76 (zAe s92 (zAe s120 (zAe s136 (zAe s168 (zAe s178 s200))))))))))) hp0)) j209.1 j209.2.1) (W.load1 (v := (.string x206)) (r := []) rfl rfl ag25 (z0q rfl (At.str (At.le (At.le (z1m hp0 j209.2.2) (zAe s6 (zAe s20 (zAe s31 (zAe s42 (zAe s57 (zAe s76 (zAe s92 (zAe s120 (zAe s136 (zAe s168 (zAe s178 s200))))))))))) (zAe s6 (zAe s20 (zAe s31 (zAe s42 (zAe s57 (zAe s76 (zAe s92 (zAe s120 (zAe s136 (zAe s168 (zAe s178 s200)))))))))))) (zAf _) O199.fro))) (W.q1 (.int .i64 x194) rfl (W.q1 (.string x206) rfl (.nil (.seq (.region ?_))))))
 refine W.q2 (.string x206) rfl (W.q2 v1 ((fr197 1 rfl).trans ((fr133 1 rfl).trans ((fr117 1 rfl).trans ((fr89 1 rfl).trans ((fr73 1 rfl).trans rfl))))) (W.q2 (.int .i64 x194) rfl ?_))
 obtain ⟨x210, i211, h212⟩ := z00 h208
 have j213 := z0g i211
 refine W.pure (v := (z2t v1 (Int.toNat x194 * 1))) rfl rfl (z3b el23 sz25 (oo rfl rfl) (oo rfl rfl) (z0f (RT.mono _ (zAe s6 (zAe s20 (zAe s31 (zAe s42 (zAe s57 (zAe s76 (zAe s92 (zAe s120 (zAe s136 (zAe s168 (zAe s178 s200))))))))))) hp1)) j213.1 j213.2.1) (W.load1 (v := (.string x210)) (r := []) rfl rfl ag25 (z0q rfl (At.str (At.le (At.le (z1m hp1 j213.2.2) (zAe s6 (zAe s20 (zAe s31 (zAe s42 (zAe s57 (zAe s76 (zAe s92 (zAe s120 (zAe s136 (zAe s168 (zAe s178 s200))))))))))) (zAe s6 (zAe s20 (zAe s31 (zAe s42 (zAe s57 (zAe s76 (zAe s92 (zAe s120 (zAe s136 (zAe s168 (zAe s178 s200)))))))))))) (zAf _) O199.fro))) ?_)
 obtain ⟨x214, i215, h216⟩ := z00 h212
 refine W.lo rfl rfl (Lo.cP rfl (fn := Tryd.f14) (by kernel_rfl) rfl (mc rfl (mc rfl mn)) O199 (fun L' O' => z8g K x206 x210 O' _ i215)) ?_
 rintro v223 H224 ⟨G217, O218, s219, sm222, rfl⟩
 refine W.q2 (.tuple #[(.string x214.1), (.int .i64 x214.2)]) rfl (W.pure (v := (.string x214.1)) rfl rfl (z08 (oo rfl rfl) rfl) (W.pure (v := (.int .i64 x214.2)) rfl rfl (z08 (oo rfl rfl) rfl) (W.q1 (.string x214.1) rfl (W.q1 (.int .i64 x214.2) rfl (.nil (.seq ?_))))))
 refine .seq (.draw2 (M := [0, 0, 0, 6, 14, 0, 0, 96, 224, 510, 1023, 2047]) mixed (by kernel_rfl) (by kernel_rfl) fun H225 N229 x226 F228 => ?_)
 have O227 := O218.ext x226
 refine D2.q2 (.string x206) rfl (D2.q2 v1 ((fr197 1 rfl).trans ((fr133 1 rfl).trans ((fr117 1 rfl).trans ((fr89 1 rfl).trans ((fr73 1 rfl).trans rfl))))) (D2.q2 (.int .i64 x194) rfl ?_))
 obtain ⟨x230, i231, h232⟩ := z00 h216
 have j233 := z0g i231
 refine D2.pure (v := (z2t v1 (Int.toNat x194 * 1))) rfl rfl (z3b el23 sz25 (oo rfl rfl) (oo rfl rfl) (z0f (RT.mono _ (zAe s6 (zAe s20 (zAe s31 (zAe s42 (zAe s57 (zAe s76 (zAe s92 (zAe s120 (zAe s136 (zAe s168 (zAe s178 (zAe s200 s219)))))))))))) hp1)) j233.1 j233.2.1) (D2.load1' (v := (.string x230)) (r := []) rfl rfl ag25 (z0q rfl (At.str (At.le (At.le (z1m hp1 j233.2.2) (zAe s6 (zAe s20 (zAe s31 (zAe s42 (zAe s57 (zAe s76 (zAe s92 (zAe s120 (zAe s136 (zAe s168 (zAe s178 (zAe s200 s219)))))))))))) (zAe s6 (zAe s20 (zAe s31 (zAe s42 (zAe s57 (zAe s76 (zAe s92 (zAe s120 (zAe s136 (zAe s168 (zAe s178 (zAe s200 s219))))))))))))) (zAf _) O227.fro))) z02 (D2.q2 v1 ((fr197 1 rfl).trans ((fr133 1 rfl).trans ((fr117 1 rfl).trans ((fr89 1 rfl).trans ((fr73 1 rfl).trans rfl))))) (D2.q2 (.int .i64 x194) rfl ?_)))
 obtain ⟨x234, i235, h236⟩ := z00 h232
 have j237 := z0g i235
 refine D2.pure (v := (z2t v1 (Int.toNat x194 * 1))) rfl rfl (z3b el23 sz25 (oo rfl rfl) (oo rfl rfl) (z0f (RT.mono _ (zAe s6 (zAe s20 (zAe s31 (zAe s42 (zAe s57 (zAe s76 (zAe s92 (zAe s120 (zAe s136 (zAe s168 (zAe s178 (zAe s200 s219)))))))))))) hp1)) j237.1 j237.2.1) (D2.load1' (v := (.string x234)) (r := []) rfl rfl ag25 (z0q rfl (At.str (At.le (At.le (z1m hp1 j237.2.2) (zAe s6 (zAe s20 (zAe s31 (zAe s42 (zAe s57 (zAe s76 (zAe s92 (zAe s120 (zAe s136 (zAe s168 (zAe s178 (zAe s200 s219)))))))))))) (zAe s6 (zAe s20 (zAe s31 (zAe s42 (zAe s57 (zAe s76 (zAe s92 (zAe s120 (zAe s136 (zAe s168 (zAe s178 (zAe s200 s219))))))))))))) (zAf _) O227.fro))) z02 ?_)
 obtain ⟨x238, i239, h240⟩ := z00 h236
 refine D2.lo rfl rfl (Lo.cP rfl (fn := Tryd.f15) (by kernel_rfl) rfl (mc rfl (mc rfl mn)) O227 (fun L' O' => za0 K x230 x234 O' _ i239)) ?_ z02 ?_ ?_
 .rintro v247 H248 ⟨G241, O242, s243, sm246, rfl⟩; exact (faR1 (.inl (by decide)) (faR1 (.inl (by decide)) z02))
 .rintro v247 H248 ⟨G241, O242, s243, sm246, rfl⟩; exact z02
 rintro v247 H248 ⟨G241, O242, s243, sm246, rfl⟩
 obtain ⟨x249, i250, h251⟩ := z00 h240
 refine D2.lo rfl rfl (Lo.cP rfl (fn := Tryd.f15) (by kernel_rfl) rfl (mc rfl (mc rfl mn)) O242 (fun L' O' => za0 K x206 x238 O' _ i250)) ?_ (z07 (by decide) z02) ?_ ?_
 .rintro v258 H259 ⟨G252, O253, s254, sm257, rfl⟩; exact (faR1 (.inl (by decide)) (faR1 (.inl (by decide)) z02))
 .rintro v258 H259 ⟨G252, O253, s254, sm257, rfl⟩; exact z02
 rintro v258 H259 ⟨G252, O253, s254, sm257, rfl⟩
 refine D2.q1 (.string x249) rfl (.nil (.seq ?_))
 obtain ⟨q260, h261, h262⟩ := z00 h251
 refine AW.midT (fun σ' H' => ∃ (y1 : Bool) (G' : GM), y1 = q260 /\ Ow G' H' (eSl v171 36 (rSl (rSl rS)) [[p0, p1]] :: eSl v50 26 (rI .i64) [x26, x37] :: L) /\ GM.le G252 G' /\ σ' 90 = .bool y1) ?_ ?_
 .refine .region (W.q2 (.int .i64 x214.2) rfl (W.q3 (.bool (x214.2 != 0)) rfl rfl (W.q2 (.bool (x214.2 != 0)) rfl (W.splitAt (t := 86) (b := (x214.2 != 0)) rfl (fun g263 gv264 => ?_) (fun g263 gv264 => ?_)))))
  .have h265 := z03 g263 h261
   refine W.q6 rfl gv264 (W.q6 rfl gv264 (W.q6 rfl gv264 (W.q4 (.bool true) gv264 rfl (.nil ?_))))
   obtain rfl := zAa h265
   exact ⟨true, _, rfl, O253, (zAf _), rfl⟩
  have h266 := z0h g263 h261
  refine W.q2 (hg := gk rfl rfl gv264 rfl) (.string x214.1) rfl (W.q2 (hg := gk rfl rfl gv264 rfl) (.string x249) rfl (W.pure (v := (.bool (!(sEq x214.1 x249)))) (gk rfl rfl gv264 rfl) rfl (ziu (oo rfl rfl) (oo rfl rfl)) (W.q5 (.bool (!(sEq x214.1 x249))) gv264 rfl (.nil ?_))))
  obtain rfl := zAa h266
  exact ⟨(!(sEq x214.1 x249)), _, rfl, O253, (zAf _), rfl⟩
 rintro σ268 H269 fr270 ⟨x267, G271, rfl, O272, s273, t275⟩
 have h276 := z0d h262
 refine .cond (b := x267) rfl t275 (fun g277 => ?_) (fun g277 => ?_)
 .have h278 := z03 g277 h276
  refine .seq (.region (W.q1 (.bool false) rfl (.nil (.ret ?_))))
  have O279 : Ow G271 H269 (eSl v50 26 (rI .i64) [x26, x37] :: L) := O272.drop 0
  have O280 : Ow G271 H269 (L) := O279.drop 0
  obtain rfl := zAa h278
  have h281 := z0d (z7i h191)
  obtain rfl := zAa h281
  exact z16 kr (v1 := (.bool false)) (by rfl) (z09 (by rfl) (by exact rfl)) O280 (zAe s6 (zAe s20 (zAe s31 (zAe s42 (zAe s57 (zAe s76 (zAe s92 (zAe s120 (zAe s136 (zAe s168 (zAe s178 (zAe s200 (zAe s219 (zAe s243 (zAe s254 s273))))))))))))))) rfl
 have h282 := z0h g277 h276
 refine .skip (.region (W.q2 _ ((fr270 8 rfl).trans t202) (W.q2 (.string x214.1) ((fr270 11 rfl).trans rfl) ?_)))
 obtain ⟨x283, i284, h285⟩ := z00 h282
 refine W.lo rfl rfl (Lo.cP rfl (fn := Tryd.f16) (by kernel_rfl) rfl (mc rfl (mc rfl mn)) O272 (fun L' O' => zdh K x193 x214.1 O' _ i284)) ?_
 rintro v292 H293 ⟨G286, O287, s288, sm291, rfl⟩
 refine W.q1 (.string x283) rfl (.nil (.region (W.q3 (.int .i64 (z05 .i64 (x194 + 1))) ((fr270 59 rfl).trans t203) rfl (W.q2 (.int .i64 (z05 .i64 (x194 + 1))) rfl (.nil ?_)))))
 exact ⟨k192, zAg _, ⟨x283, z05 .i64 (x194 + 1), _, h285, O287, (zAe s200 (zAe s219 (zAe s243 (zAe s254 (zAe s273 s288))))), rfl, rfl⟩⟩
end Go.Am.Tryd
/- Numbers: digits in a base, the least one first; decimal texts. Plain, no program. -/
namespace Go.Am
open Go
def valB (B : Int) : List Int -> Int
 | [] => 0
 | d :: l => d + B * valB B l
def DigB (B : Int) (l : List Int) : Prop := ∀ d ∈ l, 0 <= d /\ d < B
theorem DigB.nil (B : Int) : DigB B [] := fun d h => by simp at h
theorem DigB.cons {B d : Int} {l : List Int} (h : DigB B (d :: l)) : (0 <= d /\ d < B) /\ DigB B l := ⟨h d (by simp), fun x hx => h x (by simp [hx])⟩
theorem DigB.app {B : Int} {l m : List Int} (h : DigB B l) (k : DigB B m) : DigB B (l ++ m) := fun d hd => by
 rcases List.mem_append.1 hd with hd | hd
 ·exact h d hd
 ·exact k d hd
theorem z5b (B : Int) : ∀ (l m : List Int), valB B (l ++ m) = valB B l + B ^ l.length * valB B m
 | [], m => by simp [valB]
 | d :: l, m => by
  simp only [List.cons_append, valB, z5b B l m, List.length_cons, Int.pow_succ]
  rw [Int.mul_add, <- Int.mul_assoc, Int.mul_comm B (B ^ l.length), Int.add_assoc]
theorem z12 {B : Int} (hB : 0 < B) : ∀ (l : List Int), DigB B l -> 0 <= valB B l
 | [], _ => Int.le_refl _
 | d :: l, h => by
  have h1 := (h.cons).1
  have h2 := z12 hB l h.cons.2
  have := Int.mul_nonneg (Int.le_of_lt hB) h2
  simp only [valB]; omega
theorem z4j {B : Int} (hB : 0 < B) : ∀ (l : List Int), DigB B l -> valB B l < B ^ l.length
 | [], _ => by simp [valB]
 | d :: l, h => by
  have h1 := (h.cons).1
  have h2 := z4j hB l h.cons.2
  have h3 : B * (valB B l + 1) <= B * B ^ l.length := Int.mul_le_mul_of_nonneg_left (by omega) (Int.le_of_lt hB)
  rw [Int.mul_add, Int.mul_one] at h3
  simp only [valB, List.length_cons, Int.pow_succ]
  rw [Int.mul_comm (B ^ l.length) B]
  omega
def CanB (B : Int) (l : List Int) : Prop := DigB B l /\ l.getLast? ≠ some 0
theorem CanB.tail {B d : Int} {l : List Int} (h : CanB B (d :: l)) : CanB B l := by
 refine ⟨h.1.cons.2, fun e => h.2 ?_⟩
 cases l with
 | nil => simp at e
 | cons x l => rw [List.getLast?_cons_cons]; exact e
theorem zb0 {B : Int} (hB : 1 < B) : ∀ (l : List Int), CanB B l -> l ≠ [] -> 0 < valB B l
 | [], _, h => absurd rfl h
 | d :: l, h, _ => by
  have h1 := h.1.cons.1
  cases l with
  | nil =>
   have : d ≠ 0 := fun e => h.2 (by simp [e])
   simp only [valB]; omega
  | cons x l =>
   have h2 := zb0 hB (x :: l) h.tail (by simp)
   have h3 : B * 1 <= B * valB B (x :: l) := Int.mul_le_mul_of_nonneg_left (by omega) (by omega)
   simp only [valB] at h2 h3 ⊢; omega
theorem zkg {B d e x y : Int} (hd : 0 <= d /\ d < B) (he : 0 <= e /\ e < B) (h : d + B * x = e + B * y) : d = e /\ x = y := by
 have h1 : x = y := by
  rcases Int.lt_trichotomy x y with h2 | h2 | h2
  ·have : B * (x + 1) <= B * y := Int.mul_le_mul_of_nonneg_left (by omega) (by omega)
   rw [Int.mul_add, Int.mul_one] at this; omega
  ·exact h2
  ·have : B * (y + 1) <= B * x := Int.mul_le_mul_of_nonneg_left (by omega) (by omega)
   rw [Int.mul_add, Int.mul_one] at this; omega
 subst h1
 exact ⟨by omega, rfl⟩
theorem zkh {B : Int} (hB : 1 < B) : ∀ (l m : List Int), CanB B l -> CanB B m -> valB B l = valB B m -> l = m
 | [], [], _, _, _ => rfl
 | [], e :: m, _, h2, h => by
  have := zb0 hB (e :: m) h2 (by simp)
  rw [<- h] at this; simp [valB] at this
 | d :: l, [], h1, _, h => by
  have := zb0 hB (d :: l) h1 (by simp)
  rw [h] at this; simp [valB] at this
 | d :: l, e :: m, h1, h2, h => by
  obtain ⟨rfl, h3⟩ := zkg h1.1.cons.1 h2.1.cons.1 h
  rw [zkh hB l m h1.tail h2.tail h3]
def digT (c : Int) : Bool := decide (48 <= c) && decide (c <= 57)
def z5c (s : zAd) : List Int := ((z04 s).map (· - 48)).reverse
def numT (s : zAd) : Int := valB 10 (z5c s)
def CanT (s : zAd) : Prop := s.size ≠ 0 /\ (z04 s).all digT = true /\ ((z04 s).head? = some 48 -> s.size = 1)
theorem z3n {a b : zAd} (h : z04 a = z04 b) : a = b := by
 unfold z04 at h
 have h1 : a.data.toList = b.data.toList := by
  have : Function.Injective fun b : UInt8 => (b.toNat : Int) := fun x y h => by
   have : x.toNat = y.toNat := by have h' : (x.toNat : Int) = (y.toNat : Int) := h; omega
   exact UInt8.toNat_inj.1 this
  exact List.map_inj_right (fun x y h => this h) |>.1 h
 cases a; cases b
 congr 1
 exact Array.toList_inj.1 h1
theorem z7b {s : zAd} (h : (z04 s).all digT = true) : DigB 10 (z5c s) := by
 intro d hd
 unfold z5c at hd
 rw [List.mem_reverse, List.mem_map] at hd
 obtain ⟨c, hc, rfl⟩ := hd
 have := List.all_eq_true.1 h c hc
 simp only [digT, Bool.and_eq_true, decide_eq_true_eq] at this
 omega
theorem z4y (s : zAd) : (z5c s).length = s.size := by
 unfold z5c
 rw [List.length_reverse, List.length_map, z01]
theorem zex {a b : zAd} (h : z5c a = z5c b) : a = b := by
 unfold z5c at h
 have h1 := List.reverse_inj.1 h
 exact z3n (List.map_inj_right (fun x y h => by omega) |>.1 h1)
theorem z87 {s : zAd} (h : CanT s) (h0 : (z04 s).head? = some 48) : z5c s = [0] := by
 have h1 := h.2.2 h0
 have hl := z01 s
 rw [h1] at hl
 match hb : z04 s, hl with
 | [c], _ => rw [hb] at h0; simp at h0; subst h0; simp [z5c, hb]
theorem zcm {s : zAd} (h : CanT s) (h0 : (z04 s).head? ≠ some 48) : CanB 10 (z5c s) := by
 refine ⟨z7b h.2.1, fun e => h0 ?_⟩
 unfold z5c at e
 rw [List.getLast?_reverse, List.head?_map] at e
 cases hb : (z04 s).head? with
 | none => rw [hb] at e; cases e
 | some c => rw [hb] at e; simp at e; congr 1; omega
theorem z8q {a b : zAd} (ha : CanT a) (hb : CanT b) (h : numT a = numT b) : a = b := by
 have pos : ∀ s : zAd, CanT s -> (z04 s).head? ≠ some 48 -> 0 < numT s := fun s hs h0 => zb0 (by omega) _ (zcm hs h0) (fun e => by
  have := z4y s
  rw [e] at this
  exact hs.1 this.symm)
 by_cases h1 : (z04 a).head? = some 48 <;> by_cases h2 : (z04 b).head? = some 48
 ·exact zex (by rw [z87 ha h1, z87 hb h2])
 ·have := pos b hb h2
  unfold numT at h this
  rw [z87 ha h1] at h
  simp [valB] at h; omega
 ·have := pos a ha h1
  unfold numT at h this
  rw [z87 hb h2] at h
  simp [valB] at h; omega
 ·exact zex (zkh (by omega) _ _ (zcm ha h1) (zcm hb h2) h)
theorem z2o (a : zAd) (i j : Nat) : z04 (a.extract i j) = ((z04 a).drop i).take (j - i) := by
 unfold z04
 rw [ByteArray.data_extract, Array.toList_extract]
 simp [List.extract, List.map_drop, List.map_take]
theorem z0u (a b : zAd) : z04 (a ++ b) = z04 a ++ z04 b := by
 unfold z04
 rw [ByteArray.data_append, Array.toList_append, List.map_append]
theorem zbt (xs : List Int) (h : ∀ x ∈ xs, 0 <= x /\ x <= 255) : z04 (strOfNums xs) = xs := by
 unfold z04
 rw [strOfNums_data, List.map_map]
 conv => rhs; rw [<- List.map_id xs]
 apply List.map_congr_left
 intro x hx
 have := h x hx
 show ((UInt8.ofNat x.toNat).toNat : Int) = x
 rw [UInt8.toNat_ofNat']
 omega
theorem zb1 {s : zAd} {c : Int} {l : List Int} (h : z04 s = c :: l) : ∃ t, ssl s 1 (s.size : Int) = some t /\ z04 t = l /\ t.size = l.length := by
 have hn := z01 s
 rw [h] at hn
 simp at hn
 refine ⟨s.extract 1 s.size, ?_, ?_, ?_⟩
 ·unfold ssl
  rw [if_pos (by omega)]
  simp
 ·rw [z2o, h]
  simp
  exact List.take_of_length_le (by omega)
 ·rw [<- z01, z2o, h]
  simp
  omega
theorem zix {s t : zAd} {c : Int} (h : z04 s = c :: z04 t) : numT s = numT t + 10 ^ t.size * (c - 48) := by
 unfold numT z5c
 rw [h, List.map_cons, List.reverse_cons, z5b]
 simp [valB, z01]
end Go.Am
/- Graphs: connected parts, their numbers, closure of a matrix, ways. Plain, no program. -/
namespace Go.Am
open Go
def Edg (l : List (Int × Int)) (U : Nat -> Bool) (a b : Nat) : Prop := ∃ k, k < l.length /\ U k = true /\ (l.getD k (0, 0) = ((a : Int), (b : Int)) \/ l.getD k (0, 0) = ((b : Int), (a : Int)))
inductive Con (l : List (Int × Int)) (U : Nat -> Bool) : Nat -> Nat -> Prop
 | refl (a : Nat) : Con l U a a
 | tail {a b c : Nat} : Con l U a b -> Edg l U b c -> Con l U a c
structure Outer (l : List (Int × Int)) (U : Nat -> Bool) (n : Nat) (cs : List Int) (m s : Nat) : Prop where
 len : cs.length = n
 rng : ∀ i < n, -1 <= cs.getD i 0 /\ cs.getD i 0 < m
 done : ∀ i < s, i < n -> 0 <= cs.getD i 0
 cls : ∀ i j, i < n -> j < n -> 0 <= cs.getD i 0 -> (cs.getD i 0 = cs.getD j 0 ↔ Con l U i j)
 last : 0 < m -> ∃ j < s, j < n /\ cs.getD j 0 = (m : Int) - 1
 rgs : ∀ i < n, 0 < cs.getD i 0 -> ∃ j < i, cs.getD j 0 = cs.getD i 0 - 1
 few : m <= s
structure Mid (l : List (Int × Int)) (U : Nat -> Bool) (n : Nat) (base : List Int) (m s : Nat) (cs : List Int) : Prop where
 len : cs.length = n
 own : ∀ i < n, (cs.getD i 0 = m /\ base.getD i 0 = -1 /\ Con l U s i) \/ cs.getD i 0 = base.getD i 0
 start : cs.getD s 0 = m
theorem z7c {cs : List Int} {i j : Nat} {v : Int} (hi : i < cs.length) : (cs.set i v).getD j 0 = if j = i then v else cs.getD j 0 := by
 rw [zAb, List.getElem?_set]
 by_cases h : i = j
 ·subst h; simp [hi]
 ·rw [if_neg h, if_neg (fun e => h e.symm), zAb]
theorem Edg.symm {l : List (Int × Int)} {U : Nat -> Bool} {a b : Nat} (h : Edg l U a b) : Edg l U b a := by
 obtain ⟨k, h1, h2, h3⟩ := h
 exact ⟨k, h1, h2, h3.symm⟩
theorem Con.trans {l : List (Int × Int)} {U : Nat -> Bool} {a b c : Nat} (h : Con l U a b) (k : Con l U b c) : Con l U a c := by
 induction k with
 | refl => exact h
 | tail _ e ih => exact .tail ih e
theorem Con.symm {l : List (Int × Int)} {U : Nat -> Bool} {a b : Nat} (h : Con l U a b) : Con l U b a := by
 induction h with
 | refl => exact .refl _
 | tail _ e ih => exact (Con.tail (.refl _) e.symm).trans ih
structure EqvOn (M : Nat -> Nat -> Bool) (n : Nat) : Prop where
 refl : ∀ a < n, M a a = true
 symm : ∀ a b, a < n -> b < n -> M a b = true -> M b a = true
 trans : ∀ a b c, a < n -> b < n -> c < n -> M a b = true -> M b c = true -> M a c = true
structure NumOk (M : Nat -> Nat -> Bool) (cs : List Int) (m i : Nat) : Prop where
 len : cs.length = i
 rng : ∀ a < i, 0 <= cs.getD a 0 /\ cs.getD a 0 < m
 cls : ∀ a b, a < i -> b < i -> (cs.getD a 0 = cs.getD b 0 ↔ M a b = true)
 last : 0 < m -> ∃ a < i, cs.getD a 0 = (m : Int) - 1
 rgs : ∀ a < i, 0 < cs.getD a 0 -> ∃ b < a, cs.getD b 0 = cs.getD a 0 - 1
 few : m <= i
structure WOk (l : List (Int × Int)) (U : Nat -> Bool) (n : Nat) (M : Nat -> Nat -> Bool) (m : Nat) : Prop where
 sound : ∀ a b, a < n -> b < n -> M a b = true -> Con l U a b
 refl : ∀ a < n, M a a = true
 edge : ∀ a b, a < n -> b < n -> Edg l U a b -> M a b = true
 tr : ∀ c < m, ∀ a b, a < n -> b < n -> M a c = true -> M c b = true -> M a b = true
def Wk (l : List (Int × Int)) (U : Nat -> Bool) (to : Nat) : Nat -> Nat -> Prop
 | 0, v => v = to
 | k + 1, v => ∃ w, Edg l U v w /\ Wk l U to k w
structure FarOk (l : List (Int × Int)) (U : Nat -> Bool) (n to : Nat) (fs : List Int) (d : Nat) : Prop where
 len : fs.length = n
 rng : ∀ v < n, -1 <= fs.getD v 0
 fnd : ∀ v < n, ∀ k : Nat, fs.getD v 0 = k -> k <= d /\ Wk l U to k v /\ ∀ j < k, ¬ Wk l U to j v
 nof : ∀ v < n, fs.getD v 0 = -1 -> ∀ j ≤ d, ¬ Wk l U to j v
structure Rnd (l : List (Int × Int)) (U : Nat -> Bool) (n to : Nat) (fs gs : List Int) (d : Nat) : Prop where
 len : gs.length = n
 old : ∀ v < n, gs.getD v 0 = fs.getD v 0 \/ (fs.getD v 0 = -1 /\ gs.getD v 0 = (d : Int) + 1 /\ Wk l U to (d + 1) v)
def neg (n : Nat) (fs : List Int) : Nat := ((List.range n).filter fun v => fs.getD v 0 == -1).length
theorem ze7 {S R : Type} (n : Nat) (l : Nat -> S -> Int -> Option R) (I : S -> Nat -> Prop) (Q : R -> Prop)
  (h : ∀ k s (i : Nat), i < n -> I s i -> (∃ r, l (k + 1) s (i : Int) = some r /\ Q r) \/ ∃ s', I s' (i + 1) /\ l (k + 1) s (i : Int) = l k s' ((i + 1 : Nat) : Int))
  (h0 : ∀ k s (i : Nat), i = n -> I s i -> ∃ r, l (k + 1) s (i : Int) = some r /\ Q r) : ∀ k s, n < k -> I s 0 -> ∃ r, l k s 0 = some r /\ Q r := by
 have key : ∀ d k s (i : Nat), n - i = d -> i <= n -> d < k -> I s i -> ∃ r, l k s (i : Int) = some r /\ Q r := by
  intro d
  induction d with
  | zero =>
   intro k s i hd hi hk hI
   obtain ⟨k, rfl⟩ : ∃ m, k = m + 1 := ⟨k - 1, by omega⟩
   exact h0 k s i (by omega) hI
  | succ d ih =>
   intro k s i hd hi hk hI
   obtain ⟨k, rfl⟩ : ∃ m, k = m + 1 := ⟨k - 1, by omega⟩
   rcases h k s i (by omega) hI with h1 | ⟨s', h1, h2⟩
   ·exact h1
   ·rw [h2]; exact ih k s' (i + 1) (by omega) (by omega) (by omega) h1
 intro k s hk hI
 exact key n k s 0 (by omega) (Nat.zero_le _) hk hI
theorem zlb {S R : Type} (l : Nat -> S -> Option R) (I : S -> Prop) (mu : S -> Nat) (Q : R -> Prop)
  (h : ∀ k s, I s -> (∃ r, l (k + 1) s = some r /\ Q r) \/ ∃ s', I s' /\ mu s' < mu s /\ l (k + 1) s = l k s') : ∀ k s, mu s < k -> I s -> ∃ r, l k s = some r /\ Q r := by
 intro k
 induction k with
 | zero => intro s h1; omega
 | succ k ih =>
  intro s h1 hI
  rcases h k s hI with h2 | ⟨s', h2, h3, h4⟩
  ·exact h2
  ·rw [h4]; exact ih s' (by omega) h2
def two (p : Int × Int) : List Int := [p.1, p.2]
theorem zh7 {cs : List Int} {a : Nat} (h : a < cs.length) : idx cs (a : Int) = some (cs.getD a 0) := by
 apply z5e
 simp [h, zAb]
end Go.Am
/- Plain lemmas: rules for typed functions over whole numbers; digits set in place; the guess of a digit of a quotient. -/
namespace Go.Am
open Go
theorem z0i {α β : Type} (a : α) (f : α -> Option β) : Option.bind (some a) f = f a := (rfl)
theorem tu0a {β : Type} (g : Option β) (u : Unit) : tu0 g u = g := (rfl)
theorem tu1a {α β : Type} (g : α -> Option β) (a : α) : tu1 g a = g a := (rfl)
theorem tu2a {α1 α2 β : Type} (g : α1 -> α2 -> Option β) (p : α1 × α2) : tu2 g p = g p.1 p.2 := (rfl)
theorem tu3a {α1 α2 α3 β : Type} (g : α1 -> α2 -> α3 -> Option β) (p : α1 × α2 × α3) : tu3 g p = g p.1 p.2.1 p.2.2 := (rfl)
theorem tu4a {α1 α2 α3 α4 β : Type} (g : α1 -> α2 -> α3 -> α4 -> Option β) (p : α1 × α2 × α3 × α4) : tu4 g p = g p.1 p.2.1 p.2.2.1 p.2.2.2 := (rfl)
theorem tu5a {α1 α2 α3 α4 α5 β : Type} (g : α1 -> α2 -> α3 -> α4 -> α5 -> Option β) (p : α1 × α2 × α3 × α4 × α5) : tu5 g p = g p.1 p.2.1 p.2.2.1 p.2.2.2.1 p.2.2.2.2 := (rfl)
theorem lta {α β : Type} (x : α) (f : α -> Option β) : lt x f = f x := (rfl)
theorem zfq {α β γ : Type} (a : α) (f : α -> Option γ) (g : β -> Option γ) : zae (some (.inl a)) f g = f a := (rfl)
theorem ze8 {α β γ : Type} (b : β) (f : α -> Option γ) (g : β -> Option γ) : zae (some (.inr b)) f g = g b := (rfl)
theorem zn6 {α β γ : Type} (a : α) (f : α -> Option γ) (g : β -> Option γ) : outS (.inl a) f g = f a := (rfl)
theorem zn7 {α β γ : Type} (b : β) (f : α -> Option γ) (g : β -> Option γ) : outS (.inr b) f g = g b := (rfl)
theorem zlc {α : Type} [BEq α] [LawfulBEq α] {a b : α} : ((a == b) = true) = (a = b) := propext beq_iff_eq
theorem zld {a b : Int} : ((a != b) = true) = (a ≠ b) := by simp
theorem k64 {a : Int} (h1 : -9223372036854775808 <= a) (h2 : a <= 9223372036854775807) : z05 .i64 a = a := kw h1 h2
theorem ku64 {a : Int} (h1 : 0 <= a) (h2 : a <= 18446744073709551615) : z05 .u64 a = a := z73 (by simp [z8w]; omega)
theorem ku32 {a : Int} (h1 : 0 <= a) (h2 : a <= 4294967295) : z05 .u32 a = a := z73 (by simp [z8w]; omega)
theorem ku8 {a : Int} (h1 : 0 <= a) (h2 : a <= 255) : z05 .u8 a = a := z73 (by simp [z8w]; omega)
theorem i64w {a : Int} (h1 : -9223372036854775808 <= a) (h2 : a <= 9223372036854775807) : IntKind.wrap .i64 a = a := by rw [<- z6z]; exact k64 h1 h2
theorem u64w {a : Int} (h1 : 0 <= a) (h2 : a <= 18446744073709551615) : IntKind.wrap .u64 a = a := by rw [<- z6z]; exact ku64 h1 h2
theorem u32w {a : Int} (h1 : 0 <= a) (h2 : a <= 4294967295) : IntKind.wrap .u32 a = a := by rw [<- z6z]; exact ku32 h1 h2
theorem u8w {a : Int} (h1 : 0 <= a) (h2 : a <= 255) : IntKind.wrap .u8 a = a := by rw [<- z6z]; exact ku8 h1 h2
theorem idxI {xs : List Int} {j : Int} (h1 : 0 <= j) (h2 : j < (xs.length : Int)) : idx xs j = some (xs.getD j.toNat 0) := by
 unfold idx
 rw [if_neg (by omega), zAb, zAh (by omega)]
 rfl
theorem zm2 {s : zAd} {j : Int} (h1 : 0 <= j) (h2 : j < (s.size : Int)) : bidx s j = some ((z04 s).getD j.toNat 0) := by
 rw [z95]; exact idxI h1 (by rw [z01]; exact h2)
theorem lslI {α : Type} {xs : List α} {l h : Int} (h1 : 0 <= l) (h2 : l <= h) (h3 : h <= (xs.length : Int)) : lsl xs l h = some ((xs.drop l.toNat).take (h.toNat - l.toNat)) := by unfold lsl; rw [if_pos ⟨h1, h2, h3⟩]
theorem sslI {s : zAd} {l h : Int} (h1 : 0 <= l) (h2 : l <= h) (h3 : h <= (s.size : Int)) : ssl s l h = some (s.extract l.toNat h.toNat) := by unfold ssl; rw [if_pos ⟨h1, h2, h3⟩]
theorem zmm {a b : Int} (h : 0 <= a) : Int.tdiv a b = a / b := Int.tdiv_eq_ediv_of_nonneg h
theorem zn8 {a b : Int} (h : 0 <= a) : Int.tmod a b = a % b := Int.tmod_eq_emod_of_nonneg h
theorem za1 {S R : Type} (l : Nat -> S -> Option R) (I : S -> Prop) (mu : S -> Nat) (Q : R -> Prop)
  (h : ∀ k s, I s -> (∃ r, l (k + 1) s = some r /\ Q r) \/ ∃ s', l (k + 1) s = l k s' /\ mu s' < mu s /\ I s') {k : Nat} (s : S) (hk : mu s < k) (hI : I s) : ∃ r, l k s = some r /\ Q r :=
 zlb l I mu Q (fun k s hs => (h k s hs).imp id fun ⟨s', a, b, c⟩ => ⟨s', c, b, a⟩) k s hk hI
theorem z1s {B : Int} (hB : 0 < B) {x : List Int} (h : DigB B x) (k : Nat) : 0 <= x.getD k 0 /\ x.getD k 0 < B := by
 by_cases hk : k < x.length
 ·rw [zAb, zAh hk]; exact h _ (List.getElem_mem hk)
 ·rw [zAb, List.getElem?_eq_none (by omega)]; exact ⟨Int.le_refl _, hB⟩
theorem z6f (B : Int) : ∀ (l : List Int) (p : Nat) (d : Int), p < l.length -> valB B (l.set p d) = valB B l + B ^ p * (d - l.getD p 0)
 | [], p, d, h => by simp at h
 | x :: l, 0, d, _ => by simp [valB]; omega
 | x :: l, p + 1, d, h => by
  have := z6f B l p d (by simpa using h)
  simp only [List.set_cons_succ, valB, this, List.getD_cons_succ, Int.pow_succ]
  grind
theorem DigB.set {B d : Int} {l : List Int} (h : DigB B l) (p : Nat) (hd : 0 <= d /\ d < B) : DigB B (l.set p d) := fun x hx => by
 rcases List.mem_or_eq_of_mem_set hx with h1 | h1
 ·exact h x h1
 ·subst h1; exact hd
theorem DigB.take {B : Int} {l : List Int} (h : DigB B l) (k : Nat) : DigB B (l.take k) := fun x hx => h x (List.mem_of_mem_take hx)
theorem DigB.drop {B : Int} {l : List Int} (h : DigB B l) (k : Nat) : DigB B (l.drop k) := fun x hx => h x (List.mem_of_mem_drop hx)
theorem DigB.snoc {B d : Int} {l : List Int} (h : DigB B l) (hd : 0 <= d /\ d < B) : DigB B (l ++ [d]) := h.app fun x hx => by simp at hx; omega
theorem z81 (B : Int) (l : List Int) (k : Nat) (hk : k <= l.length) : valB B l = valB B (l.take k) + B ^ k * valB B (l.drop k) := by
 conv => lhs; rw [<- List.take_append_drop k l]
 rw [z5b, List.length_take, Nat.min_eq_left hk]
theorem z9d (B : Int) (n : Nat) : valB B (List.replicate n 0) = 0 := by
 induction n with
 | zero => rfl
 | succ n ih => simp [List.replicate_succ, valB, ih]
theorem DigB.zeros {B : Int} (hB : 0 < B) (n : Nat) : DigB B (List.replicate n 0) := fun x hx => by
 rw [List.mem_replicate] at hx; omega
theorem z36 (B : Int) (x : List Int) (k : Nat) : valB B (x.take (k + 1)) = valB B (x.take k) + B ^ k * x.getD k 0 := by
 by_cases h : k < x.length
 ·have hx : x[k]? = some x[k] := zAh h
  rw [List.take_add_one, hx, z5b, List.length_take, Nat.min_eq_left (by omega), zAb, hx]
  simp [valB]
 ·rw [List.take_of_length_le (by omega), List.take_of_length_le (by omega), zAb, List.getElem?_eq_none (by omega)]
  simp
theorem z88 (B : Int) (x : List Int) (d : Int) : valB B (x ++ [d]) = valB B x + B ^ x.length * d := by rw [z5b]; simp [valB]
theorem z9e (l : List Int) (h : l ≠ []) : ∃ r d, l = r ++ [d] := by
 rcases List.eq_nil_or_concat l with rfl | ⟨r, d, rfl⟩
 ·exact absurd rfl h
 ·exact ⟨r, d, by simp⟩
theorem zh8 {B : Int} (hB : 1 < B) {l : List Int} (h : CanB B l) (h0 : l ≠ []) : B ^ (l.length - 1) <= valB B l := by
 obtain ⟨r, d, rfl⟩ := z9e l h0
 have hd : d ≠ 0 := fun e => h.2 (by simp [e])
 have hd2 := h.1 d (by simp)
 have hr := z12 (B := B) (by omega) r (fun x hx => h.1 x (by simp [hx]))
 have e : (r ++ [d]).length - 1 = r.length := by simp
 rw [z88, e]
 have h1 : B ^ r.length * 1 <= B ^ r.length * d := Int.mul_le_mul_of_nonneg_left (by omega) (Int.le_of_lt (Int.pow_pos (by omega)))
 omega
theorem zmf {B : Int} (hB : 1 < B) {l : List Int} (h : DigB B l) (h0 : l ≠ []) (hv : B ^ (l.length - 1) <= valB B l) : CanB B l := by
 refine ⟨h, fun e => ?_⟩
 obtain ⟨r, d, rfl⟩ := z9e l h0
 have hd : d = 0 := by simpa using e
 have hr := z4j (B := B) (by omega) r (fun x hx => h x (by simp [hx]))
 have e : (r ++ [(0 : Int)]).length - 1 = r.length := by simp
 rw [z88, hd, e] at hv
 omega
theorem z6x {B : Int} (hB : 0 < B) {i j : Nat} (h : i <= j) : B ^ i <= B ^ j := by
 obtain ⟨m, rfl⟩ : ∃ m, j = i + m := ⟨j - i, by omega⟩
 rw [Int.pow_add]
 have p1 : 0 < B ^ m := Int.pow_pos hB
 have p2 : 0 < B ^ i := Int.pow_pos hB
 have := Int.mul_le_mul_of_nonneg_left (show 1 <= B ^ m by omega) (Int.le_of_lt p2)
 omega
theorem zh9 {B : Int} (hB : 1 < B) {l m : List Int} (h : DigB B l) (hm : CanB B m) (hl : l.length < m.length) : valB B l < valB B m := by
 have h1 := z4j (B := B) (by omega) l h
 have h2 := zh8 hB hm (by intro e; subst e; simp at hl)
 have h3 : B ^ l.length <= B ^ (m.length - 1) := by
  obtain ⟨j, hj⟩ : ∃ j, m.length - 1 = l.length + j := ⟨m.length - 1 - l.length, by omega⟩
  rw [hj, Int.pow_add]
  have p1 : 0 < B ^ j := Int.pow_pos (by omega)
  have p2 : 0 < B ^ l.length := Int.pow_pos (by omega)
  have := Int.mul_le_mul_of_nonneg_left (show 1 <= B ^ j by omega) (Int.le_of_lt p2)
  omega
 omega
theorem zdi {B : Int} (hB : 1 < B) {l m : List Int} (h : CanB B l) (hm : DigB B m) (hv : valB B l <= valB B m) : l.length <= m.length := by
 refine Nat.not_lt.1 fun hl => ?_
 have := zh9 hB hm h hl
 omega
theorem z3a {a b c : Int} (hc : 0 <= c) (h : a <= b) : c * a <= c * b := Int.mul_le_mul_of_nonneg_left h hc
theorem z8d {a b : Int} (ha : 0 <= a) (hb : 0 <= b) : 0 <= a * b := Int.mul_nonneg ha hb
structure Kn (B P v1 v2 vl top u3 ul q : Int) : Prop where
 B1 : 1 < B
 P0 : 0 < P
 v1p : 1 <= v1
 v2p : 0 <= v2
 v2b : v2 < B
 vlp : 0 <= vl
 vlb : vl < P
 tp : 0 <= top
 u3p : 0 <= u3
 u3b : u3 < B
 ulp : 0 <= ul
 ulb : ul < P
 q0 : 0 <= q
 qB : q < B
 lo : q * (P * (B * v1 + v2) + vl) <= P * (B * top + u3) + ul
 hi : P * (B * top + u3) + ul < (q + 1) * (P * (B * v1 + v2) + vl)
section
variable {B P v1 v2 vl top u3 ul q g r : Int}
theorem Kn.first (h : Kn B P v1 v2 vl top u3 ul q) : q <= top / v1 := by
 obtain ⟨B1, P0, v1p, v2p, v2b, vlp, vlb, tp, u3p, u3b, ulp, ulb, q0, qB, lo, hi⟩ := h
 rw [Int.le_ediv_iff_mul_le (by omega)]
 refine Int.le_of_lt_add_one (Int.not_le.1 fun hc => ?_)
 have a1 := z3a (Int.le_of_lt (Int.mul_pos P0 (show 0 < B by omega))) hc
 have a2 := z8d (Int.le_of_lt P0) (z8d q0 v2p)
 have a3 := z8d q0 vlp
 have a4 := z3a (Int.le_of_lt P0) (show u3 <= B - 1 by omega)
 grind
theorem Kn.down (h : Kn B P v1 v2 vl top u3 ul q) (hr : top = g * v1 + r) (hg : 0 <= g) (hc : g * v2 > r * B + u3) : q < g := by
 obtain ⟨B1, P0, v1p, v2p, v2b, vlp, vlb, tp, u3p, u3b, ulp, ulb, q0, qB, lo, hi⟩ := h
 refine Int.not_le.1 fun hq => ?_
 have hV : 0 <= P * (B * v1 + v2) + vl := by
  have := z8d (Int.le_of_lt P0) (show 0 <= B * v1 + v2 from by have := z8d (show 0 <= B by omega) (show 0 <= v1 by omega); omega)
  omega
 have a1 := z3a hV hq
 have a2 := z3a (Int.le_of_lt P0) (show r * B + u3 + 1 <= g * v2 by omega)
 have a3 := z8d hg vlp
 subst hr
 grind
theorem Kn.exitA (h : Kn B P v1 v2 vl top u3 ul q) (hr : top = g * v1 + r) (hg : 0 <= g) (hB : g < B) (hc : g * v2 <= r * B + u3) : g <= q + 1 := by
 obtain ⟨B1, P0, v1p, v2p, v2b, vlp, vlb, tp, u3p, u3b, ulp, ulb, q0, qB, lo, hi⟩ := h
 refine Int.not_lt.1 fun hq => ?_
 have hV : 0 <= P * (B * v1 + v2) + vl := by
  have := z8d (Int.le_of_lt P0) (show 0 <= B * v1 + v2 from by have := z8d (show 0 <= B by omega) (show 0 <= v1 by omega); omega)
  omega
 have a1 := z3a hV (show q + 1 <= g - 1 by omega)
 have a2 := z3a (Int.le_of_lt P0) hc
 have a3 := z3a hg (show vl <= P - 1 by omega)
 have a4 := z3a (Int.le_of_lt P0) (show g <= B - 1 by omega)
 have a5 := z3a (Int.le_of_lt (Int.mul_pos P0 (show 0 < B by omega))) v1p
 have a6 := z8d (Int.le_of_lt P0) v2p
 subst hr
 grind
theorem Kn.exitB (h : Kn B P v1 v2 vl top u3 ul q) (hr : top = g * v1 + r) (hg : 0 <= g) (hB : g <= B) (hc : B <= r) : g <= q := by
 obtain ⟨B1, P0, v1p, v2p, v2b, vlp, vlb, tp, u3p, u3b, ulp, ulb, q0, qB, lo, hi⟩ := h
 refine Int.not_lt.1 fun hq => ?_
 have hV : 0 <= P * (B * v1 + v2) + vl := by
  have := z8d (Int.le_of_lt P0) (show 0 <= B * v1 + v2 from by have := z8d (show 0 <= B by omega) (show 0 <= v1 by omega); omega)
  omega
 have a1 := z3a hV (show q + 1 <= g by omega)
 have hPg := z8d (Int.le_of_lt P0) hg
 have a2 := z3a hPg (show v2 <= B - 1 by omega)
 have a3 := z3a hg (show vl <= P - 1 by omega)
 have a4 := z3a (Int.le_of_lt (Int.mul_pos P0 (show 0 < B by omega))) (show g <= r by omega)
 have a6 := z8d (Int.le_of_lt P0) u3p
 subst hr
 grind
end
set_option linter.defProp false in
def runL := And.intro @decide_eq_true_eq (And.intro @if_pos.{1} (And.intro @if_neg.{1} (And.intro @if_true.{1} (And.intro @if_false.{1} (And.intro @z0i (And.intro @zlc (And.intro @zld (And.intro @idxI (And.intro @zm2 (And.intro @sslI (And.intro @lslI (And.intro @k64 (And.intro @ku64 (And.intro @ku32 (And.intro @ku8 (And.intro @i64w (And.intro @u64w (And.intro @u32w (And.intro @u8w (And.intro @zmm (And.intro @zn8 (And.intro @tu0a (And.intro @tu1a (And.intro @tu2a (And.intro @tu3a (And.intro @tu4a (And.intro @tu5a (And.intro @lta (And.intro @zfq (And.intro @ze8 (And.intro @zn6 (And.intro @zn7 (And.intro @Int.toNat_natCast (And.intro @List.length_cons.{0} (And.intro @List.length_nil.{0} (And.intro @List.length_set.{0} (And.intro @Int.toNat_zero (@List.replicate_zero.{0}))))))))))))))))))))))))))))))))))))))
end Go.Am
/- Plain law: the program's numbers: digits in the base 10^9. -/
namespace Go.Am.Tryd
open Go Go.Am Go.Proofs
variable {K : Nat}
def NumN (n : Int) (l : List Int) : Prop := CanB 1000000000 l /\ valB 1000000000 l = n
theorem NumN.inj {n : Int} {l m : List Int} (h : NumN n l) (k : NumN n m) : l = m := zkh (B := 1000000000) (by omega) l m h.1 k.1 (h.2.trans k.2.symm)
theorem NumN.nonneg {n : Int} {l : List Int} (h : NumN n l) : 0 <= n := by rw [<- h.2]; exact z12 (by omega) l h.1.1
theorem NumN.nil : NumN 0 [] := ⟨⟨DigB.nil _, by simp⟩, rfl⟩
theorem NumN.pos {n : Int} {l : List Int} (h : NumN n l) (h0 : l ≠ []) : 0 < n := by rw [<- h.2]; exact zb0 (by omega) l h.1 h0
theorem NumN.nil_iff {n : Int} {l : List Int} (h : NumN n l) : l = [] ↔ n = 0 := by
 constructor
 ·rintro rfl; exact h.2.symm
 ·intro e; by_cases h0 : l = []
  ·exact h0
  ·have := h.pos h0; omega
theorem NumN.len0 {n : Int} {l : List Int} (h : NumN n l) : l.length = 0 ↔ n = 0 := by rw [<- h.nil_iff, List.length_eq_zero_iff]
theorem NumN.one {n : Int} (h : 0 < n) (h2 : n < 1000000000) : NumN n [n] := ⟨⟨fun d hd => by simp at hd; omega, by simp; omega⟩, by simp [valB]⟩
theorem ziy {B : Int} : ∀ n k (l : List Int), l.length = n -> n <= 8000000 -> n < k -> DigB B l -> ∃ t, z2m K k l = some t /\ CanB B t /\ valB B t = valB B l /\ t.length <= l.length := by
 intro n
 induction n with
 | zero =>
  intro k l hl _ hk hd
  obtain ⟨k, rfl⟩ : ∃ m, k = m + 1 := ⟨k - 1, by omega⟩
  have : l = [] := List.length_eq_zero_iff.1 hl
  subst this
  exact ⟨[], by rw [z2m]; simp [tu1], ⟨hd, by simp⟩, rfl, Nat.le_refl _⟩
 | succ n ih =>
  intro k l hl hb hk hd
  obtain ⟨k, rfl⟩ : ∃ m, k = m + 1 := ⟨k - 1, by omega⟩
  obtain ⟨r, d, rfl⟩ : ∃ r d, l = r ++ [d] := z9e l (by intro e; subst e; simp at hl)
  have hr : r.length = n := by simpa using hl
  have e1 : z05 .i64 (((r ++ [d]).length : Int) - 1) = (n : Int) := by rw [hl, kw (by omega) (by omega)]; omega
  have e2 : idx (r ++ [d]) (n : Int) = some d := z5e (by simp [<- hr])
  have e3 : lsl (r ++ [d]) 0 (n : Int) = some r := by
   unfold lsl
   rw [if_pos (by rw [hl]; omega)]
   simp [<- hr]
  have e4 : ((r ++ [d]).length : Int) > 0 := by rw [hl]; omega
  have dr : DigB B r := fun x hx => hd x (by simp [hx])
  rw [z2m, e1, e2, e3, decide_eq_true e4]
  by_cases h0 : d = 0
  ·obtain ⟨t, h1, h2, h3, h4⟩ := ih k r hr (by omega) (by omega) dr
   refine ⟨t, by simp [h0, tu1, h1], h2, ?_, by simp; omega⟩
   rw [h3, z5b, h0]; simp [valB]
  ·exact ⟨r ++ [d], by simp [h0, tu1], ⟨hd, by simpa using h0⟩, rfl, Nat.le_refl _⟩
theorem zb2 {B : Int} {l : List Int} (hl : l.length <= 8000000) (hK : 2000000000 < K) (hd : DigB B l) : ∃ t, z1u K l = some t /\ CanB B t /\ valB B t = valB B l /\ t.length <= l.length := by
 obtain ⟨t, h1, h2⟩ := ziy (K := K) l.length K l rfl hl (by omega) hd
 exact ⟨t, by unfold z1u; rw [h1]; rfl, h2⟩
theorem ziz {x y : List Int} (hlen : y.length <= x.length) (hx : x.length <= 4000000) (hK : 2000000000 < K) (dx : DigB 1000000000 x) (dy : DigB 1000000000 y) :
  ∃ r : List Int × Int, z20 K x y K [] 0 0 = some r /\ r.1.length = x.length /\ DigB 1000000000 r.1 /\ (0 <= r.2 /\ r.2 <= 1) /\ valB 1000000000 r.1 + 1000000000 ^ x.length * r.2 = valB 1000000000 x + valB 1000000000 y := by
 refine za1 (fun k (s : List Int × Int × Int) => z20 K x y k s.1 s.2.1 s.2.2) (fun s => ∃ i : Nat, s.2.2 = i /\ i <= x.length /\ s.1.length = i /\ DigB 1000000000 s.1 /\ (0 <= s.2.1 /\ s.2.1 <= 1) /\ valB 1000000000 s.1 + 1000000000 ^ i * s.2.1 = valB 1000000000 (x.take i) + valB 1000000000 (y.take i)) (fun s => x.length - s.1.length) _ ?_ (([], 0, 0) : List Int × Int × Int) (by simp; omega) ⟨0, rfl, by omega, rfl, DigB.nil _, ⟨by simp, by simp⟩, by simp [valB]⟩
 rintro k ⟨out, c, _⟩ ⟨i, rfl, h0, h1, h2, h3, h4⟩
 dsimp only at h1 h2 h3 h4 ⊢
 by_cases hi : i < x.length
 ·right
  have ex := z1s (by omega) dx i
  have ey := z1s (by omega) dy i
  have tx := z36 1000000000 x i
  have ty := z36 1000000000 y i
  have hy : ¬ i < y.length -> y.getD i 0 = 0 := fun h => by rw [zAb, List.getElem?_eq_none (by omega)]; rfl
  refine ⟨(out ++ [(x.getD i 0 + c + y.getD i 0) % 1000000000], (x.getD i 0 + c + y.getD i 0) / 1000000000, (i : Int) + 1), ?_, by simp; omega, i + 1, rfl, by omega, by simp [h1], h2.snoc (by omega), by dsimp only; omega, ?_⟩
  ·rw [z20]
   by_cases h : i < y.length
   ·simp (discharger := omega) only [runL]
   ·have e := hy h
    simp (discharger := omega) only [runL, e, Int.add_zero]
  ·have hm := Int.emod_add_mul_ediv (x.getD i 0 + c + y.getD i 0) 1000000000
   dsimp only
   rw [z88, h1, tx, ty, Int.pow_succ]
   grind
 ·left
  refine ⟨(out, c), ?_, by dsimp only; omega, h2, h3, ?_⟩
  ·rw [z20]; simp [hi]
  ·have : i = x.length := by omega
   subst this
   rwa [List.take_of_length_le (Nat.le_refl _), List.take_of_length_le hlen] at h4
theorem zha {x y : List Int} {a b : Int} (hlen : y.length <= x.length) (hx : x.length <= 4000000) (hK : 2000000000 < K) (nx : NumN a x) (ny : NumN b y) :
  ∃ r : List Int × Int, z20 K x y K [] 0 0 = some r /\ r.1.length = x.length /\ NumN (a + b) (if r.2 > 0 then r.1 ++ [r.2] else r.1) := by
 obtain ⟨⟨r, c⟩, h1, h2, h3, h4, h5⟩ := ziz hlen hx hK nx.1.1 ny.1.1
 dsimp only at h2 h3 h4 h5
 rw [nx.2, ny.2] at h5
 refine ⟨_, h1, h2, ?_⟩
 dsimp only
 by_cases hc : c > 0
 ·rw [if_pos hc]
  have e : c = 1 := by omega
  subst e
  refine ⟨⟨h3.snoc (by omega), by simp⟩, ?_⟩
  rw [z88, h2]
  exact h5
 ·rw [if_neg hc]
  have e : c = 0 := by omega
  subst e
  rw [Int.mul_zero, Int.add_zero] at h5
  refine ⟨?_, h5⟩
  by_cases h0 : r = []
  ·subst h0; exact ⟨h3, by simp⟩
  ·refine zmf (by omega) h3 h0 ?_
   have h6 := zh8 (B := 1000000000) (by omega) nx.1 (by rintro rfl; exact h0 (List.length_eq_zero_iff.1 h2))
   have h7 := ny.nonneg
   rw [nx.2] at h6
   rw [h2, h5]
   omega
theorem zle {x y : List Int} {a b : Int} (hx : x.length <= 4000000) (hy : y.length <= 4000000) (hK : 2000000000 < K) (nx : NumN a x) (ny : NumN b y) : ∃ z, z6n K x y = some z /\ NumN (a + b) z /\ z.length <= max x.length y.length + 1 := by
 unfold z6n
 by_cases h : x.length < y.length
 ·obtain ⟨⟨r, c⟩, h1, h2, h3⟩ := zha (K := K) (x := y) (y := x) (by omega) hy (by omega) ny nx
  dsimp only at h2 h3
  rw [Int.add_comm b a] at h3
  by_cases hc : c > 0
  ·rw [if_pos hc] at h3
   exact ⟨r ++ [c], by simp (discharger := omega) only [runL, h1], h3, by simp; omega⟩
  ·rw [if_neg hc] at h3
   exact ⟨r, by simp (discharger := omega) only [runL, h1], h3, by omega⟩
 ·obtain ⟨⟨r, c⟩, h1, h2, h3⟩ := zha (K := K) (x := x) (y := y) (by omega) hx (by omega) nx ny
  dsimp only at h2 h3
  by_cases hc : c > 0
  ·rw [if_pos hc] at h3
   exact ⟨r ++ [c], by simp (discharger := omega) only [runL, h1], h3, by simp; omega⟩
  ·rw [if_neg hc] at h3
   exact ⟨r, by simp (discharger := omega) only [runL, h1], h3, by omega⟩
theorem zj0 {x y : List Int} (hx : x.length <= 4000000) (hK : 2000000000 < K) (dx : DigB 1000000000 x) (dy : DigB 1000000000 y) :
  ∃ r : List Int, z21 K x y K (List.replicate x.length 0) 0 0 = some r /\ r.length = x.length /\ DigB 1000000000 r /\ ∃ c : Int, (0 <= c /\ c <= 1) /\ valB 1000000000 r + valB 1000000000 (y.take x.length) = valB 1000000000 x + 1000000000 ^ x.length * c := by
 refine za1 (fun k (s : List Int × Int × Int) => z21 K x y k s.1 s.2.1 s.2.2) (fun s => ∃ i : Nat, s.2.2 = i /\ i <= x.length /\ s.1.length = x.length /\ DigB 1000000000 s.1 /\ (∀ j, i <= j -> s.1.getD j 0 = 0) /\ (0 <= s.2.1 /\ s.2.1 <= 1) /\ valB 1000000000 s.1 + valB 1000000000 (y.take i) = valB 1000000000 (x.take i) + 1000000000 ^ i * s.2.1) (fun s => (x.length - s.2.2 : Int).toNat) _ ?_ ((List.replicate x.length 0, 0, 0) : List Int × Int × Int) (by simp; omega) ⟨0, rfl, by omega, by simp, .zeros (by omega) _, fun j _ => by simp [zAb, List.getElem?_replicate]; split <;> rfl, ⟨by simp, by simp⟩, by simp [valB, z9d]⟩
 rintro k ⟨out, c, _⟩ ⟨i, rfl, h0, h1, h2, hz, h3, h4⟩
 dsimp only at h1 h2 h3 h4 hz ⊢
 by_cases hi : i < x.length
 ·right
  have ex := z1s (by omega) dx i
  have ey := z1s (by omega) dy i
  have tx := z36 1000000000 x i
  have ty := z36 1000000000 y i
  have hy : ¬ i < y.length -> y.getD i 0 = 0 := fun h => by rw [zAb, List.getElem?_eq_none (by omega)]; rfl
  have hset := fun d => z6f 1000000000 out i d (by omega)
  have hgs := fun d j => z7c (cs := out) (i := i) (j := j) (v := d) (by omega)
  have hz0 := hz i (Nat.le_refl _)
  by_cases hn : x.getD i 0 - c - y.getD i 0 < 0
  ·refine ⟨(out.set i (x.getD i 0 - c - y.getD i 0 + 1000000000), 1, (i : Int) + 1), ?_, by dsimp only; omega, i + 1, rfl, by omega, by simp [h1], h2.set _ (by omega), fun j hj => by rw [hgs, if_neg (by omega)]; exact hz j (by omega), by simp, ?_⟩
   ·rw [z21]
    by_cases h : i < y.length
    ·simp (discharger := omega) only [runL]
    ·have e := hy h
     rw [e, Int.sub_zero] at hn
     simp (discharger := omega) only [runL, e, Int.sub_zero]
   ·dsimp only
    rw [hset, hz0, tx, ty, Int.pow_succ]
    grind
  ·refine ⟨(out.set i (x.getD i 0 - c - y.getD i 0), 0, (i : Int) + 1), ?_, by dsimp only; omega, i + 1, rfl, by omega, by simp [h1], h2.set _ (by omega), fun j hj => by rw [hgs, if_neg (by omega)]; exact hz j (by omega), by simp, ?_⟩
   ·rw [z21]
    by_cases h : i < y.length
    ·simp (discharger := omega) only [runL]
    ·have e := hy h
     rw [e, Int.sub_zero] at hn
     simp (discharger := omega) only [runL, e, Int.sub_zero]
   ·dsimp only
    rw [hset, hz0, tx, ty, Int.pow_succ]
    grind
 ·left
  have : i = x.length := by omega
  subst this
  rw [List.take_of_length_le (i := x.length) (l := x) (Nat.le_refl _)] at h4
  exact ⟨out, by rw [z21]; simp (discharger := omega) only [runL], h1, h2, c, h3, h4⟩
theorem zjq {x y : List Int} {a b : Int} (hx : x.length <= 4000000) (hK : 2000000000 < K) (nx : NumN a x) (ny : NumN b y) (hab : b <= a) : ∃ z, z5r K x y = some z /\ NumN (a - b) z /\ z.length <= x.length := by
 obtain ⟨r, h1, h2, h3, c, h4, h5⟩ := zj0 hx hK nx.1.1 ny.1.1
 have hl : y.length <= x.length := zdi (B := 1000000000) (by omega) ny.1 nx.1.1 (by rw [nx.2, ny.2]; exact hab)
 rw [List.take_of_length_le hl, nx.2, ny.2] at h5
 have hv := z4j (B := 1000000000) (by omega) r h3
 rw [h2] at hv
 have hc : c = 0 := by
  by_cases e : c = 0
  ·exact e
  ·have : c = 1 := by omega
   subst this; omega
 subst hc
 obtain ⟨t, t1, t2, t3, t4⟩ := zb2 (K := K) (B := 1000000000) (l := r) (by omega) hK h3
 refine ⟨t, ?_, ⟨t2, by rw [t3]; omega⟩, by omega⟩
 unfold z5r
 simp (discharger := omega) only [runL, h1, t1]
theorem zj1 {x y : List Int} (hl : x.length = y.length) (hx : x.length <= 4000000) (hK : 2000000000 < K) (dx : DigB 1000000000 x) (dy : DigB 1000000000 y) :
  ∃ r : Int ⊕ Unit, z1o K x y K ((x.length : Int) - 1) = some r /\ r = (if valB 1000000000 x < valB 1000000000 y then .inl (-1) else if valB 1000000000 x = valB 1000000000 y then .inr () else .inl 1) := by
 have hdrop : ∀ (l : List Int) j, valB 1000000000 (l.drop j) = l.getD j 0 + 1000000000 * valB 1000000000 (l.drop (j + 1)) := fun l j => by
  by_cases h : j < l.length
  ·rw [List.drop_eq_getElem_cons h, zAb, zAh h]; rfl
  ·rw [List.drop_eq_nil_of_le (by omega), List.drop_eq_nil_of_le (by omega), zAb, List.getElem?_eq_none (by omega)]; rfl
 refine za1 (fun k (s : Int) => z1o K x y k s) (fun s => ∃ j : Nat, s = (j : Int) - 1 /\ j <= x.length /\ valB 1000000000 (x.drop j) = valB 1000000000 (y.drop j)) (fun s => (s + 1).toNat) _ ?_ ((x.length : Int) - 1) (by omega) ⟨x.length, rfl, Nat.le_refl _, by rw [List.drop_eq_nil_of_le (Nat.le_refl _), List.drop_eq_nil_of_le (by omega)]⟩
 rintro k _ ⟨j, rfl, hj, he⟩
 by_cases h0 : j = 0
 ·subst h0
  left
  rw [List.drop_zero, List.drop_zero] at he
  rw [z1o]
  refine ⟨.inr (), by simp (discharger := omega) only [runL], ?_⟩
  rw [if_neg (by omega), if_pos he]
 ·obtain ⟨i, rfl⟩ : ∃ i, j = i + 1 := ⟨j - 1, by omega⟩
  have e1 : ((i + 1 : Nat) : Int) - 1 = i := by omega
  rw [e1]
  have ex := z1s (by omega) dx i
  have ey := z1s (by omega) dy i
  have sx := z81 1000000000 x i (by omega)
  have sy := z81 1000000000 y i (by omega)
  have ax := hdrop x i
  have ay := hdrop y i
  have bx := z4j (B := 1000000000) (by omega) _ (dx.take i)
  have by' := z4j (B := 1000000000) (by omega) _ (dy.take i)
  have cx := z12 (B := 1000000000) (by omega) _ (dx.take i)
  have cy := z12 (B := 1000000000) (by omega) _ (dy.take i)
  rw [List.length_take, Nat.min_eq_left (by omega)] at bx by'
  have p0 : 0 < (1000000000 : Int) ^ i := Int.pow_pos (by omega)
  rw [ax, he] at sx
  rw [ay] at sy
  by_cases h1 : x.getD i 0 < y.getD i 0
  ·left
   refine ⟨.inl (-1), by rw [z1o]; simp (discharger := omega) only [runL], ?_⟩
   have := z3a (Int.le_of_lt p0) (show x.getD i 0 + 1 <= y.getD i 0 by omega)
   rw [if_pos (by grind)]
  ·by_cases h2 : x.getD i 0 > y.getD i 0
   ·left
    refine ⟨.inl 1, by rw [z1o]; simp (discharger := omega) only [runL], ?_⟩
    have := z3a (Int.le_of_lt p0) (show y.getD i 0 + 1 <= x.getD i 0 by omega)
    rw [if_neg (by grind), if_neg (by grind)]
   ·right
    refine ⟨(i : Int) - 1, by rw [z1o]; simp (discharger := omega) only [runL], by omega, i, rfl, by omega, ?_⟩
    rw [ax, ay, he]
    omega
theorem zey {x y : List Int} {a b : Int} (hx : x.length <= 4000000) (hy : y.length <= 4000000) (hK : 2000000000 < K) (nx : NumN a x) (ny : NumN b y) : z41 K x y = some (if a < b then -1 else if a = b then 0 else 1) := by
 unfold z41
 by_cases h : x.length = y.length
 ·obtain ⟨r, h1, h2⟩ := zj1 (K := K) h hx hK nx.1.1 ny.1.1
  rw [nx.2, ny.2] at h2
  have e : ((x.length : Int) != (y.length : Int)) = false := by simp; omega
  rw [e]
  rw [k64 (by omega) (by omega), h1, h2]
  simp only [Bool.false_eq_true, if_false, zae, Option.bind_some]
  by_cases c1 : a < b
  ·simp [c1, tu1]
  ·by_cases c2 : a = b
   ·subst c2; simp [tu0]
   ·simp [c1, c2, tu1]
 ·have e : ((x.length : Int) != (y.length : Int)) = true := by simp; omega
  rw [e, if_pos rfl]
  by_cases h1 : x.length < y.length
  ·have := zh9 (B := 1000000000) (by omega) nx.1.1 ny.1 h1
   rw [nx.2, ny.2] at this
   simp (discharger := omega) only [runL]
  ·have := zh9 (B := 1000000000) (by omega) ny.1.1 nx.1 (by omega)
   rw [nx.2, ny.2] at this
   simp (discharger := omega) only [runL]
end Go.Am.Tryd
/- Plain law: products of the program's numbers; division by one digit. -/
namespace Go.Am.Tryd
open Go Go.Am Go.Proofs
variable {K : Nat}
theorem zjr {a b : Int} (ha : 0 <= a /\ a < 1000000000) (hb : 0 <= b /\ b < 1000000000) : 0 <= a * b /\ a * b <= 999999998000000001 := by
 refine ⟨Int.mul_nonneg ha.1 hb.1, ?_⟩
 have h1 := z3a ha.1 (show b <= 999999999 by omega)
 omega
theorem zlf {y out : List Int} {u : Int} {i : Nat} (hl : i + y.length <= out.length) (ho : out.length <= 8000000) (hK : 2000000000 < K) (hu : 0 <= u /\ u < 1000000000) (dy : DigB 1000000000 y) (d0 : DigB 1000000000 out) :
  ∃ r : List Int × Int, z2i K y (i : Int) u K out 0 0 = some r /\ r.1.length = out.length /\ DigB 1000000000 r.1 /\ (0 <= r.2 /\ r.2 < 1000000000) /\ (∀ j, i + y.length <= j -> r.1.getD j 0 = out.getD j 0) ∧
   valB 1000000000 r.1 + 1000000000 ^ (i + y.length) * r.2 = valB 1000000000 out + 1000000000 ^ i * (u * valB 1000000000 y) := by
 refine za1 (fun k (s : List Int × Int × Int) => z2i K y (i : Int) u k s.1 s.2.1 s.2.2) (fun s => ∃ q : Nat, s.2.2 = q /\ q <= y.length /\ s.1.length = out.length /\ DigB 1000000000 s.1 /\ (0 <= s.2.1 /\ s.2.1 < 1000000000) /\ (∀ j, i + q <= j -> s.1.getD j 0 = out.getD j 0) ∧
   valB 1000000000 s.1 + 1000000000 ^ (i + q) * s.2.1 = valB 1000000000 out + 1000000000 ^ i * (u * valB 1000000000 (y.take q))) (fun s => (y.length - s.2.2 : Int).toNat) _ ?_ ((out, 0, 0) : List Int × Int × Int) (by simp; omega) ⟨0, rfl, by omega, rfl, d0, by simp, fun _ _ => rfl, by simp [valB]⟩
 rintro k ⟨o, c, _⟩ ⟨q, rfl, h0, h1, h2, h3, hz, h4⟩
 dsimp only at h1 h2 h3 h4 hz ⊢
 by_cases hq : q < y.length
 ·right
  have ey := z1s (by omega) dy q
  have eo := z1s (by omega) h2 (i + q)
  have ty := z36 1000000000 y q
  have hm := zjr hu ey
  have hset := fun d => z6f 1000000000 o (i + q) d (by omega)
  have hgs := fun d j => z7c (cs := o) (i := i + q) (j := j) (v := d) (by omega)
  have e1 : ((i : Int) + (q : Int)) = ((i + q : Nat) : Int) := by omega
  generalize hw : u * y.getD q 0 = w at hm
  generalize ho : o.getD (i + q) 0 = z at eo hset
  have hdm := Int.emod_add_mul_ediv (w + z + c) 1000000000
  refine ⟨(o.set (i + q) ((w + z + c) % 1000000000), (w + z + c) / 1000000000, (q : Int) + 1), ?_, by dsimp only; omega, q + 1, rfl, by omega, by simp [h1], h2.set _ (by omega), by dsimp only; omega, fun j hj => by rw [hgs, if_neg (by omega)]; exact hz j (by omega), ?_⟩
  ·rw [z2i]
   simp (discharger := omega) only [runL, e1, hw, ho]
  ·dsimp only
   rw [hset, ty]
   have e2 : (1000000000 : Int) ^ (i + (q + 1)) = 1000000000 ^ i * 1000000000 ^ q * 1000000000 := by rw [<- Nat.add_assoc, Int.pow_succ, Int.pow_add]
   rw [e2]
   rw [Int.pow_add] at h4 ⊢
   subst hw
   generalize (u * y.getD q 0 + z + c) / 1000000000 = Q at *
   generalize (u * y.getD q 0 + z + c) % 1000000000 = R at *
   grind
 ·left
  have : q = y.length := by omega
  subst this
  rw [List.take_of_length_le (Nat.le_refl _)] at h4
  exact ⟨(o, c), by rw [z2i]; simp (discharger := omega) only [runL], h1, h2, h3, hz, h4⟩
theorem zj2 {x y : List Int} (hl : x.length + y.length <= 8000000) (hK : 2000000000 < K) (dx : DigB 1000000000 x) (dy : DigB 1000000000 y) :
  ∃ r : List Int, z2j K x y K (List.replicate (x.length + y.length) 0) 0 = some r /\ r.length = x.length + y.length /\ DigB 1000000000 r /\ valB 1000000000 r = valB 1000000000 x * valB 1000000000 y := by
 refine za1 (fun k (s : List Int × Int) => z2j K x y k s.1 s.2) (fun s => ∃ i : Nat, s.2 = i /\ i <= x.length /\ s.1.length = x.length + y.length /\ DigB 1000000000 s.1 /\ (∀ j, i + y.length <= j -> s.1.getD j 0 = 0) /\ valB 1000000000 s.1 = valB 1000000000 (x.take i) * valB 1000000000 y) (fun s => (x.length - s.2 : Int).toNat) _ ?_ ((List.replicate (x.length + y.length) 0, 0) : List Int × Int) (by simp; omega) ⟨0, rfl, by omega, by simp, .zeros (by omega) _, fun j _ => by simp [zAb, List.getElem?_replicate]; split <;> rfl, by simp [valB, z9d]⟩
 rintro k ⟨out, _⟩ ⟨i, rfl, h0, h1, h2, hz, h4⟩
 dsimp only at h1 h2 h4 hz ⊢
 by_cases hi : i < x.length
 ·right
  have ex := z1s (by omega) dx i
  have tx := z36 1000000000 x i
  obtain ⟨⟨r, c⟩, r1, r2, r3, r4, r5, r6⟩ := zlf (K := K) (y := y) (out := out) (u := x.getD i 0) (i := i) (by omega) (by omega) hK ex dy h2
  dsimp only at r2 r3 r4 r5 r6
  have hz0 := r5 (i + y.length) (Nat.le_refl _)
  rw [hz _ (Nat.le_refl _)] at hz0
  have hset := z6f 1000000000 r (i + y.length) c (by omega)
  have hgs := fun d j => z7c (cs := r) (i := i + y.length) (j := j) (v := d) (by omega)
  have e1 : ((i : Int) + (y.length : Int)) = ((i + y.length : Nat) : Int) := by omega
  refine ⟨(r.set (i + y.length) c, (i : Int) + 1), ?_, by dsimp only; omega, i + 1, rfl, by omega, by simp [r2, h1], r3.set _ r4, fun j hj => by rw [hgs, if_neg (by omega), r5 j (by omega)]; exact hz j (by omega), ?_⟩
  ·rw [z2j]
   simp (discharger := omega) only [runL, r1, e1]
  ·dsimp only
   rw [hset, hz0, tx]
   grind
 ·left
  have : i = x.length := by omega
  subst this
  rw [List.take_of_length_le (Nat.le_refl _)] at h4
  exact ⟨out, by rw [z2j]; simp (discharger := omega) only [runL], h1, h2, h4⟩
theorem zb3 {x y : List Int} {a b : Int} (hl : x.length + y.length <= 8000000) (hK : 2000000000 < K) (nx : NumN a x) (ny : NumN b y) : ∃ z, z27 K x y = some z /\ NumN (a * b) z /\ z.length <= x.length + y.length := by
 obtain ⟨r, h1, h2, h3, h4⟩ := zj2 hl hK nx.1.1 ny.1.1
 rw [nx.2, ny.2] at h4
 obtain ⟨t, t1, t2, t3, t4⟩ := zb2 (K := K) (B := 1000000000) (l := r) (by omega) hK h3
 refine ⟨t, ?_, ⟨t2, by rw [t3, h4]⟩, by omega⟩
 unfold z27
 have e1 : ((x.length : Int) + (y.length : Int)) = ((x.length + y.length : Nat) : Int) := by omega
 simp (discharger := omega) only [runL, h1, t1, e1]
theorem ze9 (l : List Int) (j : Nat) : valB 1000000000 (l.drop j) = l.getD j 0 + 1000000000 * valB 1000000000 (l.drop (j + 1)) := by
 by_cases h : j < l.length
 ·rw [List.drop_eq_getElem_cons h, zAb, zAh h]; rfl
 ·rw [List.drop_eq_nil_of_le (by omega), List.drop_eq_nil_of_le (by omega), zAb, List.getElem?_eq_none (by omega)]; rfl
theorem zfr {x : List Int} {d : Int} (hl : x.length <= 8000000) (hK : 2000000000 < K) (dx : DigB 1000000000 x) (hd : 1 <= d /\ d <= 1000000000) :
  ∃ r : List Int × Int, z1q K x d K (List.replicate x.length 0) 0 ((x.length : Int) - 1) = some r /\ r.1.length = x.length /\ DigB 1000000000 r.1 /\ (0 <= r.2 /\ r.2 < d) /\ valB 1000000000 x = d * valB 1000000000 r.1 + r.2 := by
 refine za1 (fun k (s : List Int × Int × Int) => z1q K x d k s.1 s.2.1 s.2.2) (fun s => ∃ j : Nat, s.2.2 = (j : Int) - 1 /\ j <= x.length /\ s.1.length = x.length /\ DigB 1000000000 s.1 /\ (0 <= s.2.1 /\ s.2.1 < d) /\ valB 1000000000 (x.drop j) = d * valB 1000000000 (s.1.drop j) + s.2.1) (fun s => (s.2.2 + 1).toNat) _ ?_ ((List.replicate x.length 0, 0, (x.length : Int) - 1) : List Int × Int × Int) (by dsimp only; omega) ⟨x.length, rfl, Nat.le_refl _, by simp, .zeros (by omega) _, by dsimp only; omega, by simp [valB]⟩
 rintro k ⟨out, c, _⟩ ⟨j, rfl, hj, h1, h2, h3, h4⟩
 dsimp only at h1 h2 h3 h4 ⊢
 by_cases h0 : j = 0
 ·left
  subst h0
  rw [List.drop_zero, List.drop_zero] at h4
  exact ⟨(out, c), by rw [z1q]; simp (discharger := omega) only [runL], h1, h2, h3, h4⟩
 ·right
  obtain ⟨i, rfl⟩ : ∃ i, j = i + 1 := ⟨j - 1, by omega⟩
  have e1 : ((i + 1 : Nat) : Int) - 1 = i := by omega
  rw [e1]
  have ex := z1s (by omega) dx i
  have ax := ze9 x i
  generalize hu : x.getD i 0 = u at ex ax
  have hq0 : 0 <= (c * 1000000000 + u) / d := Int.ediv_nonneg (by omega) (by omega)
  have hqB : (c * 1000000000 + u) / d < 1000000000 := Int.ediv_lt_of_lt_mul (by omega) (by omega)
  have hr0 : 0 <= (c * 1000000000 + u) % d := Int.emod_nonneg _ (by omega)
  have hrd : (c * 1000000000 + u) % d < d := Int.emod_lt_of_pos _ (by omega)
  have hdm := Int.emod_add_mul_ediv (c * 1000000000 + u) d
  refine ⟨(out.set i ((c * 1000000000 + u) / d), (c * 1000000000 + u) % d, (i : Int) - 1), ?_, by dsimp only; omega, i, rfl, by omega, by simp [h1], h2.set _ ⟨hq0, hqB⟩, ⟨hr0, hrd⟩, ?_⟩
  ·rw [z1q]
   have hd' : d ≠ 0 := by omega
   simp (discharger := omega) only [runL, hu]
  ·dsimp only
   rw [ze9 (out.set i _) i, List.drop_set_of_lt (by omega), z7c (by omega), if_pos rfl, ax, h4]
   generalize (c * 1000000000 + u) / d = Q at *
   generalize (c * 1000000000 + u) % d = R at *
   grind
theorem zj3 {d : Int} (hd : 0 <= d /\ d < 1000000000) (hK : 2000000000 < K) : ∃ z, z1u K [d] = some z /\ NumN d z /\ z.length <= 1 := by
 obtain ⟨t, t1, t2, t3, t4⟩ := zb2 (K := K) (B := 1000000000) (l := [d]) (by simp) hK (fun x hx => by simp at hx; omega)
 exact ⟨t, t1, ⟨t2, by rw [t3]; simp [valB]⟩, by simpa using t4⟩
theorem zb4 {n d q r : Int} (hd : 0 < d) (h : n = d * q + r) (h0 : 0 <= r) (h1 : r < d) : q = n / d /\ r = n % d := by
 have e1 : n / d = q := by
  rw [h, Int.add_comm, Int.add_mul_ediv_left _ _ (by omega), Int.ediv_eq_zero_of_lt h0 h1]; omega
 refine ⟨e1.symm, ?_⟩
 have := Int.emod_add_mul_ediv n d
 rw [e1] at this
 omega
theorem zez {x : List Int} {a d : Int} (hl : x.length <= 8000000) (hK : 2000000000 < K) (nx : NumN a x) (hd : 1 <= d /\ d <= 1000000000) : ∃ q r, z42 K x d = some (q, r) /\ NumN (a / d) q /\ NumN (a % d) r /\ q.length <= x.length /\ r.length <= 1 := by
 obtain ⟨⟨o, c⟩, h1, h2, h3, h4, h5⟩ := zfr hl hK nx.1.1 hd
 dsimp only at h2 h3 h4 h5
 rw [nx.2] at h5
 obtain ⟨e1, e2⟩ := zb4 (by omega) h5 h4.1 h4.2
 obtain ⟨t, t1, t2, t3, t4⟩ := zb2 (K := K) (B := 1000000000) (l := o) (by omega) hK h3
 obtain ⟨z, z1, z2, z3⟩ := zj3 (K := K) (d := c) (by omega) hK
 refine ⟨t, z, ?_, ⟨t2, by rw [t3, e1]⟩, by rw [<- e2]; exact z2, by omega, z3⟩
 unfold z42
 simp (discharger := omega) only [runL, h1, t1, z1]
end Go.Am.Tryd
/- Plain law: texts and the program's numbers: Read and Text. -/
namespace Go.Am.Tryd
open Go Go.Am Go.Proofs
variable {K : Nat}
def numB (l : List Int) : Int := valB 10 ((l.map (· - 48)).reverse)
theorem zcn (s : zAd) : numT s = numB (z04 s) := rfl
theorem z8r : numB [] = 0 := rfl
theorem zaf (l : List Int) (c : Int) : numB (l ++ [c]) = numB l * 10 + (c - 48) := by
 unfold numB
 simp [valB]
 omega
theorem zea (l m : List Int) : numB (l ++ m) = numB m + 10 ^ m.length * numB l := by
 unfold numB
 rw [List.map_append, List.reverse_append, z5b]
 simp
theorem zag (c : Int) (l : List Int) : numB (c :: l) = numB l + 10 ^ l.length * (c - 48) := by
 have := zea [c] l
 simpa [numB, valB] using this
theorem zhb {l : List Int} (h : l.all digT = true) : DigB 10 ((l.map (· - 48)).reverse) := by
 intro d hd
 rw [List.mem_reverse, List.mem_map] at hd
 obtain ⟨c, hc, rfl⟩ := hd
 have := List.all_eq_true.1 h c hc
 simp only [digT, Bool.and_eq_true, decide_eq_true_eq] at this
 omega
theorem z5t {l : List Int} (h : l.all digT = true) : 0 <= numB l := z12 (by omega) _ (zhb h)
theorem zbu {l : List Int} (h : l.all digT = true) : numB l < 10 ^ l.length := by
 have := z4j (B := 10) (by omega) _ (zhb h)
 simpa [numB] using this
theorem digT_iff {c : Int} : digT c = true ↔ 48 <= c /\ c <= 57 := by simp [digT]
theorem zb5 {l : List Int} (h : l.all digT = true) (k : Nat) : (l.take k).all digT = true := List.all_eq_true.2 fun x hx => List.all_eq_true.1 h x (List.mem_of_mem_take hx)
theorem zki {l : List Int} (h : l.all digT = true) (k : Nat) : (l.drop k).all digT = true := List.all_eq_true.2 fun x hx => List.all_eq_true.1 h x (List.mem_of_mem_drop hx)
theorem zf0 {l : List Int} {i : Nat} (h : i < l.length) : l.take (i + 1) = l.take i ++ [l.getD i 0] := by
 rw [List.take_add_one, zAh h, zAb, zAh h]; rfl
theorem zf1 {l : List Int} (h : l.all digT = true) {i : Nat} (hi : i < l.length) : 48 <= l.getD i 0 /\ l.getD i 0 <= 57 := by
 rw [zAb, zAh hi]
 exact digT_iff.1 (List.all_eq_true.1 h _ (List.getElem_mem hi))
theorem zj4 {t : zAd} (ht : t.size <= 9) (hK : 2000000000 < K) (hd : (z04 t).all digT = true) : z2h K t K 0 0 = some (numT t) := by
 suffices h : ∃ r, z2h K t K 0 0 = some r /\ r = numT t by obtain ⟨r, h1, rfl⟩ := h; exact h1
 have hn := z01 t
 refine za1 (fun k (s : Int × Int) => z2h K t k s.1 s.2) (fun s => ∃ i : Nat, s.2 = i /\ i <= t.size /\ s.1 = numB ((z04 t).take i)) (fun s => (t.size - s.2 : Int).toNat) _ ?_ ((0, 0) : Int × Int) (by simp; omega) ⟨0, rfl, by omega, by simp [z8r]⟩
 rintro k ⟨_, _⟩ ⟨i, rfl, h0, rfl⟩
 dsimp only
 by_cases hi : i < t.size
 ·right
  have b1 := z5t (zb5 hd i)
  have b2 := zbu (zb5 hd i)
  have b3 : (10 : Int) ^ (List.take i (z04 t)).length <= 10 ^ 8 := by
   rw [List.length_take, hn, Nat.min_eq_left (by omega)]
   exact z6x (by omega) (by omega)
  have hc := zf1 hd (i := i) (by omega)
  have hs := zf0 (l := z04 t) (i := i) (by omega)
  have b4 : (10 : Int) ^ 8 = 100000000 := by decide
  refine ⟨(numB ((z04 t).take (i + 1)), (i : Int) + 1), ?_, by dsimp only; omega, i + 1, rfl, by omega, rfl⟩
  rw [z2h, hs, zaf]
  generalize numB ((z04 t).take i) = d at *
  rw [hn]
  have hi' : (i : Int) < ((z04 t).length : Int) := by omega
  simp (discharger := omega) only [runL]
 ·left
  have : i = t.size := by omega
  subst this
  refine ⟨numB ((z04 t).take t.size), by rw [z2h, hn]; simp (discharger := omega) only [runL], ?_⟩
  rw [List.take_of_length_le (by omega)]
  rfl
theorem zj5 {s : zAd} (hs : s.size <= 8000000) (hK : 2000000000 < K) (hd : (z04 s).all digT = true) :
  ∃ r : List Int, z2u K s K [] (s.size : Int) = some r /\ 9 * r.length < s.size + 9 /\ DigB 1000000000 r /\ valB 1000000000 r = numT s := by
 have hn := z01 s
 refine za1 (fun k (q : List Int × Int) => z2u K s k q.1 q.2) (fun q => q.2 = (s.size : Int) - 9 * q.1.length /\ 9 * q.1.length < s.size + 9 /\ DigB 1000000000 q.1 /\ valB 1000000000 q.1 + 1000000000 ^ q.1.length * numB ((z04 s).take q.2.toNat) = numT s) (fun q => (q.2 + 9).toNat) _ ?_ (([], (s.size : Int)) : List Int × Int) (by dsimp only; omega) ⟨by simp, by simp, .nil _, by simp [valB]; rw [List.take_of_length_le (by omega)]; rfl⟩
 rintro k ⟨out, e⟩ ⟨h1, h2, h3, h4⟩
 dsimp only at h1 h2 h3 h4 ⊢
 by_cases he : e > 0
 ·right
  obtain ⟨lo, hlo, hm⟩ : ∃ lo : Nat, imax 0 (z05 .i64 (e - 9)) = lo /\ ((lo : Int) = e - 9 \/ ((lo = 0) /\ e < 9)) := by
   rw [k64 (by omega) (by omega)]
   unfold imax
   by_cases h9 : e - 9 > 0
   ·exact ⟨(e - 9).toNat, by rw [if_pos h9]; omega, .inl (by omega)⟩
   ·exact ⟨0, by rw [if_neg h9]; rfl, by omega⟩
  have hb : z04 (s.extract lo e.toNat) = ((z04 s).drop lo).take (e.toNat - lo) := z2o _ _ _
  have hsz : (s.extract lo e.toNat).size = e.toNat - lo := by rw [<- z01, hb, List.length_take, List.length_drop]; omega
  have hdp : (z04 (s.extract lo e.toNat)).all digT = true := by rw [hb]; exact zb5 (zki hd _) _
  have hp := zj4 (K := K) (t := s.extract lo e.toNat) (by omega) hK hdp
  have hv0 := z5t hdp
  have hv1 := zbu hdp
  have hsplit : (z04 s).take e.toNat = (z04 s).take lo ++ z04 (s.extract lo e.toNat) := by
   rw [hb, show e.toNat = lo + (e.toNat - lo) by omega, List.take_add]; simp
  have hlen : (z04 (s.extract lo e.toNat)).length = e.toNat - lo := by rw [z01]; exact hsz
  have hBv : numB (z04 (s.extract lo e.toNat)) < 1000000000 := by
   have : (10 : Int) ^ (z04 (s.extract lo e.toNat)).length <= 10 ^ 9 := z6x (by omega) (by omega)
   have e9 : (10 : Int) ^ 9 = 1000000000 := by decide
   omega
  refine ⟨(out ++ [numT (s.extract lo e.toNat)], e - 9), ?_, by dsimp only; omega, by simp; omega, by simp; omega, h3.snoc ⟨hv0, hBv⟩, ?_⟩
  ·rw [z2u, hlo]
   simp (discharger := omega) only [runL, hp]
  ·dsimp only
   rw [z88, List.length_append, List.length_singleton, Int.pow_succ, zcn]
   rw [hsplit, zea, hlen] at h4
   rcases hm with hm | ⟨hm, h9⟩
   ·have e9 : e.toNat - lo = 9 := by omega
    have e10 : (10 : Int) ^ 9 = 1000000000 := by decide
    have el : (e - 9).toNat = lo := by omega
    rw [e9, e10] at h4
    rw [el]
    grind
   ·subst hm
    have el : (e - 9).toNat = 0 := by omega
    rw [el, List.take_zero, z8r] at *
    grind
 ·left
  have el : e.toNat = 0 := by omega
  rw [el, List.take_zero, z8r] at h4
  exact ⟨out, by rw [z2u]; simp (discharger := omega) only [runL], h2, h3, by omega⟩
theorem z9u {s : zAd} (hs : s.size <= 8000000) (hK : 2000000000 < K) (hd : (z04 s).all digT = true) : ∃ z, z54 K s = some z /\ NumN (numT s) z /\ 9 * z.length < s.size + 9 := by
 obtain ⟨r, h1, h2, h3, h4⟩ := zj5 hs hK hd
 obtain ⟨t, t1, t2, t3, t4⟩ := zb2 (K := K) (B := 1000000000) (l := r) (by omega) hK h3
 exact ⟨t, by unfold z54; simp (discharger := omega) only [runL, h1, t1], ⟨t2, by rw [t3, h4]⟩, by omega⟩
theorem zj6 {d : Int} (hd : 0 <= d /\ d < 1000000000) (hK : 2000000000 < K) : ∃ p, z23 K K (List.replicate 9 0) d 8 = some p /\ p.length = 9 /\ p.all digT = true /\ numB p = d := by
 refine za1 (fun k (s : List Int × Int × Int) => z23 K k s.1 s.2.1 s.2.2) (fun s => ∃ j : Nat, s.2.2 = (j : Int) - 1 /\ j <= 9 /\ s.1.length = 9 /\ (s.1.drop j).all digT = true /\ (0 <= s.2.1 /\ s.2.1 <= d) /\ d = s.2.1 * 10 ^ (9 - j) + numB (s.1.drop j)) (fun s => (s.2.2 + 1).toNat) _ ?_ ((List.replicate 9 0, d, 8) : List Int × Int × Int) (by simp; omega) ⟨9, rfl, by omega, by simp, by simp, by dsimp only; omega, by simp [z8r]⟩
 rintro k ⟨p, c, _⟩ ⟨j, rfl, hj, h1, h2, h3, h4⟩
 dsimp only at h1 h2 h3 h4 ⊢
 by_cases h0 : j = 0
 ·subst h0
  left
  rw [List.drop_zero] at h2 h4
  have e9 : (10 : Int) ^ (9 - 0) = 1000000000 := by decide
  have := z5t h2
  rw [e9] at h4
  exact ⟨p, by rw [z23]; simp (discharger := omega) only [runL], h1, h2, by omega⟩
 ·right
  obtain ⟨i, rfl⟩ : ∃ i, j = i + 1 := ⟨j - 1, by omega⟩
  have e1 : ((i + 1 : Nat) : Int) - 1 = i := by omega
  rw [e1]
  have hx : (p.set i (48 + c % 10)).drop i = (48 + c % 10) :: p.drop (i + 1) := by
   rw [List.drop_eq_getElem_cons (by simp; omega), List.drop_set_of_lt (by omega)]
   simp
  have e2 : (10 : Int) ^ (9 - i) = 10 ^ (9 - (i + 1)) * 10 := by rw [<- Int.pow_succ]; congr 1; omega
  have e3 : (p.drop (i + 1)).length = 9 - (i + 1) := by rw [List.length_drop, h1]
  have hdm := Int.emod_add_mul_ediv c 10
  refine ⟨(p.set i (48 + c % 10), c / 10, (i : Int) - 1), ?_, by dsimp only; omega, i, rfl, by omega, by simp [h1], ?_, by dsimp only; omega, ?_⟩
  ·rw [z23]
   simp (discharger := omega) only [runL]
  ·dsimp only
   rw [hx, List.all_cons, h2, Bool.and_true]
   exact digT_iff.2 (by omega)
  ·dsimp only
   rw [hx, zag, e2, e3]
   generalize (10 : Int) ^ (9 - (i + 1)) = P at *
   grind
theorem zhc {x : List Int} (hx : x.length <= 1000000) (hK : 2000000000 < K) (dx : DigB 1000000000 x) : ∃ b, z24 K x K [] ((x.length : Int) - 1) = some b /\ b.length = 9 * x.length /\ b.all digT = true /\ numB b = valB 1000000000 x := by
 refine za1 (fun k (s : List Int × Int) => z24 K x k s.1 s.2) (fun s => ∃ j : Nat, s.2 = (j : Int) - 1 /\ j <= x.length /\ s.1.length = 9 * (x.length - j) /\ s.1.all digT = true /\ numB s.1 = valB 1000000000 (x.drop j)) (fun s => (s.2 + 1).toNat) _ ?_ (([], (x.length : Int) - 1) : List Int × Int) (by dsimp only; omega) ⟨x.length, rfl, Nat.le_refl _, by simp, by simp, by simp [valB, z8r]⟩
 rintro k ⟨b, _⟩ ⟨j, rfl, hj, h1, h2, h4⟩
 dsimp only at h1 h2 h4 ⊢
 by_cases h0 : j = 0
 ·subst h0
  left
  exact ⟨b, by rw [z24]; simp (discharger := omega) only [runL], h1, h2, h4⟩
 ·right
  obtain ⟨i, rfl⟩ : ∃ i, j = i + 1 := ⟨j - 1, by omega⟩
  have e1 : ((i + 1 : Nat) : Int) - 1 = i := by omega
  rw [e1]
  have ex := z1s (by omega) dx i
  obtain ⟨p, p1, p2, p3, p4⟩ := zj6 (K := K) (d := x.getD i 0) ex hK
  have e9 : (10 : Int) ^ 9 = 1000000000 := by decide
  refine ⟨(b ++ p, (i : Int) - 1), ?_, by dsimp only; omega, i, rfl, by omega, by simp; omega, ?_, ?_⟩
  ·rw [z24]
   simp (discharger := omega) only [runL, p1]
  ·dsimp only
   rw [List.all_append, h2, p3]; rfl
  ·dsimp only
   rw [zea, p2, p4, h4, ze9 x i, e9]
theorem zdj {n : Int} : ∀ k (s : zAd), s.size < k -> s.size <= 16777216 -> (z04 s).all digT = true -> numT s = n -> ∃ t, z0m K 48 k s = some t /\ (z04 t).all digT = true /\ numT t = n /\ (z04 t).head? ≠ some 48 /\ t.size <= s.size := by
 intro k
 induction k with
 | zero => intro s h; omega
 | succ k ih =>
  intro s hk hb hd hn
  have hl := z01 s
  by_cases h0 : s.size > 0
  ·cases hc : z04 s with
   | nil => rw [hc] at hl; simp at hl; omega
   | cons c l =>
    obtain ⟨t, t1, t2, t3⟩ := zb1 hc
    rw [hc] at hd hl
    simp only [List.all_cons, Bool.and_eq_true, List.length_cons] at hd hl
    have hcc : bidx s 0 = some c := by rw [z95, hc]; rfl
    by_cases h1 : c = 48
    ·subst h1
     obtain ⟨r, r1, r2, r3, r4, r5⟩ := ih t (by omega) (by omega) (by rw [t2]; exact hd.2) (by rw [<- hn, zcn, zcn, t2, hc, zag]; simp)
     refine ⟨r, ?_, r2, r3, r4, by omega⟩
     rw [z0m, hcc, t1]
     simp (discharger := omega) only [runL, r1]
    ·refine ⟨s, ?_, by rw [hc]; simp [hd], hn, by rw [hc]; simp; omega, Nat.le_refl _⟩
     rw [z0m, hcc]
     simp (discharger := omega) only [runL]
  ·refine ⟨s, ?_, hd, hn, ?_, Nat.le_refl _⟩
   ·rw [z0m]
    have e : (decide ((s.size : Int) > 0)) = false := decide_eq_false (by omega)
    rw [e]
    simp (discharger := omega) only [runL, Bool.false_eq_true]
   ·have : z04 s = [] := List.length_eq_zero_iff.1 (by omega)
    rw [this]; simp
theorem zlg {s t : zAd} (h : s.size ≠ t.size) : sEq s t = false := by
 cases e : sEq s t with
 | false => rfl
 | true => rw [sEq_iff] at e; subst e; exact absurd rfl h
theorem zfs {s : zAd} (hs : s.size <= 16777216) (hK : 2000000000 < K) (hp : 0 < numT s) (hd : (z04 s).all digT = true) : ∃ t, z2r K s ⟨#[48]⟩ = some t /\ CanT t /\ numT t = numT s /\ t.size <= s.size := by
 obtain ⟨t, t1, t2, t3, t4, t5⟩ := zdj (K := K) K s (by omega) hs hd rfl
 have ne : ∀ u : zAd, 0 < numT u -> u.size ≠ 0 := fun u hu e => by
  have : z04 u = [] := List.length_eq_zero_iff.1 (by rw [z01]; exact e)
  rw [zcn, this, z8r] at hu; omega
 refine ⟨t, ?_, ⟨ne t (by omega), t2, fun h => absurd h t4⟩, t3, t5⟩
 unfold z2r z2k
 have e1 : sEq s ⟨#[]⟩ = false := zlg (ne s hp)
 have e2 : sEq ⟨#[48]⟩ ⟨#[]⟩ = false := zlg (by decide)
 have e3 : bidx (⟨#[48]⟩ : zAd) 0 = some 48 := rfl
 have e4 : (((⟨#[48]⟩ : zAd).size : Int) == 1) = true := rfl
 rw [e1, e2, e3, e4]
 simp (discharger := omega) only [runL, Bool.false_eq_true, t1]
theorem zhd {x : List Int} {n : Int} (hx : x.length <= 1000000) (hK : 2000000000 < K) (nx : NumN n x) : ∃ t, z3y K x = some t /\ CanT t /\ numT t = n /\ t.size <= 9 * x.length + 1 := by
 unfold z3y
 by_cases h0 : x = []
 ·subst h0
  have e : n = 0 := nx.nil_iff.1 rfl
  subst e
  exact ⟨⟨#[48]⟩, rfl, ⟨by decide, rfl, fun _ => rfl⟩, rfl, by decide⟩
 ·have hl : x.length ≠ 0 := fun e => h0 (List.length_eq_zero_iff.1 e)
  obtain ⟨b, b1, b2, b3, b4⟩ := zhc hx hK nx.1.1
  rw [nx.2] at b4
  have hr : ∀ c ∈ b, 0 <= c /\ c <= 255 := fun c hc => by have := digT_iff.1 (List.all_eq_true.1 b3 c hc); omega
  have hb := zbt b hr
  have hsz : (strOfNums b).size = b.length := by rw [<- z01, hb]
  obtain ⟨t, t1, t2, t3, t4⟩ := zfs (K := K) (s := strOfNums b) (by omega) hK (by rw [zcn, hb, b4]; exact nx.pos h0) (by rw [hb]; exact b3)
  refine ⟨t, ?_, t2, by rw [t3, zcn, hb, b4], by omega⟩
  have e : ((x.length : Int) == 0) = false := by simp; omega
  rw [e]
  simp (discharger := omega) only [runL, Bool.false_eq_true, b1, t1]
end Go.Am.Tryd
/- Plain law: the reference's texts of digits. -/
namespace Go.Am.Tryd
open Go Go.Am Go.Proofs
variable {K : Nat}
theorem zj7 {s : zAd} {c : Int} {l : List Int} (h : z04 s = c :: l) : bidx s 0 = some c := by rw [z95, h]; rfl
theorem zhe : ∀ n k (s : zAd), s.size = n -> n < k -> 0 < n -> (z04 s).all digT = true -> ∃ t, z4r K k s = some t /\ CanT t /\ numT t = numT s := by
 intro n
 induction n with
 | zero => intro k s _ _ h; omega
 | succ n ih =>
  intro k s hs hk _ hd
  obtain ⟨k, rfl⟩ : ∃ m, k = m + 1 := ⟨k - 1, by omega⟩
  have hn := z01 s
  cases hb : z04 s with
  | nil => rw [hb] at hn; simp at hn; omega
  | cons c l =>
   rw [z4r, zj7 hb]
   by_cases h1 : (s.size : Int) > 1
   ·by_cases h2 : c = 48
    ·obtain ⟨t, h3, h4, h5⟩ := zb1 hb
     have hl : l.length = n := by rw [hb] at hn; simp at hn; omega
     obtain ⟨r, h6, h7, h8⟩ := ih k t (by omega) (by omega) (by omega) (by rw [h4]; rw [hb] at hd; simp only [List.all_cons, Bool.and_eq_true] at hd; exact hd.2)
     refine ⟨r, ?_, h7, ?_⟩
     ·simp [h1, h2, h3, h6, tu1]
     ·rw [h8, zix (s := s) (t := t) (c := c) (by rw [hb, h4]), h2]; simp
    ·refine ⟨s, by simp [h1, h2, tu1], ⟨by omega, hd, fun e => ?_⟩, rfl⟩
     rw [hb] at e; simp at e; exact absurd e h2
   ·exact ⟨s, by simp [h1, tu1], ⟨by omega, hd, fun e => by omega⟩, rfl⟩
theorem zah {s : zAd} (hs : s.size <= 1048576) (h0 : 0 < s.size) (hK : s.size < K) (hd : (z04 s).all digT = true) : ∃ t, z68 K s = some t /\ CanT t /\ numT t = numT s := by
 obtain ⟨t, h1, h2⟩ := zhe (K := K) s.size K s rfl hK h0 hd
 exact ⟨t, by unfold z68; rw [h1]; rfl, h2⟩
theorem z89 {s : zAd} (hs : s.size <= 1048576) (hd : (z04 s).all digT = true) (k : Nat) (hk : k <= 1048577) : z4w K s k = some ((z5c s).getD k 0) := by
 have hn := z01 s
 unfold z4w
 by_cases h : k < s.size
 ·have h' : ((k : Int) < (s.size : Int)) := by omega
  have hi : s.size - 1 - k < (z04 s).length := by omega
  have e1 : z05 .i64 (z05 .i64 ((s.size : Int) - 1) - (k : Int)) = ((s.size - 1 - k : Nat) : Int) := by
   rw [kw (a := (s.size : Int) - 1) (by omega) (by omega), kw (by omega) (by omega)]; omega
  have hx : (z04 s)[s.size - 1 - k]? = some (z04 s)[s.size - 1 - k] := zAh hi
  have hc := List.all_eq_true.1 hd _ (List.getElem_mem hi)
  simp only [digT, Bool.and_eq_true, decide_eq_true_eq] at hc
  rw [decide_eq_true h', if_pos rfl, e1, z95, z5e hx]
  have hg : (z5c s).getD k 0 = (z04 s)[s.size - 1 - k] - 48 := by
   unfold z5c
   rw [zAb, List.getElem?_reverse (by simp; omega), List.length_map, hn, List.getElem?_map, hx]
   rfl
  rw [hg]
  generalize (z04 s)[s.size - 1 - k] = c at hc
  have e2 : z05 .u8 (c - 48) = c - 48 := z73 (by simp [z8w]; omega)
  have e3 : IntKind.wrap .i64 (c - 48) = c - 48 := by rw [<- z6z]; exact kw (by omega) (by omega)
  simp [e2, e3]
 ·have h' : ¬ ((k : Int) < (s.size : Int)) := by omega
  rw [decide_eq_false h', if_neg (by simp)]
  congr 1
  rw [zAb, List.getElem?_eq_none (by rw [z4y]; omega)]
  rfl
theorem zn9 {x : Int} (h : 0 <= x) (h' : x <= 255) : z05 .u8 x = x := z73 (by simp [z8w]; omega)
theorem zj8 {l : List Int} (hl : l.length <= 1048577) (hK : l.length < K) (hd : DigB 10 l) : z2s K l K (List.replicate l.length 0) 0 = some (l.map (48 + ·)).reverse := by
 suffices h : ∃ r, z2s K l K (List.replicate l.length 0) 0 = some r /\ r = (l.map (48 + ·)).reverse by
  obtain ⟨r, h1, rfl⟩ := h; exact h1
 refine ze7 (S := List Int) l.length (fun k s i => z2s K l k s i) (fun b i => b.length = l.length /\ ∀ j < l.length, b.getD j 0 = if l.length - 1 - j < i then 48 + l.getD (l.length - 1 - j) 0 else 0) _ ?_ ?_ K _ hK ⟨by simp, fun j hj => by simp [zAb, hj]⟩
 ·rintro k b i hi ⟨hb, hj⟩
  right
  have hp : l.length - 1 - i < b.length := by omega
  have e1 : z05 .i64 (z05 .i64 ((l.length : Int) - 1) - (i : Int)) = ((l.length - 1 - i : Nat) : Int) := by
   rw [kw (a := (l.length : Int) - 1) (by omega) (by omega), kw (by omega) (by omega)]; omega
  have hx := hd (l.getD i 0) (by rw [zAb, zAh hi]; simp)
  have e2 : IntKind.wrap .u8 (z05 .i64 (48 + l.getD i 0)) = 48 + l.getD i 0 := by
   rw [kw (a := 48 + l.getD i 0) (by omega) (by omega), <- z6z]; exact zn9 (by omega) (by omega)
  refine ⟨b.set (l.length - 1 - i) (48 + l.getD i 0), ⟨by simp [hb], fun j hjl => ?_⟩, ?_⟩
  ·have hg : (b.set (l.length - 1 - i) (48 + l.getD i 0)).getD j 0 = if j = l.length - 1 - i then 48 + l.getD i 0 else b.getD j 0 := z7c hp
   rw [hg, hj j hjl]
   by_cases e : j = l.length - 1 - i
   ·have e3 : l.length - 1 - j = i := by omega
    rw [if_pos e, e3, if_pos (zAg i)]
   ·rw [if_neg e]
    by_cases e3 : l.length - 1 - j < i
    ·rw [if_pos e3, if_pos (by omega)]
    ·rw [if_neg e3, if_neg (by omega)]
  ·show z2s K l (k + 1) b i = _
   rw [z2s, ziw hi, if_pos rfl, zh7 hi]
   simp only [Option.bind_some, e1, zh7 hp, e2, Int.toNat_natCast, kw1 hi (by omega)]
 ·rintro k b i rfl ⟨hb, hj⟩
  refine ⟨b, ?_, ?_⟩
  ·show z2s K l (k + 1) b l.length = _
   rw [z2s, zeu (Nat.le_refl _)]; simp
  ·apply List.ext_getElem (by simp [hb])
   intro j h1 h2
   have h3 := hj j (by omega)
   rw [if_pos (by omega), zAb, zAh h1, zAb, zAh (show l.length - 1 - j < l.length by omega)] at h3
   simp at h3
   simp [h3]
theorem zeb {l : List Int} (hl : l.length <= 1048575) (h0 : l ≠ []) (hK : l.length + 1 < K) (hd : DigB 10 l) : ∃ t, z8o K l = some t /\ CanT t /\ numT t = valB 10 l := by
 have hlen : 0 < l.length := by cases l with | nil => exact absurd rfl h0 | cons _ _ => simp
 have hrange : ∀ x ∈ (l.map (48 + ·)).reverse, 0 <= x /\ x <= 255 := fun x hx => by
  rw [List.mem_reverse, List.mem_map] at hx
  obtain ⟨d, h1, rfl⟩ := hx
  have := hd d h1
  omega
 have hb := zbt _ hrange
 have hz : z04 ((⟨#[48]⟩ : zAd) ++ strOfNums (l.map (48 + ·)).reverse) = 48 :: (l.map (48 + ·)).reverse := by
  rw [z0u, hb]; rfl
 have hsz : ((⟨#[48]⟩ : zAd) ++ strOfNums (l.map (48 + ·)).reverse).size = l.length + 1 := by
  rw [<- z01, hz]; simp
 have hdg : (z04 ((⟨#[48]⟩ : zAd) ++ strOfNums (l.map (48 + ·)).reverse)).all digT = true := by
  rw [hz, List.all_eq_true]
  intro x hx
  rcases List.mem_cons.1 hx with rfl | hx
  ·rfl
  ·rw [List.mem_reverse, List.mem_map] at hx
   obtain ⟨d, h1, rfl⟩ := hx
   have := hd d h1
   simp [digT]; omega
 obtain ⟨t, h1, h2, h3⟩ := zah (K := K) (s := (⟨#[48]⟩ : zAd) ++ strOfNums (l.map (48 + ·)).reverse) (by omega) (by omega) (by omega) hdg
 refine ⟨t, ?_, h2, ?_⟩
 ·unfold z8o
  rw [if_pos (by omega), Int.toNat_natCast, zj8 (by omega) (by omega) hd]
  have e1 : (⟨#[48]⟩ : zAd).size = 1 := rfl
  simp only [Option.bind_some, tu1, List.length_reverse, List.length_map, strOfNums_size, e1]
  rw [if_pos hlen, if_pos (by omega), h1]
  rfl
 ·rw [h3]
  unfold numT z5c
  rw [hz, List.map_cons, List.reverse_cons, z5b, List.map_reverse, List.reverse_reverse, List.map_map]
  have : l.map ((fun x => x - 48) ∘ (fun x => 48 + x)) = l := by
   conv => rhs; rw [<- List.map_id l]
   apply List.map_congr_left
   intro x _
   show 48 + x - 48 = x
   omega
  rw [this]
  simp [valB]
end Go.Am.Tryd
/- Plain law: the reference's sum and difference of texts. -/
namespace Go.Am.Tryd
open Go Go.Am Go.Proofs
variable {K : Nat}
theorem zco (B : Int) (x : List Int) (k : Nat) : valB B (x.take (k + 1)) = valB B (x.take k) + B ^ k * x.getD k 0 := by
 by_cases h : k < x.length
 ·have hx : x[k]? = some x[k] := zAh h
  rw [List.take_add_one, hx, z5b, List.length_take, Nat.min_eq_left (by omega), zAb, hx]
  simp [valB]
 ·rw [List.take_of_length_le (by omega), List.take_of_length_le (by omega), zAb, List.getElem?_eq_none (by omega)]
  simp
theorem zj9 {B : Int} (hB : 0 < B) {x : List Int} (h : DigB B x) (k : Nat) : 0 <= x.getD k 0 /\ x.getD k 0 < B := by
 by_cases hk : k < x.length
 ·rw [zAb, zAh hk]
  exact h _ (List.getElem_mem hk)
 ·rw [zAb, List.getElem?_eq_none (by omega)]
  simp [hB]
theorem zhf {i j : Nat} (h : i <= j) : (10 : Int) ^ i <= 10 ^ j := by
 have h1 : (10 : Nat) ^ i <= 10 ^ j := Nat.pow_le_pow_right (by omega) h
 have h2 : ((10 ^ i : Nat) : Int) <= ((10 ^ j : Nat) : Int) := by omega
 simpa using h2
theorem zja (i : Nat) : 0 < (10 : Int) ^ i := by
 have h1 : 0 < (10 : Nat) ^ i := Nat.pow_pos (by omega)
 have h2 : (0 : Int) < ((10 ^ i : Nat) : Int) := by omega
 simpa using h2
theorem zlh {a b : zAd} (ha : a.size <= 1000000) (hb : b.size <= 1000000) (h0 : 0 < a.size) (hK : 1048580 < K) (da : (z04 a).all digT = true) (db : (z04 b).all digT = true) : ∃ t, z7z K a b = some t /\ CanT t /\ numT t = numT a + numT b := by
 have dx := z7b da
 have dy := z7b db
 have lx := z4y a
 have ly := z4y b
 have vx := z4j (B := 10) (by omega) _ dx
 have vy := z4j (B := 10) (by omega) _ dy
 have key : ∃ r, z26 K a b K [] 0 0 = some r /\ r ≠ [] /\ r.length <= 1048575 /\ DigB 10 r /\ valB 10 r = numT a + numT b := by
  refine ze7 (S := List Int × Int) (max a.size b.size + 1) (fun k s i => z26 K a b k s.1 s.2 i) (fun s i => s.1.length = i /\ DigB 10 s.1 /\ (0 <= s.2 /\ s.2 <= 1) /\ valB 10 s.1 + 10 ^ i * s.2 = valB 10 ((z5c a).take i) + valB 10 ((z5c b).take i)) _ ?_ ?_ K ([], 0) (by omega) ⟨rfl, DigB.nil 10, ⟨by omega, by omega⟩, by simp [valB]⟩
  ·rintro k ⟨out, c⟩ i hi ⟨h1, h2, h3, h4⟩
   simp only at h1 h2 h3 h4
   have hcond : (if (decide ((i : Int) < (a.size : Int))) = true then some true else (if (decide ((i : Int) < (b.size : Int))) = true then some true else some (decide (c > 0)))) = some (decide ((i < a.size \/ i < b.size) \/ c > 0)) := by
    by_cases e1 : i < a.size
    ·simp [e1]
    ·by_cases e2 : i < b.size
     ·simp [e1, e2]
     ·simp [e1, e2]
   show (∃ r, z26 K a b (k + 1) out c i = some r /\ _) \/ _
   rw [z26, hcond]
   simp only [Option.bind_some, tu1]
   by_cases hc : (i < a.size \/ i < b.size) \/ c > 0
   ·right
    have ex := zj9 (by omega) dx i
    have ey := zj9 (by omega) dy i
    rw [decide_eq_true hc, if_pos rfl, z89 (by omega) da i (by omega), z89 (by omega) db i (by omega)]
    have tx := zco 10 (z5c a) i
    have ty := zco 10 (z5c b) i
    generalize (z5c a).getD i 0 = x at ex tx
    generalize (z5c b).getD i 0 = y at ey ty
    have e1 : z05 .i64 (x + y) = x + y := kw (by omega) (by omega)
    have e2 : z05 .i64 (x + y + c) = x + y + c := kw (by omega) (by omega)
    have e3 : Int.tmod (x + y + c) 10 = (x + y + c) % 10 := Int.tmod_eq_emod_of_nonneg (by omega)
    have e4 : Int.tdiv (x + y + c) 10 = (x + y + c) / 10 := Int.tdiv_eq_ediv_of_nonneg (by omega)
    have e5 : z05 .i64 ((x + y + c) / 10) = (x + y + c) / 10 := kw (by omega) (by omega)
    refine ⟨(out ++ [(x + y + c) % 10], (x + y + c) / 10), ⟨by simp [h1], h2.app (fun d hd => by simp at hd; omega), ⟨by omega, by omega⟩, ?_⟩, ?_⟩
    ·have hm := Int.emod_add_mul_ediv (x + y + c) 10
     generalize hq : (x + y + c) / 10 = q at hm
     generalize hr : (x + y + c) % 10 = r at hm
     simp only
     rw [z5b, h1, tx, ty, Int.pow_succ]
     simp only [valB, Int.mul_zero, Int.add_zero]
     generalize valB 10 ((z5c a).take i) = A at h4
     generalize valB 10 ((z5c b).take i) = B at h4
     generalize valB 10 out = C at h4
     generalize (10 : Int) ^ i = p at h4
     have e6 : p * (r + 10 * q) = p * (x + y + c) := by rw [hm]
     rw [Int.mul_add, Int.mul_add, Int.mul_add, <- Int.mul_assoc] at e6
     omega
    ·simp only [Option.bind_some, e1, e2, e3, e4, e5, lt, List.length_cons, List.length_nil, kw1 hi (by omega)]
     rw [if_pos (by omega)]
   ·left
    rw [decide_eq_false hc]
    refine ⟨out, by simp, ?_, by omega, h2, ?_⟩
    ·intro e; rw [e] at h1; simp at h1; omega
    ·rw [List.take_of_length_le (by omega), List.take_of_length_le (by omega)] at h4
     have : c = 0 := by omega
     rw [this] at h4
     unfold numT
     omega
  ·rintro k ⟨out, c⟩ i rfl ⟨h1, h2, h3, h4⟩
   simp only at h1 h2 h3 h4
   rw [List.take_of_length_le (by omega), List.take_of_length_le (by omega)] at h4
   have p1 : (10 : Int) ^ (z5c a).length <= 10 ^ (max a.size b.size) := zhf (by omega)
   have p2 : (10 : Int) ^ (z5c b).length <= 10 ^ (max a.size b.size) := zhf (by omega)
   have p3 := z12 (B := 10) (by omega) _ h2
   have p4 := zja (max a.size b.size)
   have hc0 : c = 0 := by
    by_cases e : c = 0
    ·exact e
    ·have e1 : c = 1 := by omega
     rw [e1, Int.mul_one, Int.pow_succ] at h4
     omega
   subst hc0
   have hcond : (if (decide (((max a.size b.size + 1 : Nat) : Int) < (a.size : Int))) = true then some true else (if (decide (((max a.size b.size + 1 : Nat) : Int) < (b.size : Int))) = true then some true else some (decide ((0 : Int) > 0)))) = some false := by
    rw [decide_eq_false (by omega), decide_eq_false (by omega)]; rfl
   refine ⟨out, ?_, ?_, by omega, h2, by unfold numT; omega⟩
   ·show z26 K a b (k + 1) out 0 _ = _
    rw [z26, hcond]; rfl
   ·intro e; rw [e] at h1; simp at h1
 obtain ⟨r, h1, h2, h3, h4, h5⟩ := key
 obtain ⟨t, h6, h7, h8⟩ := zeb (K := K) h3 h2 (by omega) h4
 refine ⟨t, ?_, h7, by rw [h8, h5]⟩
 unfold z7z
 rw [h1]
 simp only [Option.bind_some, tu1, h6]
theorem zhg {a b : zAd} (ha : a.size <= 1000000) (hb : b.size <= a.size) (h0 : 0 < a.size) (hK : 1048580 < K) (da : (z04 a).all digT = true) (db : (z04 b).all digT = true) (hle : numT b <= numT a) : ∃ t, z6s K a b = some t /\ CanT t /\ numT t = numT a - numT b := by
 have dx := z7b da
 have dy := z7b db
 have lx := z4y a
 have ly := z4y b
 have key : ∃ r, z25 K a b K [] 0 0 = some r /\ r ≠ [] /\ r.length <= 1048575 /\ DigB 10 r /\ valB 10 r = numT a - numT b := by
  refine ze7 (S := List Int × Int) a.size (fun k s i => z25 K a b k s.1 s.2 i) (fun s i => s.1.length = i /\ DigB 10 s.1 /\ (0 <= s.2 /\ s.2 <= 1) /\ valB 10 s.1 + valB 10 ((z5c b).take i) = valB 10 ((z5c a).take i) + 10 ^ i * s.2) _ ?_ ?_ K ([], 0) (by omega) ⟨rfl, DigB.nil 10, ⟨by omega, by omega⟩, by simp [valB]⟩
  ·rintro k ⟨out, c⟩ i hi ⟨h1, h2, h3, h4⟩
   simp only at h1 h2 h3 h4
   right
   have ex := zj9 (by omega) dx i
   have ey := zj9 (by omega) dy i
   show ∃ s', _ /\ z25 K a b (k + 1) out c i = _
   rw [z25, ziw hi, if_pos rfl, z89 (by omega) da i (by omega), z89 (by omega) db i (by omega)]
   have tx := zco 10 (z5c a) i
   have ty := zco 10 (z5c b) i
   generalize (z5c a).getD i 0 = x at ex tx
   generalize (z5c b).getD i 0 = y at ey ty
   have e1 : z05 .i64 (x - y) = x - y := kw (by omega) (by omega)
   have e2 : z05 .i64 (x - y - c) = x - y - c := kw (by omega) (by omega)
   have e3 : z05 .i64 (x - y - c + 10) = x - y - c + 10 := kw (by omega) (by omega)
   simp only [Option.bind_some, e1, e2, e3, lt, tu2, List.length_cons, List.length_nil, kw1 hi (by omega)]
   have h9 : out.length + (0 + 1) <= 16777216 := by omega
   by_cases hn : x - y - c < 0
   ·refine ⟨(out ++ [x - y - c + 10], 1), ⟨by simp [h1], h2.app (fun d hd => by simp at hd; omega), ⟨by omega, by omega⟩, ?_⟩, ?_⟩
    ·simp only
     rw [z5b, h1, tx, ty, Int.pow_succ]
     simp only [valB, Int.mul_zero, Int.add_zero, Int.mul_one]
     generalize valB 10 ((z5c a).take i) = A at h4
     generalize valB 10 ((z5c b).take i) = B at h4
     generalize valB 10 out = C at h4
     generalize (10 : Int) ^ i = p at h4
     rw [Int.mul_add, Int.mul_sub, Int.mul_sub]
     omega
    ·rw [decide_eq_true hn]
     simp only [if_true, Option.bind_some, if_pos h9, tu2]
   ·refine ⟨(out ++ [x - y - c], 0), ⟨by simp [h1], h2.app (fun d hd => by simp at hd; omega), ⟨by omega, by omega⟩, ?_⟩, ?_⟩
    ·simp only
     rw [z5b, h1, tx, ty, Int.pow_succ]
     simp only [valB, Int.mul_zero, Int.add_zero]
     generalize valB 10 ((z5c a).take i) = A at h4
     generalize valB 10 ((z5c b).take i) = B at h4
     generalize valB 10 out = C at h4
     generalize (10 : Int) ^ i = p at h4
     rw [Int.mul_sub, Int.mul_sub]
     omega
    ·rw [decide_eq_false hn]
     simp only [Bool.false_eq_true, if_false, Option.bind_some, if_pos h9, tu2]
  ·rintro k ⟨out, c⟩ i rfl ⟨h1, h2, h3, h4⟩
   simp only at h1 h2 h3 h4
   rw [List.take_of_length_le (by omega), List.take_of_length_le (by omega)] at h4
   have p3 := z4j (B := 10) (by omega) _ h2
   rw [h1] at p3
   have hle' : valB 10 (z5c b) <= valB 10 (z5c a) := hle
   have hc0 : c = 0 := by
    by_cases e : c = 0
    ·exact e
    ·have e1 : c = 1 := by omega
     rw [e1, Int.mul_one] at h4
     omega
   subst hc0
   refine ⟨out, ?_, ?_, by omega, h2, by unfold numT; omega⟩
   ·show z25 K a b (k + 1) out 0 _ = _
    rw [z25, zeu (Nat.le_refl _)]; simp
   ·intro e; rw [e] at h1; simp at h1; omega
 obtain ⟨r, h1, h2, h3, h4, h5⟩ := key
 obtain ⟨t, h6, h7, h8⟩ := zeb (K := K) h3 h2 (by omega) h4
 refine ⟨t, ?_, h7, by rw [h8, h5]⟩
 unfold z6s
 rw [h1]
 simp only [Option.bind_some, tu1, h6]
end Go.Am.Tryd
/- Plain law: the reference's comparison, product, quotient and divisor of texts. -/
namespace Go.Am.Tryd
open Go Go.Am Go.Proofs
variable {K : Nat}
theorem z37 {s : zAd} (h : (z04 s).all digT = true) : 0 <= numT s := z5t h
theorem zb6 {s : zAd} (h : (z04 s).all digT = true) : numT s < 10 ^ s.size := by
 have := zbu h
 rwa [z01] at this
theorem zbv {s : zAd} (h : CanT s) (h2 : 2 <= s.size) : (10 : Int) ^ (s.size - 1) <= numT s := by
 have hh : (z04 s).head? ≠ some 48 := fun e => by have := h.2.2 e; omega
 have h3 := zh8 (B := 10) (by omega) (zcm h hh) (by intro e; have := z4y s; rw [e] at this; simp at this; omega)
 rwa [z4y] at h3
theorem zb7 {a b : zAd} (ha : (z04 a).all digT = true) (hb : CanT b) (h0 : a.size ≠ 0) (h : a.size < b.size) : numT a < numT b := by
 have h1 := zb6 ha
 have h2 := zbv hb (by omega)
 have h3 : (10 : Int) ^ a.size <= 10 ^ (b.size - 1) := z6x (by omega) (by omega)
 omega
theorem z3o {a b : zAd} (ha : CanT a) (hb : CanT b) (h : numT b <= numT a) : b.size <= a.size := by
 refine Nat.not_lt.1 fun hl => ?_
 have := zb7 ha.2.1 hb ha.1 hl
 omega
theorem z9f : CanT ⟨#[48]⟩ := ⟨by decide, rfl, fun _ => rfl⟩
theorem z5l : numT ⟨#[48]⟩ = 0 := rfl
theorem z8s : CanT ⟨#[49]⟩ := ⟨by decide, rfl, fun h => by simp [z04] at h⟩
theorem z82 : numT ⟨#[49]⟩ = 1 := rfl
theorem zb8 {s : zAd} (h : CanT s) : numT s = 0 ↔ s = ⟨#[48]⟩ := ⟨fun e => z8q h z9f (by rw [e, z5l]), fun e => by rw [e, z5l]⟩
theorem za2 : ∀ (x y : List UInt8), x.length = y.length -> (x.map fun b => (b.toNat : Int)).all digT = true -> (y.map fun b => (b.toNat : Int)).all digT = true -> (Op.bytesLess x y = true ↔ numB (x.map fun b => (b.toNat : Int)) < numB (y.map fun b => (b.toNat : Int)))
 | [], [], _, _, _ => by simp [Op.bytesLess]
 | [], _ :: _, h, _, _ => by simp at h
 | _ :: _, [], h, _, _ => by simp at h
 | a :: x, b :: y, h, hx, hy => by
  simp only [List.map_cons, List.all_cons, Bool.and_eq_true] at hx hy
  simp only [List.length_cons, Nat.add_right_cancel_iff] at h
  have ih := za2 x y h hx.2 hy.2
  have dx := digT_iff.1 hx.1
  have dy := digT_iff.1 hy.1
  simp only [Op.bytesLess, List.map_cons, zag, List.length_map, h]
  have lx0 := z5t hx.2
  have lx1 := zbu hx.2
  have ly0 := z5t hy.2
  have ly1 := zbu hy.2
  rw [List.length_map] at lx1 ly1
  rw [h] at lx1
  generalize numB (x.map fun b => (b.toNat : Int)) = X at *
  generalize numB (y.map fun b => (b.toNat : Int)) = Y at *
  have p0 : (0 : Int) < 10 ^ y.length := Int.pow_pos (by omega)
  generalize (10 : Int) ^ y.length = P at *
  rw [Bool.or_eq_true, Bool.and_eq_true, ih, decide_eq_true_eq, beq_iff_eq, UInt8.lt_iff_toNat_lt]
  rcases Nat.lt_trichotomy a.toNat b.toNat with h1 | h1 | h1
  ·have := z3a (Int.le_of_lt p0) (show ((a.toNat : Int) - 48) + 1 <= (b.toNat : Int) - 48 by omega)
   rw [Int.mul_add, Int.mul_one] at this
   exact ⟨fun _ => by omega, fun _ => .inl h1⟩
  ·have e : a = b := UInt8.toNat_inj.1 h1
   subst e
   exact ⟨fun h => by rcases h with h | h <;> omega, fun h => .inr ⟨rfl, by omega⟩⟩
  ·have := z3a (Int.le_of_lt p0) (show ((b.toNat : Int) - 48) + 1 <= (a.toNat : Int) - 48 by omega)
   rw [Int.mul_add, Int.mul_one] at this
   refine ⟨fun h => ?_, fun h => by omega⟩
   rcases h with h | ⟨h, _⟩
   ·omega
   ·subst h; omega
theorem zli {a b : zAd} (h : a.size = b.size) (ha : (z04 a).all digT = true) (hb : (z04 b).all digT = true) : sLt a b = decide (numT a < numT b) := by
 have := za2 a.data.toList b.data.toList (by simpa using h) ha hb
 unfold sLt
 rw [ByteArray.toList_eq, ByteArray.toList_eq]
 by_cases c : numT a < numT b
 ·rw [decide_eq_true c]; exact this.2 c
 ·rw [decide_eq_false c]
  cases e : Op.bytesLess a.data.toList b.data.toList with
  | false => rfl
  | true => exact absurd (this.1 e) c
theorem zjs {a b : zAd} (ha : CanT a) (hb : CanT b) : z6r K a b = some (if numT a < numT b then -1 else if numT a = numT b then 0 else 1) := by
 unfold z6r
 by_cases h1 : a.size < b.size
 ·have := zb7 ha.2.1 hb ha.1 h1
  simp (discharger := omega) only [runL]
 ·by_cases h2 : a.size > b.size
  ·have := zb7 hb.2.1 ha hb.1 h2
   simp (discharger := omega) only [runL]
  ·have he : a.size = b.size := by omega
   rw [if_neg (by simp; omega), if_neg (by simp; omega), zli he ha.2.1 hb.2.1]
   by_cases c : numT a < numT b
   ·simp (discharger := omega) only [runL]
   ·by_cases d : numT a = numT b
    ·have : a = b := z8q ha hb d
     subst this
     have e : sEq a a = true := sEq_iff.2 rfl
     simp [e]
    ·have e : sEq a b = false := by
      cases e : sEq a b with
      | false => rfl
      | true => rw [sEq_iff] at e; subst e; exact absurd rfl d
     simp [e, c, d]
theorem zlj {b : zAd} {out : List Int} {u : Int} {i : Nat} (hb : b.size <= 1000000) (hl : i + b.size < out.length) (ho : out.length <= 8000000) (hK : 2000000000 < K) (hu : 0 <= u /\ u <= 9) (db : (z04 b).all digT = true) (d0 : DigB 10 out) :
  ∃ r : List Int, z2y K b (i : Int) u K out 0 = some r /\ r.length = out.length /\ (∀ j, 0 <= r.getD j 0 /\ r.getD j 0 <= 90) /\ valB 10 r = valB 10 out + 10 ^ i * (u * numT b) := by
 have dx := z7b db
 have lx := z4y b
 refine za1 (fun k (s : List Int × Int) => z2y K b (i : Int) u k s.1 s.2) (fun s => ∃ q : Nat, s.2 = q /\ q <= b.size /\ s.1.length = out.length /\ (∀ j, 0 <= s.1.getD j 0 /\ s.1.getD j 0 <= 90) /\ (∀ j, i + q <= j -> s.1.getD j 0 <= 9) /\ valB 10 s.1 = valB 10 out + 10 ^ i * (u * valB 10 ((z5c b).take q))) (fun s => (b.size - s.2 : Int).toNat) _ ?_ ((out, 0) : List Int × Int) (by simp; omega) ⟨0, rfl, by omega, rfl, fun j => by have := z1s (by omega) d0 j; dsimp only; omega, fun j _ => by have := z1s (by omega) d0 j; dsimp only; omega, by simp [valB]⟩
 rintro k ⟨o, _⟩ ⟨q, rfl, h0, h1, h2, h3, h4⟩
 dsimp only at h1 h2 h3 h4 ⊢
 by_cases hq : q < b.size
 ·right
  have ey := z1s (by omega) dx q
  have eo := h2 (i + q)
  have eo9 := h3 (i + q) (Nat.le_refl _)
  have ty := z36 10 (z5c b) q
  have hdg := z89 (K := K) (s := b) (by omega) db q (by omega)
  have hm : 0 <= u * (z5c b).getD q 0 /\ u * (z5c b).getD q 0 <= 81 := by
   have := z3a hu.1 (show (z5c b).getD q 0 <= 9 by omega)
   exact ⟨z8d hu.1 ey.1, by omega⟩
  have hset := fun d => z6f 10 o (i + q) d (by omega)
  have hgs := fun d j => z7c (cs := o) (i := i + q) (j := j) (v := d) (by omega)
  have e1 : ((i : Int) + (q : Int)) = ((i + q : Nat) : Int) := by omega
  generalize hw : u * (z5c b).getD q 0 = w at hm
  generalize ho : o.getD (i + q) 0 = z at eo eo9 hset
  refine ⟨(o.set (i + q) (z + w), (q : Int) + 1), ?_, by dsimp only; omega, q + 1, rfl, by omega, by simp [h1], fun j => ?_, fun j hj => ?_, ?_⟩
  ·rw [z2y, hdg]
   simp (discharger := omega) only [runL, e1, hw, ho]
  ·dsimp only; rw [hgs]; split
   ·omega
   ·exact h2 j
  ·dsimp only; rw [hgs, if_neg (by omega)]; exact h3 j (by omega)
  ·dsimp only
   rw [hset, h4, ty, <- hw, Int.pow_add]
   grind
 ·left
  have : q = b.size := by omega
  subst this
  rw [List.take_of_length_le (by omega)] at h4
  exact ⟨o, by rw [z2y]; simp (discharger := omega) only [runL], h1, h2, h4⟩
theorem zhh {c v : List Int} (hv : v.length + 1 = c.length) (hl : c.length <= 8000000) (hK : 2000000000 < K) (hc : ∀ j, 0 <= c.getD j 0 /\ c.getD j 0 <= 90) :
  ∃ r : List Int, z2l K v K c 0 = some r /\ r.length = c.length /\ (∀ j, 0 <= r.getD j 0) /\ (∀ j < v.length, r.getD j 0 <= 9) /\ valB 10 r = valB 10 c := by
 refine za1 (fun k (s : List Int × Int) => z2l K v k s.1 s.2) (fun s => ∃ i : Nat, s.2 = i /\ i <= v.length /\ s.1.length = c.length /\ (∀ j, 0 <= s.1.getD j 0 /\ s.1.getD j 0 <= 100) /\ (∀ j, i < j -> s.1.getD j 0 <= 90) /\ (∀ j < i, s.1.getD j 0 <= 9) /\ valB 10 s.1 = valB 10 c) (fun s => (v.length - s.2 : Int).toNat) _ ?_ ((c, 0) : List Int × Int) (by simp; omega) ⟨0, rfl, by omega, rfl, fun j => by have := hc j; dsimp only; omega, fun j _ => by have := hc j; dsimp only; omega, fun j hj => by omega, rfl⟩
 rintro k ⟨o, _⟩ ⟨i, rfl, h0, h1, h2, h3, h4, h5⟩
 dsimp only at h1 h2 h3 h4 h5 ⊢
 by_cases hi : i < v.length
 ·right
  have e1 : ((i : Int) + 1).toNat = i + 1 := by omega
  have b1 := h2 i
  have b2 := h2 (i + 1)
  have b3 := h3 (i + 1) (by omega)
  by_cases h9 : o.getD i 0 > 9
  ·generalize hz : o.getD i 0 = z at *
   generalize hz1 : o.getD (i + 1) 0 = z1 at *
   have hdm := Int.emod_add_mul_ediv z 10
   have hset := fun d => z6f 10 o (i + 1) d (by omega)
   have hset2 := fun d e => z6f 10 (o.set (i + 1) d) i e (by simp; omega)
   have hgs := fun d j => z7c (cs := o) (i := i + 1) (j := j) (v := d) (by omega)
   have hgs2 := fun d e j => z7c (cs := o.set (i + 1) d) (i := i) (j := j) (v := e) (by simp; omega)
   have hgi := fun d => hgs d i
   simp only [show ¬ i = i + 1 by omega, if_false, hz] at hgi
   have hsi : ∀ d, idx (o.set (i + 1) d) (i : Int) = some z := fun d => by rw [idxI (by omega) (by simp; omega), Int.toNat_natCast, hgi]
   refine ⟨((o.set (i + 1) (z1 + z / 10)).set i (z % 10), (i : Int) + 1), ?_, by dsimp only; omega, i + 1, rfl, by omega, by simp [h1], fun j => ?_, fun j hj => ?_, fun j hj => ?_, ?_⟩
   ·rw [z2l]
    simp (discharger := omega) only [runL, e1, hz, hz1, hsi]
   ·dsimp only; rw [hgs2, hgs]
    have := h2 j
    split
    ·omega
    ·split <;> omega
   ·dsimp only; rw [hgs2, hgs, if_neg (by omega), if_neg (by omega)]; exact h3 j (by omega)
   ·dsimp only; rw [hgs2]
    split
    ·omega
    ·rw [hgs, if_neg (by omega)]; exact h4 j (by omega)
   ·dsimp only
    rw [hset2, hset, hgi, hz1, h5, Int.pow_succ]
    grind
  ·refine ⟨(o, (i : Int) + 1), ?_, by dsimp only; omega, i + 1, rfl, by omega, h1, h2, fun j hj => h3 j (by omega), fun j hj => ?_, h5⟩
   ·have e : decide (o.getD i 0 > 9) = false := decide_eq_false h9
    rw [z2l]
    simp (discharger := omega) only [runL, e, Bool.false_eq_true]
   ·by_cases hj2 : j = i
    ·subst hj2; dsimp only; omega
    ·exact h4 j (by omega)
 ·left
  have : i = v.length := by omega
  subst this
  exact ⟨o, by rw [z2l]; simp (discharger := omega) only [runL], h1, fun j => (h2 j).1, h4, h5⟩
theorem kr1 {A B p q X : Int} : A * B + p * (q * B) = (A + p * q) * B := by grind
theorem zjb {a b : zAd} (ha : a.size <= 500000) (hb : b.size <= 500000) (hK : 2000000000 < K) (da : (z04 a).all digT = true) (db : (z04 b).all digT = true) :
  ∃ r : List Int, z2z K a b K (List.replicate (a.size + b.size + 1) 0) 0 = some r /\ r.length = a.size + b.size + 1 /\ DigB 10 r /\ valB 10 r = numT a * numT b := by
 have dx := z7b da
 have lx := z4y a
 refine za1 (fun k (s : List Int × Int) => z2z K a b k s.1 s.2) (fun s => ∃ i : Nat, s.2 = i /\ i <= a.size /\ s.1.length = a.size + b.size + 1 /\ DigB 10 s.1 /\ valB 10 s.1 = valB 10 ((z5c a).take i) * numT b) (fun s => (a.size - s.2 : Int).toNat) _ ?_ ((List.replicate (a.size + b.size + 1) 0, 0) : List Int × Int) (by simp; omega) ⟨0, rfl, by omega, by simp, .zeros (by omega) _, by simp [valB, z9d]⟩
 rintro k ⟨o, _⟩ ⟨i, rfl, h0, h1, h2, h4⟩
 dsimp only at h1 h2 h4 ⊢
 by_cases hi : i < a.size
 ·right
  have ex := z1s (by omega) dx i
  have tx := z36 10 (z5c a) i
  have hdg := z89 (K := K) (s := a) (by omega) da i (by omega)
  obtain ⟨c, c1, c2, c3, c4⟩ := zlj (K := K) (b := b) (out := o) (u := (z5c a).getD i 0) (i := i) (by omega) (by omega) (by omega) hK ⟨ex.1, by omega⟩ db h2
  obtain ⟨v, hv⟩ : ∃ v, lsl c 0 ((c.length : Int) - 1) = some v := ⟨_, lslI (by omega) (by omega) (by omega)⟩
  have hvl : v.length + 1 = c.length := by
   rw [lslI (by omega) (by omega) (by omega)] at hv
   cases hv
   rw [List.length_take, List.length_drop]
   omega
  obtain ⟨r, r1, r2, r3, r4, r5⟩ := zhh (K := K) (c := c) (v := v) hvl (by omega) hK c3
  have hval : valB 10 r = valB 10 ((z5c a).take (i + 1)) * numT b := by
   rw [r5, c4, h4, tx, kr1 (X := 0)]
  -- no digit is left over
  have htop : r.getD v.length 0 = 0 := by
   have s1 := z81 10 r v.length (by omega)
   have dlow : DigB 10 (r.take v.length) := fun d hd => by
    obtain ⟨j, hj, rfl⟩ := List.mem_iff_getElem.1 hd
    rw [List.length_take] at hj
    have q1 := r3 j
    have q2 := r4 j (by omega)
    rw [List.getElem_take]
    rw [zAb, zAh (by omega)] at q1 q2
    simp at q1 q2
    omega
   have s2 := z12 (B := 10) (by omega) _ dlow
   have s3 : r.drop v.length = [r.getD v.length 0] := by
    rw [List.drop_eq_getElem_cons (by omega), List.drop_eq_nil_of_le (by omega), zAb, zAh (by omega)]; rfl
   rw [s3] at s1
   simp only [valB, Int.mul_zero, Int.add_zero] at s1
   have t1 := z4j (B := 10) (by omega) _ (dx.take (i + 1))
   have t2 := zb6 db
   have t3 := z37 db
   have t4 := z12 (B := 10) (by omega) _ (dx.take (i + 1))
   have t5 : (10 : Int) ^ ((z5c a).take (i + 1)).length <= 10 ^ a.size := z6x (by omega) (by rw [List.length_take]; omega)
   have t6 : valB 10 r < 10 ^ v.length := by
    rw [hval, show v.length = a.size + b.size by omega, Int.pow_add]
    have p0 : (0 : Int) < 10 ^ b.size := Int.pow_pos (by omega)
    have m1 := z3a t4 (show numT b <= 10 ^ b.size by omega)
    have m2 := Int.mul_lt_mul_of_pos_right (show valB 10 ((z5c a).take (i + 1)) < 10 ^ a.size by omega) p0
    omega
   refine Int.le_antisymm (Int.not_lt.1 fun hlt => ?_) (r3 _)
   have p0 : (0 : Int) < 10 ^ v.length := Int.pow_pos (by omega)
   have := z3a (Int.le_of_lt p0) (show 1 <= r.getD v.length 0 by omega)
   omega
  have dr : DigB 10 r := fun d hd => by
   obtain ⟨j, hj, rfl⟩ := List.mem_iff_getElem.1 hd
   have q1 := r3 j
   have q2 : r.getD j 0 <= 9 := by
    by_cases hjv : j < v.length
    ·exact r4 j hjv
    ·have : j = v.length := by omega
     subst this; omega
   rw [zAb, zAh hj] at q1 q2
   simp at q1 q2
   omega
  refine ⟨(r, (i : Int) + 1), ?_, by dsimp only; omega, i + 1, rfl, by omega, by dsimp only; omega, dr, hval⟩
  have hcl : (c.length : Int) - 1 = c.length - 1 := rfl
  rw [z2z, hdg, if_pos (decide_eq_true (by omega)), z0i, c1, z0i, tu1a, k64 (by omega) (by omega), hv, z0i, r1, z0i, tu1a, k64 (by omega) (by omega)]
 ·left
  have : i = a.size := by omega
  subst this
  rw [List.take_of_length_le (by omega)] at h4
  exact ⟨o, by rw [z2z]; simp (discharger := omega) only [runL], h1, h2, h4⟩
theorem zdk {a b : zAd} (ha : a.size <= 500000) (hb : b.size <= 500000) (hK : 2000000000 < K) (da : (z04 a).all digT = true) (db : (z04 b).all digT = true) : ∃ t, z4h K a b = some t /\ CanT t /\ numT t = numT a * numT b := by
 obtain ⟨r, h1, h2, h3, h4⟩ := zjb ha hb hK da db
 obtain ⟨t, t1, t2, t3⟩ := zeb (K := K) (l := r) (by omega) (by intro e; rw [e] at h2; simp at h2) (by omega) h3
 refine ⟨t, ?_, t2, by rw [t3, h4]⟩
 unfold z4h
 have e1 : ((a.size : Int) + (b.size : Int) + 1) = ((a.size + b.size + 1 : Nat) : Int) := by omega
 simp (discharger := omega) only [runL, e1, h1, t1]
end Go.Am.Tryd
/- Plain law: long division of the program's numbers. -/
namespace Go.Am.Tryd
open Go Go.Am Go.Proofs
variable {K : Nat}
theorem zhi (u : List Int) (i n : Nat) (h : i + n <= u.length) : valB 1000000000 u = valB 1000000000 (u.take i) + 1000000000 ^ i * (valB 1000000000 ((u.drop i).take n) + 1000000000 ^ n * valB 1000000000 (u.drop (i + n))) := by
 have h1 := z81 1000000000 u i (by omega)
 have h2 := z81 1000000000 (u.drop i) n (by rw [List.length_drop]; omega)
 rw [h1, h2, List.drop_drop]
theorem zjt {l : List Int} {i : Nat} (h : l.length <= i) : l.getD i 0 = 0 := by rw [zAb, List.getElem?_eq_none h]; rfl
theorem zkj {u v : List Int} {k : Nat} {q : Int} (hk : k + v.length + 1 <= u.length) (hl : u.length <= 8000000) (hK : 2000000000 < K) (hq : 0 <= q /\ q < 1000000000) (du : DigB 1000000000 u) (dv : DigB 1000000000 v) :
  ∃ (b : Int) (u' : List Int), z3f K u v k q = some (decide (b > 0), u') /\ (b = 0 \/ b = 1) /\ u'.length = u.length /\ DigB 1000000000 u' /\ u'.take k = u.take k /\ u'.drop (k + (v.length + 1)) = u.drop (k + (v.length + 1)) ∧
   valB 1000000000 u' = valB 1000000000 u - 1000000000 ^ k * (q * valB 1000000000 v) + 1000000000 ^ (k + (v.length + 1)) * b := by
 have key : ∃ r : List Int × Int, z1d K v k q K u 0 0 0 = some r /\ (r.2 = 0 \/ r.2 = 1) /\ r.1.length = u.length /\ DigB 1000000000 r.1 /\ r.1.take k = u.take k /\ r.1.drop (k + (v.length + 1)) = u.drop (k + (v.length + 1)) ∧
   valB 1000000000 r.1 = valB 1000000000 u - 1000000000 ^ k * (q * valB 1000000000 v) + 1000000000 ^ (k + (v.length + 1)) * r.2 := by
  refine za1 (fun m (s : List Int × Int × Int × Int) => z1d K v k q m s.1 s.2.1 s.2.2.1 s.2.2.2) (fun s => ∃ i : Nat, s.2.2.2 = i /\ i <= v.length + 1 /\ s.1.length = u.length /\ DigB 1000000000 s.1 /\ (s.2.1 = 0 \/ s.2.1 = 1) /\ (0 <= s.2.2.1 /\ s.2.2.1 < 1000000000) /\ (i = v.length + 1 -> s.2.2.1 = 0) /\ s.1.take k = u.take k /\ s.1.drop (k + (v.length + 1)) = u.drop (k + (v.length + 1)) ∧
   valB 1000000000 s.1 = valB 1000000000 u - 1000000000 ^ k * (q * valB 1000000000 (v.take i)) + 1000000000 ^ (k + i) * (s.2.1 + s.2.2.1)) (fun s => (v.length + 1 - s.2.2.2 : Int).toNat) _ ?_ ((u, 0, 0, 0) : List Int × Int × Int × Int) (by simp; omega) ⟨0, rfl, by omega, rfl, du, .inl rfl, by simp, by simp, rfl, rfl, by simp [valB]⟩
  rintro m ⟨o, b, c, _⟩ ⟨i, rfl, h0, h1, h2, h3, h4, h5, h6, h7, h8⟩
  dsimp only at h1 h2 h3 h4 h5 h6 h7 h8 ⊢
  by_cases hi : i < v.length + 1
  ·right
   have ev := z1s (by omega) dv i
   have eo := z1s (by omega) h2 (k + i)
   have hm := zjr hq ev
   have tv := z36 1000000000 v i
   have e1 : ((k : Int) + (i : Int)) = ((k + i : Nat) : Int) := by omega
   have e2 : (1000000000 : Int) ^ (k + (i + 1)) = 1000000000 ^ k * 1000000000 ^ i * 1000000000 := by rw [<- Nat.add_assoc, Int.pow_succ, Int.pow_add]
   have hset := fun d => z6f 1000000000 o (k + i) d (by omega)
   have hz : ¬ i < v.length -> q * v.getD i 0 = 0 := fun h => by rw [zjt (by omega)]; simp
   generalize hw : q * v.getD i 0 = w at hm hz
   generalize ho : o.getD (k + i) 0 = z at eo hset
   have hdm := Int.emod_add_mul_ediv (c + w) 1000000000
   have htk : ∀ d, (o.set (k + i) d).take k = u.take k := fun d => by rw [List.take_set_of_le (by omega), h6]
   have hdr : ∀ d, (o.set (k + i) d).drop (k + (v.length + 1)) = u.drop (k + (v.length + 1)) := fun d => by rw [List.drop_set_of_lt (by omega), h7]
   have hc0 : i + 1 = v.length + 1 -> (c + w) / 1000000000 = 0 := fun h => by rw [hz (by omega)]; omega
   have hb2 : 0 <= b /\ b <= 1 := by rcases h3 with rfl | rfl <;> omega
   by_cases hn : z - (c + w) % 1000000000 - b < 0
   ·refine ⟨(o.set (k + i) (z - (c + w) % 1000000000 - b + 1000000000), 1, (c + w) / 1000000000, (i : Int) + 1), ?_, by dsimp only; omega, i + 1, rfl, by omega, by simp [h1], h2.set _ (by omega), .inr rfl, by dsimp only; omega, hc0, htk _, hdr _, ?_⟩
    ·rw [z1d]
     by_cases h : i < v.length
     ·simp (discharger := omega) only [runL, e1, hw, ho]
     ·have e := hz h
      subst e
      simp only [Int.add_zero] at hn ⊢
      simp (discharger := omega) only [runL, e1, ho]
    ·dsimp only
     rw [hset, tv, e2]
     rw [Int.pow_add] at h8 ⊢
     subst hw
     generalize (c + q * v.getD i 0) / 1000000000 = Q at *
     generalize (c + q * v.getD i 0) % 1000000000 = R at *
     grind
   ·refine ⟨(o.set (k + i) (z - (c + w) % 1000000000 - b), 0, (c + w) / 1000000000, (i : Int) + 1), ?_, by dsimp only; omega, i + 1, rfl, by omega, by simp [h1], h2.set _ (by omega), .inl rfl, by dsimp only; omega, hc0, htk _, hdr _, ?_⟩
    ·rw [z1d]
     by_cases h : i < v.length
     ·simp (discharger := omega) only [runL, e1, hw, ho]
     ·have e := hz h
      subst e
      simp only [Int.add_zero] at hn ⊢
      simp (discharger := omega) only [runL, e1, ho]
    ·dsimp only
     rw [hset, tv, e2]
     rw [Int.pow_add] at h8 ⊢
     subst hw
     generalize (c + q * v.getD i 0) / 1000000000 = Q at *
     generalize (c + q * v.getD i 0) % 1000000000 = R at *
     grind
  ·left
   have : i = v.length + 1 := by omega
   subst this
   have hc := h5 rfl
   subst hc
   rw [List.take_of_length_le (by omega), Int.add_zero] at h8
   exact ⟨(o, b), by rw [z1d]; simp (discharger := omega) only [runL], h3, h1, h2, h6, h7, h8⟩
 obtain ⟨⟨u', b⟩, h1, h2⟩ := key
 exact ⟨b, u', by unfold z3f; rw [h1]; rfl, h2⟩
theorem zlk {u v : List Int} {k : Nat} (hk : k + v.length + 1 <= u.length) (hl : u.length <= 8000000) (hK : 2000000000 < K) (du : DigB 1000000000 u) (dv : DigB 1000000000 v) :
  ∃ (u' : List Int) (b : Int), z3x K u v k = some u' /\ (b = 0 \/ b = 1) /\ u'.length = u.length /\ DigB 1000000000 u' /\ u'.take k = u.take k /\ u'.drop (k + (v.length + 1)) = u.drop (k + (v.length + 1)) ∧
   valB 1000000000 u' + 1000000000 ^ (k + (v.length + 1)) * b = valB 1000000000 u + 1000000000 ^ k * valB 1000000000 v := by
 have key : ∃ r : List Int, z22 K v k K u 0 0 = some r /\ ∃ b : Int, (b = 0 \/ b = 1) /\ r.length = u.length /\ DigB 1000000000 r /\ r.take k = u.take k /\ r.drop (k + (v.length + 1)) = u.drop (k + (v.length + 1)) ∧
   valB 1000000000 r + 1000000000 ^ (k + (v.length + 1)) * b = valB 1000000000 u + 1000000000 ^ k * valB 1000000000 v := by
  refine za1 (fun m (s : List Int × Int × Int) => z22 K v k m s.1 s.2.1 s.2.2) (fun s => ∃ i : Nat, s.2.2 = i /\ i <= v.length + 1 /\ s.1.length = u.length /\ DigB 1000000000 s.1 /\ (s.2.1 = 0 \/ s.2.1 = 1) /\ s.1.take k = u.take k /\ s.1.drop (k + (v.length + 1)) = u.drop (k + (v.length + 1)) ∧
   valB 1000000000 s.1 + 1000000000 ^ (k + i) * s.2.1 = valB 1000000000 u + 1000000000 ^ k * valB 1000000000 (v.take i)) (fun s => (v.length + 1 - s.2.2 : Int).toNat) _ ?_ ((u, 0, 0) : List Int × Int × Int) (by simp; omega) ⟨0, rfl, by omega, rfl, du, .inl rfl, rfl, rfl, by simp [valB]⟩
  rintro m ⟨o, b, _⟩ ⟨i, rfl, h0, h1, h2, h3, h6, h7, h8⟩
  dsimp only at h1 h2 h3 h6 h7 h8 ⊢
  by_cases hi : i < v.length + 1
  ·right
   have ev := z1s (by omega) dv i
   have eo := z1s (by omega) h2 (k + i)
   have tv := z36 1000000000 v i
   have e1 : ((k : Int) + (i : Int)) = ((k + i : Nat) : Int) := by omega
   have e2 : (1000000000 : Int) ^ (k + (i + 1)) = 1000000000 ^ k * 1000000000 ^ i * 1000000000 := by rw [<- Nat.add_assoc, Int.pow_succ, Int.pow_add]
   have hset := fun d => z6f 1000000000 o (k + i) d (by omega)
   have hz : ¬ i < v.length -> v.getD i 0 = 0 := fun h => zjt (by omega)
   generalize hw : v.getD i 0 = w at ev hz tv
   generalize ho : o.getD (k + i) 0 = z at eo hset
   have hdm := Int.emod_add_mul_ediv (z + b + w) 1000000000
   have htk : ∀ d, (o.set (k + i) d).take k = u.take k := fun d => by rw [List.take_set_of_le (by omega), h6]
   have hdr : ∀ d, (o.set (k + i) d).drop (k + (v.length + 1)) = u.drop (k + (v.length + 1)) := fun d => by rw [List.drop_set_of_lt (by omega), h7]
   have hb2 : 0 <= b /\ b <= 1 := by rcases h3 with rfl | rfl <;> omega
   refine ⟨(o.set (k + i) ((z + b + w) % 1000000000), (z + b + w) / 1000000000, (i : Int) + 1), ?_, by dsimp only; omega, i + 1, rfl, by omega, by simp [h1], h2.set _ (by omega), by dsimp only; omega, htk _, hdr _, ?_⟩
   ·rw [z22]
    by_cases h : i < v.length
    ·simp (discharger := omega) only [runL, e1, hw, ho]
    ·have e := hz h
     subst e
     simp only [Int.add_zero] at hdm ⊢
     simp (discharger := omega) only [runL, e1, ho]
   ·dsimp only
    rw [hset, tv, e2]
    rw [Int.pow_add] at h8
    generalize (z + b + w) / 1000000000 = Q at *
    generalize (z + b + w) % 1000000000 = R at *
    grind
  ·left
   have : i = v.length + 1 := by omega
   subst this
   rw [List.take_of_length_le (by omega)] at h8
   exact ⟨o, by rw [z22]; simp (discharger := omega) only [runL], b, h3, h1, h2, h6, h7, h8⟩
 obtain ⟨u', h1, b, h2⟩ := key
 exact ⟨u', b, by unfold z3x; rw [h1]; rfl, h2⟩
theorem zkk {u v : List Int} {k : Nat} {P vl top ul q g r : Int} (hn : 2 <= v.length) (hk : k + v.length + 1 <= u.length) (hl : u.length <= 8000000) (hK : 2000000000 < K)
  (h : Kn 1000000000 P (v.getD (v.length - 1) 0) (v.getD (v.length - 2) 0) vl top (u.getD (k + v.length - 2) 0) ul q) (hv : v.getD (v.length - 1) 0 < 1000000000) (ht : top < 1000000000 * v.getD (v.length - 1) 0 + 1000000000) (hr : top = g * v.getD (v.length - 1) 0 + r) (hg : q <= g) (hg2 : g < 2000000000) (hr0 : 0 <= r /\ r < 1000000000) :
  ∃ g', z1x K v u k K g r = some g' /\ q <= g' /\ g' <= q + 1 /\ g' < 1000000000 := by
 generalize hv1 : v.getD (v.length - 1) 0 = v1 at *
 generalize hv2 : v.getD (v.length - 2) 0 = v2 at *
 generalize hu3 : u.getD (k + v.length - 2) 0 = u3 at *
 have a1 := h.v1p
 have a2 := h.v2p
 have a3 := h.v2b
 have a4 := h.u3p
 have a5 := h.u3b
 have a6 := h.q0
 have a7 := h.qB
 refine za1 (fun m (s : Int × Int) => z1x K v u k m s.1 s.2) (fun s => top = s.1 * v1 + s.2 /\ q <= s.1 /\ s.1 < 2000000000 /\ 0 <= s.2 /\ s.2 < 1000000000) (fun s => (1000000000 - s.2).toNat) _ ?_ ((g, r) : Int × Int) ?_ ⟨hr, hg, hg2, hr0.1, hr0.2⟩
 ·rintro m ⟨g, r⟩ ⟨b1, b2, b3, b4, b5⟩
  dsimp only at b1 b2 b3 b4 b5 ⊢
  have f1 : idx v (z05 .i64 ((v.length : Int) - 1)) = some v1 := by
   rw [k64 (by omega) (by omega), idxI (by omega) (by omega), <- hv1]; congr 2; omega
  have f2 : idx v (z05 .i64 ((v.length : Int) - 2)) = some v2 := by
   rw [k64 (by omega) (by omega), idxI (by omega) (by omega), <- hv2]; congr 2; omega
  have f3 : idx u (z05 .i64 (z05 .i64 ((k : Int) + (v.length : Int)) - 2)) = some u3 := by
   rw [k64 (a := (k : Int) + (v.length : Int)) (by omega) (by omega), k64 (by omega) (by omega), idxI (by omega) (by omega), <- hu3]; congr 2; omega
  have m1 : 0 <= g * v2 := z8d (by omega) a2
  have m2 := z3a (show 0 <= g by omega) (show v2 <= 999999999 by omega)
  rw [z1x, f1, f2]
  generalize hw : g * v2 = w at m1 m2
  by_cases c : g >= 1000000000 \/ w > r * 1000000000 + u3
  ·have hqg : q < g := by
    rcases c with c | c
    ·omega
    ·exact h.down b1 (by omega) (by omega)
   have hc : (if (decide (g >= 1000000000)) = true then some true else ((some v2).bind fun x235 => (lt (z05 .i64 ((z05 .i64 ((k : Int) + (v.length : Int))) - 2)) fun x239 => ((idx u x239).bind fun x242 => (lt (z05 .u64 ((z05 .u64 (r * 1000000000)) + (IntKind.wrap .u64 x242))) fun x246 => (lt (decide ((z05 .u64 (g * (IntKind.wrap .u64 x235))) > x246)) fun x249 => some x249)))))) = some true := by
    by_cases c1 : g >= 1000000000
    ·rw [decide_eq_true c1]; rfl
    ·rw [decide_eq_false c1]
     simp only [z0i, lta, Bool.false_eq_true, if_false, f3]
     rw [u64w (a := v2) (by omega) (by omega), hw, u64w (a := u3) (by omega) (by omega), ku64 (a := w) (by omega) (by omega), ku64 (a := r * 1000000000) (by omega) (by omega), ku64 (a := r * 1000000000 + u3) (by omega) (by omega), decide_eq_true (by omega)]
   rw [hc]
   by_cases c2 : r + v1 >= 1000000000
   ·left
    have hgB : g <= 1000000000 := by
     refine Int.not_lt.1 fun hlt => ?_
     have := z3a (show 0 <= v1 by omega) (show 1000000001 <= g by omega)
     rw [Int.mul_comm v1 g] at this
     omega
    have hx := h.exitB (g := g - 1) (r := r + v1) (by rw [Int.sub_mul]; omega) (by omega) (by omega) c2
    refine ⟨g - 1, ?_, by omega, by omega, by omega⟩
    simp (discharger := omega) only [runL]
   ·right
    refine ⟨(g - 1, r + v1), ?_, by dsimp only; omega, by dsimp only; rw [Int.sub_mul]; omega, by dsimp only; omega, by dsimp only; omega, by dsimp only; omega, by dsimp only; omega⟩
    have e : decide (r + v1 >= 1000000000) = false := decide_eq_false c2
    simp (discharger := omega) only [runL, e, Bool.false_eq_true]
  ·left
   have c1 : ¬ g >= 1000000000 := fun x => c (.inl x)
   have c3 : ¬ w > r * 1000000000 + u3 := fun x => c (.inr x)
   have hx := h.exitA b1 (by omega) (by omega) (by omega)
   refine ⟨g, ?_, b2, hx, by omega⟩
   rw [decide_eq_false c1]
   simp only [z0i, lta, Bool.false_eq_true, if_false, f3]
   rw [u64w (a := v2) (by omega) (by omega), hw, u64w (a := u3) (by omega) (by omega), ku64 (a := w) (by omega) (by omega), ku64 (a := r * 1000000000) (by omega) (by omega), ku64 (a := r * 1000000000 + u3) (by omega) (by omega), decide_eq_false c3]
   simp only [z0i, tu1a, Bool.false_eq_true, if_false]
 ·dsimp only; omega
end Go.Am.Tryd
