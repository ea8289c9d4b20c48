/- Typed functions with the same answers as the program's, and the walks that show it. -/
import Derived.Test.YtdogeclnbdldaaaGreatDoorG2Z3
import Derived.Test.YtdogeclnbdldaaaGreatDoorG4Z3
set_option maxRecDepth 100000
set_option maxHeartbeats 8000000
set_option linter.unusedVariables false
set_option linter.unusedSimpArgs false
namespace Go.Am.Tryz
open Go Go.Am Go.Proofs
variable (K : Nat) {G : GM} {H : AH} {L : List Pc}
def z1d (K : Nat) (x30 : zAd) : Nat -> Int -> zAd -> zAd -> Int -> Option (Int × zAd × zAd)
  | 0, _, _, _, _ => none
  | k + 1, x46, x47, x48, x49 => (if (decide (x49 < (x30.size : Int))) = true then (Option.bind ((Option.bind (((bidx x30 x49).bind fun x69 => (if (x69 == 47) = true then some (x46 == 1) else some false))) (tu1 fun x76 => (if x76 = true then ((ssl x30 0 x49).bind fun x93 => ((ssl x30 (z04 .i64 (x49 + 1)) (x30.size : Int)).bind fun x96 => some (2, x93, x96))) else some (x46, x47, x48))))) (tu3 fun x100 x101 x102 => z1d K x30 k x100 x101 x102 (z04 .i64 (x49 + 1)))) else some (x46, x47, x48))
def z3a (K : Nat) (p0 : zAd) : Option Int := (Option.bind ((if (decide ((p0.size : Int) > 0)) = true then ((bidx p0 0).bind fun x7 => some (x7 == 45)) else some false)) (tu1 fun x11 => (Option.bind ((if x11 = true then ((ssl p0 1 (p0.size : Int)).bind fun x26 => some (x26, true)) else some (p0, false))) (tu2 fun x30 x31 => (Option.bind (z1d K x30 K 1 x30 (⟨#[50]⟩ : zAd) 0) (tu3 fun x115 x116 x117 => ((z51 K x116).bind fun x129 => ((z51 K x117).bind fun x140 => (Option.bind ((if (x129 == 5) = true then some true else (if (x140 == 5) = true then some true else (if x31 = true then some (sEq x116 (⟨#[48]⟩ : zAd)) else some false)))) (tu1 fun x166 => (if x166 = true then some 5 else (Option.bind ((if (x129 != 0) = true then some true else some (x140 != 0))) (tu1 fun x186 => (if x186 = true then some 2 else (Option.bind ((if (x115 == 2) = true then (if (sEq x117 (⟨#[48]⟩ : zAd)) = true then some true else (if (sEq x117 (⟨#[49]⟩ : zAd)) = true then some true else ((z71 K x116 x117).bind fun x213 => some (!(sEq x213 (⟨#[49]⟩ : zAd)))))) else some false)) (tu1 fun x225 => (if x225 = true then some 3 else some 0)))))))))))))))))
theorem z58 (p0 : zAd) (O : Ow G H (L)) (r : Int) (h : z3a K p0 = some r) :
    CR Tryz.prog 16 [(.string p0)] G H (L) (fun v G' _ => v = .int .i64 r) := by
 unfold z3a at h
 refine CR.og (n := 86) (fn := Tryz.f16) (by kernel_rfl) rfl rfl fun R kr => (.seq (.region (W.q1 (.int .i64 0) rfl (.nil (.seq (.region ?_))))))
 refine W.q2 (.string p0) rfl (W.q1 (.string p0) rfl (W.q1 (.bool false) rfl (W.q1 (.int .i64 1) rfl (.nil (.seq (.seq ?_))))))
 obtain ⟨q1, h2, h3⟩ := z00 h
 refine AW.midT (fun σ' H' => ∃ (y1 : Bool) (G' : GM), y1 = q1 /\ Ow G' H' (L) /\ GM.le G G' /\ σ' 19 = .bool y1) ?_ ?_
 .refine .region (W.q2 (.string p0) rfl (W.pure (v := (.int .i64 (p0.size : Int))) rfl rfl (z1l (oo rfl rfl) un9) (W.q3 (.bool (decide ((p0.size : Int) > 0))) rfl rfl (W.q2 (.bool (decide ((p0.size : Int) > 0))) rfl (W.splitAt (t := 15) (b := decide ((p0.size : Int) > 0)) rfl (fun g4 gv5 => ?_) (fun g4 gv5 => ?_))))))
  rotate_left
  .have h10 := z0i g4 h2
   refine W.q6 rfl gv5 (W.q6 rfl gv5 (W.q6 rfl gv5 (W.q5 (.bool false) gv5 rfl (.nil ?_))))
   obtain rfl := zAa h10
   exact ⟨false, _, rfl, O, (zAf _), rfl⟩
  have h6 := z02 g4 h2
  refine W.q2 (hg := gk rfl rfl gv5 rfl) (.string p0) rfl ?_
  obtain ⟨x7, i8, h9⟩ := z00 h6
  refine W.pure (v := (.int .u8 x7)) (gk rfl rfl gv5 rfl) rfl (z9b un9 (oo rfl rfl) (oo rfl rfl) i8) (W.q3 (hg := gk rfl rfl gv5 rfl) (.bool (x7 == 45)) rfl rfl (W.q4 (.bool (x7 == 45)) gv5 rfl (.nil ?_)))
  obtain rfl := zAa h9
  exact ⟨(x7 == 45), _, rfl, O, (zAf _), rfl⟩
 rintro σ12 H13 fr14 ⟨x11, G15, rfl, O16, s17, t19⟩
 have h20 := z0e h3
 obtain ⟨q21, h22, h23⟩ := z00 h20
 refine AW.midT (fun σ' H' => ∃ (y1 : zAd) (y2 : Bool) (G' : GM), (y1, y2) = q21 /\ Ow G' H' (L) /\ GM.le G15 G' /\ σ' 3 = .string y1 /\ σ' 4 = .bool y2) ?_ ?_
 .refine .cond (b := x11) rfl t19 (fun g24 => ?_) (fun g24 => ?_)
  rotate_left
  .have h29 := z0i g24 h22
   refine .skip ?_
   obtain rfl := zAa h29
   exact ⟨p0, false, _, rfl, O16, (zAf _), ((fr14 3 rfl).trans rfl), ((fr14 4 rfl).trans rfl)⟩
  have h25 := z02 g24 h22
  refine .region (W.q2 (.string p0) ((fr14 3 rfl).trans rfl) ?_)
  obtain ⟨x26, i27, h28⟩ := z00 h25
  refine W.pure (v := (.string x26)) rfl rfl (zd9 un9 (oo rfl rfl) (oo rfl rfl) i27) (W.q1 (.string x26) rfl (W.q1 (.bool true) rfl (.nil ?_)))
  obtain rfl := zAa h28
  exact ⟨x26, true, _, rfl, O16, (zAf _), rfl, rfl⟩
 rintro σ32 H33 fr34 ⟨x30, x31, G35, rfl, O36, s37, t39, t40⟩
 have h41 := z4v h23
 refine .seq (.region (W.q2 _ t39 (W.q1 (.string x30) rfl (W.q1 (.string (⟨#[50]⟩ : zAd)) rfl (.nil (.seq ?_))))))
 refine .seq (.region (W.q2 _ t39 (W.pure (v := (.int .i64 (x30.size : Int))) rfl rfl (z1l (oo rfl rfl) un9) (W.q2 (.int .i64 0) rfl (.nil ?_)))))
 obtain ⟨q42, h43, h44⟩ := z00 h41
 refine AW.midT (fun σ' H' => ∃ (y1 : Int) (y2 : zAd) (y3 : zAd) (G' : GM), (y1, y2, y3) = q42 /\ Ow G' H' (L) /\ GM.le G35 G' /\ σ' 5 = .int .i64 y1 /\ σ' 6 = .string y2 /\ σ' 7 = .string y3) ?_ ?_
 .refine .block (AW.loop (α := Nat) (fun k' σ' H' => ∃ (y1 : Int) (y2 : zAd) (y3 : zAd) (y4 : Int) (G' : GM), z1d K x30 k' y1 y2 y3 y4 = some q42 /\ Ow G' H' (L) /\ GM.le G35 G' /\ σ' 5 = .int .i64 y1 /\ σ' 6 = .string y2 /\ σ' 7 = .string y3 /\ σ' 25 = .int .i64 y4) (fun k' => k') K ⟨1, x30, (⟨#[50]⟩ : zAd), 0, _, h43, O36, (zAf _), ((fr34 5 rfl).trans ((fr14 5 rfl).trans rfl)), rfl, rfl, rfl⟩ ?_)
  rintro k45
  rintro σ50 H51 fr52 ⟨x46, x47, x48, x49, G53, h56, O54, s55, t57, t58, t59, t60⟩
  rcases k45 with _ | k45
  .exact z0b h56
  rw [z1d] at h56
  refine .seq (.region (W.q3 (.bool (decide (x49 < (x30.size : Int)))) t60 ((fr52 24 rfl).trans rfl) (.nil (.seq (.cond (b := decide (x49 < (x30.size : Int))) rfl rfl (fun g61 => ?_) (fun g61 => ?_))))))
  rotate_left
  .have h114 := z0i g61 h56
   refine .exit ?_
   obtain rfl := zAa h114
   exact ⟨x46, x47, x48, _, rfl, O54, s55, t57, t58, t59⟩
  have h62 := z02 g61 h56
  refine .skip (.seq ?_)
  obtain ⟨q63, h64, h65⟩ := z00 h62
  refine AW.midT (fun σ' H' => ∃ (y1 : Int) (y2 : zAd) (y3 : zAd) (G' : GM), (y1, y2, y3) = q63 /\ Ow G' H' (L) /\ GM.le G53 G' /\ σ' 5 = .int .i64 y1 /\ σ' 6 = .string y2 /\ σ' 7 = .string y3) ?_ ?_
  rotate_left
  .rintro σ103 H104 fr105 ⟨x100, x101, x102, G106, rfl, O107, s108, t110, t111, t112⟩
   have h113 := zey h65
   refine .region (W.q3 (.int .i64 (z04 .i64 (x49 + 1))) ((fr105 25 rfl).trans t60) rfl (W.q2 (.int .i64 (z04 .i64 (x49 + 1))) rfl (.nil ?_)))
   exact ⟨k45, zAg _, ⟨x100, x101, x102, z04 .i64 (x49 + 1), _, h113, O107, (zAe s55 s108), t110, t111, t112, rfl⟩⟩
  refine .block (.seq (.region (W.q2 _ t60 (W.q1 (.int .i64 x49) rfl (.nil (.seq ?_))))))
  obtain ⟨q66, h67, h68⟩ := z00 h64
  refine AW.midT (fun σ' H' => ∃ (y1 : Bool) (G' : GM), y1 = q66 /\ Ow G' H' (L) /\ GM.le G53 G' /\ σ' 35 = .bool y1) ?_ ?_
  .refine .region (W.q2 _ ((fr52 3 rfl).trans t39) (W.q2 (.int .i64 x49) rfl ?_))
   obtain ⟨x69, i70, h71⟩ := z00 h67
   refine W.pure (v := (.int .u8 x69)) rfl rfl (z9b un9 (oo rfl rfl) (oo rfl rfl) i70) (W.q3 (.bool (x69 == 47)) rfl rfl (W.q2 (.bool (x69 == 47)) rfl (W.splitAt (t := 32) (b := (x69 == 47)) rfl (fun g72 gv73 => ?_) (fun g72 gv73 => ?_))))
   rotate_left
   .have h75 := z0i g72 h71
    refine W.q6 rfl gv73 (W.q6 rfl gv73 (W.q5 (.bool false) gv73 rfl (.nil ?_)))
    obtain rfl := zAa h75
    exact ⟨false, _, rfl, O54, (zAf _), rfl⟩
   have h74 := z02 g72 h71
   refine W.q2 (hg := gk rfl rfl gv73 rfl) _ t57 (W.q3 (hg := gk rfl rfl gv73 rfl) (.bool (x46 == 1)) rfl rfl (W.q4 (.bool (x46 == 1)) gv73 rfl (.nil ?_)))
   obtain rfl := zAa h74
   exact ⟨(x46 == 1), _, rfl, O54, (zAf _), rfl⟩
  rintro σ77 H78 fr79 ⟨x76, G80, rfl, O81, s82, t84⟩
  have h85 := z0e h68
  refine .cond (b := x76) rfl t84 (fun g86 => ?_) (fun g86 => ?_)
  rotate_left
  .have h99 := z0i g86 h85
   refine .skip ?_
   obtain rfl := zAa h99
   exact ⟨x46, x47, x48, _, rfl, O81, s82, ((fr79 5 rfl).trans t57), ((fr79 6 rfl).trans t58), ((fr79 7 rfl).trans t59)⟩
  have h87 := z02 g86 h85
  refine .draw2 (M := [0, 0, 3, 0, 0, 16, 56, 7, 255, 511]) mixed (by kernel_rfl) (by kernel_rfl) fun H88 N92 x89 F91 => ?_
  have O90 := O81.ext x89
  refine D2.q2 _ ((fr79 3 rfl).trans ((fr52 3 rfl).trans t39)) (D2.q2 (.int .i64 x49) ((fr79 8 rfl).trans rfl) ?_)
  obtain ⟨x93, i94, h95⟩ := z00 h87
  refine D2.pure (v := (.string x93)) rfl rfl (zh8 un9 (oo rfl rfl) (oo rfl rfl) i94) (D2.q2 _ ((fr79 3 rfl).trans ((fr52 3 rfl).trans t39)) (D2.q2 (.int .i64 x49) ((fr79 8 rfl).trans rfl) (D2.q3 (.int .i64 (z04 .i64 (x49 + 1))) rfl rfl ?_)))
  obtain ⟨x96, i97, h98⟩ := z00 h95
  refine D2.pure (v := (.string x96)) rfl rfl (zd9 un9 (oo rfl rfl) (oo rfl rfl) i97) (D2.q1 (.string x93) rfl (D2.q1 (.string x96) rfl (D2.q1 (.int .i64 2) rfl (.nil ?_))))
  obtain rfl := zAa h98
  exact ⟨2, x93, x96, _, rfl, O90, s82, rfl, rfl, rfl⟩
 rintro σ118 H119 fr120 ⟨x115, x116, x117, G121, rfl, O122, s123, t125, t126, t127⟩
 have h128 := zey h44
 refine .seq (.region (W.q2 _ t126 ?_))
 obtain ⟨x129, i130, h131⟩ := z00 h128
 refine W.lo rfl rfl (Lo.cP rfl (fn := Tryz.f59) (by kernel_rfl) rfl (mc rfl mn) O122 (fun L' O' => z8n K x116 O' _ i130)) ?_
 rintro v138 H139 ⟨G132, O133, s134, sm137, rfl⟩
 refine W.q2 _ t127 ?_
 obtain ⟨x140, i141, h142⟩ := z00 h131
 refine W.lo rfl rfl (Lo.cP rfl (fn := Tryz.f59) (by kernel_rfl) rfl (mc rfl mn) O133 (fun L' O' => z8n K x117 O' _ i141)) ?_
 rintro v149 H150 ⟨G143, O144, s145, sm148, rfl⟩
 refine W.q1 (.int .i64 x129) rfl (W.q1 (.int .i64 x140) rfl (.nil (.seq (.block (.seq ?_)))))
 obtain ⟨q151, h152, h153⟩ := z00 h142
 refine AW.midT (fun σ' H' => ∃ (y1 : Bool) (G' : GM), y1 = q151 /\ Ow G' H' (L) /\ GM.le G143 G' /\ σ' 48 = .bool y1) ?_ ?_
 .refine .region (W.q2 (.int .i64 x129) rfl (W.q3 (.bool (x129 == 5)) rfl rfl (W.q2 (.bool (x129 == 5)) rfl (W.splitAt (t := 51) (b := (x129 == 5)) rfl (fun g154 gv155 => ?_) (fun g154 gv155 => ?_)))))
  .have h156 := z02 g154 h152
   refine W.q6 rfl gv155 (W.q6 rfl gv155 (W.q4 (.bool true) gv155 rfl (W.q2 (.bool true) rfl (W.q6 rfl rfl (W.q6 rfl rfl (W.skipU rfl rfl rfl rfl ?_))))))
   refine W.skipU rfl rfl rfl rfl (W.q6 rfl rfl (W.q4 (.bool true) rfl rfl (W.q1 (.bool true) rfl (.nil ?_))))
   obtain rfl := zAa h156
   exact ⟨true, _, rfl, O144, (zAf _), rfl⟩
  have h157 := z0i g154 h152
  refine W.q2 (hg := gk rfl rfl gv155 rfl) (.int .i64 x140) rfl (W.q3 (hg := gk rfl rfl gv155 rfl) (.bool (x140 == 5)) rfl rfl (W.q5 (.bool (x140 == 5)) gv155 rfl (W.q2 (.bool (x140 == 5)) rfl (W.splitAt (t := 55) (b := (x140 == 5)) rfl (fun g158 gv159 => ?_) (fun g158 gv159 => ?_)))))
  .have h160 := z02 g158 h157
   refine W.q6 rfl gv159 (W.q6 rfl gv159 (W.skipU rfl rfl rfl rfl (W.skipU rfl rfl rfl rfl (W.q6 rfl gv159 (W.q4 (.bool true) gv159 rfl (W.q1 (.bool true) rfl ?_))))))
   refine .nil ?_
   obtain rfl := zAa h160
   exact ⟨true, _, rfl, O144, (zAf _), rfl⟩
  have h161 := z0i g158 h157
  refine W.q2 (hg := gk rfl rfl gv159 rfl) _ ((fr120 4 rfl).trans t40) (W.q2 (hg := gk rfl rfl gv159 rfl) (.bool x31) rfl (W.splitAt (t := 57) (b := x31) rfl (fun g162 gv163 => ?_) (fun g162 gv163 => ?_)))
  rotate_left
  .have h165 := z0i g162 h161
   refine W.q6 rfl gv163 (W.q6 rfl gv163 (W.q5 (hg := gk rfl rfl gv159 rfl) (.bool false) gv163 rfl (W.q5 (.bool false) gv159 rfl (W.q1 (.bool false) rfl (.nil ?_)))))
   obtain rfl := zAa h165
   exact ⟨false, _, rfl, O144, (zAf _), rfl⟩
  have h164 := z02 g162 h161
  refine W.q2 (hg := gk rfl rfl gv163 rfl) _ t126 (W.pure (v := (.bool (sEq x116 (⟨#[48]⟩ : zAd)))) (gk rfl rfl gv163 rfl) rfl (z79 (oo rfl rfl) (oo rfl rfl)) (W.q4 (hg := gk rfl rfl gv159 rfl) (.bool (sEq x116 (⟨#[48]⟩ : zAd))) gv163 rfl (W.q5 (.bool (sEq x116 (⟨#[48]⟩ : zAd))) gv159 rfl (W.q1 (.bool (sEq x116 (⟨#[48]⟩ : zAd))) rfl (.nil ?_)))))
  obtain rfl := zAa h164
  exact ⟨sEq x116 (⟨#[48]⟩ : zAd), _, rfl, O144, (zAf _), rfl⟩
 rintro σ167 H168 fr169 ⟨x166, G170, rfl, O171, s172, t174⟩
 have h175 := z0e h153
 refine .cond (b := x166) rfl t174 (fun g176 => ?_) (fun g176 => ?_)
 .have h177 := z02 g176 h175
  refine .seq (.region (W.q1 (.int .i64 5) rfl (.nil (.ret ?_))))
  obtain rfl := zAa h177
  exact z19 kr (v1 := (.int .i64 5)) (by rfl) (z09 (by rfl) (by exact rfl)) O171 (zAe s17 (zAe s37 (zAe s123 (zAe s134 (zAe s145 s172))))) rfl
 have h178 := z0i g176 h175
 refine .seq ?_
 obtain ⟨q179, h180, h181⟩ := z00 h178
 refine AW.midT (fun σ' H' => ∃ (y1 : Bool) (G' : GM), y1 = q179 /\ Ow G' H' (L) /\ GM.le G170 G' /\ σ' 62 = .bool y1) ?_ ?_
 .refine .region (W.q2 (.int .i64 x129) ((fr169 9 rfl).trans rfl) (W.q3 (.bool (x129 != 0)) rfl rfl (W.q2 (.bool (x129 != 0)) rfl (W.splitAt (t := 65) (b := (x129 != 0)) rfl (fun g182 gv183 => ?_) (fun g182 gv183 => ?_)))))
  .have h184 := z02 g182 h180
   refine W.q6 rfl gv183 (W.q6 rfl gv183 (W.q4 (.bool true) gv183 rfl (W.q1 (.bool true) rfl (.nil ?_))))
   obtain rfl := zAa h184
   exact ⟨true, _, rfl, O171, (zAf _), rfl⟩
  have h185 := z0i g182 h180
  refine W.q2 (hg := gk rfl rfl gv183 rfl) (.int .i64 x140) ((fr169 10 rfl).trans rfl) (W.q3 (hg := gk rfl rfl gv183 rfl) (.bool (x140 != 0)) rfl rfl (W.q5 (.bool (x140 != 0)) gv183 rfl (W.q1 (.bool (x140 != 0)) rfl (.nil ?_))))
  obtain rfl := zAa h185
  exact ⟨(x140 != 0), _, rfl, O171, (zAf _), rfl⟩
 rintro σ187 H188 fr189 ⟨x186, G190, rfl, O191, s192, t194⟩
 have h195 := z0e h181
 refine .cond (b := x186) rfl t194 (fun g196 => ?_) (fun g196 => ?_)
 .have h197 := z02 g196 h195
  refine .seq (.region (W.q1 (.int .i64 2) rfl (.nil (.ret ?_))))
  obtain rfl := zAa h197
  exact z19 kr (v1 := (.int .i64 2)) (by rfl) (z09 (by rfl) (by exact rfl)) O191 (zAe s17 (zAe s37 (zAe s123 (zAe s134 (zAe s145 (zAe s172 s192)))))) rfl
 have h198 := z0i g196 h195
 refine .seq ?_
 obtain ⟨q199, h200, h201⟩ := z00 h198
 refine AW.midT (fun σ' H' => ∃ (y1 : Bool) (G' : GM), y1 = q199 /\ Ow G' H' (L) /\ GM.le G190 G' /\ σ' 69 = .bool y1) ?_ ?_
 rotate_left
 .rintro σ226 H227 fr228 ⟨x225, G229, rfl, O230, s231, t233⟩
  have h234 := z0e h201
  refine .cond (b := x225) rfl t233 (fun g235 => ?_) (fun g235 => ?_)
  .have h236 := z02 g235 h234
   refine .seq (.region (W.q1 (.int .i64 3) rfl (.nil (.ret ?_))))
   obtain rfl := zAa h236
   exact z19 kr (v1 := (.int .i64 3)) (by rfl) (z09 (by rfl) (by exact rfl)) O230 (zAe s17 (zAe s37 (zAe s123 (zAe s134 (zAe s145 (zAe s172 (zAe s192 s231))))))) rfl
  have h237 := z0i g235 h234
  refine .skip (.seq (.region (W.q1 (.int .i64 0) rfl (.nil (.ret ?_)))))
  obtain rfl := zAa h237
  exact z19 kr (v1 := (.int .i64 0)) (by rfl) (z09 (by rfl) (by exact rfl)) O230 (zAe s17 (zAe s37 (zAe s123 (zAe s134 (zAe s145 (zAe s172 (zAe s192 s231))))))) rfl
 refine .region (W.q2 _ ((fr189 5 rfl).trans ((fr169 5 rfl).trans t125)) (W.q3 (.bool (x115 == 2)) rfl rfl (W.q2 (.bool (x115 == 2)) rfl (W.splitAt (t := 72) (b := (x115 == 2)) rfl (fun g202 gv203 => ?_) (fun g202 gv203 => ?_)))))
 rotate_left
 .have h224 := z0i g202 h200
  refine W.q6 rfl gv203 (W.q6 rfl gv203 (W.q6 rfl gv203 (W.skipU rfl rfl rfl rfl (W.skipU rfl rfl rfl rfl (W.q6 rfl gv203 (W.q6 rfl gv203 ?_))))))
  refine W.skipU rfl rfl rfl rfl (W.skipU rfl rfl rfl rfl (W.skipU rfl rfl rfl rfl (W.skipU rfl rfl rfl rfl (W.q6 rfl gv203 (W.q5 (.bool false) gv203 rfl (W.q1 (.bool false) rfl ?_))))))
  refine .nil ?_
  obtain rfl := zAa h224
  exact ⟨false, _, rfl, O191, (zAf _), rfl⟩
 have h204 := z02 g202 h200
 refine W.q2 (hg := gk rfl rfl gv203 rfl) _ ((fr189 7 rfl).trans ((fr169 7 rfl).trans t127)) (W.pure (v := (.bool (sEq x117 (⟨#[48]⟩ : zAd)))) (gk rfl rfl gv203 rfl) rfl (z79 (oo rfl rfl) (oo rfl rfl)) (W.q2 (hg := gk rfl rfl gv203 rfl) (.bool (sEq x117 (⟨#[48]⟩ : zAd))) rfl (W.splitAt (t := 75) (b := sEq x117 (⟨#[48]⟩ : zAd)) rfl (fun g205 gv206 => ?_) (fun g205 gv206 => ?_))))
 .have h207 := z02 g205 h204
  refine W.q6 rfl gv206 (W.q6 rfl gv206 (W.q4 (hg := gk rfl rfl gv203 rfl) (.bool true) gv206 rfl (W.q2 (hg := gk rfl rfl gv203 rfl) (.bool true) rfl (W.q6 rfl rfl (W.q6 rfl rfl (W.q6 rfl rfl ?_))))))
  refine W.q6 rfl rfl (W.q4 (hg := gk rfl rfl gv203 rfl) (.bool true) rfl rfl (W.q4 (.bool true) gv203 rfl (W.q1 (.bool true) rfl (.nil ?_))))
  obtain rfl := zAa h207
  exact ⟨true, _, rfl, O191, (zAf _), rfl⟩
 have h208 := z0i g205 h204
 refine W.q2 (hg := gk rfl rfl gv206 rfl) _ ((fr189 7 rfl).trans ((fr169 7 rfl).trans t127)) (W.pure (v := (.bool (sEq x117 (⟨#[49]⟩ : zAd)))) (gk rfl rfl gv206 rfl) rfl (z79 (oo rfl rfl) (oo rfl rfl)) (W.q5 (hg := gk rfl rfl gv203 rfl) (.bool (sEq x117 (⟨#[49]⟩ : zAd))) gv206 rfl (W.q2 (hg := gk rfl rfl gv203 rfl) (.bool (sEq x117 (⟨#[49]⟩ : zAd))) rfl (W.splitAt (t := 79) (b := sEq x117 (⟨#[49]⟩ : zAd)) rfl (fun g209 gv210 => ?_) (fun g209 gv210 => ?_)))))
 .have h211 := z02 g209 h208
  refine W.q6 rfl gv210 (W.q6 rfl gv210 (W.q6 rfl gv210 (W.q6 rfl gv210 (W.q4 (hg := gk rfl rfl gv203 rfl) (.bool true) gv210 rfl (W.q4 (.bool true) gv203 rfl (W.q1 (.bool true) rfl ?_))))))
  refine .nil ?_
  obtain rfl := zAa h211
  exact ⟨true, _, rfl, O191, (zAf _), rfl⟩
 have h212 := z0i g209 h208
 refine W.q2 (hg := gk rfl rfl gv210 rfl) _ ((fr189 6 rfl).trans ((fr169 6 rfl).trans t126)) (W.q2 (hg := gk rfl rfl gv210 rfl) _ ((fr189 7 rfl).trans ((fr169 7 rfl).trans t127)) ?_)
 obtain ⟨x213, i214, h215⟩ := z00 h212
 refine W.lo (gk rfl rfl gv210 rfl) rfl (Lo.cP rfl (fn := Tryz.f60) (by kernel_rfl) rfl (mc rfl (mc rfl mn)) O191 (fun L' O' => za9 K x116 x117 O' _ i214)) ?_
 rintro v222 H223 ⟨G216, O217, s218, sm221, rfl⟩
 refine W.pure (v := (.bool (!(sEq x213 (⟨#[49]⟩ : zAd))))) (gk rfl rfl gv210 rfl) rfl (zkq (oo rfl rfl) (oo rfl rfl)) (W.q5 (hg := gk rfl rfl gv203 rfl) (.bool (!(sEq x213 (⟨#[49]⟩ : zAd)))) gv210 rfl (W.q4 (.bool (!(sEq x213 (⟨#[49]⟩ : zAd)))) gv203 rfl (W.q1 (.bool (!(sEq x213 (⟨#[49]⟩ : zAd)))) rfl (.nil ?_))))
 obtain rfl := zAa h215
 exact ⟨(!(sEq x213 (⟨#[49]⟩ : zAd))), _, rfl, O217, s218, rfl⟩
def z1j (K : Nat) (p0 : List zAd) : Nat -> Int -> Option (Int ⊕ Unit)
  | 0, _ => none
  | k + 1, x5 => (if (decide (x5 < (List.length p0 : Int))) = true then ((idx p0 x5).bind fun x16 => ((z3a K x16).bind fun x20 => (if (x20 != 0) = true then some (.inl x20) else z1j K p0 k (z04 .i64 (x5 + 1))))) else some (.inr ()))
def z5g (K : Nat) (p0 : List zAd) : Option Int := (zbk (z1j K p0 K 0) (tu1 fun a44 => some a44) (tu0 (some 0)))
theorem zb5 (v0 : Value) (p0 : List zAd) (hp0 : (rSl rS).rep G [v0] p0) (O : Ow G H (L)) (r : Int) (h : z5g K p0 = some r) :
    CR Tryz.prog 58 [v0] G H (L) (fun v G' _ => v = .int .i64 r) := by
 unfold z5g at h
 refine CR.og (n := 18) (fn := Tryz.f58) (by kernel_rfl) rfl rfl fun R kr => (.seq (.region (W.q1 (.int .i64 0) rfl (.nil (.seq (.seq ?_))))))
 refine .region (W.q2 v0 rfl (W.pure (v := (.int .i64 (List.length p0 : Int))) rfl rfl (z0q (oo rfl rfl) (z0f hp0) (z06 el23)) (W.q2 (.int .i64 0) rfl (.nil ?_))))
 obtain ⟨q1, h2, h3⟩ := z3k h
 refine AW.midT (fun σ' H' => ∃  (G' : GM), (.inr ()) = q1 /\ Ow G' H' (L) /\ GM.le G G') ?_ ?_
 rotate_left
 .rintro σ36 H37 fr38 ⟨G39, rfl, O40, s41⟩
  have h43 := z7n (z9a h3)
  refine .seq (.region (W.q1 (.int .i64 0) rfl (.nil (.ret ?_))))
  obtain rfl := zAa h43
  exact z19 kr (v1 := (.int .i64 0)) (by rfl) (z09 (by rfl) (by exact rfl)) O40 s41 rfl
 refine .block (AW.loop (α := Nat) (fun k' σ' H' => ∃ (y1 : Int) (G' : GM), z1j K p0 k' y1 = some q1 /\ Ow G' H' (L) /\ GM.le G G' /\ σ' 8 = .int .i64 y1) (fun k' => k') K ⟨0, _, h2, O, (zAf _), rfl⟩ ?_)
 rintro k4
 rintro σ6 H7 fr8 ⟨x5, G9, h12, O10, s11, t13⟩
 rcases k4 with _ | k4
 .exact z0b h12
 rw [z1j] at h12
 refine .seq (.region (W.q3 (.bool (decide (x5 < (List.length p0 : Int)))) t13 ((fr8 7 rfl).trans rfl) (.nil (.seq (.cond (b := decide (x5 < (List.length p0 : Int))) rfl rfl (fun g14 => ?_) (fun g14 => ?_))))))
 rotate_left
 .have h35 := z0i g14 h12
  refine .exit ?_
  obtain rfl := zAa h35
  exact ⟨_, rfl, O10, s11⟩
 have h15 := z02 g14 h12
 refine .skip (.seq (.block (.seq (.region ?_))))
 obtain ⟨x16, i17, h18⟩ := z00 h15
 have j19 := z0h i17
 refine W.pure (v := (z2x v0 (Int.toNat x5 * 1))) rfl rfl (z3s el23 sz22 (oo rfl ((fr8 6 rfl).trans rfl)) (oo rfl t13) (z0f (RT.mono _ s11 hp0)) j19.1 j19.2.1) (W.load1 (v := (.string x16)) (r := []) rfl rfl ag22 (z0r rfl (At.str (At.le (At.le (z1y hp0 j19.2.2) s11 s11) (zAf _) O10.fro))) (W.q1 (.string x16) rfl (.nil (.seq (.region (W.q2 (.string x16) rfl ?_))))))
 obtain ⟨x20, i21, h22⟩ := z00 h18
 refine W.lo rfl rfl (Lo.cP rfl (fn := Tryz.f16) (by kernel_rfl) rfl (mc rfl mn) O10 (fun L' O' => z58 K x16 O' _ i21)) ?_
 rintro v29 H30 ⟨G23, O24, s25, sm28, rfl⟩
 refine W.q1 (.int .i64 x20) rfl (.nil (.seq (.region (W.q2 (.int .i64 x20) rfl (W.q3 (.bool (x20 != 0)) rfl rfl (.nil ?_))))))
 refine .cond (b := (x20 != 0)) rfl rfl (fun g31 => ?_) (fun g31 => ?_)
 rotate_left
 .have h34 := z0i g31 h22
  refine .skip (.region (W.q3 (.int .i64 (z04 .i64 (x5 + 1))) t13 rfl (W.q2 (.int .i64 (z04 .i64 (x5 + 1))) rfl (.nil ?_))))
  exact ⟨k4, zAg _, ⟨z04 .i64 (x5 + 1), _, h34, O24, (zAe s11 s25), rfl⟩⟩
 have h32 := z02 g31 h22
 refine .seq (.region (W.q2 (.int .i64 x20) rfl (W.q1 (.int .i64 x20) rfl (.nil (.ret ?_)))))
 obtain rfl := zAa h32
 have h33 := z0e (z8r h3)
 obtain rfl := zAa h33
 exact z19 kr (v1 := (.int .i64 x20)) (by rfl) (z09 (by rfl) (by exact rfl)) O24 (zAe s11 s25) rfl
def z3b (K : Nat) (x1 : Int) (x13 : zAd) : Nat -> Int -> Option ((Bool × zAd × zAd) ⊕ Unit)
  | 0, _ => none
  | k + 1, x27 => (if (decide (x27 < (x13.size : Int))) = true then ((bidx x13 x27).bind fun x38 => (if (x38 == 47) = true then ((ssl x13 0 x27).bind fun x48 => ((ssl x13 (z04 .i64 (x27 + 1)) (x13.size : Int)).bind fun x51 => some (.inl ((x1 == 45), x48, x51)))) else z3b K x1 x13 k (z04 .i64 (x27 + 1)))) else some (.inr ()))
def z5t (K : Nat) (p0 : zAd) : Option (Bool × zAd × zAd) := ((bidx p0 0).bind fun x1 => (Option.bind ((if (x1 == 45) = true then ((ssl p0 1 (p0.size : Int)).bind fun x9 => some x9) else some p0)) (tu1 fun x13 => (zbk (z3b K x1 x13 K 0) (tu3 fun a65 a66 a67 => some (a65, a66, a67)) (tu0 (some ((x1 == 45), x13, (⟨#[49]⟩ : zAd))))))))
theorem z7f (p0 : zAd) (O : Ow G H (L)) (r : Bool × zAd × zAd) (h : z5t K p0 = some r) :
    CR Tryz.prog 61 [(.string p0)] G H (L) (fun v G' _ => v = .tuple #[.bool r.1, .string r.2.1, .string r.2.2]) := by
 unfold z5t at h
 refine CR.og (n := 35) (fn := Tryz.f61) (by kernel_rfl) rfl rfl fun R kr => (.seq (.region (W.q1 (.bool false) rfl (W.q1 (.string (⟨#[]⟩ : zAd)) rfl (W.q1 (.string (⟨#[]⟩ : zAd)) rfl (.nil ?_))))))
 refine .seq (.region (W.q2 (.string p0) rfl (W.q1 (.string p0) rfl (.nil (.seq (.region ?_))))))
 refine W.q2 (.string p0) rfl ?_
 obtain ⟨x1, i2, h3⟩ := z00 h
 refine W.pure (v := (.int .u8 x1)) rfl rfl (z9b un9 (oo rfl rfl) (oo rfl rfl) i2) (W.q3 (.bool (x1 == 45)) rfl rfl (W.q1 (.bool (x1 == 45)) rfl (.nil (.seq (.seq (.region ?_))))))
 refine W.q2 (.bool (x1 == 45)) rfl (.nil ?_)
 obtain ⟨q4, h5, h6⟩ := z00 h3
 refine AW.midT (fun σ' H' => ∃ (y1 : zAd) (G' : GM), y1 = q4 /\ Ow G' H' (L) /\ GM.le G G' /\ σ' 5 = .string y1) ?_ ?_
 .refine .cond (b := (x1 == 45)) rfl rfl (fun g7 => ?_) (fun g7 => ?_)
  rotate_left
  .have h12 := z0i g7 h5
   refine .skip ?_
   obtain rfl := zAa h12
   exact ⟨p0, _, rfl, O, (zAf _), rfl⟩
  have h8 := z02 g7 h5
  refine .region (W.q2 (.string p0) rfl ?_)
  obtain ⟨x9, i10, h11⟩ := z00 h8
  refine W.pure (v := (.string x9)) rfl rfl (zd9 un9 (oo rfl rfl) (oo rfl rfl) i10) (W.q1 (.string x9) rfl (.nil ?_))
  obtain rfl := zAa h11
  exact ⟨x9, _, rfl, O, (zAf _), rfl⟩
 rintro σ14 H15 fr16 ⟨x13, G17, rfl, O18, s19, t21⟩
 have h22 := z0e h6
 refine .seq (.seq (.region (W.q2 _ t21 (W.pure (v := (.int .i64 (x13.size : Int))) rfl rfl (z1l (oo rfl rfl) un9) (W.q2 (.int .i64 0) rfl (.nil ?_))))))
 obtain ⟨q23, h24, h25⟩ := z3k h22
 refine AW.midT (fun σ' H' => ∃  (G' : GM), (.inr ()) = q23 /\ Ow G' H' (L) /\ GM.le G17 G') ?_ ?_
 rotate_left
 .rintro σ57 H58 fr59 ⟨G60, rfl, O61, s62⟩
  have h64 := z7n (z9a h25)
  refine .seq (.region (W.q2 (.bool (x1 == 45)) ((fr59 6 rfl).trans ((fr16 6 rfl).trans rfl)) (W.q2 _ ((fr59 5 rfl).trans t21) (W.q1 (.bool (x1 == 45)) rfl (W.q1 (.string x13) rfl (W.q1 (.string (⟨#[49]⟩ : zAd)) rfl ?_))))))
  refine .nil (.ret ?_)
  obtain rfl := zAa h64
  exact zhc kr (v1 := (.bool (x1 == 45))) (v2 := (.string x13)) (v3 := (.string (⟨#[49]⟩ : zAd))) (by rfl) (z09 (by rfl) (by exact rfl)) (z09 (by rfl) (by exact rfl)) (z09 (by rfl) (by exact rfl)) O61 (zAe s19 s62) rfl
 refine .block (AW.loop (α := Nat) (fun k' σ' H' => ∃ (y1 : Int) (G' : GM), z3b K x1 x13 k' y1 = some q23 /\ Ow G' H' (L) /\ GM.le G17 G' /\ σ' 17 = .int .i64 y1) (fun k' => k') K ⟨0, _, h24, O18, (zAf _), rfl⟩ ?_)
 rintro k26
 rintro σ28 H29 fr30 ⟨x27, G31, h34, O32, s33, t35⟩
 rcases k26 with _ | k26
 .exact z0b h34
 rw [z3b] at h34
 refine .seq (.region (W.q3 (.bool (decide (x27 < (x13.size : Int)))) t35 ((fr30 16 rfl).trans rfl) (.nil (.seq (.cond (b := decide (x27 < (x13.size : Int))) rfl rfl (fun g36 => ?_) (fun g36 => ?_))))))
 rotate_left
 .have h56 := z0i g36 h34
  refine .exit ?_
  obtain rfl := zAa h56
  exact ⟨_, rfl, O32, s33⟩
 have h37 := z02 g36 h34
 refine .skip (.seq (.block (.seq (.region (W.q2 _ t35 (W.q1 (.int .i64 x27) rfl ?_))))))
 refine .nil (.seq (.region (W.q2 _ ((fr30 5 rfl).trans t21) (W.q2 (.int .i64 x27) rfl ?_))))
 obtain ⟨x38, i39, h40⟩ := z00 h37
 refine W.pure (v := (.int .u8 x38)) rfl rfl (z9b un9 (oo rfl rfl) (oo rfl rfl) i39) (W.q3 (.bool (x38 == 47)) rfl rfl (.nil (.cond (b := (x38 == 47)) rfl rfl (fun g41 => ?_) (fun g41 => ?_))))
 rotate_left
 .have h55 := z0i g41 h40
  refine .skip (.region (W.q3 (.int .i64 (z04 .i64 (x27 + 1))) t35 rfl (W.q2 (.int .i64 (z04 .i64 (x27 + 1))) rfl (.nil ?_))))
  exact ⟨k26, zAg _, ⟨z04 .i64 (x27 + 1), _, h55, O32, s33, rfl⟩⟩
 have h42 := z02 g41 h40
 refine .seq (.draw2 (M := [0, 0, 0, 6, 0, 0, 32, 112, 1, 271, 1023]) mixed (by kernel_rfl) (by kernel_rfl) fun H43 N47 x44 F46 => ?_)
 have O45 := O32.ext x44
 refine D2.q2 (.bool (x1 == 45)) ((fr30 6 rfl).trans ((fr16 6 rfl).trans rfl)) (D2.q2 _ ((fr30 5 rfl).trans t21) (D2.q2 (.int .i64 x27) rfl ?_))
 obtain ⟨x48, i49, h50⟩ := z00 h42
 refine D2.pure (v := (.string x48)) rfl rfl (zh8 un9 (oo rfl rfl) (oo rfl rfl) i49) (D2.q2 _ ((fr30 5 rfl).trans t21) (D2.q2 (.int .i64 x27) rfl (D2.q3 (.int .i64 (z04 .i64 (x27 + 1))) rfl rfl ?_)))
 obtain ⟨x51, i52, h53⟩ := z00 h50
 refine D2.pure (v := (.string x51)) rfl rfl (zd9 un9 (oo rfl rfl) (oo rfl rfl) i52) (D2.q1 (.bool (x1 == 45)) rfl (D2.q1 (.string x48) rfl (D2.q1 (.string x51) rfl (.nil (.ret ?_)))))
 obtain rfl := zAa h53
 have h54 := zey (z8r h25)
 obtain rfl := zAa h54
 exact zhc kr (v1 := (.bool (x1 == 45))) (v2 := (.string x48)) (v3 := (.string x51)) (by rfl) (z09 (by rfl) (by exact rfl)) (z09 (by rfl) (by exact rfl)) (z09 (by rfl) (by exact rfl)) O45 (zAe s19 s33) rfl
def z7g (K : Nat) (p0 : Bool) (p1 : zAd) (p2 : zAd) : Option zAd := (if (sEq p1 (⟨#[48]⟩ : zAd)) = true then some (⟨#[48]⟩ : zAd) else ((z71 K p1 p2).bind fun x4 => ((z6d K p1 x4).bind fun x15 => ((z6d K p2 x4).bind fun x26 => (Option.bind ((if p0 = true then (if ((⟨#[45]⟩ : zAd)).size + (x15.1).size <= 4611686018427387904 then some ((⟨#[45]⟩ : zAd) ++ x15.1) else none) else some x15.1)) (tu1 fun x45 => (if (sEq x26.1 (⟨#[49]⟩ : zAd)) = true then some x45 else (if (x45).size + ((⟨#[47]⟩ : zAd)).size <= 4611686018427387904 then (if ((x45 ++ (⟨#[47]⟩ : zAd))).size + (x26.1).size <= 4611686018427387904 then some ((x45 ++ (⟨#[47]⟩ : zAd)) ++ x26.1) else none) else none))))))))
theorem z8u (p0 : Bool) (p1 : zAd) (p2 : zAd) (O : Ow G H (L)) (r : zAd) (h : z7g K p0 p1 p2 = some r) :
    CR Tryz.prog 95 [(.bool p0), (.string p1), (.string p2)] G H (L) (fun v G' _ => v = .string r) := by
 unfold z7g at h
 refine CR.og (n := 35) (fn := Tryz.f95) (by kernel_rfl) rfl rfl fun R kr => (.seq (.region (W.q1 (.string (⟨#[]⟩ : zAd)) rfl (.nil (.seq (.seq ?_))))))
 refine .region (W.q2 (.string p1) rfl (W.pure (v := (.bool (sEq p1 (⟨#[48]⟩ : zAd)))) rfl rfl (z79 (oo rfl rfl) (oo rfl rfl)) (.nil (.cond (b := sEq p1 (⟨#[48]⟩ : zAd)) rfl rfl (fun g1 => ?_) (fun g1 => ?_)))))
 .have h2 := z02 g1 h
  refine .seq (.region (W.q1 (.string (⟨#[48]⟩ : zAd)) rfl (.nil (.ret ?_))))
  obtain rfl := zAa h2
  exact z19 kr (v1 := (.string (⟨#[48]⟩ : zAd))) (by rfl) (z09 (by rfl) (by exact rfl)) O (zAf _) rfl
 have h3 := z0i g1 h
 refine .skip (.seq (.region (W.q2 (.string p1) rfl (W.q2 (.string p2) rfl ?_))))
 obtain ⟨x4, i5, h6⟩ := z00 h3
 refine W.lo rfl rfl (Lo.cP rfl (fn := Tryz.f60) (by kernel_rfl) rfl (mc rfl (mc rfl mn)) O (fun L' O' => za9 K p1 p2 O' _ i5)) ?_
 rintro v13 H14 ⟨G7, O8, s9, sm12, rfl⟩
 refine W.q1 (.string x4) rfl (.nil (.seq (.region (W.q2 (.string p1) rfl (W.q2 (.string x4) rfl ?_)))))
 obtain ⟨x15, i16, h17⟩ := z00 h6
 refine W.lo rfl rfl (Lo.cP rfl (fn := Tryz.f129) (by kernel_rfl) rfl (mc rfl (mc rfl mn)) O8 (fun L' O' => z84 K p1 x4 O' _ i16)) ?_
 rintro v24 H25 ⟨G18, O19, s20, sm23, rfl⟩
 refine W.q2 (.tuple #[(.string x15.1), (.string x15.2)]) rfl (W.pure (v := (.string x15.1)) rfl rfl (z07 (oo rfl rfl) rfl) (W.pure (v := (.string x15.2)) rfl rfl (z07 (oo rfl rfl) rfl) (W.q1 (.string x15.1) rfl (.nil (.seq (.region ?_))))))
 refine W.q2 (.string p2) rfl (W.q2 (.string x4) rfl ?_)
 obtain ⟨x26, i27, h28⟩ := z00 h17
 refine W.lo rfl rfl (Lo.cP rfl (fn := Tryz.f129) (by kernel_rfl) rfl (mc rfl (mc rfl mn)) O19 (fun L' O' => z84 K p2 x4 O' _ i27)) ?_
 rintro v35 H36 ⟨G29, O30, s31, sm34, rfl⟩
 refine W.q2 (.tuple #[(.string x26.1), (.string x26.2)]) rfl (W.pure (v := (.string x26.1)) rfl rfl (z07 (oo rfl rfl) rfl) (W.pure (v := (.string x26.2)) rfl rfl (z07 (oo rfl rfl) rfl) (W.q1 (.string x26.1) rfl (.nil (.seq (.seq ?_))))))
 refine .region (W.q2 (.bool p0) rfl (.nil ?_))
 obtain ⟨q37, h38, h39⟩ := z00 h28
 refine AW.midT (fun σ' H' => ∃ (y1 : zAd) (G' : GM), y1 = q37 /\ Ow G' H' (L) /\ GM.le G29 G' /\ σ' 1 = .string y1) ?_ ?_
 .refine .cond (b := p0) rfl rfl (fun g40 => ?_) (fun g40 => ?_)
  rotate_left
  .have h44 := z0i g40 h38
   refine .skip ?_
   obtain rfl := zAa h44
   exact ⟨x15.1, _, rfl, O30, (zAf _), rfl⟩
  have h41 := z02 g40 h38
  refine .region (W.q2 (.string x15.1) rfl ?_)
  obtain ⟨g42, h43⟩ := z3i h41
  refine W.pure (v := (.string ((⟨#[45]⟩ : zAd) ++ x15.1))) rfl rfl (zbl g42 (oo rfl rfl) (oo rfl rfl)) (W.q1 (.string ((⟨#[45]⟩ : zAd) ++ x15.1)) rfl (.nil ?_))
  obtain rfl := zAa h43
  exact ⟨((⟨#[45]⟩ : zAd) ++ x15.1), _, rfl, O30, (zAf _), rfl⟩
 rintro σ46 H47 fr48 ⟨x45, G49, rfl, O50, s51, t53⟩
 have h54 := z0e h39
 refine .seq (.seq (.region (W.q2 (.string x26.1) ((fr48 2 rfl).trans rfl) (W.pure (v := (.bool (sEq x26.1 (⟨#[49]⟩ : zAd)))) rfl rfl (z79 (oo rfl rfl) (oo rfl rfl)) (.nil (.cond (b := sEq x26.1 (⟨#[49]⟩ : zAd)) rfl rfl (fun g55 => ?_) (fun g55 => ?_)))))))
 .have h56 := z02 g55 h54
  refine .seq (.region (W.q2 _ t53 (W.q1 (.string x45) rfl (.nil (.ret ?_)))))
  obtain rfl := zAa h56
  exact z19 kr (v1 := (.string x45)) (by rfl) (z09 (by rfl) (by exact rfl)) O50 (zAe s9 (zAe s20 (zAe s31 s51))) rfl
 have h57 := z0i g55 h54
 refine .skip (.seq (.region (W.q2 _ t53 ?_)))
 obtain ⟨g58, h59⟩ := z3i h57
 refine W.pure (v := (.string (x45 ++ (⟨#[47]⟩ : zAd)))) rfl rfl (zbl g58 (oo rfl rfl) (oo rfl rfl)) (W.q2 (.string x26.1) ((fr48 2 rfl).trans rfl) ?_)
 obtain ⟨g60, h61⟩ := z3i h59
 refine W.pure (v := (.string ((x45 ++ (⟨#[47]⟩ : zAd)) ++ x26.1))) rfl rfl (zbl g60 (oo rfl rfl) (oo rfl rfl)) (W.q1 (.string ((x45 ++ (⟨#[47]⟩ : zAd)) ++ x26.1)) rfl (.nil (.ret ?_)))
 obtain rfl := zAa h61
 exact z19 kr (v1 := (.string ((x45 ++ (⟨#[47]⟩ : zAd)) ++ x26.1))) (by rfl) (z09 (by rfl) (by exact rfl)) O50 (zAe s9 (zAe s20 (zAe s31 s51))) rfl
def z85 (K : Nat) (p0 : zAd) : Option zAd := ((z5t K p0).bind fun x1 => ((z7g K (!x1.1) x1.2.1 x1.2.2).bind fun x12 => some x12))
theorem zdk (p0 : zAd) (O : Ow G H (L)) (r : zAd) (h : z85 K p0 = some r) :
    CR Tryz.prog 111 [(.string p0)] G H (L) (fun v G' _ => v = .string r) := by
 unfold z85 at h
 refine CR.og (n := 17) (fn := Tryz.f111) (by kernel_rfl) rfl rfl fun R kr => (.seq (.region (W.q1 (.string (⟨#[]⟩ : zAd)) rfl (.nil (.seq (.region ?_))))))
 refine W.q2 (.string p0) rfl ?_
 obtain ⟨x1, i2, h3⟩ := z00 h
 refine W.lo rfl rfl (Lo.cP rfl (fn := Tryz.f61) (by kernel_rfl) rfl (mc rfl mn) O (fun L' O' => z7f K p0 O' _ i2)) ?_
 rintro v10 H11 ⟨G4, O5, s6, sm9, rfl⟩
 refine W.q2 (.tuple #[(.bool x1.1), (.string x1.2.1), (.string x1.2.2)]) rfl (W.pure (v := (.bool x1.1)) rfl rfl (z07 (oo rfl rfl) rfl) (W.pure (v := (.string x1.2.1)) rfl rfl (z07 (oo rfl rfl) rfl) (W.pure (v := (.string x1.2.2)) rfl rfl (z07 (oo rfl rfl) rfl) (W.q1 (.bool x1.1) rfl (W.q1 (.string x1.2.1) rfl (W.q1 (.string x1.2.2) rfl ?_))))))
 refine .nil (.seq (.region (W.q2 (.bool x1.1) rfl (W.pure (v := (.bool (!x1.1))) rfl rfl (zay (a := x1.1) (oo rfl rfl)) (W.q2 (.string x1.2.1) rfl (W.q2 (.string x1.2.2) rfl ?_))))))
 obtain ⟨x12, i13, h14⟩ := z00 h3
 refine W.lo rfl rfl (Lo.cP rfl (fn := Tryz.f95) (by kernel_rfl) rfl (mc rfl (mc rfl (mc rfl mn))) O5 (fun L' O' => z8u K (!x1.1) x1.2.1 x1.2.2 O' _ i13)) ?_
 rintro v21 H22 ⟨G15, O16, s17, sm20, rfl⟩
 refine W.q1 (.string x12) rfl (.nil (.ret ?_))
 obtain rfl := zAa h14
 exact z19 kr (v1 := (.string x12)) (by rfl) (z09 (by rfl) (by exact rfl)) O16 (zAe s6 s17) rfl
def z33 (K : Nat) (p1 : zAd) (x15 : Int) (x26 : Int) : Nat -> List Int -> Int -> Option (List Int)
  | 0, _, _ => none
  | k + 1, x41, x42 => (if (decide (x42 < (p1.size : Int))) = true then ((idx x41 (z04 .i64 (x15 + x42))).bind fun x58 => ((z57 K p1 x42).bind fun x62 => ((idx x41 (z04 .i64 (x15 + x42))).bind fun x73 => z33 K p1 x15 x26 k (List.set x41 (Int.toNat (z04 .i64 (x15 + x42))) (z04 .i64 (x58 + (z04 .i64 (x26 * x62))))) (z04 .i64 (x42 + 1))))) else some x41)
def z2o (K : Nat) (x91 : List Int) : Nat -> List Int -> Int -> Option (List Int)
  | 0, _, _ => none
  | k + 1, x102, x103 => (if (decide (x103 < (List.length x91 : Int))) = true then (Option.bind (((idx x102 x103).bind fun x117 => (if (decide (x117 > 9)) = true then ((idx x102 (z04 .i64 (x103 + 1))).bind fun x128 => ((idx x102 x103).bind fun x132 => ((idx x102 (z04 .i64 (x103 + 1))).bind fun x136 => ((idx (List.set x102 (Int.toNat (z04 .i64 (x103 + 1))) (z04 .i64 (x128 + (z04 .i64 (Int.tdiv x132 10))))) x103).bind fun x144 => ((idx (List.set x102 (Int.toNat (z04 .i64 (x103 + 1))) (z04 .i64 (x128 + (z04 .i64 (Int.tdiv x132 10))))) x103).bind fun x148 => some (List.set (List.set x102 (Int.toNat (z04 .i64 (x103 + 1))) (z04 .i64 (x128 + (z04 .i64 (Int.tdiv x132 10))))) (Int.toNat x103) (Int.tmod x144 10))))))) else some x102))) (tu1 fun x157 => z2o K x91 k x157 (z04 .i64 (x103 + 1)))) else some x102)
def z34 (K : Nat) (p0 : zAd) (p1 : zAd) : Nat -> List Int -> Int -> Option (List Int)
  | 0, _, _ => none
  | k + 1, x14, x15 => (if (decide (x15 < (p0.size : Int))) = true then ((z57 K p0 x15).bind fun x26 => (Option.bind (z33 K p1 x15 x26 K x14 0) (tu1 fun x82 => ((lsl x82 0 (z04 .i64 ((List.length x82 : Int) - 1))).bind fun x91 => (Option.bind (z2o K x91 K x82 0) (tu1 fun x167 => z34 K p0 p1 k x167 (z04 .i64 (x15 + 1)))))))) else some x14)
def z6e (K : Nat) (p0 : zAd) (p1 : zAd) : Option zAd := (lt (z04 .i64 ((z04 .i64 ((p0.size : Int) + (p1.size : Int))) + 1)) fun x1 => (if 0 <= x1 /\ x1 <= x1 /\ x1 <= 16777216 then (Option.bind (z34 K p0 p1 K (List.replicate (Int.toNat x1) 0) 0) (tu1 fun x177 => ((z8t K x177).bind fun x186 => some x186))) else none))
theorem z86 (p0 : zAd) (p1 : zAd) (O : Ow G H (L)) (r : zAd) (h : z6e K p0 p1 = some r) :
    CR Tryz.prog 94 [(.string p0), (.string p1)] G H (L) (fun v G' _ => v = .string r) := by
 unfold z6e at h
 refine CR.og (n := 80) (fn := Tryz.f94) (by kernel_rfl) rfl rfl fun R kr => (.seq (.region (W.q1 (.string (⟨#[]⟩ : zAd)) rfl (.nil (.seq (.region ?_))))))
 refine W.q2 (.string p0) rfl (W.pure (v := (.int .i64 (p0.size : Int))) rfl rfl (z1l (oo rfl rfl) un9) (W.q2 (.string p1) rfl (W.pure (v := (.int .i64 (p1.size : Int))) rfl rfl (z1l (oo rfl rfl) un9) (W.q3 (.int .i64 (z04 .i64 ((p0.size : Int) + (p1.size : Int)))) rfl rfl (W.q3 (.int .i64 (z04 .i64 ((z04 .i64 ((p0.size : Int) + (p1.size : Int))) + 1))) rfl rfl ?_)))))
 obtain ⟨x1, e2, h3⟩ := z6l h
 obtain ⟨g5, h6⟩ := z3i h3
 refine W.lo rfl rfl (Lo.makeSlice (r := (rI .i64)) (x0 := 0) (a := x1) (c := x1) rfl zby ze3 sz3 (by kernel_rfl) rfl by3 (by decide) (congrArg (Value.int .i64) e2) (congrArg (Value.int .i64) e2) g5 (zI .i64) O) ?_
 rintro v8 H9 ⟨O4, sm7⟩
 refine W.q1 v8 rfl (.nil (.seq (.seq (.region (W.q2 (.string p0) rfl (W.pure (v := (.int .i64 (p0.size : Int))) rfl rfl (z1l (oo rfl rfl) un9) ?_))))))
 refine W.q2 (.int .i64 0) rfl (.nil ?_)
 obtain ⟨q10, h11, h12⟩ := z00 h6
 refine AW.midT (fun σ' H' => ∃ (y1 : List Int) (G' : GM), y1 = q10 /\ Ow G' H' (eSl v8 3 (rI .i64) y1 :: L) /\ GM.le G G') ?_ ?_
 rotate_left
 .rintro σ178 H179 fr180 ⟨x177, G181, rfl, O182, s183⟩
  have h185 := z0e h12
  refine .seq (.region (W.q2 v8 ((fr180 5 rfl).trans rfl) ?_))
  obtain ⟨x186, i187, h188⟩ := z00 h185
  refine W.lo rfl rfl (Lo.callB (j := 0) rfl rfl (fn := Tryz.f150) (by kernel_rfl) rfl (mc rfl mn) O182 (fun G' L' hG O' hB => za0 K v8 x177 hB O' _ i187)) ?_
  rintro v195 H196 ⟨G189, O190, s191, sm194, rfl⟩
  refine W.q1 (.string x186) rfl (.nil (.ret ?_))
  have O197 : Ow G189 H196 (L) := O190.drop 0
  obtain rfl := zAa h188
  exact z19 kr (v1 := (.string x186)) (by rfl) (z09 (by rfl) (by exact rfl)) O197 (zAe s183 s191) rfl
 refine .block (AW.loop (α := Nat) (fun k' σ' H' => ∃ (y1 : List Int) (y2 : Int) (G' : GM), z34 K p0 p1 k' y1 y2 = some q10 /\ Ow G' H' (eSl v8 3 (rI .i64) y1 :: L) /\ GM.le G G' /\ σ' 19 = .int .i64 y2) (fun k' => k') K ⟨(List.replicate (Int.toNat x1) 0), 0, _, h11, O4, (zAf _), rfl⟩ ?_)
 rintro k13
 rintro σ16 H17 fr18 ⟨x14, x15, G19, h22, O20, s21, t23⟩
 rcases k13 with _ | k13
 .exact z0b h22
 rw [z34] at h22
 refine .seq (.region (W.q3 (.bool (decide (x15 < (p0.size : Int)))) t23 ((fr18 18 rfl).trans rfl) (.nil (.seq (.cond (b := decide (x15 < (p0.size : Int))) rfl rfl (fun g24 => ?_) (fun g24 => ?_))))))
 rotate_left
 .have h176 := z0i g24 h22
  refine .exit ?_
  obtain rfl := zAa h176
  exact ⟨x14, _, rfl, O20, s21⟩
 have h25 := z02 g24 h22
 refine .skip (.seq (.block (.seq (.region (W.q2 _ t23 (W.q1 (.int .i64 x15) rfl ?_))))))
 refine .nil (.seq (.region (W.q2 (.string p0) ((fr18 0 rfl).trans rfl) (W.q2 (.int .i64 x15) rfl ?_))))
 obtain ⟨x26, i27, h28⟩ := z00 h25
 refine W.lo rfl rfl (Lo.cP rfl (fn := Tryz.f149) (by kernel_rfl) rfl (mc rfl (mc rfl mn)) O20 (fun L' O' => z53 K p0 x15 O' _ i27)) ?_
 rintro v35 H36 ⟨G29, O30, s31, sm34, rfl⟩
 refine W.q1 (.int .i64 x26) rfl (.nil (.seq (.seq (.region (W.q2 (.string p1) ((fr18 1 rfl).trans rfl) (W.pure (v := (.int .i64 (p1.size : Int))) rfl rfl (z1l (oo rfl rfl) un9) ?_))))))
 refine W.q2 (.int .i64 0) rfl (.nil ?_)
 obtain ⟨q37, h38, h39⟩ := z00 h28
 refine AW.midT (fun σ' H' => ∃ (y1 : List Int) (G' : GM), y1 = q37 /\ Ow G' H' (eSl v8 3 (rI .i64) y1 :: L) /\ GM.le G29 G') ?_ ?_
 .refine .block (AW.loop (α := Nat) (fun k' σ' H' => ∃ (y1 : List Int) (y2 : Int) (G' : GM), z33 K p1 x15 x26 k' y1 y2 = some q37 /\ Ow G' H' (eSl v8 3 (rI .i64) y1 :: L) /\ GM.le G29 G' /\ σ' 27 = .int .i64 y2) (fun k' => k') K ⟨x14, 0, _, h38, O30, (zAf _), rfl⟩ ?_)
  rintro k40
  rintro σ43 H44 fr45 ⟨x41, x42, G46, h49, O47, s48, t50⟩
  rcases k40 with _ | k40
  .exact z0b h49
  rw [z33] at h49
  refine .seq (.region (W.q3 (.bool (decide (x42 < (p1.size : Int)))) t50 ((fr45 26 rfl).trans rfl) (.nil (.seq (.cond (b := decide (x42 < (p1.size : Int))) rfl rfl (fun g51 => ?_) (fun g51 => ?_))))))
  rotate_left
  .have h81 := z0i g51 h49
   refine .exit ?_
   obtain rfl := zAa h81
   exact ⟨x41, _, rfl, O47, s48⟩
  have h52 := z02 g51 h49
  refine .skip (.seq (.block (.seq (.region (W.q2 _ t50 (W.q1 (.int .i64 x42) rfl ?_))))))
  refine .nil (.draw2 (M := [0, 0, 0, 6, 15, 31, 0, 0, 0, 384, 960, 2047, 4095, 8191]) mixed (by kernel_rfl) (by kernel_rfl) fun H53 N57 x54 F56 => ?_)
  have O55 := O47.ext x54
  refine D2.q2 v8 ((fr45 5 rfl).trans ((fr18 5 rfl).trans rfl)) (D2.q2 (.int .i64 x15) ((fr45 6 rfl).trans rfl) (D2.q2 (.int .i64 x42) rfl (D2.q3 (.int .i64 (z04 .i64 (x15 + x42))) rfl rfl ?_)))
  obtain ⟨x58, i59, h60⟩ := z00 h52
  have j61 := z0h i59
  refine D2.pure (v := (z2x v8 (Int.toNat (z04 .i64 (x15 + x42)) * 1))) rfl rfl (z3s zby sz3 (oo rfl rfl) (oo rfl rfl) (O55.slLen (j := 0) rfl) j61.1 j61.2.1) (D2.load1' (v := (.int .i64 x58)) (r := []) rfl rfl ag3 (z0r rfl (At.int (O55.atSl (j := 0) rfl j61.2.2))) z03 (D2.q2 (.int .i64 x26) ((fr45 7 rfl).trans rfl) (D2.q2 (.string p1) ((fr45 1 rfl).trans ((fr18 1 rfl).trans rfl)) (D2.q2 (.int .i64 x42) rfl ?_))))
  obtain ⟨x62, i63, h64⟩ := z00 h60
  refine D2.lo rfl rfl (Lo.cP rfl (fn := Tryz.f149) (by kernel_rfl) rfl (mc rfl (mc rfl mn)) O55 (fun L' O' => z53 K p1 x42 O' _ i63)) ?_ z03 ?_ ?_
  .rintro v71 H72 ⟨G65, O66, s67, sm70, rfl⟩; exact (faR1 (.inr (sm70 _ (Or.inr ⟨0, _, rfl, (O55.footSl (j := 0) rfl j61.2.2)⟩))) z03)
  .rintro v71 H72 ⟨G65, O66, s67, sm70, rfl⟩; exact z03
  rintro v71 H72 ⟨G65, O66, s67, sm70, rfl⟩
  refine D2.q3 (.int .i64 (z04 .i64 (x26 * x62))) rfl rfl (D2.q3 (.int .i64 (z04 .i64 (x58 + (z04 .i64 (x26 * x62))))) rfl rfl ?_)
  obtain ⟨x73, i74, h75⟩ := z00 h64
  have j76 := z0h i74
  refine D2.pure (v := (z2x v8 (Int.toNat (z04 .i64 (x15 + x42)) * 1))) rfl rfl (z3s zby sz3 (oo rfl rfl) (oo rfl rfl) (O66.slLen (j := 0) rfl) j76.1 j76.2.1) (D2.lo rfl rfl (Lo.storeSl0 (j := 0) (y0 := z04 .i64 (x58 + (z04 .i64 (x26 * x62)))) (v := (.int .i64 (z04 .i64 (x58 + (z04 .i64 (x26 * x62)))))) rfl j76.2.2  rfl sz3 rfl rfl rfl O66) ?_ (z08 (by decide) z03) ?_ ?_)
  .rintro v79 H80 ⟨O77, sm78⟩; exact (faR1 (.inl (by decide)) z03)
  .rintro v79 H80 ⟨O77, sm78⟩; exact z03
  rintro v79 H80 ⟨O77, sm78⟩
  refine .nil (.region (W.q3 (.int .i64 (z04 .i64 (x42 + 1))) t50 rfl (W.q2 (.int .i64 (z04 .i64 (x42 + 1))) rfl (.nil ?_))))
  exact ⟨k40, zAg _, ⟨(List.set x41 (Int.toNat (z04 .i64 (x15 + x42))) (z04 .i64 (x58 + (z04 .i64 (x26 * x62))))), z04 .i64 (x42 + 1), _, h75, O77, (zAe s48 s67), rfl⟩⟩
 rintro σ83 H84 fr85 ⟨x82, G86, rfl, O87, s88⟩
 have h90 := z0e h39
 refine .seq (.region (W.q2 v8 ((fr85 5 rfl).trans ((fr18 5 rfl).trans rfl)) (W.q2 v8 ((fr85 5 rfl).trans ((fr18 5 rfl).trans rfl)) (W.pure (v := (.int .i64 (List.length x82 : Int))) rfl rfl (z0q (oo rfl rfl) (O87.slLen (j := 0) rfl) (z06 zby)) (W.q3 (.int .i64 (z04 .i64 ((List.length x82 : Int) - 1))) rfl rfl ?_)))))
 obtain ⟨x91, i92, h93⟩ := z00 h90
 obtain ⟨w94, e96, f97⟩ := O87.view (j := 0) rfl zby sz3 i92
 refine W.pure (v := w94) rfl rfl (e96 (oo rfl rfl) (oo rfl rfl)) (W.pure (v := (.int .i64 (List.length x91 : Int))) rfl rfl (z0q (oo rfl rfl) f97 (z06 zby)) (W.q2 (.int .i64 0) rfl (.nil ?_)))
 obtain ⟨q98, h99, h100⟩ := z00 h93
 refine AW.midT (fun σ' H' => ∃ (y1 : List Int) (G' : GM), y1 = q98 /\ Ow G' H' (eSl v8 3 (rI .i64) y1 :: L) /\ GM.le G86 G') ?_ ?_
 rotate_left
 .rintro σ168 H169 fr170 ⟨x167, G171, rfl, O172, s173⟩
  have h175 := z0e h100
  refine .region (W.q3 (.int .i64 (z04 .i64 (x15 + 1))) ((fr170 19 rfl).trans ((fr85 19 rfl).trans t23)) rfl (W.q2 (.int .i64 (z04 .i64 (x15 + 1))) rfl (.nil ?_)))
  exact ⟨k13, zAg _, ⟨x167, z04 .i64 (x15 + 1), _, h175, O172, (zAe s21 (zAe s31 (zAe s88 s173))), rfl⟩⟩
 refine .block (AW.loop (α := Nat) (fun k' σ' H' => ∃ (y1 : List Int) (y2 : Int) (G' : GM), z2o K x91 k' y1 y2 = some q98 /\ Ow G' H' (eSl v8 3 (rI .i64) y1 :: L) /\ GM.le G86 G' /\ σ' 50 = .int .i64 y2) (fun k' => k') K ⟨x82, 0, _, h99, O87, (zAf _), rfl⟩ ?_)
 rintro k101
 rintro σ104 H105 fr106 ⟨x102, x103, G107, h110, O108, s109, t111⟩
 rcases k101 with _ | k101
 .exact z0b h110
 rw [z2o] at h110
 refine .seq (.region (W.q3 (.bool (decide (x103 < (List.length x91 : Int)))) t111 ((fr106 49 rfl).trans rfl) (.nil (.seq (.cond (b := decide (x103 < (List.length x91 : Int))) rfl rfl (fun g112 => ?_) (fun g112 => ?_))))))
 rotate_left
 .have h166 := z0i g112 h110
  refine .exit ?_
  obtain rfl := zAa h166
  exact ⟨x102, _, rfl, O108, s109⟩
 have h113 := z02 g112 h110
 refine .skip (.seq ?_)
 obtain ⟨q114, h115, h116⟩ := z00 h113
 refine AW.midT (fun σ' H' => ∃ (y1 : List Int) (G' : GM), y1 = q114 /\ Ow G' H' (eSl v8 3 (rI .i64) y1 :: L) /\ GM.le G107 G') ?_ ?_
 rotate_left
 .rintro σ158 H159 fr160 ⟨x157, G161, rfl, O162, s163⟩
  have h165 := z0e h116
  refine .region (W.q3 (.int .i64 (z04 .i64 (x103 + 1))) ((fr160 50 rfl).trans t111) rfl (W.q2 (.int .i64 (z04 .i64 (x103 + 1))) rfl (.nil ?_)))
  exact ⟨k101, zAg _, ⟨x157, z04 .i64 (x103 + 1), _, h165, O162, (zAe s109 s163), rfl⟩⟩
 refine .block (.seq (.region (W.q2 _ t111 (W.q1 (.int .i64 x103) rfl (.nil (.seq ?_))))))
 refine .region (W.q2 v8 ((fr106 5 rfl).trans ((fr85 5 rfl).trans ((fr18 5 rfl).trans rfl))) (W.q2 (.int .i64 x103) rfl ?_))
 obtain ⟨x117, i118, h119⟩ := z00 h115
 have j120 := z0h i118
 refine W.pure (v := (z2x v8 (Int.toNat x103 * 1))) rfl rfl (z3s zby sz3 (oo rfl rfl) (oo rfl rfl) (O108.slLen (j := 0) rfl) j120.1 j120.2.1) (W.load1 (v := (.int .i64 x117)) (r := []) rfl rfl ag3 (z0r rfl (At.int (O108.atSl (j := 0) rfl j120.2.2))) (W.q3 (.bool (decide (x117 > 9))) rfl rfl (.nil (.cond (b := decide (x117 > 9)) rfl rfl (fun g121 => ?_) (fun g121 => ?_)))))
 rotate_left
 .have h156 := z0i g121 h119
  refine .skip ?_
  obtain rfl := zAa h156
  exact ⟨x102, _, rfl, O108, (zAf _)⟩
 have h122 := z02 g121 h119
 refine .seq (.draw2 (M := [0, 0, 2, 7, 15, 0, 0, 96, 224, 480, 1023, 2047, 4095]) mixed (by kernel_rfl) (by kernel_rfl) fun H123 N127 x124 F126 => ?_)
 have O125 := O108.ext x124
 refine D2.q2 v8 ((fr106 5 rfl).trans ((fr85 5 rfl).trans ((fr18 5 rfl).trans rfl))) (D2.q2 (.int .i64 x103) rfl (D2.q3 (.int .i64 (z04 .i64 (x103 + 1))) rfl rfl ?_))
 obtain ⟨x128, i129, h130⟩ := z00 h122
 have j131 := z0h i129
 refine D2.pure (v := (z2x v8 (Int.toNat (z04 .i64 (x103 + 1)) * 1))) rfl rfl (z3s zby sz3 (oo rfl rfl) (oo rfl rfl) (O125.slLen (j := 0) rfl) j131.1 j131.2.1) (D2.load1' (v := (.int .i64 x128)) (r := []) rfl rfl ag3 (z0r rfl (At.int (O125.atSl (j := 0) rfl j131.2.2))) z03 (D2.q2 v8 ((fr106 5 rfl).trans ((fr85 5 rfl).trans ((fr18 5 rfl).trans rfl))) (D2.q2 (.int .i64 x103) rfl ?_)))
 obtain ⟨x132, i133, h134⟩ := z00 h130
 have j135 := z0h i133
 refine D2.pure (v := (z2x v8 (Int.toNat x103 * 1))) rfl rfl (z3s zby sz3 (oo rfl rfl) (oo rfl rfl) (O125.slLen (j := 0) rfl) j135.1 j135.2.1) (D2.load1' (v := (.int .i64 x132)) (r := []) rfl rfl ag3 (z0r rfl (At.int (O125.atSl (j := 0) rfl j135.2.2))) z03 (D2.pure (v := (.int .i64 (z04 .i64 (Int.tdiv x132 10)))) rfl rfl (zh0 (by decide) (oo rfl rfl) (oo rfl rfl)) (D2.q3 (.int .i64 (z04 .i64 (x128 + (z04 .i64 (Int.tdiv x132 10))))) rfl rfl ?_)))
 obtain ⟨x136, i137, h138⟩ := z00 h134
 have j139 := z0h i137
 refine D2.pure (v := (z2x v8 (Int.toNat (z04 .i64 (x103 + 1)) * 1))) rfl rfl (z3s zby sz3 (oo rfl rfl) (oo rfl rfl) (O125.slLen (j := 0) rfl) j139.1 j139.2.1) (D2.lo rfl rfl (Lo.storeSl0 (j := 0) (y0 := z04 .i64 (x128 + (z04 .i64 (Int.tdiv x132 10)))) (v := (.int .i64 (z04 .i64 (x128 + (z04 .i64 (Int.tdiv x132 10)))))) rfl j139.2.2  rfl sz3 rfl rfl rfl O125) ?_ z03 ?_ ?_)
 .rintro v142 H143 ⟨O140, sm141⟩; exact (faR1 (.inl (by decide)) (faR1 (.inl (by decide)) z03))
 .rintro v142 H143 ⟨O140, sm141⟩; exact z03
 rintro v142 H143 ⟨O140, sm141⟩
 refine .nil (.region (W.q2 v8 ((fr106 5 rfl).trans ((fr85 5 rfl).trans ((fr18 5 rfl).trans rfl))) (W.q2 (.int .i64 x103) rfl ?_)))
 obtain ⟨x144, i145, h146⟩ := z00 h138
 have j147 := z0h i145
 refine W.pure (v := (z2x v8 (Int.toNat x103 * 1))) rfl rfl (z3s zby sz3 (oo rfl rfl) (oo rfl rfl) (O140.slLen (j := 0) rfl) j147.1 j147.2.1) (W.load1 (v := (.int .i64 x144)) (r := []) rfl rfl ag3 (z0r rfl (At.int (O140.atSl (j := 0) rfl j147.2.2))) (W.pure (v := (.int .i64 (Int.tmod x144 10))) rfl rfl (zin (by decide) (oo rfl rfl) (oo rfl rfl)) ?_))
 obtain ⟨x148, i149, h150⟩ := z00 h146
 have j151 := z0h i149
 refine W.pure (v := (z2x v8 (Int.toNat x103 * 1))) rfl rfl (z3s zby sz3 (oo rfl rfl) (oo rfl rfl) (O140.slLen (j := 0) rfl) j151.1 j151.2.1) (W.lo rfl rfl (Lo.storeSl0 (j := 0) (y0 := Int.tmod x144 10) (v := (.int .i64 (Int.tmod x144 10))) rfl j151.2.2  rfl sz3 rfl rfl rfl O140) ?_)
 rintro v154 H155 ⟨O152, sm153⟩
 refine .nil ?_
 obtain rfl := zAa h150
 exact ⟨(List.set (List.set x102 (Int.toNat (z04 .i64 (x103 + 1))) (z04 .i64 (x128 + (z04 .i64 (Int.tdiv x132 10))))) (Int.toNat x103) (Int.tmod x144 10)), _, rfl, O152, (zAf _)⟩
def z2b (K : Nat) (p0 : zAd) (p1 : zAd) : Nat -> List Int -> Int -> Int -> Option (List Int)
  | 0, _, _, _ => none
  | k + 1, x6, x7, x8 => (Option.bind ((if (decide (x8 < (p0.size : Int))) = true then some true else (if (decide (x8 < (p1.size : Int))) = true then some true else some (decide (x7 > 0))))) (tu1 fun x29 => (if x29 = true then ((z57 K p0 x8).bind fun x41 => ((z57 K p1 x8).bind fun x52 => (if List.length x6 + List.length [Int.tmod (z04 .i64 ((z04 .i64 (x41 + x52)) + x7)) 10] <= 16777216 then (lt (z04 .i64 (Int.tdiv (z04 .i64 ((z04 .i64 (x41 + x52)) + x7)) 10)) fun x76 => z2b K p0 p1 k (x6 ++ [Int.tmod (z04 .i64 ((z04 .i64 (x41 + x52)) + x7)) 10]) x76 (z04 .i64 (x8 + 1))) else none))) else some x6)))
def z87 (K : Nat) (p0 : zAd) (p1 : zAd) : Option zAd := (Option.bind (z2b K p0 p1 K [] 0 0) (tu1 fun x81 => ((z8t K x81).bind fun x90 => some x90)))
theorem zdl (p0 : zAd) (p1 : zAd) (O : Ow G H (L)) (r : zAd) (h : z87 K p0 p1 = some r) :
    CR Tryz.prog 96 [(.string p0), (.string p1)] G H (L) (fun v G' _ => v = .string r) := by
 unfold z87 at h
 refine CR.og (n := 43) (fn := Tryz.f96) (by kernel_rfl) rfl rfl fun R kr => (.seq (.region (W.q1 (.string (⟨#[]⟩ : zAd)) rfl (.nil (.seq (.region ?_))))))
 refine W.q1 (.slice none 0 0) rfl (.nil (.seq (.region (W.q1 (.int .i64 0) rfl (.nil (.seq ?_))))))
 refine .seq (.region (W.q1 (.int .i64 0) rfl (.nil ?_)))
 obtain ⟨q1, h2, h3⟩ := z00 h
 refine AW.midT (fun σ' H' => ∃ (y1 : List Int) (G' : GM), y1 = q1 /\ Ow G' H' (eSl (σ' 5) 3 (rI .i64) y1 :: L) /\ GM.le G G') ?_ ?_
 rotate_left
 .rintro σ82 H83 fr84 ⟨x81, G85, rfl, O86, s87⟩
  have h89 := z0e h3
  refine .seq (.region (W.q2 (σ82 5) rfl ?_))
  obtain ⟨x90, i91, h92⟩ := z00 h89
  refine W.lo rfl rfl (Lo.callB (j := 0) rfl rfl (fn := Tryz.f150) (by kernel_rfl) rfl (mc rfl mn) O86 (fun G' L' hG O' hB => za0 K (σ82 5) x81 hB O' _ i91)) ?_
  rintro v99 H100 ⟨G93, O94, s95, sm98, rfl⟩
  refine W.q1 (.string x90) rfl (.nil (.ret ?_))
  have O101 : Ow G93 H100 (L) := O94.drop 0
  obtain rfl := zAa h92
  exact z19 kr (v1 := (.string x90)) (by rfl) (z09 (by rfl) (by exact rfl)) O101 (zAe s87 s95) rfl
 refine .block ?_
 have O4 := O.nilSl 3 (rI .i64)
 refine AW.loop (α := Nat) (fun k' σ' H' => ∃ (y1 : List Int) (y2 : Int) (y3 : Int) (G' : GM), z2b K p0 p1 k' y1 y2 y3 = some q1 /\ Ow G' H' (eSl (σ' 5) 3 (rI .i64) y1 :: L) /\ GM.le G G' /\ σ' 6 = .int .i64 y2 /\ σ' 7 = .int .i64 y3) (fun k' => k') K ⟨[], 0, 0, _, h2, O4, (zAf _), rfl, rfl⟩ ?_
 rintro k5
 rintro σ9 H10 fr11 ⟨x6, x7, x8, G12, h15, O13, s14, t16, t17⟩
 rcases k5 with _ | k5
 .exact z0b h15
 rw [z2b] at h15
 refine .seq (.seq ?_)
 obtain ⟨q18, h19, h20⟩ := z00 h15
 refine AW.midT (fun σ' H' => ∃ (y1 : Bool) (G' : GM), y1 = q18 /\ Ow G' H' (eSl (σ9 5) 3 (rI .i64) x6 :: L) /\ GM.le G12 G' /\ σ' 22 = .bool y1) ?_ ?_
 .refine .region (W.q2 _ t17 (W.q2 (.string p0) ((fr11 0 rfl).trans rfl) (W.pure (v := (.int .i64 (p0.size : Int))) rfl rfl (z1l (oo rfl rfl) un9) (W.q3 (.bool (decide (x8 < (p0.size : Int)))) rfl rfl (W.q2 (.bool (decide (x8 < (p0.size : Int)))) rfl (W.splitAt (t := 13) (b := decide (x8 < (p0.size : Int))) rfl (fun g21 gv22 => ?_) (fun g21 gv22 => ?_)))))))
  .have h23 := z02 g21 h19
   refine W.q6 rfl gv22 (W.q6 rfl gv22 (W.q6 rfl gv22 (W.q6 rfl gv22 (W.q4 (.bool true) gv22 rfl (W.q2 (.bool true) rfl (W.q6 rfl rfl ?_))))))
   refine W.q6 rfl rfl (W.q4 (.bool true) rfl rfl (.nil ?_))
   obtain rfl := zAa h23
   exact ⟨true, _, rfl, O13, (zAf _), rfl⟩
  have h24 := z0i g21 h19
  refine W.q2 (hg := gk rfl rfl gv22 rfl) _ t17 (W.q2 (hg := gk rfl rfl gv22 rfl) (.string p1) ((fr11 1 rfl).trans rfl) (W.pure (v := (.int .i64 (p1.size : Int))) (gk rfl rfl gv22 rfl) rfl (z1l (oo rfl rfl) un9) (W.q3 (hg := gk rfl rfl gv22 rfl) (.bool (decide (x8 < (p1.size : Int)))) rfl rfl (W.q5 (.bool (decide (x8 < (p1.size : Int)))) gv22 rfl (W.q2 (.bool (decide (x8 < (p1.size : Int)))) rfl (W.splitAt (t := 19) (b := decide (x8 < (p1.size : Int))) rfl (fun g25 gv26 => ?_) (fun g25 gv26 => ?_)))))))
  .have h27 := z02 g25 h24
   refine W.q6 rfl gv26 (W.q6 rfl gv26 (W.q4 (.bool true) gv26 rfl (.nil ?_)))
   obtain rfl := zAa h27
   exact ⟨true, _, rfl, O13, (zAf _), rfl⟩
  have h28 := z0i g25 h24
  refine W.q2 (hg := gk rfl rfl gv26 rfl) _ t16 (W.q3 (hg := gk rfl rfl gv26 rfl) (.bool (decide (x7 > 0))) rfl rfl (W.q5 (.bool (decide (x7 > 0))) gv26 rfl (.nil ?_)))
  obtain rfl := zAa h28
  exact ⟨decide (x7 > 0), _, rfl, O13, (zAf _), rfl⟩
 rintro σ30 H31 fr32 ⟨x29, G33, rfl, O34, s35, t37⟩
 have h38 := z0e h20
 refine .cond (b := x29) rfl t37 (fun g39 => ?_) (fun g39 => ?_)
 rotate_left
 .have h80 := z0i g39 h38
  refine .exit ?_
  obtain rfl := zAa h80
  exact ⟨x6, _, rfl, (Ow.reval (j := 0) O34 rfl ((fr32 5 rfl).trans rfl)), (zAe s14 s35)⟩
 have h40 := z02 g39 h38
 refine .skip (.seq (.block (.seq (.region (W.q2 (.string p0) ((fr32 0 rfl).trans ((fr11 0 rfl).trans rfl)) (W.q2 _ ((fr32 7 rfl).trans t17) ?_))))))
 obtain ⟨x41, i42, h43⟩ := z00 h40
 refine W.lo rfl rfl (Lo.cP rfl (fn := Tryz.f149) (by kernel_rfl) rfl (mc rfl (mc rfl mn)) O34 (fun L' O' => z53 K p0 x8 O' _ i42)) ?_
 rintro v50 H51 ⟨G44, O45, s46, sm49, rfl⟩
 refine W.q2 (.string p1) ((fr32 1 rfl).trans ((fr11 1 rfl).trans rfl)) (W.q2 _ ((fr32 7 rfl).trans t17) ?_)
 obtain ⟨x52, i53, h54⟩ := z00 h43
 refine W.lo rfl rfl (Lo.cP rfl (fn := Tryz.f149) (by kernel_rfl) rfl (mc rfl (mc rfl mn)) O45 (fun L' O' => z53 K p1 x8 O' _ i53)) ?_
 rintro v61 H62 ⟨G55, O56, s57, sm60, rfl⟩
 refine W.q3 (.int .i64 (z04 .i64 (x41 + x52))) rfl rfl (W.q2 _ ((fr32 6 rfl).trans t16) (W.q3 (.int .i64 (z04 .i64 ((z04 .i64 (x41 + x52)) + x7))) rfl rfl (W.q1 (.int .i64 (z04 .i64 ((z04 .i64 (x41 + x52)) + x7))) rfl (.nil (.seq (.region ?_))))))
 refine W.q2 (σ9 5) ((fr32 5 rfl).trans rfl) (W.q2 (.int .i64 (z04 .i64 ((z04 .i64 (x41 + x52)) + x7))) rfl (W.pure (v := (.int .i64 (Int.tmod (z04 .i64 ((z04 .i64 (x41 + x52)) + x7)) 10))) rfl rfl (zin (by decide) (oo rfl rfl) (oo rfl rfl)) (W.lo rfl rfl (Lo.buildSlice (r := (rI .i64)) (vs := [(.int .i64 (Int.tmod (z04 .i64 ((z04 .i64 (x41 + x52)) + x7)) 10))]) (xs := [Int.tmod (z04 .i64 ((z04 .i64 (x41 + x52)) + x7)) 10]) zby ze3 sz3 (by kernel_rfl) rfl (qc rfl qn) rfl (.cons rfl .nil) O56) ?_)))
 rintro v65 H66 ⟨O63, sm64⟩
 obtain ⟨es68, e69, e70⟩ := z7m (j := 0) rfl O63
 obtain ⟨g71, h72⟩ := z3i h54
 refine W.lo rfl rfl (Lo.append (j := 1) (v := (σ9 5)) rfl rfl zby zn4 ze3 sz3 by3 (by decide) (by decide) rfl e69 e70 g71 O63) ?_
 rintro v74 H75 ⟨O67, sm73⟩
 refine W.q1 v74 rfl (.nil (.region (W.q2 (.int .i64 (z04 .i64 ((z04 .i64 (x41 + x52)) + x7))) rfl (W.pure (v := (.int .i64 (z04 .i64 (Int.tdiv (z04 .i64 ((z04 .i64 (x41 + x52)) + x7)) 10)))) rfl rfl (zh0 (by decide) (oo rfl rfl) (oo rfl rfl)) ?_))))
 obtain ⟨x76, e77, h78⟩ := z6l h72
 refine W.q1 _ (congrArg (Value.int .i64) e77) (.nil (.region (W.q2 _ ((fr32 7 rfl).trans t17) (W.q3 (.int .i64 (z04 .i64 (x8 + 1))) rfl rfl (W.q1 (.int .i64 (z04 .i64 (x8 + 1))) rfl (.nil ?_))))))
 have O79 : Ow G55 H75 (eSl v74 3 (rI .i64) (x6 ++ [Int.tmod (z04 .i64 ((z04 .i64 (x41 + x52)) + x7)) 10]) :: L) := O67.drop 0
 exact ⟨k5, zAg _, ⟨(x6 ++ [Int.tmod (z04 .i64 ((z04 .i64 (x41 + x52)) + x7)) 10]), x76, z04 .i64 (x8 + 1), _, h78, O79, (zAe s14 (zAe s35 (zAe s46 s57))), rfl, rfl⟩⟩
def z88 (K : Nat) (p0 : zAd) (p1 : zAd) : Option zAd := ((z5t K p0).bind fun x1 => ((z5t K p1).bind fun x12 => ((z6e K x1.2.1 x12.2.2).bind fun x23 => ((z6e K x12.2.1 x1.2.2).bind fun x34 => ((z6e K x1.2.2 x12.2.2).bind fun x45 => (if (x1.1 == x12.1) = true then ((z87 K x23 x34).bind fun x58 => ((z7g K x1.1 x58 x45).bind fun x69 => some x69)) else ((z6z K x23 x34).bind fun x81 => (Option.bind ((if (decide (x81 < 0)) = true then some (x12.1, x34, x23) else some (x1.1, x23, x34))) (tu3 fun x98 x99 x100 => ((z70 K x99 x100).bind fun x112 => ((z7g K x98 x112 x45).bind fun x123 => some x123)))))))))))
theorem zdm (p0 : zAd) (p1 : zAd) (O : Ow G H (L)) (r : zAd) (h : z88 K p0 p1 = some r) :
    CR Tryz.prog 41 [(.string p0), (.string p1)] G H (L) (fun v G' _ => v = .string r) := by
 unfold z88 at h
 refine CR.og (n := 57) (fn := Tryz.f41) (by kernel_rfl) rfl rfl fun R kr => (.seq (.region (W.q1 (.string (⟨#[]⟩ : zAd)) rfl (.nil (.seq (.region ?_))))))
 refine W.q2 (.string p0) rfl ?_
 obtain ⟨x1, i2, h3⟩ := z00 h
 refine W.lo rfl rfl (Lo.cP rfl (fn := Tryz.f61) (by kernel_rfl) rfl (mc rfl mn) O (fun L' O' => z7f K p0 O' _ i2)) ?_
 rintro v10 H11 ⟨G4, O5, s6, sm9, rfl⟩
 refine W.q2 (.tuple #[(.bool x1.1), (.string x1.2.1), (.string x1.2.2)]) rfl (W.pure (v := (.bool x1.1)) rfl rfl (z07 (oo rfl rfl) rfl) (W.pure (v := (.string x1.2.1)) rfl rfl (z07 (oo rfl rfl) rfl) (W.pure (v := (.string x1.2.2)) rfl rfl (z07 (oo rfl rfl) rfl) (W.q1 (.bool x1.1) rfl (W.q1 (.string x1.2.1) rfl (W.q1 (.string x1.2.2) rfl ?_))))))
 refine .nil (.seq (.region (W.q2 (.string p1) rfl ?_)))
 obtain ⟨x12, i13, h14⟩ := z00 h3
 refine W.lo rfl rfl (Lo.cP rfl (fn := Tryz.f61) (by kernel_rfl) rfl (mc rfl mn) O5 (fun L' O' => z7f K p1 O' _ i13)) ?_
 rintro v21 H22 ⟨G15, O16, s17, sm20, rfl⟩
 refine W.q2 (.tuple #[(.bool x12.1), (.string x12.2.1), (.string x12.2.2)]) rfl (W.pure (v := (.bool x12.1)) rfl rfl (z07 (oo rfl rfl) rfl) (W.pure (v := (.string x12.2.1)) rfl rfl (z07 (oo rfl rfl) rfl) (W.pure (v := (.string x12.2.2)) rfl rfl (z07 (oo rfl rfl) rfl) (W.q1 (.bool x12.1) rfl (W.q1 (.string x12.2.1) rfl (W.q1 (.string x12.2.2) rfl ?_))))))
 refine .nil (.seq (.region (W.q2 (.string x1.2.1) rfl (W.q2 (.string x12.2.2) rfl ?_))))
 obtain ⟨x23, i24, h25⟩ := z00 h14
 refine W.lo rfl rfl (Lo.cP rfl (fn := Tryz.f94) (by kernel_rfl) rfl (mc rfl (mc rfl mn)) O16 (fun L' O' => z86 K x1.2.1 x12.2.2 O' _ i24)) ?_
 rintro v32 H33 ⟨G26, O27, s28, sm31, rfl⟩
 refine W.q2 (.string x12.2.1) rfl (W.q2 (.string x1.2.2) rfl ?_)
 obtain ⟨x34, i35, h36⟩ := z00 h25
 refine W.lo rfl rfl (Lo.cP rfl (fn := Tryz.f94) (by kernel_rfl) rfl (mc rfl (mc rfl mn)) O27 (fun L' O' => z86 K x12.2.1 x1.2.2 O' _ i35)) ?_
 rintro v43 H44 ⟨G37, O38, s39, sm42, rfl⟩
 refine W.q2 (.string x1.2.2) rfl (W.q2 (.string x12.2.2) rfl ?_)
 obtain ⟨x45, i46, h47⟩ := z00 h36
 refine W.lo rfl rfl (Lo.cP rfl (fn := Tryz.f94) (by kernel_rfl) rfl (mc rfl (mc rfl mn)) O38 (fun L' O' => z86 K x1.2.2 x12.2.2 O' _ i46)) ?_
 rintro v54 H55 ⟨G48, O49, s50, sm53, rfl⟩
 refine W.q1 (.string x23) rfl (W.q1 (.string x34) rfl (W.q1 (.string x45) rfl (.nil (.seq (.seq (.region ?_))))))
 refine W.q2 (.bool x1.1) rfl (W.q2 (.bool x12.1) rfl (W.pure (v := (.bool (x1.1 == x12.1))) rfl rfl (zgs (oo rfl rfl) (oo rfl rfl) un4) (.nil (.cond (b := (x1.1 == x12.1)) rfl rfl (fun g56 => ?_) (fun g56 => ?_)))))
 .have h57 := z02 g56 h47
  refine .seq (.region (W.q2 (.bool x1.1) rfl (W.q2 (.string x23) rfl (W.q2 (.string x34) rfl ?_))))
  obtain ⟨x58, i59, h60⟩ := z00 h57
  refine W.lo rfl rfl (Lo.cP rfl (fn := Tryz.f96) (by kernel_rfl) rfl (mc rfl (mc rfl mn)) O49 (fun L' O' => zdl K x23 x34 O' _ i59)) ?_
  rintro v67 H68 ⟨G61, O62, s63, sm66, rfl⟩
  refine W.q2 (.string x45) rfl ?_
  obtain ⟨x69, i70, h71⟩ := z00 h60
  refine W.lo rfl rfl (Lo.cP rfl (fn := Tryz.f95) (by kernel_rfl) rfl (mc rfl (mc rfl (mc rfl mn))) O62 (fun L' O' => z8u K x1.1 x58 x45 O' _ i70)) ?_
  rintro v78 H79 ⟨G72, O73, s74, sm77, rfl⟩
  refine W.q1 (.string x69) rfl (.nil (.ret ?_))
  obtain rfl := zAa h71
  exact z19 kr (v1 := (.string x69)) (by rfl) (z09 (by rfl) (by exact rfl)) O73 (zAe s6 (zAe s17 (zAe s28 (zAe s39 (zAe s50 (zAe s63 s74)))))) rfl
 have h80 := z0i g56 h47
 refine .skip (.seq (.seq (.region (W.q2 (.string x23) rfl (W.q2 (.string x34) rfl ?_)))))
 obtain ⟨x81, i82, h83⟩ := z00 h80
 refine W.lo rfl rfl (Lo.cP rfl (fn := Tryz.f97) (by kernel_rfl) rfl (mc rfl (mc rfl mn)) O49 (fun L' O' => za7 K x23 x34 O' _ i82)) ?_
 rintro v90 H91 ⟨G84, O85, s86, sm89, rfl⟩
 refine W.q3 (.bool (decide (x81 < 0))) rfl rfl (.nil ?_)
 obtain ⟨q92, h93, h94⟩ := z00 h83
 refine AW.midT (fun σ' H' => ∃ (y1 : Bool) (y2 : zAd) (y3 : zAd) (G' : GM), (y1, y2, y3) = q92 /\ Ow G' H' (L) /\ GM.le G84 G' /\ σ' 5 = .bool y1 /\ σ' 11 = .string y2 /\ σ' 12 = .string y3) ?_ ?_
 .refine .cond (b := decide (x81 < 0)) rfl rfl (fun g95 => ?_) (fun g95 => ?_)
  rotate_left
  .have h97 := z0i g95 h93
   refine .skip ?_
   obtain rfl := zAa h97
   exact ⟨x1.1, x23, x34, _, rfl, O85, (zAf _), rfl, rfl, rfl⟩
  have h96 := z02 g95 h93
  refine .region (W.q2 (.string x34) rfl (W.q2 (.string x23) rfl (W.q2 (.bool x12.1) rfl (W.q1 (.string x34) rfl (W.q1 (.string x23) rfl (W.q1 (.bool x12.1) rfl ?_))))))
  refine .nil ?_
  obtain rfl := zAa h96
  exact ⟨x12.1, x34, x23, _, rfl, O85, (zAf _), rfl, rfl, rfl⟩
 rintro σ101 H102 fr103 ⟨x98, x99, x100, G104, rfl, O105, s106, t108, t109, t110⟩
 have h111 := zey h94
 refine .seq (.region (W.q2 _ t108 (W.q2 _ t109 (W.q2 _ t110 ?_))))
 obtain ⟨x112, i113, h114⟩ := z00 h111
 refine W.lo rfl rfl (Lo.cP rfl (fn := Tryz.f98) (by kernel_rfl) rfl (mc rfl (mc rfl mn)) O105 (fun L' O' => za8 K x99 x100 O' _ i113)) ?_
 rintro v121 H122 ⟨G115, O116, s117, sm120, rfl⟩
 refine W.q2 (.string x45) ((fr103 13 rfl).trans rfl) ?_
 obtain ⟨x123, i124, h125⟩ := z00 h114
 refine W.lo rfl rfl (Lo.cP rfl (fn := Tryz.f95) (by kernel_rfl) rfl (mc rfl (mc rfl (mc rfl mn))) O116 (fun L' O' => z8u K x98 x112 x45 O' _ i124)) ?_
 rintro v132 H133 ⟨G126, O127, s128, sm131, rfl⟩
 refine W.q1 (.string x123) rfl (.nil (.ret ?_))
 obtain rfl := zAa h125
 exact z19 kr (v1 := (.string x123)) (by rfl) (z09 (by rfl) (by exact rfl)) O127 (zAe s6 (zAe s17 (zAe s28 (zAe s39 (zAe s50 (zAe s86 (zAe s106 (zAe s117 s128)))))))) rfl
def z89 (K : Nat) (p0 : zAd) (p1 : zAd) : Option zAd := ((z85 K p1).bind fun x1 => ((z88 K p0 x1).bind fun x12 => some x12))
theorem zdn (p0 : zAd) (p1 : zAd) (O : Ow G H (L)) (r : zAd) (h : z89 K p0 p1 = some r) :
    CR Tryz.prog 74 [(.string p0), (.string p1)] G H (L) (fun v G' _ => v = .string r) := by
 unfold z89 at h
 refine CR.og (n := 9) (fn := Tryz.f74) (by kernel_rfl) rfl rfl fun R kr => (.seq (.region (W.q1 (.string (⟨#[]⟩ : zAd)) rfl (.nil (.seq (.region ?_))))))
 refine W.q2 (.string p0) rfl (W.q2 (.string p1) rfl ?_)
 obtain ⟨x1, i2, h3⟩ := z00 h
 refine W.lo rfl rfl (Lo.cP rfl (fn := Tryz.f111) (by kernel_rfl) rfl (mc rfl mn) O (fun L' O' => zdk K p1 O' _ i2)) ?_
 rintro v10 H11 ⟨G4, O5, s6, sm9, rfl⟩
 obtain ⟨x12, i13, h14⟩ := z00 h3
 refine W.lo rfl rfl (Lo.cP rfl (fn := Tryz.f41) (by kernel_rfl) rfl (mc rfl (mc rfl mn)) O5 (fun L' O' => zdm K p0 x1 O' _ i13)) ?_
 rintro v21 H22 ⟨G15, O16, s17, sm20, rfl⟩
 refine W.q1 (.string x12) rfl (.nil (.ret ?_))
 obtain rfl := zAa h14
 exact z19 kr (v1 := (.string x12)) (by rfl) (z09 (by rfl) (by exact rfl)) O16 (zAe s6 s17) rfl
def z54 (K : Nat) (p0 : zAd) : Option Int := ((z5t K p0).bind fun x1 => (if (sEq x1.2.1 (⟨#[48]⟩ : zAd)) = true then some 0 else (if x1.1 = true then some (-1) else some 1)))
theorem z9l (p0 : zAd) (O : Ow G H (L)) (r : Int) (h : z54 K p0 = some r) :
    CR Tryz.prog 17 [(.string p0)] G H (L) (fun v G' _ => v = .int .i64 r) := by
 unfold z54 at h
 refine CR.og (n := 17) (fn := Tryz.f17) (by kernel_rfl) rfl rfl fun R kr => (.seq (.region (W.q1 (.int .i64 0) rfl (.nil (.seq (.region ?_))))))
 refine W.q2 (.string p0) rfl ?_
 obtain ⟨x1, i2, h3⟩ := z00 h
 refine W.lo rfl rfl (Lo.cP rfl (fn := Tryz.f61) (by kernel_rfl) rfl (mc rfl mn) O (fun L' O' => z7f K p0 O' _ i2)) ?_
 rintro v10 H11 ⟨G4, O5, s6, sm9, rfl⟩
 refine W.q2 (.tuple #[(.bool x1.1), (.string x1.2.1), (.string x1.2.2)]) rfl (W.pure (v := (.bool x1.1)) rfl rfl (z07 (oo rfl rfl) rfl) (W.pure (v := (.string x1.2.1)) rfl rfl (z07 (oo rfl rfl) rfl) (W.pure (v := (.string x1.2.2)) rfl rfl (z07 (oo rfl rfl) rfl) (W.q1 (.bool x1.1) rfl (W.q1 (.string x1.2.1) rfl (W.q1 (.string x1.2.2) rfl ?_))))))
 refine .nil (.seq (.block (.seq (.region (W.q2 (.string x1.2.1) rfl (W.pure (v := (.bool (sEq x1.2.1 (⟨#[48]⟩ : zAd)))) rfl rfl (z79 (oo rfl rfl) (oo rfl rfl)) ?_))))))
 refine W.q1 (.bool (sEq x1.2.1 (⟨#[48]⟩ : zAd))) rfl (.nil (.cond (b := sEq x1.2.1 (⟨#[48]⟩ : zAd)) rfl rfl (fun g12 => ?_) (fun g12 => ?_)))
 .have h13 := z02 g12 h3
  refine .seq (.region (W.q1 (.int .i64 0) rfl (.nil (.ret ?_))))
  obtain rfl := zAa h13
  exact z19 kr (v1 := (.int .i64 0)) (by rfl) (z09 (by rfl) (by exact rfl)) O5 s6 rfl
 have h14 := z0i g12 h3
 refine .seq (.region (W.q2 (.bool x1.1) rfl (W.q1 (.bool x1.1) rfl (.nil (.cond (b := x1.1) rfl rfl (fun g15 => ?_) (fun g15 => ?_))))))
 .have h16 := z02 g15 h14
  refine .seq (.region (W.q1 (.int .i64 (-1)) rfl (.nil (.ret ?_))))
  obtain rfl := zAa h16
  exact z19 kr (v1 := (.int .i64 (-1))) (by rfl) (z09 (by rfl) (by exact rfl)) O5 s6 rfl
 have h17 := z0i g15 h14
 refine .skip (.seq (.region (W.q1 (.int .i64 1) rfl (.nil (.ret ?_)))))
 obtain rfl := zAa h17
 exact z19 kr (v1 := (.int .i64 1)) (by rfl) (z09 (by rfl) (by exact rfl)) O5 s6 rfl
def z2w (K : Nat) (p0 : zAd) (p1 : zAd) : Option Int := ((z89 K p0 p1).bind fun x1 => ((z54 K x1).bind fun x12 => some x12))
theorem z8a (p0 : zAd) (p1 : zAd) (O : Ow G H (L)) (r : Int) (h : z2w K p0 p1 = some r) :
    CR Tryz.prog 24 [(.string p0), (.string p1)] G H (L) (fun v G' _ => v = .int .i64 r) := by
 unfold z2w at h
 refine CR.og (n := 9) (fn := Tryz.f24) (by kernel_rfl) rfl rfl fun R kr => (.seq (.region (W.q1 (.int .i64 0) rfl (.nil (.seq (.region ?_))))))
 refine W.q2 (.string p0) rfl (W.q2 (.string p1) rfl ?_)
 obtain ⟨x1, i2, h3⟩ := z00 h
 refine W.lo rfl rfl (Lo.cP rfl (fn := Tryz.f74) (by kernel_rfl) rfl (mc rfl (mc rfl mn)) O (fun L' O' => zdn K p0 p1 O' _ i2)) ?_
 rintro v10 H11 ⟨G4, O5, s6, sm9, rfl⟩
 obtain ⟨x12, i13, h14⟩ := z00 h3
 refine W.lo rfl rfl (Lo.cP rfl (fn := Tryz.f17) (by kernel_rfl) rfl (mc rfl mn) O5 (fun L' O' => z9l K x1 O' _ i13)) ?_
 rintro v21 H22 ⟨G15, O16, s17, sm20, rfl⟩
 refine W.q1 (.int .i64 x12) rfl (.nil (.ret ?_))
 obtain rfl := zAa h14
 exact z19 kr (v1 := (.int .i64 x12)) (by rfl) (z09 (by rfl) (by exact rfl)) O16 (zAe s6 s17) rfl
def z0z (K : Nat) (p0 : List zAd) (x21 : List zAd) : Nat -> Int -> Option (Int ⊕ Unit)
  | 0, _ => none
  | k + 1, x31 => (if (decide (x31 < (List.length x21 : Int))) = true then ((idx x21 x31).bind fun x42 => ((idx p0 x31).bind fun x46 => ((z2w K x42 x46).bind fun x50 => (if (decide (x50 <= 0)) = true then some (.inl 3) else z0z K p0 x21 k (z04 .i64 (x31 + 1)))))) else some (.inr ()))
def z3e (K : Nat) (p0 : List zAd) : Option Int := (if (decide ((List.length p0 : Int) > 16)) = true then some 2 else (if (decide ((List.length p0 : Int) < 2)) = true then some 8 else ((z5g K p0).bind fun x7 => (if (x7 != 0) = true then some x7 else ((lsl p0 1 (List.length p0 : Int)).bind fun x21 => (zbk (z0z K p0 x21 K 0) (tu1 fun a74 => some a74) (tu0 (some 0))))))))
theorem z8v (v0 : Value) (p0 : List zAd) (hp0 : (rSl rS).rep G [v0] p0) (O : Ow G H (L)) (r : Int) (h : z3e K p0 = some r) :
    CR Tryz.prog 15 [v0] G H (L) (fun v G' _ => v = .int .i64 r) := by
 unfold z3e at h
 refine CR.og (n := 33) (fn := Tryz.f15) (by kernel_rfl) rfl rfl fun R kr => (.seq (.region (W.q1 (.int .i64 0) rfl (.nil (.seq (.seq ?_))))))
 refine .region (W.q2 v0 rfl (W.pure (v := (.int .i64 (List.length p0 : Int))) rfl rfl (z0q (oo rfl rfl) (z0f hp0) (z06 el23)) (W.q3 (.bool (decide ((List.length p0 : Int) > 16))) rfl rfl (.nil (.cond (b := decide ((List.length p0 : Int) > 16)) rfl rfl (fun g1 => ?_) (fun g1 => ?_))))))
 .have h2 := z02 g1 h
  refine .seq (.region (W.q1 (.int .i64 2) rfl (.nil (.ret ?_))))
  obtain rfl := zAa h2
  exact z19 kr (v1 := (.int .i64 2)) (by rfl) (z09 (by rfl) (by exact rfl)) O (zAf _) rfl
 have h3 := z0i g1 h
 refine .skip (.seq (.seq (.region (W.q2 v0 rfl (W.pure (v := (.int .i64 (List.length p0 : Int))) rfl rfl (z0q (oo rfl rfl) (z0f hp0) (z06 el23)) (W.q3 (.bool (decide ((List.length p0 : Int) < 2))) rfl rfl ?_))))))
 refine .nil (.cond (b := decide ((List.length p0 : Int) < 2)) rfl rfl (fun g4 => ?_) (fun g4 => ?_))
 .have h5 := z02 g4 h3
  refine .seq (.region (W.q1 (.int .i64 8) rfl (.nil (.ret ?_))))
  obtain rfl := zAa h5
  exact z19 kr (v1 := (.int .i64 8)) (by rfl) (z09 (by rfl) (by exact rfl)) O (zAf _) rfl
 have h6 := z0i g4 h3
 refine .skip (.seq (.seq (.region (W.q2 v0 rfl ?_))))
 obtain ⟨x7, i8, h9⟩ := z00 h6
 refine W.lo rfl rfl (Lo.cP rfl (fn := Tryz.f58) (by kernel_rfl) rfl (mc rfl mn) O (fun L' O' => zb5 K v0 p0 hp0 O' _ i8)) ?_
 rintro v16 H17 ⟨G10, O11, s12, sm15, rfl⟩
 refine W.q1 (.int .i64 x7) rfl (.nil (.seq (.region (W.q2 (.int .i64 x7) rfl (W.q3 (.bool (x7 != 0)) rfl rfl (.nil ?_))))))
 refine .cond (b := (x7 != 0)) rfl rfl (fun g18 => ?_) (fun g18 => ?_)
 .have h19 := z02 g18 h9
  refine .seq (.region (W.q2 (.int .i64 x7) rfl (W.q1 (.int .i64 x7) rfl (.nil (.ret ?_)))))
  obtain rfl := zAa h19
  exact z19 kr (v1 := (.int .i64 x7)) (by rfl) (z09 (by rfl) (by exact rfl)) O11 s12 rfl
 have h20 := z0i g18 h9
 refine .skip (.seq (.seq (.region (W.q2 v0 rfl ?_))))
 obtain ⟨x21, i22, h23⟩ := z00 h20
 obtain ⟨w24, e25, f26⟩ := zll (P := Tryz.prog) (R := rS) (RT.mono _ s12 hp0) el23 sz22 i22
 refine W.pure (v := w24) rfl rfl (e25 (oo rfl rfl) (oo rfl rfl)) (W.pure (v := (.int .i64 (List.length x21 : Int))) rfl rfl (z0q (oo rfl rfl) (z0f f26) (z06 el23)) (W.q2 (.int .i64 0) rfl (.nil ?_)))
 obtain ⟨q27, h28, h29⟩ := z3k h23
 refine AW.midT (fun σ' H' => ∃  (G' : GM), (.inr ()) = q27 /\ Ow G' H' (L) /\ GM.le G10 G') ?_ ?_
 rotate_left
 .rintro σ66 H67 fr68 ⟨G69, rfl, O70, s71⟩
  have h73 := z7n (z9a h29)
  refine .seq (.region (W.q1 (.int .i64 0) rfl (.nil (.ret ?_))))
  obtain rfl := zAa h73
  exact z19 kr (v1 := (.int .i64 0)) (by rfl) (z09 (by rfl) (by exact rfl)) O70 (zAe s12 s71) rfl
 refine .block (AW.loop (α := Nat) (fun k' σ' H' => ∃ (y1 : Int) (G' : GM), z0z K p0 x21 k' y1 = some q27 /\ Ow G' H' (L) /\ GM.le G10 G' /\ σ' 20 = .int .i64 y1) (fun k' => k') K ⟨0, _, h28, O11, (zAf _), rfl⟩ ?_)
 rintro k30
 rintro σ32 H33 fr34 ⟨x31, G35, h38, O36, s37, t39⟩
 rcases k30 with _ | k30
 .exact z0b h38
 rw [z0z] at h38
 refine .seq (.region (W.q3 (.bool (decide (x31 < (List.length x21 : Int)))) t39 ((fr34 19 rfl).trans rfl) (.nil (.seq (.cond (b := decide (x31 < (List.length x21 : Int))) rfl rfl (fun g40 => ?_) (fun g40 => ?_))))))
 rotate_left
 .have h65 := z0i g40 h38
  refine .exit ?_
  obtain rfl := zAa h65
  exact ⟨_, rfl, O36, s37⟩
 have h41 := z02 g40 h38
 refine .skip (.seq (.block (.seq (.region (W.q2 _ t39 ?_)))))
 obtain ⟨x42, i43, h44⟩ := z00 h41
 have j45 := z0h i43
 refine W.pure (v := (z2x w24 (Int.toNat x31 * 1))) rfl rfl (z3s el23 sz22 (oo rfl ((fr34 18 rfl).trans rfl)) (oo rfl t39) (z0f (RT.mono _ s37 f26)) j45.1 j45.2.1) (W.load1 (v := (.string x42)) (r := []) rfl rfl ag22 (z0r rfl (At.str (At.le (At.le (z1y f26 j45.2.2) s37 s37) (zAf _) O36.fro))) (W.q1 (.int .i64 x31) rfl (W.q1 (.string x42) rfl (.nil (.seq (.region ?_))))))
 refine W.q2 (.string x42) rfl (W.q2 v0 ((fr34 0 rfl).trans rfl) (W.q2 (.int .i64 x31) rfl ?_))
 obtain ⟨x46, i47, h48⟩ := z00 h44
 have j49 := z0h i47
 refine W.pure (v := (z2x v0 (Int.toNat x31 * 1))) rfl rfl (z3s el23 sz22 (oo rfl rfl) (oo rfl rfl) (z0f (RT.mono _ (zAe s12 s37) hp0)) j49.1 j49.2.1) (W.load1 (v := (.string x46)) (r := []) rfl rfl ag22 (z0r rfl (At.str (At.le (At.le (z1y hp0 j49.2.2) (zAe s12 s37) (zAe s12 s37)) (zAf _) O36.fro))) ?_)
 obtain ⟨x50, i51, h52⟩ := z00 h48
 refine W.lo rfl rfl (Lo.cP rfl (fn := Tryz.f24) (by kernel_rfl) rfl (mc rfl (mc rfl mn)) O36 (fun L' O' => z8a K x42 x46 O' _ i51)) ?_
 rintro v59 H60 ⟨G53, O54, s55, sm58, rfl⟩
 refine W.q3 (.bool (decide (x50 <= 0))) rfl rfl (.nil (.cond (b := decide (x50 <= 0)) rfl rfl (fun g61 => ?_) (fun g61 => ?_)))
 rotate_left
 .have h64 := z0i g61 h52
  refine .skip (.region (W.q3 (.int .i64 (z04 .i64 (x31 + 1))) t39 rfl (W.q2 (.int .i64 (z04 .i64 (x31 + 1))) rfl (.nil ?_))))
  exact ⟨k30, zAg _, ⟨z04 .i64 (x31 + 1), _, h64, O54, (zAe s37 s55), rfl⟩⟩
 have h62 := z02 g61 h52
 refine .seq (.region (W.q1 (.int .i64 3) rfl (.nil (.ret ?_))))
 obtain rfl := zAa h62
 have h63 := z0e (z8r h29)
 obtain rfl := zAa h63
 exact z19 kr (v1 := (.int .i64 3)) (by rfl) (z09 (by rfl) (by exact rfl)) O54 (zAe s12 (zAe s37 s55)) rfl
def z3c (K : Nat) (p0 : List Int) : Nat -> Int -> Option (Int ⊕ Unit)
  | 0, _ => none
  | k + 1, x5 => (if (decide (x5 < (List.length p0 : Int))) = true then ((idx p0 x5).bind fun x16 => (if (x16 != 0) = true then some (.inl x16) else z3c K p0 k (z04 .i64 (x5 + 1)))) else some (.inr ()))
def z4i (K : Nat) (p0 : List Int) : Option Int := (zbk (z3c K p0 K 0) (tu1 fun a33 => some a33) (tu0 (some 0)))
theorem z7h (v0 : Value) (p0 : List Int) (hp0 : (rSl (rI .i64)).rep G [v0] p0) (O : Ow G H (L)) (r : Int) (h : z4i K p0 = some r) :
    CR Tryz.prog 18 [v0] G H (L) (fun v G' _ => v = .int .i64 r) := by
 unfold z4i at h
 refine CR.og (n := 15) (fn := Tryz.f18) (by kernel_rfl) rfl rfl fun R kr => (.seq (.region (W.q1 (.int .i64 0) rfl (.nil (.seq (.seq ?_))))))
 refine .region (W.q2 v0 rfl (W.pure (v := (.int .i64 (List.length p0 : Int))) rfl rfl (z0q (oo rfl rfl) (z0f hp0) (z06 el91)) (W.q2 (.int .i64 0) rfl (.nil ?_))))
 obtain ⟨q1, h2, h3⟩ := z3k h
 refine AW.midT (fun σ' H' => ∃  (G' : GM), (.inr ()) = q1 /\ Ow G' H' (L) /\ GM.le G G') ?_ ?_
 rotate_left
 .rintro σ25 H26 fr27 ⟨G28, rfl, O29, s30⟩
  have h32 := z7n (z9a h3)
  refine .seq (.region (W.q1 (.int .i64 0) rfl (.nil (.ret ?_))))
  obtain rfl := zAa h32
  exact z19 kr (v1 := (.int .i64 0)) (by rfl) (z09 (by rfl) (by exact rfl)) O29 s30 rfl
 refine .block (AW.loop (α := Nat) (fun k' σ' H' => ∃ (y1 : Int) (G' : GM), z3c K p0 k' y1 = some q1 /\ Ow G' H' (L) /\ GM.le G G' /\ σ' 7 = .int .i64 y1) (fun k' => k') K ⟨0, _, h2, O, (zAf _), rfl⟩ ?_)
 rintro k4
 rintro σ6 H7 fr8 ⟨x5, G9, h12, O10, s11, t13⟩
 rcases k4 with _ | k4
 .exact z0b h12
 rw [z3c] at h12
 refine .seq (.region (W.q3 (.bool (decide (x5 < (List.length p0 : Int)))) t13 ((fr8 6 rfl).trans rfl) (.nil (.seq (.cond (b := decide (x5 < (List.length p0 : Int))) rfl rfl (fun g14 => ?_) (fun g14 => ?_))))))
 rotate_left
 .have h24 := z0i g14 h12
  refine .exit ?_
  obtain rfl := zAa h24
  exact ⟨_, rfl, O10, s11⟩
 have h15 := z02 g14 h12
 refine .skip (.seq (.block (.seq (.region ?_))))
 obtain ⟨x16, i17, h18⟩ := z00 h15
 have j19 := z0h i17
 refine W.pure (v := (z2x v0 (Int.toNat x5 * 1))) rfl rfl (z3s el91 sz28 (oo rfl ((fr8 5 rfl).trans rfl)) (oo rfl t13) (z0f (RT.mono _ s11 hp0)) j19.1 j19.2.1) (W.load1 (v := (.int .i64 x16)) (r := []) rfl rfl ag28 (z0r rfl (At.int (At.le (At.le (z1y hp0 j19.2.2) s11 s11) (zAf _) O10.fro))) (W.q1 (.int .i64 x16) rfl (.nil (.seq (.region (W.q2 (.int .i64 x16) rfl ?_))))))
 refine W.q3 (.bool (x16 != 0)) rfl rfl (.nil (.cond (b := (x16 != 0)) rfl rfl (fun g20 => ?_) (fun g20 => ?_)))
 rotate_left
 .have h23 := z0i g20 h18
  refine .skip (.region (W.q3 (.int .i64 (z04 .i64 (x5 + 1))) t13 rfl (W.q2 (.int .i64 (z04 .i64 (x5 + 1))) rfl (.nil ?_))))
  exact ⟨k4, zAg _, ⟨z04 .i64 (x5 + 1), _, h23, O10, s11, rfl⟩⟩
 have h21 := z02 g20 h18
 refine .seq (.region (W.q2 (.int .i64 x16) rfl (W.q1 (.int .i64 x16) rfl (.nil (.ret ?_)))))
 obtain rfl := zAa h21
 have h22 := z0e (z8r h3)
 obtain rfl := zAa h22
 exact z19 kr (v1 := (.int .i64 x16)) (by rfl) (z09 (by rfl) (by exact rfl)) O10 s11 rfl
def z4s (K : Nat) (p0 : zAd) (p1 : List zAd) (p2 : zAd) : Option Bool := ((z5s K ).bind fun x1 => (if (!x1) = true then some false else ((z0s K p1).bind fun x15 => (if List.length x15 + List.length [p0, p2] <= 16777216 then ((z0g K (x15 ++ [p0, p2]) (fun x => z2u K x)).bind fun x45 => (if x45 = true then some true else ((z3e K p1).bind fun x60 => ((z3a K p0).bind fun x71 => (Option.bind ((if (x71 == 0) = true then ((z54 K p0).bind fun x88 => some (decide (x88 < 0))) else some false)) (tu1 fun x100 => (Option.bind ((if x100 = true then some 4 else some x71)) (tu1 fun x116 => ((z3a K p2).bind fun x126 => ((z4i K [x116, x126]).bind fun x141 => ((z37 K p0 p2).bind fun x152 => ((z4i K [x116, x60]).bind fun x167 => ((z3g K p0 p1).bind fun x178 => ((z4g K p0 p1).bind fun x191 => ((z6y K p0 p1).bind fun x204 => ((z4h K p0 p1 p2).bind fun x215 => ((z3a K p2).bind fun x226 => ((z4i K [x167, x226]).bind fun x241 => (Option.bind ((if (x241 == 0) = true then ((idx p1 0).bind fun x258 => ((z2w K p2 x258).bind fun x262 => (if (decide (x262 < 0)) = true then some true else ((idx p1 (z04 .i64 ((List.length p1 : Int) - 1))).bind fun x277 => ((z2w K p2 x277).bind fun x281 => some (decide (x281 > 0))))))) else some false)) (tu1 fun x293 => (Option.bind ((if x293 = true then some 4 else some x241)) (tu1 fun x309 => (Option.bind (((z1w K p1).bind fun x322 => (if (x322 == x60) = true then (if (x152.2 == x141) = true then (if (x178.2 == x167) = true then (if (x191.2 == x167) = true then (if (x204.2 == x167) = true then some (x215.2.2 == x309) else some false) else some false) else some false) else some false) else some false))) (tu1 fun x353 => some x353)))))))))))))))))))))))) else none))))
theorem z9m (p0 : zAd) (v1 : Value) (p1 : List zAd) (hp1 : (rSl rS).rep G [v1] p1) (p2 : zAd) (O : Ow G H (L)) (r : Bool) (h : z4s K p0 p1 p2 = some r) :
    CR Tryz.prog 3 [(.string p0), v1, (.string p2)] G H (L) (fun v G' _ => v = .bool r) := by
 unfold z4s at h
 refine CR.og (n := 138) (fn := Tryz.f3) (by kernel_rfl) rfl rfl fun R kr => (.seq (.region (W.q1 (.bool false) rfl (.nil (.seq (.seq ?_))))))
 refine .region ?_
 obtain ⟨x1, i2, h3⟩ := z00 h
 refine W.lo rfl rfl (Lo.cP rfl (fn := Tryz.f11) (by kernel_rfl) rfl mn O (fun L' O' => zag K  O' _ i2)) ?_
 rintro v10 H11 ⟨G4, O5, s6, sm9, rfl⟩
 refine W.pure (v := (.bool (!x1))) rfl rfl (zay (a := x1) (oo rfl rfl)) (.nil (.cond (b := (!x1)) rfl rfl (fun g12 => ?_) (fun g12 => ?_)))
 .have h13 := z02 g12 h3
  refine .seq (.region (W.q1 (.bool false) rfl (.nil (.ret ?_))))
  obtain rfl := zAa h13
  exact z19 kr (v1 := (.bool false)) (by rfl) (z09 (by rfl) (by exact rfl)) O5 s6 rfl
 have h14 := z0i g12 h3
 refine .skip (.seq (.seq (.region (W.q2 v1 rfl ?_))))
 obtain ⟨x15, i16, h17⟩ := z00 h14
 refine W.lo rfl rfl (Lo.callPF (ps := []) (pw := fun w => [eSl w 22 rS x15]) rfl (fn := Tryz.f13) (by kernel_rfl) rfl (mc rfl mn) O5 (fun L' O' => z4u K v1 p1 (RT.mono _ s6 hp1) O' _ i16)) ?_
 rintro v26 H27 ⟨w23, G18, O19, s20, sm25, rfl⟩
 refine W.q2 (.string p0) rfl (W.q2 (.string p2) rfl (W.lo rfl rfl (Lo.buildSlice (r := rS) (vs := [(.string p0), (.string p2)]) (xs := [p0, p2]) el23 ze22 sz22 (by kernel_rfl) rfl (qc rfl (qc rfl qn)) rfl (.cons rfl (.cons rfl .nil)) O19) ?_))
 rintro v30 H31 ⟨O28, sm29⟩
 obtain ⟨es33, e34, e35⟩ := z7m (j := 0) rfl O28
 obtain ⟨g36, h37⟩ := z3i h17
 refine W.lo rfl rfl (Lo.append (j := 1) (v := w23) rfl rfl el23 ni23 ze22 sz22 by22 (by decide) (by decide) rfl e34 e35 g36 O28) ?_
 rintro v39 H40 ⟨O32, sm38⟩
 obtain ⟨G41, O42, s43, f44⟩ := O32.frzSl (j := 1) rfl
 obtain ⟨x45, i46, h47⟩ := z00 h37
 refine W.lo rfl rfl (Lo.cP rfl (fn := Tryz.f12) (by kernel_rfl) rfl (mc rfl (mc rfl mn)) O42 (fun L' O' => z3r K v39 (x15 ++ [p0, p2]) f44 (.func (.func 14) #[] #[]) (fun x => z2u K x) ⟨14, _, _, Tryz.f14, rfl, by kernel_rfl, rfl, fun G1 H L vs x r hG O hA hF => by obtain rfl := hA; exact z8i K x O _ hF⟩ O' _ i46)) ?_
 rintro v54 H55 ⟨G48, O49, s50, sm53, rfl⟩
 refine .nil (.cond (b := x45) rfl rfl (fun g56 => ?_) (fun g56 => ?_))
 .have h57 := z02 g56 h47
  refine .seq (.region (W.q1 (.bool true) rfl (.nil (.ret ?_))))
  have O58 : Ow G48 H55 (L) := O49.drop 0
  obtain rfl := zAa h57
  exact z19 kr (v1 := (.bool true)) (by rfl) (z09 (by rfl) (by exact rfl)) O58 (zAe s6 (zAe s20 (zAe s43 s50))) rfl
 have h59 := z0i g56 h47
 refine .skip (.seq (.region (W.q2 v1 rfl ?_)))
 obtain ⟨x60, i61, h62⟩ := z00 h59
 refine W.lo rfl rfl (Lo.cP rfl (fn := Tryz.f15) (by kernel_rfl) rfl (mc rfl mn) O49 (fun L' O' => z8v K v1 p1 (RT.mono _ (zAe s6 (zAe s20 (zAe s43 s50))) hp1) O' _ i61)) ?_
 rintro v69 H70 ⟨G63, O64, s65, sm68, rfl⟩
 refine W.q1 (.int .i64 x60) rfl (.nil (.seq (.region (W.q2 (.string p0) rfl ?_))))
 obtain ⟨x71, i72, h73⟩ := z00 h62
 refine W.lo rfl rfl (Lo.cP rfl (fn := Tryz.f16) (by kernel_rfl) rfl (mc rfl mn) O64 (fun L' O' => z58 K p0 O' _ i72)) ?_
 rintro v80 H81 ⟨G74, O75, s76, sm79, rfl⟩
 refine W.q1 (.int .i64 x71) rfl (.nil (.seq (.seq ?_)))
 obtain ⟨q82, h83, h84⟩ := z00 h73
 refine AW.midT (fun σ' H' => ∃ (y1 : Bool) (G' : GM), y1 = q82 /\ Ow G' H' (eSl v30 22 rS [p0, p2] :: L) /\ GM.le G74 G' /\ σ' 41 = .bool y1) ?_ ?_
 .refine .region (W.q2 (.int .i64 x71) rfl (W.q3 (.bool (x71 == 0)) rfl rfl (W.q2 (.bool (x71 == 0)) rfl (W.splitAt (t := 37) (b := (x71 == 0)) rfl (fun g85 gv86 => ?_) (fun g85 gv86 => ?_)))))
  rotate_left
  .have h99 := z0i g85 h83
   refine W.q6 rfl gv86 (W.q6 rfl gv86 (W.q6 rfl gv86 (W.q5 (.bool false) gv86 rfl (.nil ?_))))
   obtain rfl := zAa h99
   exact ⟨false, _, rfl, O75, (zAf _), rfl⟩
  have h87 := z02 g85 h83
  refine W.q2 (hg := gk rfl rfl gv86 rfl) (.string p0) rfl ?_
  obtain ⟨x88, i89, h90⟩ := z00 h87
  refine W.lo (gk rfl rfl gv86 rfl) rfl (Lo.cP rfl (fn := Tryz.f17) (by kernel_rfl) rfl (mc rfl mn) O75 (fun L' O' => z9l K p0 O' _ i89)) ?_
  rintro v97 H98 ⟨G91, O92, s93, sm96, rfl⟩
  refine W.q3 (hg := gk rfl rfl gv86 rfl) (.bool (decide (x88 < 0))) rfl rfl (W.q4 (.bool (decide (x88 < 0))) gv86 rfl (.nil ?_))
  obtain rfl := zAa h90
  exact ⟨decide (x88 < 0), _, rfl, O92, s93, rfl⟩
 rintro σ101 H102 fr103 ⟨x100, G104, rfl, O105, s106, t108⟩
 have h109 := z0e h84
 obtain ⟨q110, h111, h112⟩ := z00 h109
 refine AW.midT (fun σ' H' => ∃ (y1 : Int) (G' : GM), y1 = q110 /\ Ow G' H' (eSl v30 22 rS [p0, p2] :: L) /\ GM.le G104 G' /\ σ' 8 = .int .i64 y1) ?_ ?_
 .refine .cond (b := x100) rfl t108 (fun g113 => ?_) (fun g113 => ?_)
  rotate_left
  .have h115 := z0i g113 h111
   refine .skip ?_
   obtain rfl := zAa h115
   exact ⟨x71, _, rfl, O105, (zAf _), ((fr103 8 rfl).trans rfl)⟩
  have h114 := z02 g113 h111
  refine .region (W.q1 (.int .i64 4) rfl (.nil ?_))
  obtain rfl := zAa h114
  exact ⟨4, _, rfl, O105, (zAf _), rfl⟩
 rintro σ117 H118 fr119 ⟨x116, G120, rfl, O121, s122, t124⟩
 have h125 := z0e h112
 refine .seq (.region (W.q2 _ t124 (W.q2 (.string p2) ((fr119 2 rfl).trans ((fr103 2 rfl).trans rfl)) ?_)))
 obtain ⟨x126, i127, h128⟩ := z00 h125
 refine W.lo rfl rfl (Lo.cP rfl (fn := Tryz.f16) (by kernel_rfl) rfl (mc rfl mn) O121 (fun L' O' => z58 K p2 O' _ i127)) ?_
 rintro v135 H136 ⟨G129, O130, s131, sm134, rfl⟩
 refine W.lo rfl rfl (Lo.buildSlice (r := (rI .i64)) (vs := [(.int .i64 x116), (.int .i64 x126)]) (xs := [x116, x126]) el91 ze28 sz28 (by kernel_rfl) rfl (qc rfl (qc rfl qn)) rfl (.cons rfl (.cons rfl .nil)) O130) ?_
 rintro v139 H140 ⟨O137, sm138⟩
 obtain ⟨x141, i142, h143⟩ := z00 h128
 refine W.lo rfl rfl (Lo.callB (j := 0) rfl rfl (fn := Tryz.f18) (by kernel_rfl) rfl (mc rfl mn) O137 (fun G' L' hG O' hB => z7h K v139 [x116, x126] hB O' _ i142)) ?_
 rintro v150 H151 ⟨G144, O145, s146, sm149, rfl⟩
 refine W.q1 (.int .i64 x141) rfl (.nil (.seq (.region (W.q2 (.string p0) ((fr119 0 rfl).trans ((fr103 0 rfl).trans rfl)) (W.q2 (.string p2) ((fr119 2 rfl).trans ((fr103 2 rfl).trans rfl)) ?_)))))
 obtain ⟨x152, i153, h154⟩ := z00 h143
 refine W.lo rfl rfl (Lo.cP rfl (fn := Tryz.f19) (by kernel_rfl) rfl (mc rfl (mc rfl mn)) O145 (fun L' O' => z8m K p0 p2 O' _ i153)) ?_
 rintro v161 H162 ⟨G155, O156, s157, sm160, rfl⟩
 refine W.q2 (.tuple #[(.string x152.1), (.int .i64 x152.2)]) rfl (W.pure (v := (.string x152.1)) rfl rfl (z07 (oo rfl rfl) rfl) (W.pure (v := (.int .i64 x152.2)) rfl rfl (z07 (oo rfl rfl) rfl) (W.q1 (.string x152.1) rfl (W.q1 (.int .i64 x152.2) rfl (.nil (.seq ?_))))))
 refine .region (W.q2 _ t124 (W.q2 (.int .i64 x60) ((fr119 7 rfl).trans ((fr103 7 rfl).trans rfl)) (W.lo rfl rfl (Lo.buildSlice (r := (rI .i64)) (vs := [(.int .i64 x116), (.int .i64 x60)]) (xs := [x116, x60]) el91 ze28 sz28 (by kernel_rfl) rfl (qc rfl (qc rfl qn)) rfl (.cons rfl (.cons rfl .nil)) O156) ?_)))
 rintro v165 H166 ⟨O163, sm164⟩
 obtain ⟨x167, i168, h169⟩ := z00 h154
 refine W.lo rfl rfl (Lo.callB (j := 0) rfl rfl (fn := Tryz.f18) (by kernel_rfl) rfl (mc rfl mn) O163 (fun G' L' hG O' hB => z7h K v165 [x116, x60] hB O' _ i168)) ?_
 rintro v176 H177 ⟨G170, O171, s172, sm175, rfl⟩
 refine W.q1 (.int .i64 x167) rfl (.nil (.seq (.region (W.q2 (.string p0) ((fr119 0 rfl).trans ((fr103 0 rfl).trans rfl)) (W.q2 v1 ((fr119 1 rfl).trans ((fr103 1 rfl).trans rfl)) ?_)))))
 obtain ⟨x178, i179, h180⟩ := z00 h169
 refine W.lo rfl rfl (Lo.callPF (ps := []) (pw := fun w => [eSl w 85 T_LossPiece x178.1]) rfl (fn := Tryz.f20) (by kernel_rfl) rfl (mc rfl (mc rfl mn)) O171 (fun L' O' => z6w K p0 v1 p1 (RT.mono _ (zAe s6 (zAe s20 (zAe s43 (zAe s50 (zAe s65 (zAe s76 (zAe s106 (zAe s122 (zAe s131 (zAe s146 (zAe s157 s172))))))))))) hp1) O' _ i179)) ?_
 rintro v189 H190 ⟨w186, G181, O182, s183, sm188, rfl⟩
 refine W.q2 (.tuple #[w186, (.int .i64 x178.2)]) rfl (W.pure (v := w186) rfl rfl (z07 (oo rfl rfl) rfl) (W.pure (v := (.int .i64 x178.2)) rfl rfl (z07 (oo rfl rfl) rfl) (W.q1 w186 rfl (W.q1 (.int .i64 x178.2) rfl (.nil (.seq ?_))))))
 refine .region (W.q2 (.string p0) ((fr119 0 rfl).trans ((fr103 0 rfl).trans rfl)) (W.q2 v1 ((fr119 1 rfl).trans ((fr103 1 rfl).trans rfl)) ?_))
 obtain ⟨x191, i192, h193⟩ := z00 h180
 refine W.lo rfl rfl (Lo.callPF (ps := []) (pw := fun w => [eSl w 85 T_LossPiece x191.1]) rfl (fn := Tryz.f21) (by kernel_rfl) rfl (mc rfl (mc rfl mn)) O182 (fun L' O' => z82 K p0 v1 p1 (RT.mono _ (zAe s6 (zAe s20 (zAe s43 (zAe s50 (zAe s65 (zAe s76 (zAe s106 (zAe s122 (zAe s131 (zAe s146 (zAe s157 (zAe s172 s183)))))))))))) hp1) O' _ i192)) ?_
 rintro v202 H203 ⟨w199, G194, O195, s196, sm201, rfl⟩
 refine W.q2 (.tuple #[w199, (.int .i64 x191.2)]) rfl (W.pure (v := w199) rfl rfl (z07 (oo rfl rfl) rfl) (W.pure (v := (.int .i64 x191.2)) rfl rfl (z07 (oo rfl rfl) rfl) (W.q1 w199 rfl (W.q1 (.int .i64 x191.2) rfl (.nil (.seq ?_))))))
 refine .region (W.q2 (.string p0) ((fr119 0 rfl).trans ((fr103 0 rfl).trans rfl)) (W.q2 v1 ((fr119 1 rfl).trans ((fr103 1 rfl).trans rfl)) ?_))
 obtain ⟨x204, i205, h206⟩ := z00 h193
 refine W.lo rfl rfl (Lo.cP rfl (fn := Tryz.f22) (by kernel_rfl) rfl (mc rfl (mc rfl mn)) O195 (fun L' O' => za5 K p0 v1 p1 (RT.mono _ (zAe s6 (zAe s20 (zAe s43 (zAe s50 (zAe s65 (zAe s76 (zAe s106 (zAe s122 (zAe s131 (zAe s146 (zAe s157 (zAe s172 (zAe s183 s196))))))))))))) hp1) O' _ i205)) ?_
 rintro v213 H214 ⟨G207, O208, s209, sm212, rfl⟩
 refine W.q2 (.tuple #[(.string x204.1), (.int .i64 x204.2)]) rfl (W.pure (v := (.string x204.1)) rfl rfl (z07 (oo rfl rfl) rfl) (W.pure (v := (.int .i64 x204.2)) rfl rfl (z07 (oo rfl rfl) rfl) (W.q1 (.string x204.1) rfl (W.q1 (.int .i64 x204.2) rfl (.nil (.seq ?_))))))
 refine .region (W.q2 (.string p0) ((fr119 0 rfl).trans ((fr103 0 rfl).trans rfl)) (W.q2 v1 ((fr119 1 rfl).trans ((fr103 1 rfl).trans rfl)) (W.q2 (.string p2) ((fr119 2 rfl).trans ((fr103 2 rfl).trans rfl)) ?_)))
 obtain ⟨x215, i216, h217⟩ := z00 h206
 refine W.lo rfl rfl (Lo.cP rfl (fn := Tryz.f23) (by kernel_rfl) rfl (mc rfl (mc rfl (mc rfl mn))) O208 (fun L' O' => z83 K p0 v1 p1 (RT.mono _ (zAe s6 (zAe s20 (zAe s43 (zAe s50 (zAe s65 (zAe s76 (zAe s106 (zAe s122 (zAe s131 (zAe s146 (zAe s157 (zAe s172 (zAe s183 (zAe s196 s209)))))))))))))) hp1) p2 O' _ i216)) ?_
 rintro v224 H225 ⟨G218, O219, s220, sm223, rfl⟩
 refine W.q2 (.tuple #[(.string x215.1), (.string x215.2.1), (.int .i64 x215.2.2)]) rfl (W.pure (v := (.string x215.1)) rfl rfl (z07 (oo rfl rfl) rfl) (W.pure (v := (.string x215.2.1)) rfl rfl (z07 (oo rfl rfl) rfl) (W.pure (v := (.int .i64 x215.2.2)) rfl rfl (z07 (oo rfl rfl) rfl) (W.q1 (.string x215.1) rfl (W.q1 (.string x215.2.1) rfl (W.q1 (.int .i64 x215.2.2) rfl ?_))))))
 refine .nil (.seq (.region (W.q2 (.int .i64 x167) rfl (W.q2 (.string p2) ((fr119 2 rfl).trans ((fr103 2 rfl).trans rfl)) ?_))))
 obtain ⟨x226, i227, h228⟩ := z00 h217
 refine W.lo rfl rfl (Lo.cP rfl (fn := Tryz.f16) (by kernel_rfl) rfl (mc rfl mn) O219 (fun L' O' => z58 K p2 O' _ i227)) ?_
 rintro v235 H236 ⟨G229, O230, s231, sm234, rfl⟩
 refine W.lo rfl rfl (Lo.buildSlice (r := (rI .i64)) (vs := [(.int .i64 x167), (.int .i64 x226)]) (xs := [x167, x226]) el91 ze28 sz28 (by kernel_rfl) rfl (qc rfl (qc rfl qn)) rfl (.cons rfl (.cons rfl .nil)) O230) ?_
 rintro v239 H240 ⟨O237, sm238⟩
 obtain ⟨x241, i242, h243⟩ := z00 h228
 refine W.lo rfl rfl (Lo.callB (j := 0) rfl rfl (fn := Tryz.f18) (by kernel_rfl) rfl (mc rfl mn) O237 (fun G' L' hG O' hB => z7h K v239 [x167, x226] hB O' _ i242)) ?_
 rintro v250 H251 ⟨G244, O245, s246, sm249, rfl⟩
 refine W.q1 (.int .i64 x241) rfl (.nil (.seq (.seq ?_)))
 obtain ⟨q252, h253, h254⟩ := z00 h243
 refine AW.midT (fun σ' H' => ∃ (y1 : Bool) (G' : GM), y1 = q252 /\ Ow G' H' (eSl v239 28 (rI .i64) [x167, x226] :: eSl w199 85 T_LossPiece x191.1 :: eSl w186 85 T_LossPiece x178.1 :: eSl v165 28 (rI .i64) [x116, x60] :: eSl v139 28 (rI .i64) [x116, x126] :: eSl v30 22 rS [p0, p2] :: L) /\ GM.le G244 G' /\ σ' 108 = .bool y1) ?_ ?_
 .refine .region (W.q2 (.int .i64 x241) rfl (W.q3 (.bool (x241 == 0)) rfl rfl (W.q2 (.bool (x241 == 0)) rfl (W.splitAt (t := 90) (b := (x241 == 0)) rfl (fun g255 gv256 => ?_) (fun g255 gv256 => ?_)))))
  rotate_left
  .have h292 := z0i g255 h253
   refine W.q6 rfl gv256 (W.q6 rfl gv256 (W.q6 rfl gv256 (W.q6 rfl gv256 (W.q6 rfl gv256 (W.q6 rfl gv256 (W.q6 rfl gv256 ?_))))))
   refine W.skipU rfl rfl rfl rfl (W.skipU rfl rfl rfl rfl (W.skipU rfl rfl rfl rfl (W.skipU rfl rfl rfl rfl (W.skipU rfl rfl rfl rfl (W.skipU rfl rfl rfl rfl (W.skipU rfl rfl rfl rfl ?_))))))
   refine W.skipU rfl rfl rfl rfl (W.skipU rfl rfl rfl rfl (W.q6 rfl gv256 (W.q5 (.bool false) gv256 rfl (.nil ?_))))
   obtain rfl := zAa h292
   exact ⟨false, _, rfl, O245, (zAf _), rfl⟩
  have h257 := z02 g255 h253
  refine W.q2 (hg := gk rfl rfl gv256 rfl) (.string p2) ((fr119 2 rfl).trans ((fr103 2 rfl).trans rfl)) (W.q2 (hg := gk rfl rfl gv256 rfl) v1 ((fr119 1 rfl).trans ((fr103 1 rfl).trans rfl)) ?_)
  obtain ⟨x258, i259, h260⟩ := z00 h257
  have j261 := z0h i259
  refine W.pure (v := (z2x v1 (Int.toNat 0 * 1))) (gk rfl rfl gv256 rfl) rfl (z3s el23 sz22 (oo rfl rfl) (oo rfl rfl) (z0f (RT.mono _ (zAe s6 (zAe s20 (zAe s43 (zAe s50 (zAe s65 (zAe s76 (zAe s106 (zAe s122 (zAe s131 (zAe s146 (zAe s157 (zAe s172 (zAe s183 (zAe s196 (zAe s209 (zAe s220 (zAe s231 s246))))))))))))))))) hp1)) j261.1 j261.2.1) (W.load1 (v := (.string x258)) (r := []) (gk rfl rfl gv256 rfl) rfl ag22 (z0r rfl (At.str (At.le (At.le (z1y hp1 j261.2.2) (zAe s6 (zAe s20 (zAe s43 (zAe s50 (zAe s65 (zAe s76 (zAe s106 (zAe s122 (zAe s131 (zAe s146 (zAe s157 (zAe s172 (zAe s183 (zAe s196 (zAe s209 (zAe s220 (zAe s231 s246))))))))))))))))) (zAe s6 (zAe s20 (zAe s43 (zAe s50 (zAe s65 (zAe s76 (zAe s106 (zAe s122 (zAe s131 (zAe s146 (zAe s157 (zAe s172 (zAe s183 (zAe s196 (zAe s209 (zAe s220 (zAe s231 s246)))))))))))))))))) (zAf _) O245.fro))) ?_)
  obtain ⟨x262, i263, h264⟩ := z00 h260
  refine W.lo (gk rfl rfl gv256 rfl) rfl (Lo.cP rfl (fn := Tryz.f24) (by kernel_rfl) rfl (mc rfl (mc rfl mn)) O245 (fun L' O' => z8a K p2 x258 O' _ i263)) ?_
  rintro v271 H272 ⟨G265, O266, s267, sm270, rfl⟩
  refine W.q3 (hg := gk rfl rfl gv256 rfl) (.bool (decide (x262 < 0))) rfl rfl (W.q2 (hg := gk rfl rfl gv256 rfl) (.bool (decide (x262 < 0))) rfl (W.splitAt (t := 97) (b := decide (x262 < 0)) rfl (fun g273 gv274 => ?_) (fun g273 gv274 => ?_)))
  .have h275 := z02 g273 h264
   refine W.q6 rfl gv274 (W.q6 rfl gv274 (W.q6 rfl gv274 (W.q6 rfl gv274 (W.q6 rfl gv274 (W.q6 rfl gv274 (W.q6 rfl gv274 ?_))))))
   refine W.q6 rfl gv274 (W.q6 rfl gv274 (W.q4 (hg := gk rfl rfl gv256 rfl) (.bool true) gv274 rfl (W.q4 (.bool true) gv256 rfl (.nil ?_))))
   obtain rfl := zAa h275
   exact ⟨true, _, rfl, O266, s267, rfl⟩
  have h276 := z0i g273 h264
  refine W.q2 (hg := gk rfl rfl gv274 rfl) (.string p2) ((fr119 2 rfl).trans ((fr103 2 rfl).trans rfl)) (W.q2 (hg := gk rfl rfl gv274 rfl) v1 ((fr119 1 rfl).trans ((fr103 1 rfl).trans rfl)) (W.q2 (hg := gk rfl rfl gv274 rfl) v1 ((fr119 1 rfl).trans ((fr103 1 rfl).trans rfl)) (W.pure (v := (.int .i64 (List.length p1 : Int))) (gk rfl rfl gv274 rfl) rfl (z0q (oo rfl rfl) (z0f (RT.mono _ (zAe s6 (zAe s20 (zAe s43 (zAe s50 (zAe s65 (zAe s76 (zAe s106 (zAe s122 (zAe s131 (zAe s146 (zAe s157 (zAe s172 (zAe s183 (zAe s196 (zAe s209 (zAe s220 (zAe s231 (zAe s246 s267)))))))))))))))))) hp1)) (z06 el23)) (W.q3 (hg := gk rfl rfl gv274 rfl) (.int .i64 (z04 .i64 ((List.length p1 : Int) - 1))) rfl rfl ?_))))
  obtain ⟨x277, i278, h279⟩ := z00 h276
  have j280 := z0h i278
  refine W.pure (v := (z2x v1 (Int.toNat (z04 .i64 ((List.length p1 : Int) - 1)) * 1))) (gk rfl rfl gv274 rfl) rfl (z3s el23 sz22 (oo rfl rfl) (oo rfl rfl) (z0f (RT.mono _ (zAe s6 (zAe s20 (zAe s43 (zAe s50 (zAe s65 (zAe s76 (zAe s106 (zAe s122 (zAe s131 (zAe s146 (zAe s157 (zAe s172 (zAe s183 (zAe s196 (zAe s209 (zAe s220 (zAe s231 (zAe s246 s267)))))))))))))))))) hp1)) j280.1 j280.2.1) (W.load1 (v := (.string x277)) (r := []) (gk rfl rfl gv274 rfl) rfl ag22 (z0r rfl (At.str (At.le (At.le (z1y hp1 j280.2.2) (zAe s6 (zAe s20 (zAe s43 (zAe s50 (zAe s65 (zAe s76 (zAe s106 (zAe s122 (zAe s131 (zAe s146 (zAe s157 (zAe s172 (zAe s183 (zAe s196 (zAe s209 (zAe s220 (zAe s231 (zAe s246 s267)))))))))))))))))) (zAe s6 (zAe s20 (zAe s43 (zAe s50 (zAe s65 (zAe s76 (zAe s106 (zAe s122 (zAe s131 (zAe s146 (zAe s157 (zAe s172 (zAe s183 (zAe s196 (zAe s209 (zAe s220 (zAe s231 (zAe s246 s267))))))))))))))))))) (zAf _) O266.fro))) ?_)
  obtain ⟨x281, i282, h283⟩ := z00 h279
  refine W.lo (gk rfl rfl gv274 rfl) rfl (Lo.cP rfl (fn := Tryz.f24) (by kernel_rfl) rfl (mc rfl (mc rfl mn)) O266 (fun L' O' => z8a K p2 x277 O' _ i282)) ?_
  rintro v290 H291 ⟨G284, O285, s286, sm289, rfl⟩
  refine W.q3 (hg := gk rfl rfl gv274 rfl) (.bool (decide (x281 > 0))) rfl rfl (W.q5 (hg := gk rfl rfl gv256 rfl) (.bool (decide (x281 > 0))) gv274 rfl (W.q4 (.bool (decide (x281 > 0))) gv256 rfl (.nil ?_)))
  obtain rfl := zAa h283
  exact ⟨decide (x281 > 0), _, rfl, O285, (zAe s267 s286), rfl⟩
 rintro σ294 H295 fr296 ⟨x293, G297, rfl, O298, s299, t301⟩
 have h302 := z0e h254
 obtain ⟨q303, h304, h305⟩ := z00 h302
 refine AW.midT (fun σ' H' => ∃ (y1 : Int) (G' : GM), y1 = q303 /\ Ow G' H' (eSl v239 28 (rI .i64) [x167, x226] :: eSl w199 85 T_LossPiece x191.1 :: eSl w186 85 T_LossPiece x178.1 :: eSl v165 28 (rI .i64) [x116, x60] :: eSl v139 28 (rI .i64) [x116, x126] :: eSl v30 22 rS [p0, p2] :: L) /\ GM.le G297 G' /\ σ' 21 = .int .i64 y1) ?_ ?_
 .refine .cond (b := x293) rfl t301 (fun g306 => ?_) (fun g306 => ?_)
  rotate_left
  .have h308 := z0i g306 h304
   refine .skip ?_
   obtain rfl := zAa h308
   exact ⟨x241, _, rfl, O298, (zAf _), ((fr296 21 rfl).trans rfl)⟩
  have h307 := z02 g306 h304
  refine .region (W.q1 (.int .i64 4) rfl (.nil ?_))
  obtain rfl := zAa h307
  exact ⟨4, _, rfl, O298, (zAf _), rfl⟩
 rintro σ310 H311 fr312 ⟨x309, G313, rfl, O314, s315, t317⟩
 have h318 := z0e h305
 refine .seq ?_
 obtain ⟨q319, h320, h321⟩ := z00 h318
 refine AW.midT (fun σ' H' => ∃ (y1 : Bool) (G' : GM), y1 = q319 /\ Ow G' H' (eSl v239 28 (rI .i64) [x167, x226] :: eSl w199 85 T_LossPiece x191.1 :: eSl w186 85 T_LossPiece x178.1 :: eSl v165 28 (rI .i64) [x116, x60] :: eSl v139 28 (rI .i64) [x116, x126] :: eSl v30 22 rS [p0, p2] :: L) /\ GM.le G313 G' /\ σ' 6 = .bool y1) ?_ ?_
 rotate_left
 .rintro σ354 H355 fr356 ⟨x353, G357, rfl, O358, s359, t361⟩
  have h362 := z0e h321
  refine .ret ?_
  have O363 : Ow G357 H355 (eSl w199 85 T_LossPiece x191.1 :: eSl w186 85 T_LossPiece x178.1 :: eSl v165 28 (rI .i64) [x116, x60] :: eSl v139 28 (rI .i64) [x116, x126] :: eSl v30 22 rS [p0, p2] :: L) := O358.drop 0
  have O364 : Ow G357 H355 (eSl w186 85 T_LossPiece x178.1 :: eSl v165 28 (rI .i64) [x116, x60] :: eSl v139 28 (rI .i64) [x116, x126] :: eSl v30 22 rS [p0, p2] :: L) := O363.drop 0
  have O365 : Ow G357 H355 (eSl v165 28 (rI .i64) [x116, x60] :: eSl v139 28 (rI .i64) [x116, x126] :: eSl v30 22 rS [p0, p2] :: L) := O364.drop 0
  have O366 : Ow G357 H355 (eSl v139 28 (rI .i64) [x116, x126] :: eSl v30 22 rS [p0, p2] :: L) := O365.drop 0
  have O367 : Ow G357 H355 (eSl v30 22 rS [p0, p2] :: L) := O366.drop 0
  have O368 : Ow G357 H355 (L) := O367.drop 0
  obtain rfl := zAa h362
  exact z19 kr (v1 := (.bool x353)) (by rfl) (z09 (by rfl) (by exact t361)) O368 (zAe s6 (zAe s20 (zAe s43 (zAe s50 (zAe s65 (zAe s76 (zAe s106 (zAe s122 (zAe s131 (zAe s146 (zAe s157 (zAe s172 (zAe s183 (zAe s196 (zAe s209 (zAe s220 (zAe s231 (zAe s246 (zAe s299 (zAe s315 s359)))))))))))))))))))) rfl
 refine .region (W.q2 v1 ((fr312 1 rfl).trans ((fr296 1 rfl).trans ((fr119 1 rfl).trans ((fr103 1 rfl).trans rfl)))) ?_)
 obtain ⟨x322, i323, h324⟩ := z00 h320
 refine W.lo rfl rfl (Lo.cP rfl (fn := Tryz.f25) (by kernel_rfl) rfl (mc rfl mn) O314 (fun L' O' => z6b K v1 p1 (RT.mono _ (zAe s6 (zAe s20 (zAe s43 (zAe s50 (zAe s65 (zAe s76 (zAe s106 (zAe s122 (zAe s131 (zAe s146 (zAe s157 (zAe s172 (zAe s183 (zAe s196 (zAe s209 (zAe s220 (zAe s231 (zAe s246 (zAe s299 s315))))))))))))))))))) hp1) O' _ i323)) ?_
 rintro v331 H332 ⟨G325, O326, s327, sm330, rfl⟩
 refine W.q2 (.int .i64 x60) ((fr312 7 rfl).trans ((fr296 7 rfl).trans ((fr119 7 rfl).trans ((fr103 7 rfl).trans rfl)))) (W.q3 (.bool (x322 == x60)) rfl rfl (W.q2 (.bool (x322 == x60)) rfl (W.splitAt (t := 113) (b := (x322 == x60)) rfl (fun g333 gv334 => ?_) (fun g333 gv334 => ?_))))
 rotate_left
 .have h352 := z0i g333 h324
  refine W.q6 rfl gv334 (W.q6 rfl gv334 (W.q6 rfl gv334 (W.q5 (.bool false) gv334 rfl (W.q2 (.bool false) rfl (W.q6 rfl rfl (W.q6 rfl rfl ?_))))))
  refine W.q6 rfl rfl (W.q5 (.bool false) rfl rfl (W.q2 (.bool false) rfl (W.q6 rfl rfl (W.q6 rfl rfl (W.q6 rfl rfl (W.q5 (.bool false) rfl rfl ?_))))))
  refine W.q2 (.bool false) rfl (W.q6 rfl rfl (W.q6 rfl rfl (W.q6 rfl rfl (W.q5 (.bool false) rfl rfl (W.q2 (.bool false) rfl (W.q6 rfl rfl ?_))))))
  refine W.q6 rfl rfl (W.q6 rfl rfl (W.q5 (.bool false) rfl rfl (W.q1 (.bool false) rfl (.nil ?_))))
  obtain rfl := zAa h352
  exact ⟨false, _, rfl, O326, s327, rfl⟩
 have h335 := z02 g333 h324
 refine W.q2 (hg := gk rfl rfl gv334 rfl) (.int .i64 x152.2) ((fr312 11 rfl).trans ((fr296 11 rfl).trans rfl)) (W.q2 (hg := gk rfl rfl gv334 rfl) (.int .i64 x141) ((fr312 9 rfl).trans ((fr296 9 rfl).trans rfl)) (W.q3 (hg := gk rfl rfl gv334 rfl) (.bool (x152.2 == x141)) rfl rfl (W.q4 (.bool (x152.2 == x141)) gv334 rfl (W.q2 (.bool (x152.2 == x141)) rfl (W.splitAt (t := 118) (b := (x152.2 == x141)) rfl (fun g336 gv337 => ?_) (fun g336 gv337 => ?_))))))
 rotate_left
 .have h351 := z0i g336 h335
  refine W.q6 rfl gv337 (W.q6 rfl gv337 (W.q6 rfl gv337 (W.q5 (.bool false) gv337 rfl (W.q2 (.bool false) rfl (W.q6 rfl rfl (W.q6 rfl rfl ?_))))))
  refine W.q6 rfl rfl (W.q5 (.bool false) rfl rfl (W.q2 (.bool false) rfl (W.q6 rfl rfl (W.q6 rfl rfl (W.q6 rfl rfl (W.q5 (.bool false) rfl rfl ?_))))))
  refine W.q2 (.bool false) rfl (W.q6 rfl rfl (W.q6 rfl rfl (W.q6 rfl rfl (W.q5 (.bool false) rfl rfl (W.q1 (.bool false) rfl (.nil ?_))))))
  obtain rfl := zAa h351
  exact ⟨false, _, rfl, O326, s327, rfl⟩
 have h338 := z02 g336 h335
 refine W.q2 (hg := gk rfl rfl gv337 rfl) (.int .i64 x178.2) ((fr312 13 rfl).trans ((fr296 13 rfl).trans rfl)) (W.q2 (hg := gk rfl rfl gv337 rfl) (.int .i64 x167) ((fr312 8 rfl).trans ((fr296 8 rfl).trans rfl)) (W.q3 (hg := gk rfl rfl gv337 rfl) (.bool (x178.2 == x167)) rfl rfl (W.q4 (.bool (x178.2 == x167)) gv337 rfl (W.q2 (.bool (x178.2 == x167)) rfl (W.splitAt (t := 123) (b := (x178.2 == x167)) rfl (fun g339 gv340 => ?_) (fun g339 gv340 => ?_))))))
 rotate_left
 .have h350 := z0i g339 h338
  refine W.q6 rfl gv340 (W.q6 rfl gv340 (W.q6 rfl gv340 (W.q5 (.bool false) gv340 rfl (W.q2 (.bool false) rfl (W.q6 rfl rfl (W.q6 rfl rfl ?_))))))
  refine W.q6 rfl rfl (W.q5 (.bool false) rfl rfl (W.q2 (.bool false) rfl (W.q6 rfl rfl (W.q6 rfl rfl (W.q6 rfl rfl (W.q5 (.bool false) rfl rfl ?_))))))
  refine W.q1 (.bool false) rfl (.nil ?_)
  obtain rfl := zAa h350
  exact ⟨false, _, rfl, O326, s327, rfl⟩
 have h341 := z02 g339 h338
 refine W.q2 (hg := gk rfl rfl gv340 rfl) (.int .i64 x191.2) ((fr312 15 rfl).trans ((fr296 15 rfl).trans rfl)) (W.q2 (hg := gk rfl rfl gv340 rfl) (.int .i64 x167) ((fr312 8 rfl).trans ((fr296 8 rfl).trans rfl)) (W.q3 (hg := gk rfl rfl gv340 rfl) (.bool (x191.2 == x167)) rfl rfl (W.q4 (.bool (x191.2 == x167)) gv340 rfl (W.q2 (.bool (x191.2 == x167)) rfl (W.splitAt (t := 128) (b := (x191.2 == x167)) rfl (fun g342 gv343 => ?_) (fun g342 gv343 => ?_))))))
 rotate_left
 .have h349 := z0i g342 h341
  refine W.q6 rfl gv343 (W.q6 rfl gv343 (W.q6 rfl gv343 (W.q5 (.bool false) gv343 rfl (W.q2 (.bool false) rfl (W.q6 rfl rfl (W.q6 rfl rfl ?_))))))
  refine W.q6 rfl rfl (W.q5 (.bool false) rfl rfl (W.q1 (.bool false) rfl (.nil ?_)))
  obtain rfl := zAa h349
  exact ⟨false, _, rfl, O326, s327, rfl⟩
 have h344 := z02 g342 h341
 refine W.q2 (hg := gk rfl rfl gv343 rfl) (.int .i64 x204.2) ((fr312 17 rfl).trans ((fr296 17 rfl).trans rfl)) (W.q2 (hg := gk rfl rfl gv343 rfl) (.int .i64 x167) ((fr312 8 rfl).trans ((fr296 8 rfl).trans rfl)) (W.q3 (hg := gk rfl rfl gv343 rfl) (.bool (x204.2 == x167)) rfl rfl (W.q4 (.bool (x204.2 == x167)) gv343 rfl (W.q2 (.bool (x204.2 == x167)) rfl (W.splitAt (t := 133) (b := (x204.2 == x167)) rfl (fun g345 gv346 => ?_) (fun g345 gv346 => ?_))))))
 rotate_left
 .have h348 := z0i g345 h344
  refine W.q6 rfl gv346 (W.q6 rfl gv346 (W.q6 rfl gv346 (W.q5 (.bool false) gv346 rfl (W.q1 (.bool false) rfl (.nil ?_)))))
  obtain rfl := zAa h348
  exact ⟨false, _, rfl, O326, s327, rfl⟩
 have h347 := z02 g345 h344
 refine W.q2 (hg := gk rfl rfl gv346 rfl) (.int .i64 x215.2.2) ((fr312 20 rfl).trans ((fr296 20 rfl).trans rfl)) (W.q2 (hg := gk rfl rfl gv346 rfl) _ t317 (W.q3 (hg := gk rfl rfl gv346 rfl) (.bool (x215.2.2 == x309)) rfl rfl (W.q4 (.bool (x215.2.2 == x309)) gv346 rfl (W.q1 (.bool (x215.2.2 == x309)) rfl (.nil ?_)))))
 obtain rfl := zAa h347
 exact ⟨(x215.2.2 == x309), _, rfl, O326, s327, rfl⟩
end Go.Am.Tryz
/- Numbers: digits in a base, the least one first; decimal texts. Plain, no program. -/
namespace Go.Am
open Go
def valB (B : Int) : List Int -> Int
 | [] => 0
 | d :: l => d + B * valB B l
def DigB (B : Int) (l : List Int) : Prop := ∀ d ∈ l, 0 <= d /\ d < B
theorem DigB.nil (B : Int) : DigB B [] := fun d h => by simp at h
theorem DigB.cons {B d : Int} {l : List Int} (h : DigB B (d :: l)) : (0 <= d /\ d < B) /\ DigB B l := ⟨h d (by simp), fun x hx => h x (by simp [hx])⟩
theorem DigB.app {B : Int} {l m : List Int} (h : DigB B l) (k : DigB B m) : DigB B (l ++ m) := fun d hd => by
 rcases List.mem_append.1 hd with hd | hd
 ·exact h d hd
 ·exact k d hd
theorem z5k (B : Int) : ∀ (l m : List Int), valB B (l ++ m) = valB B l + B ^ l.length * valB B m
 | [], m => by simp [valB]
 | d :: l, m => by
  simp only [List.cons_append, valB, z5k B l m, List.length_cons, Int.pow_succ]
  rw [Int.mul_add, <- Int.mul_assoc, Int.mul_comm B (B ^ l.length), Int.add_assoc]
theorem z13 {B : Int} (hB : 0 < B) : ∀ (l : List Int), DigB B l -> 0 <= valB B l
 | [], _ => Int.le_refl _
 | d :: l, h => by
  have h1 := (h.cons).1
  have h2 := z13 hB l h.cons.2
  have := Int.mul_nonneg (Int.le_of_lt hB) h2
  simp only [valB]; omega
theorem z4t {B : Int} (hB : 0 < B) : ∀ (l : List Int), DigB B l -> valB B l < B ^ l.length
 | [], _ => by simp [valB]
 | d :: l, h => by
  have h1 := (h.cons).1
  have h2 := z4t hB l h.cons.2
  have h3 : B * (valB B l + 1) <= B * B ^ l.length := Int.mul_le_mul_of_nonneg_left (by omega) (Int.le_of_lt hB)
  rw [Int.mul_add, Int.mul_one] at h3
  simp only [valB, List.length_cons, Int.pow_succ]
  rw [Int.mul_comm (B ^ l.length) B]
  omega
def CanB (B : Int) (l : List Int) : Prop := DigB B l /\ l.getLast? ≠ some 0
theorem CanB.tail {B d : Int} {l : List Int} (h : CanB B (d :: l)) : CanB B l := by
 refine ⟨h.1.cons.2, fun e => h.2 ?_⟩
 cases l with
 | nil => simp at e
 | cons x l => rw [List.getLast?_cons_cons]; exact e
theorem zb6 {B : Int} (hB : 1 < B) : ∀ (l : List Int), CanB B l -> l ≠ [] -> 0 < valB B l
 | [], _, h => absurd rfl h
 | d :: l, h, _ => by
  have h1 := h.1.cons.1
  cases l with
  | nil =>
   have : d ≠ 0 := fun e => h.2 (by simp [e])
   simp only [valB]; omega
  | cons x l =>
   have h2 := zb6 hB (x :: l) h.tail (by simp)
   have h3 : B * 1 <= B * valB B (x :: l) := Int.mul_le_mul_of_nonneg_left (by omega) (by omega)
   simp only [valB] at h2 h3 ⊢; omega
theorem zkv {B d e x y : Int} (hd : 0 <= d /\ d < B) (he : 0 <= e /\ e < B) (h : d + B * x = e + B * y) : d = e /\ x = y := by
 have h1 : x = y := by
  rcases Int.lt_trichotomy x y with h2 | h2 | h2
  ·have : B * (x + 1) <= B * y := Int.mul_le_mul_of_nonneg_left (by omega) (by omega)
   rw [Int.mul_add, Int.mul_one] at this; omega
  ·exact h2
  ·have : B * (y + 1) <= B * x := Int.mul_le_mul_of_nonneg_left (by omega) (by omega)
   rw [Int.mul_add, Int.mul_one] at this; omega
 subst h1
 exact ⟨by omega, rfl⟩
theorem zkw {B : Int} (hB : 1 < B) : ∀ (l m : List Int), CanB B l -> CanB B m -> valB B l = valB B m -> l = m
 | [], [], _, _, _ => rfl
 | [], e :: m, _, h2, h => by
  have := zb6 hB (e :: m) h2 (by simp)
  rw [<- h] at this; simp [valB] at this
 | d :: l, [], h1, _, h => by
  have := zb6 hB (d :: l) h1 (by simp)
  rw [h] at this; simp [valB] at this
 | d :: l, e :: m, h1, h2, h => by
  obtain ⟨rfl, h3⟩ := zkv h1.1.cons.1 h2.1.cons.1 h
  rw [zkw hB l m h1.tail h2.tail h3]
def digT (c : Int) : Bool := decide (48 <= c) && decide (c <= 57)
def z5l (s : zAd) : List Int := ((z05 s).map (· - 48)).reverse
def numT (s : zAd) : Int := valB 10 (z5l s)
def CanT (s : zAd) : Prop := s.size ≠ 0 /\ (z05 s).all digT = true /\ ((z05 s).head? = some 48 -> s.size = 1)
theorem z3w {a b : zAd} (h : z05 a = z05 b) : a = b := by
 unfold z05 at h
 have h1 : a.data.toList = b.data.toList := by
  have : Function.Injective fun b : UInt8 => (b.toNat : Int) := fun x y h => by
   have : x.toNat = y.toNat := by have h' : (x.toNat : Int) = (y.toNat : Int) := h; omega
   exact UInt8.toNat_inj.1 this
  exact List.map_inj_right (fun x y h => this h) |>.1 h
 cases a; cases b
 congr 1
 exact Array.toList_inj.1 h1
theorem z7i {s : zAd} (h : (z05 s).all digT = true) : DigB 10 (z5l s) := by
 intro d hd
 unfold z5l at hd
 rw [List.mem_reverse, List.mem_map] at hd
 obtain ⟨c, hc, rfl⟩ := hd
 have := List.all_eq_true.1 h c hc
 simp only [digT, Bool.and_eq_true, decide_eq_true_eq] at this
 omega
theorem z59 (s : zAd) : (z5l s).length = s.size := by
 unfold z5l
 rw [List.length_reverse, List.length_map, z01]
theorem zf3 {a b : zAd} (h : z5l a = z5l b) : a = b := by
 unfold z5l at h
 have h1 := List.reverse_inj.1 h
 exact z3w (List.map_inj_right (fun x y h => by omega) |>.1 h1)
theorem z8f {s : zAd} (h : CanT s) (h0 : (z05 s).head? = some 48) : z5l s = [0] := by
 have h1 := h.2.2 h0
 have hl := z01 s
 rw [h1] at hl
 match hb : z05 s, hl with
 | [c], _ => rw [hb] at h0; simp at h0; subst h0; simp [z5l, hb]
theorem zco {s : zAd} (h : CanT s) (h0 : (z05 s).head? ≠ some 48) : CanB 10 (z5l s) := by
 refine ⟨z7i h.2.1, fun e => h0 ?_⟩
 unfold z5l at e
 rw [List.getLast?_reverse, List.head?_map] at e
 cases hb : (z05 s).head? with
 | none => rw [hb] at e; cases e
 | some c => rw [hb] at e; simp at e; congr 1; omega
theorem z8w {a b : zAd} (ha : CanT a) (hb : CanT b) (h : numT a = numT b) : a = b := by
 have pos : ∀ s : zAd, CanT s -> (z05 s).head? ≠ some 48 -> 0 < numT s := fun s hs h0 => zb6 (by omega) _ (zco hs h0) (fun e => by
  have := z59 s
  rw [e] at this
  exact hs.1 this.symm)
 by_cases h1 : (z05 a).head? = some 48 <;> by_cases h2 : (z05 b).head? = some 48
 ·exact zf3 (by rw [z8f ha h1, z8f hb h2])
 ·have := pos b hb h2
  unfold numT at h this
  rw [z8f ha h1] at h
  simp [valB] at h; omega
 ·have := pos a ha h1
  unfold numT at h this
  rw [z8f hb h2] at h
  simp [valB] at h; omega
 ·exact zf3 (zkw (by omega) _ _ (zco ha h1) (zco hb h2) h)
theorem z2r (a : zAd) (i j : Nat) : z05 (a.extract i j) = ((z05 a).drop i).take (j - i) := by
 unfold z05
 rw [ByteArray.data_extract, Array.toList_extract]
 simp [List.extract, List.map_drop, List.map_take]
theorem z0u (a b : zAd) : z05 (a ++ b) = z05 a ++ z05 b := by
 unfold z05
 rw [ByteArray.data_append, Array.toList_append, List.map_append]
theorem zc0 (xs : List Int) (h : ∀ x ∈ xs, 0 <= x /\ x <= 255) : z05 (strOfNums xs) = xs := by
 unfold z05
 rw [strOfNums_data, List.map_map]
 conv => rhs; rw [<- List.map_id xs]
 apply List.map_congr_left
 intro x hx
 have := h x hx
 show ((UInt8.ofNat x.toNat).toNat : Int) = x
 rw [UInt8.toNat_ofNat']
 omega
theorem zb7 {s : zAd} {c : Int} {l : List Int} (h : z05 s = c :: l) : ∃ t, ssl s 1 (s.size : Int) = some t /\ z05 t = l /\ t.size = l.length := by
 have hn := z01 s
 rw [h] at hn
 simp at hn
 refine ⟨s.extract 1 s.size, ?_, ?_, ?_⟩
 ·unfold ssl
  rw [if_pos (by omega)]
  simp
 ·rw [z2r, h]
  simp
  exact List.take_of_length_le (by omega)
 ·rw [<- z01, z2r, h]
  simp
  omega
theorem zja {s t : zAd} {c : Int} (h : z05 s = c :: z05 t) : numT s = numT t + 10 ^ t.size * (c - 48) := by
 unfold numT z5l
 rw [h, List.map_cons, List.reverse_cons, z5k]
 simp [valB, z01]
end Go.Am
/- Graphs: connected parts, their numbers, closure of a matrix, ways. Plain, no program. -/
namespace Go.Am
open Go
def Edg (l : List (Int × Int)) (U : Nat -> Bool) (a b : Nat) : Prop := ∃ k, k < l.length /\ U k = true /\ (l.getD k (0, 0) = ((a : Int), (b : Int)) \/ l.getD k (0, 0) = ((b : Int), (a : Int)))
inductive Con (l : List (Int × Int)) (U : Nat -> Bool) : Nat -> Nat -> Prop
 | refl (a : Nat) : Con l U a a
 | tail {a b c : Nat} : Con l U a b -> Edg l U b c -> Con l U a c
structure Outer (l : List (Int × Int)) (U : Nat -> Bool) (n : Nat) (cs : List Int) (m s : Nat) : Prop where
 len : cs.length = n
 rng : ∀ i < n, -1 <= cs.getD i 0 /\ cs.getD i 0 < m
 done : ∀ i < s, i < n -> 0 <= cs.getD i 0
 cls : ∀ i j, i < n -> j < n -> 0 <= cs.getD i 0 -> (cs.getD i 0 = cs.getD j 0 ↔ Con l U i j)
 last : 0 < m -> ∃ j < s, j < n /\ cs.getD j 0 = (m : Int) - 1
 rgs : ∀ i < n, 0 < cs.getD i 0 -> ∃ j < i, cs.getD j 0 = cs.getD i 0 - 1
 few : m <= s
structure Mid (l : List (Int × Int)) (U : Nat -> Bool) (n : Nat) (base : List Int) (m s : Nat) (cs : List Int) : Prop where
 len : cs.length = n
 own : ∀ i < n, (cs.getD i 0 = m /\ base.getD i 0 = -1 /\ Con l U s i) \/ cs.getD i 0 = base.getD i 0
 start : cs.getD s 0 = m
theorem z7j {cs : List Int} {i j : Nat} {v : Int} (hi : i < cs.length) : (cs.set i v).getD j 0 = if j = i then v else cs.getD j 0 := by
 rw [zAb, List.getElem?_set]
 by_cases h : i = j
 ·subst h; simp [hi]
 ·rw [if_neg h, if_neg (fun e => h e.symm), zAb]
theorem Edg.symm {l : List (Int × Int)} {U : Nat -> Bool} {a b : Nat} (h : Edg l U a b) : Edg l U b a := by
 obtain ⟨k, h1, h2, h3⟩ := h
 exact ⟨k, h1, h2, h3.symm⟩
theorem Con.trans {l : List (Int × Int)} {U : Nat -> Bool} {a b c : Nat} (h : Con l U a b) (k : Con l U b c) : Con l U a c := by
 induction k with
 | refl => exact h
 | tail _ e ih => exact .tail ih e
theorem Con.symm {l : List (Int × Int)} {U : Nat -> Bool} {a b : Nat} (h : Con l U a b) : Con l U b a := by
 induction h with
 | refl => exact .refl _
 | tail _ e ih => exact (Con.tail (.refl _) e.symm).trans ih
structure EqvOn (M : Nat -> Nat -> Bool) (n : Nat) : Prop where
 refl : ∀ a < n, M a a = true
 symm : ∀ a b, a < n -> b < n -> M a b = true -> M b a = true
 trans : ∀ a b c, a < n -> b < n -> c < n -> M a b = true -> M b c = true -> M a c = true
structure NumOk (M : Nat -> Nat -> Bool) (cs : List Int) (m i : Nat) : Prop where
 len : cs.length = i
 rng : ∀ a < i, 0 <= cs.getD a 0 /\ cs.getD a 0 < m
 cls : ∀ a b, a < i -> b < i -> (cs.getD a 0 = cs.getD b 0 ↔ M a b = true)
 last : 0 < m -> ∃ a < i, cs.getD a 0 = (m : Int) - 1
 rgs : ∀ a < i, 0 < cs.getD a 0 -> ∃ b < a, cs.getD b 0 = cs.getD a 0 - 1
 few : m <= i
structure WOk (l : List (Int × Int)) (U : Nat -> Bool) (n : Nat) (M : Nat -> Nat -> Bool) (m : Nat) : Prop where
 sound : ∀ a b, a < n -> b < n -> M a b = true -> Con l U a b
 refl : ∀ a < n, M a a = true
 edge : ∀ a b, a < n -> b < n -> Edg l U a b -> M a b = true
 tr : ∀ c < m, ∀ a b, a < n -> b < n -> M a c = true -> M c b = true -> M a b = true
def Wk (l : List (Int × Int)) (U : Nat -> Bool) (to : Nat) : Nat -> Nat -> Prop
 | 0, v => v = to
 | k + 1, v => ∃ w, Edg l U v w /\ Wk l U to k w
structure FarOk (l : List (Int × Int)) (U : Nat -> Bool) (n to : Nat) (fs : List Int) (d : Nat) : Prop where
 len : fs.length = n
 rng : ∀ v < n, -1 <= fs.getD v 0
 fnd : ∀ v < n, ∀ k : Nat, fs.getD v 0 = k -> k <= d /\ Wk l U to k v /\ ∀ j < k, ¬ Wk l U to j v
 nof : ∀ v < n, fs.getD v 0 = -1 -> ∀ j ≤ d, ¬ Wk l U to j v
structure Rnd (l : List (Int × Int)) (U : Nat -> Bool) (n to : Nat) (fs gs : List Int) (d : Nat) : Prop where
 len : gs.length = n
 old : ∀ v < n, gs.getD v 0 = fs.getD v 0 \/ (fs.getD v 0 = -1 /\ gs.getD v 0 = (d : Int) + 1 /\ Wk l U to (d + 1) v)
def neg (n : Nat) (fs : List Int) : Nat := ((List.range n).filter fun v => fs.getD v 0 == -1).length
theorem zec {S R : Type} (n : Nat) (l : Nat -> S -> Int -> Option R) (I : S -> Nat -> Prop) (Q : R -> Prop)
  (h : ∀ k s (i : Nat), i < n -> I s i -> (∃ r, l (k + 1) s (i : Int) = some r /\ Q r) \/ ∃ s', I s' (i + 1) /\ l (k + 1) s (i : Int) = l k s' ((i + 1 : Nat) : Int))
  (h0 : ∀ k s (i : Nat), i = n -> I s i -> ∃ r, l (k + 1) s (i : Int) = some r /\ Q r) : ∀ k s, n < k -> I s 0 -> ∃ r, l k s 0 = some r /\ Q r := by
 have key : ∀ d k s (i : Nat), n - i = d -> i <= n -> d < k -> I s i -> ∃ r, l k s (i : Int) = some r /\ Q r := by
  intro d
  induction d with
  | zero =>
   intro k s i hd hi hk hI
   obtain ⟨k, rfl⟩ : ∃ m, k = m + 1 := ⟨k - 1, by omega⟩
   exact h0 k s i (by omega) hI
  | succ d ih =>
   intro k s i hd hi hk hI
   obtain ⟨k, rfl⟩ : ∃ m, k = m + 1 := ⟨k - 1, by omega⟩
   rcases h k s i (by omega) hI with h1 | ⟨s', h1, h2⟩
   ·exact h1
   ·rw [h2]; exact ih k s' (i + 1) (by omega) (by omega) (by omega) h1
 intro k s hk hI
 exact key n k s 0 (by omega) (Nat.zero_le _) hk hI
theorem zlp {S R : Type} (l : Nat -> S -> Option R) (I : S -> Prop) (mu : S -> Nat) (Q : R -> Prop)
  (h : ∀ k s, I s -> (∃ r, l (k + 1) s = some r /\ Q r) \/ ∃ s', I s' /\ mu s' < mu s /\ l (k + 1) s = l k s') : ∀ k s, mu s < k -> I s -> ∃ r, l k s = some r /\ Q r := by
 intro k
 induction k with
 | zero => intro s h1; omega
 | succ k ih =>
  intro s h1 hI
  rcases h k s hI with h2 | ⟨s', h2, h3, h4⟩
  ·exact h2
  ·rw [h4]; exact ih s' (by omega) h2
def two (p : Int × Int) : List Int := [p.1, p.2]
theorem zhg {cs : List Int} {a : Nat} (h : a < cs.length) : idx cs (a : Int) = some (cs.getD a 0) := by
 apply z3y
 simp [h, zAb]
end Go.Am
/- Plain lemmas: rules for typed functions over whole numbers; digits set in place; the guess of a digit of a quotient. -/
namespace Go.Am
open Go
theorem z0d {α β : Type} (a : α) (f : α -> Option β) : Option.bind (some a) f = f a := (rfl)
theorem tu0a {β : Type} (g : Option β) (u : Unit) : tu0 g u = g := (rfl)
theorem tu1a {α β : Type} (g : α -> Option β) (a : α) : tu1 g a = g a := (rfl)
theorem tu2a {α1 α2 β : Type} (g : α1 -> α2 -> Option β) (p : α1 × α2) : tu2 g p = g p.1 p.2 := (rfl)
theorem tu3a {α1 α2 α3 β : Type} (g : α1 -> α2 -> α3 -> Option β) (p : α1 × α2 × α3) : tu3 g p = g p.1 p.2.1 p.2.2 := (rfl)
theorem tu4a {α1 α2 α3 α4 β : Type} (g : α1 -> α2 -> α3 -> α4 -> Option β) (p : α1 × α2 × α3 × α4) : tu4 g p = g p.1 p.2.1 p.2.2.1 p.2.2.2 := (rfl)
theorem tu5a {α1 α2 α3 α4 α5 β : Type} (g : α1 -> α2 -> α3 -> α4 -> α5 -> Option β) (p : α1 × α2 × α3 × α4 × α5) : tu5 g p = g p.1 p.2.1 p.2.2.1 p.2.2.2.1 p.2.2.2.2 := (rfl)
theorem lta {α β : Type} (x : α) (f : α -> Option β) : lt x f = f x := (rfl)
theorem zhh {α β γ : Type} (a : α) (f : α -> Option γ) (g : β -> Option γ) : zbk (some (.inl a)) f g = f a := (rfl)
theorem zjb {α β γ : Type} (b : β) (f : α -> Option γ) (g : β -> Option γ) : zbk (some (.inr b)) f g = g b := (rfl)
theorem znt {α β γ : Type} (a : α) (f : α -> Option γ) (g : β -> Option γ) : outS (.inl a) f g = f a := (rfl)
theorem znu {α β γ : Type} (b : β) (f : α -> Option γ) (g : β -> Option γ) : outS (.inr b) f g = g b := (rfl)
theorem zlq {α : Type} [BEq α] [LawfulBEq α] {a b : α} : ((a == b) = true) = (a = b) := propext beq_iff_eq
theorem zlr {a b : Int} : ((a != b) = true) = (a ≠ b) := by simp
theorem k64 {a : Int} (h1 : -9223372036854775808 <= a) (h2 : a <= 9223372036854775807) : z04 .i64 a = a := kw h1 h2
theorem ku64 {a : Int} (h1 : 0 <= a) (h2 : a <= 18446744073709551615) : z04 .u64 a = a := z77 (by simp [z94]; omega)
theorem ku32 {a : Int} (h1 : 0 <= a) (h2 : a <= 4294967295) : z04 .u32 a = a := z77 (by simp [z94]; omega)
theorem ku8 {a : Int} (h1 : 0 <= a) (h2 : a <= 255) : z04 .u8 a = a := z77 (by simp [z94]; omega)
theorem i64w {a : Int} (h1 : -9223372036854775808 <= a) (h2 : a <= 9223372036854775807) : IntKind.wrap .i64 a = a := by rw [<- z73]; exact k64 h1 h2
theorem u64w {a : Int} (h1 : 0 <= a) (h2 : a <= 18446744073709551615) : IntKind.wrap .u64 a = a := by rw [<- z73]; exact ku64 h1 h2
theorem u32w {a : Int} (h1 : 0 <= a) (h2 : a <= 4294967295) : IntKind.wrap .u32 a = a := by rw [<- z73]; exact ku32 h1 h2
theorem u8w {a : Int} (h1 : 0 <= a) (h2 : a <= 255) : IntKind.wrap .u8 a = a := by rw [<- z73]; exact ku8 h1 h2
theorem idxI {xs : List Int} {j : Int} (h1 : 0 <= j) (h2 : j < (xs.length : Int)) : idx xs j = some (xs.getD j.toNat 0) := by
 unfold idx
 rw [if_neg (by omega), zAb, zAh (by omega)]
 rfl
theorem zmi {s : zAd} {j : Int} (h1 : 0 <= j) (h2 : j < (s.size : Int)) : bidx s j = some ((z05 s).getD j.toNat 0) := by
 rw [z9d]; exact idxI h1 (by rw [z01]; exact h2)
theorem lslI {α : Type} {xs : List α} {l h : Int} (h1 : 0 <= l) (h2 : l <= h) (h3 : h <= (xs.length : Int)) : lsl xs l h = some ((xs.drop l.toNat).take (h.toNat - l.toNat)) := by unfold lsl; rw [if_pos ⟨h1, h2, h3⟩]
theorem sslI {s : zAd} {l h : Int} (h1 : 0 <= l) (h2 : l <= h) (h3 : h <= (s.size : Int)) : ssl s l h = some (s.extract l.toNat h.toNat) := by unfold ssl; rw [if_pos ⟨h1, h2, h3⟩]
theorem zn6 {a b : Int} (h : 0 <= a) : Int.tdiv a b = a / b := Int.tdiv_eq_ediv_of_nonneg h
theorem znv {a b : Int} (h : 0 <= a) : Int.tmod a b = a % b := Int.tmod_eq_emod_of_nonneg h
theorem z9t {S R : Type} (l : Nat -> S -> Option R) (I : S -> Prop) (mu : S -> Nat) (Q : R -> Prop)
  (h : ∀ k s, I s -> (∃ r, l (k + 1) s = some r /\ Q r) \/ ∃ s', l (k + 1) s = l k s' /\ mu s' < mu s /\ I s') {k : Nat} (s : S) (hk : mu s < k) (hI : I s) : ∃ r, l k s = some r /\ Q r :=
 zlp l I mu Q (fun k s hs => (h k s hs).imp id fun ⟨s', a, b, c⟩ => ⟨s', c, b, a⟩) k s hk hI
theorem z1x {B : Int} (hB : 0 < B) {x : List Int} (h : DigB B x) (k : Nat) : 0 <= x.getD k 0 /\ x.getD k 0 < B := by
 by_cases hk : k < x.length
 ·rw [zAb, zAh hk]; exact h _ (List.getElem_mem hk)
 ·rw [zAb, List.getElem?_eq_none (by omega)]; exact ⟨Int.le_refl _, hB⟩
theorem z6n (B : Int) : ∀ (l : List Int) (p : Nat) (d : Int), p < l.length -> valB B (l.set p d) = valB B l + B ^ p * (d - l.getD p 0)
 | [], p, d, h => by simp at h
 | x :: l, 0, d, _ => by simp [valB]; omega
 | x :: l, p + 1, d, h => by
  have := z6n B l p d (by simpa using h)
  simp only [List.set_cons_succ, valB, this, List.getD_cons_succ, Int.pow_succ]
  grind
theorem DigB.set {B d : Int} {l : List Int} (h : DigB B l) (p : Nat) (hd : 0 <= d /\ d < B) : DigB B (l.set p d) := fun x hx => by
 rcases List.mem_or_eq_of_mem_set hx with h1 | h1
 ·exact h x h1
 ·subst h1; exact hd
theorem DigB.take {B : Int} {l : List Int} (h : DigB B l) (k : Nat) : DigB B (l.take k) := fun x hx => h x (List.mem_of_mem_take hx)
theorem DigB.drop {B : Int} {l : List Int} (h : DigB B l) (k : Nat) : DigB B (l.drop k) := fun x hx => h x (List.mem_of_mem_drop hx)
theorem DigB.snoc {B d : Int} {l : List Int} (h : DigB B l) (hd : 0 <= d /\ d < B) : DigB B (l ++ [d]) := h.app fun x hx => by simp at hx; omega
theorem z8b (B : Int) (l : List Int) (k : Nat) (hk : k <= l.length) : valB B l = valB B (l.take k) + B ^ k * valB B (l.drop k) := by
 conv => lhs; rw [<- List.take_append_drop k l]
 rw [z5k, List.length_take, Nat.min_eq_left hk]
theorem z9n (B : Int) (n : Nat) : valB B (List.replicate n 0) = 0 := by
 induction n with
 | zero => rfl
 | succ n ih => simp [List.replicate_succ, valB, ih]
theorem DigB.zeros {B : Int} (hB : 0 < B) (n : Nat) : DigB B (List.replicate n 0) := fun x hx => by
 rw [List.mem_replicate] at hx; omega
theorem z3d (B : Int) (x : List Int) (k : Nat) : valB B (x.take (k + 1)) = valB B (x.take k) + B ^ k * x.getD k 0 := by
 by_cases h : k < x.length
 ·have hx : x[k]? = some x[k] := zAh h
  rw [List.take_add_one, hx, z5k, List.length_take, Nat.min_eq_left (by omega), zAb, hx]
  simp [valB]
 ·rw [List.take_of_length_le (by omega), List.take_of_length_le (by omega), zAb, List.getElem?_eq_none (by omega)]
  simp
theorem z7k (B : Int) (x : List Int) (d : Int) : valB B (x ++ [d]) = valB B x + B ^ x.length * d := by rw [z5k]; simp [valB]
theorem z9o (l : List Int) (h : l ≠ []) : ∃ r d, l = r ++ [d] := by
 rcases List.eq_nil_or_concat l with rfl | ⟨r, d, rfl⟩
 ·exact absurd rfl h
 ·exact ⟨r, d, by simp⟩
theorem zhi {B : Int} (hB : 1 < B) {l : List Int} (h : CanB B l) (h0 : l ≠ []) : B ^ (l.length - 1) <= valB B l := by
 obtain ⟨r, d, rfl⟩ := z9o l h0
 have hd : d ≠ 0 := fun e => h.2 (by simp [e])
 have hd2 := h.1 d (by simp)
 have hr := z13 (B := B) (by omega) r (fun x hx => h.1 x (by simp [hx]))
 have e : (r ++ [d]).length - 1 = r.length := by simp
 rw [z7k, e]
 have h1 : B ^ r.length * 1 <= B ^ r.length * d := Int.mul_le_mul_of_nonneg_left (by omega) (Int.le_of_lt (Int.pow_pos (by omega)))
 omega
theorem zmw {B : Int} (hB : 1 < B) {l : List Int} (h : DigB B l) (h0 : l ≠ []) (hv : B ^ (l.length - 1) <= valB B l) : CanB B l := by
 refine ⟨h, fun e => ?_⟩
 obtain ⟨r, d, rfl⟩ := z9o l h0
 have hd : d = 0 := by simpa using e
 have hr := z4t (B := B) (by omega) r (fun x hx => h x (by simp [hx]))
 have e : (r ++ [(0 : Int)]).length - 1 = r.length := by simp
 rw [z7k, hd, e] at hv
 omega
theorem z6h {B : Int} (hB : 0 < B) {i j : Nat} (h : i <= j) : B ^ i <= B ^ j := by
 obtain ⟨m, rfl⟩ : ∃ m, j = i + m := ⟨j - i, by omega⟩
 rw [Int.pow_add]
 have p1 : 0 < B ^ m := Int.pow_pos hB
 have p2 : 0 < B ^ i := Int.pow_pos hB
 have := Int.mul_le_mul_of_nonneg_left (show 1 <= B ^ m by omega) (Int.le_of_lt p2)
 omega
theorem zhj {B : Int} (hB : 1 < B) {l m : List Int} (h : DigB B l) (hm : CanB B m) (hl : l.length < m.length) : valB B l < valB B m := by
 have h1 := z4t (B := B) (by omega) l h
 have h2 := zhi hB hm (by intro e; subst e; simp at hl)
 have h3 : B ^ l.length <= B ^ (m.length - 1) := by
  obtain ⟨j, hj⟩ : ∃ j, m.length - 1 = l.length + j := ⟨m.length - 1 - l.length, by omega⟩
  rw [hj, Int.pow_add]
  have p1 : 0 < B ^ j := Int.pow_pos (by omega)
  have p2 : 0 < B ^ l.length := Int.pow_pos (by omega)
  have := Int.mul_le_mul_of_nonneg_left (show 1 <= B ^ j by omega) (Int.le_of_lt p2)
  omega
 omega
theorem zdo {B : Int} (hB : 1 < B) {l m : List Int} (h : CanB B l) (hm : DigB B m) (hv : valB B l <= valB B m) : l.length <= m.length := by
 refine Nat.not_lt.1 fun hl => ?_
 have := zhj hB hm h hl
 omega
theorem z3j {a b c : Int} (hc : 0 <= c) (h : a <= b) : c * a <= c * b := Int.mul_le_mul_of_nonneg_left h hc
theorem z8j {a b : Int} (ha : 0 <= a) (hb : 0 <= b) : 0 <= a * b := Int.mul_nonneg ha hb
structure Kn (B P v1 v2 vl top u3 ul q : Int) : Prop where
 B1 : 1 < B
 P0 : 0 < P
 v1p : 1 <= v1
 v2p : 0 <= v2
 v2b : v2 < B
 vlp : 0 <= vl
 vlb : vl < P
 tp : 0 <= top
 u3p : 0 <= u3
 u3b : u3 < B
 ulp : 0 <= ul
 ulb : ul < P
 q0 : 0 <= q
 qB : q < B
 lo : q * (P * (B * v1 + v2) + vl) <= P * (B * top + u3) + ul
 hi : P * (B * top + u3) + ul < (q + 1) * (P * (B * v1 + v2) + vl)
section
variable {B P v1 v2 vl top u3 ul q g r : Int}
theorem Kn.first (h : Kn B P v1 v2 vl top u3 ul q) : q <= top / v1 := by
 obtain ⟨B1, P0, v1p, v2p, v2b, vlp, vlb, tp, u3p, u3b, ulp, ulb, q0, qB, lo, hi⟩ := h
 rw [Int.le_ediv_iff_mul_le (by omega)]
 refine Int.le_of_lt_add_one (Int.not_le.1 fun hc => ?_)
 have a1 := z3j (Int.le_of_lt (Int.mul_pos P0 (show 0 < B by omega))) hc
 have a2 := z8j (Int.le_of_lt P0) (z8j q0 v2p)
 have a3 := z8j q0 vlp
 have a4 := z3j (Int.le_of_lt P0) (show u3 <= B - 1 by omega)
 grind
theorem Kn.down (h : Kn B P v1 v2 vl top u3 ul q) (hr : top = g * v1 + r) (hg : 0 <= g) (hc : g * v2 > r * B + u3) : q < g := by
 obtain ⟨B1, P0, v1p, v2p, v2b, vlp, vlb, tp, u3p, u3b, ulp, ulb, q0, qB, lo, hi⟩ := h
 refine Int.not_le.1 fun hq => ?_
 have hV : 0 <= P * (B * v1 + v2) + vl := by
  have := z8j (Int.le_of_lt P0) (show 0 <= B * v1 + v2 from by have := z8j (show 0 <= B by omega) (show 0 <= v1 by omega); omega)
  omega
 have a1 := z3j hV hq
 have a2 := z3j (Int.le_of_lt P0) (show r * B + u3 + 1 <= g * v2 by omega)
 have a3 := z8j hg vlp
 subst hr
 grind
theorem Kn.exitA (h : Kn B P v1 v2 vl top u3 ul q) (hr : top = g * v1 + r) (hg : 0 <= g) (hB : g < B) (hc : g * v2 <= r * B + u3) : g <= q + 1 := by
 obtain ⟨B1, P0, v1p, v2p, v2b, vlp, vlb, tp, u3p, u3b, ulp, ulb, q0, qB, lo, hi⟩ := h
 refine Int.not_lt.1 fun hq => ?_
 have hV : 0 <= P * (B * v1 + v2) + vl := by
  have := z8j (Int.le_of_lt P0) (show 0 <= B * v1 + v2 from by have := z8j (show 0 <= B by omega) (show 0 <= v1 by omega); omega)
  omega
 have a1 := z3j hV (show q + 1 <= g - 1 by omega)
 have a2 := z3j (Int.le_of_lt P0) hc
 have a3 := z3j hg (show vl <= P - 1 by omega)
 have a4 := z3j (Int.le_of_lt P0) (show g <= B - 1 by omega)
 have a5 := z3j (Int.le_of_lt (Int.mul_pos P0 (show 0 < B by omega))) v1p
 have a6 := z8j (Int.le_of_lt P0) v2p
 subst hr
 grind
theorem Kn.exitB (h : Kn B P v1 v2 vl top u3 ul q) (hr : top = g * v1 + r) (hg : 0 <= g) (hB : g <= B) (hc : B <= r) : g <= q := by
 obtain ⟨B1, P0, v1p, v2p, v2b, vlp, vlb, tp, u3p, u3b, ulp, ulb, q0, qB, lo, hi⟩ := h
 refine Int.not_lt.1 fun hq => ?_
 have hV : 0 <= P * (B * v1 + v2) + vl := by
  have := z8j (Int.le_of_lt P0) (show 0 <= B * v1 + v2 from by have := z8j (show 0 <= B by omega) (show 0 <= v1 by omega); omega)
  omega
 have a1 := z3j hV (show q + 1 <= g by omega)
 have hPg := z8j (Int.le_of_lt P0) hg
 have a2 := z3j hPg (show v2 <= B - 1 by omega)
 have a3 := z3j hg (show vl <= P - 1 by omega)
 have a4 := z3j (Int.le_of_lt (Int.mul_pos P0 (show 0 < B by omega))) (show g <= r by omega)
 have a6 := z8j (Int.le_of_lt P0) u3p
 subst hr
 grind
end
set_option linter.defProp false in
def runL := And.intro @decide_eq_true_eq (And.intro @if_pos.{1} (And.intro @if_neg.{1} (And.intro @if_true.{1} (And.intro @if_false.{1} (And.intro @z0d (And.intro @zlq (And.intro @zlr (And.intro @idxI (And.intro @zmi (And.intro @sslI (And.intro @lslI (And.intro @k64 (And.intro @ku64 (And.intro @ku32 (And.intro @ku8 (And.intro @i64w (And.intro @u64w (And.intro @u32w (And.intro @u8w (And.intro @zn6 (And.intro @znv (And.intro @tu0a (And.intro @tu1a (And.intro @tu2a (And.intro @tu3a (And.intro @tu4a (And.intro @tu5a (And.intro @lta (And.intro @zhh (And.intro @zjb (And.intro @znt (And.intro @znu (And.intro @Int.toNat_natCast (And.intro @List.length_cons.{0} (And.intro @List.length_nil.{0} (And.intro @List.length_set.{0} (And.intro @Int.toNat_zero (@List.replicate_zero.{0}))))))))))))))))))))))))))))))))))))))
end Go.Am
/- Plain law: the program's numbers: digits in the base 10^9. -/
namespace Go.Am.Tryz
open Go Go.Am Go.Proofs
variable {K : Nat}
def NumN (n : Int) (l : List Int) : Prop := CanB 1000000000 l /\ valB 1000000000 l = n
theorem NumN.inj {n : Int} {l m : List Int} (h : NumN n l) (k : NumN n m) : l = m := zkw (B := 1000000000) (by omega) l m h.1 k.1 (h.2.trans k.2.symm)
theorem NumN.nonneg {n : Int} {l : List Int} (h : NumN n l) : 0 <= n := by rw [<- h.2]; exact z13 (by omega) l h.1.1
theorem NumN.nil : NumN 0 [] := ⟨⟨DigB.nil _, by simp⟩, rfl⟩
theorem NumN.pos {n : Int} {l : List Int} (h : NumN n l) (h0 : l ≠ []) : 0 < n := by rw [<- h.2]; exact zb6 (by omega) l h.1 h0
theorem NumN.nil_iff {n : Int} {l : List Int} (h : NumN n l) : l = [] ↔ n = 0 := by
 constructor
 ·rintro rfl; exact h.2.symm
 ·intro e; by_cases h0 : l = []
  ·exact h0
  ·have := h.pos h0; omega
theorem NumN.len0 {n : Int} {l : List Int} (h : NumN n l) : l.length = 0 ↔ n = 0 := by rw [<- h.nil_iff, List.length_eq_zero_iff]
theorem NumN.one {n : Int} (h : 0 < n) (h2 : n < 1000000000) : NumN n [n] := ⟨⟨fun d hd => by simp at hd; omega, by simp; omega⟩, by simp [valB]⟩
theorem zjc {B : Int} : ∀ n k (l : List Int), l.length = n -> n <= 8000000 -> n < k -> DigB B l -> ∃ t, z2p K k l = some t /\ CanB B t /\ valB B t = valB B l /\ t.length <= l.length := by
 intro n
 induction n with
 | zero =>
  intro k l hl _ hk hd
  obtain ⟨k, rfl⟩ : ∃ m, k = m + 1 := ⟨k - 1, by omega⟩
  have : l = [] := List.length_eq_zero_iff.1 hl
  subst this
  exact ⟨[], by rw [z2p]; simp [tu1], ⟨hd, by simp⟩, rfl, Nat.le_refl _⟩
 | succ n ih =>
  intro k l hl hb hk hd
  obtain ⟨k, rfl⟩ : ∃ m, k = m + 1 := ⟨k - 1, by omega⟩
  obtain ⟨r, d, rfl⟩ : ∃ r d, l = r ++ [d] := z9o l (by intro e; subst e; simp at hl)
  have hr : r.length = n := by simpa using hl
  have e1 : z04 .i64 (((r ++ [d]).length : Int) - 1) = (n : Int) := by rw [hl, kw (by omega) (by omega)]; omega
  have e2 : idx (r ++ [d]) (n : Int) = some d := z3y (by simp [<- hr])
  have e3 : lsl (r ++ [d]) 0 (n : Int) = some r := by
   unfold lsl
   rw [if_pos (by rw [hl]; omega)]
   simp [<- hr]
  have e4 : ((r ++ [d]).length : Int) > 0 := by rw [hl]; omega
  have dr : DigB B r := fun x hx => hd x (by simp [hx])
  rw [z2p, e1, e2, e3, decide_eq_true e4]
  by_cases h0 : d = 0
  ·obtain ⟨t, h1, h2, h3, h4⟩ := ih k r hr (by omega) (by omega) dr
   refine ⟨t, by simp [h0, tu1, h1], h2, ?_, by simp; omega⟩
   rw [h3, z5k, h0]; simp [valB]
  ·exact ⟨r ++ [d], by simp [h0, tu1], ⟨hd, by simpa using h0⟩, rfl, Nat.le_refl _⟩
theorem zb8 {B : Int} {l : List Int} (hl : l.length <= 8000000) (hK : 2000000000 < K) (hd : DigB B l) : ∃ t, z1z K l = some t /\ CanB B t /\ valB B t = valB B l /\ t.length <= l.length := by
 obtain ⟨t, h1, h2⟩ := zjc (K := K) l.length K l rfl hl (by omega) hd
 exact ⟨t, by unfold z1z; rw [h1]; rfl, h2⟩
theorem zjd {x y : List Int} (hlen : y.length <= x.length) (hx : x.length <= 4000000) (hK : 2000000000 < K) (dx : DigB 1000000000 x) (dy : DigB 1000000000 y) :
  ∃ r : List Int × Int, z25 K x y K [] 0 0 = some r /\ r.1.length = x.length /\ DigB 1000000000 r.1 /\ (0 <= r.2 /\ r.2 <= 1) /\ valB 1000000000 r.1 + 1000000000 ^ x.length * r.2 = valB 1000000000 x + valB 1000000000 y := by
 refine z9t (fun k (s : List Int × Int × Int) => z25 K x y k s.1 s.2.1 s.2.2) (fun s => ∃ i : Nat, s.2.2 = i /\ i <= x.length /\ s.1.length = i /\ DigB 1000000000 s.1 /\ (0 <= s.2.1 /\ s.2.1 <= 1) /\ valB 1000000000 s.1 + 1000000000 ^ i * s.2.1 = valB 1000000000 (x.take i) + valB 1000000000 (y.take i)) (fun s => x.length - s.1.length) _ ?_ (([], 0, 0) : List Int × Int × Int) (by simp; omega) ⟨0, rfl, by omega, rfl, DigB.nil _, ⟨by simp, by simp⟩, by simp [valB]⟩
 rintro k ⟨out, c, _⟩ ⟨i, rfl, h0, h1, h2, h3, h4⟩
 dsimp only at h1 h2 h3 h4 ⊢
 by_cases hi : i < x.length
 ·right
  have ex := z1x (by omega) dx i
  have ey := z1x (by omega) dy i
  have tx := z3d 1000000000 x i
  have ty := z3d 1000000000 y i
  have hy : ¬ i < y.length -> y.getD i 0 = 0 := fun h => by rw [zAb, List.getElem?_eq_none (by omega)]; rfl
  refine ⟨(out ++ [(x.getD i 0 + c + y.getD i 0) % 1000000000], (x.getD i 0 + c + y.getD i 0) / 1000000000, (i : Int) + 1), ?_, by simp; omega, i + 1, rfl, by omega, by simp [h1], h2.snoc (by omega), by dsimp only; omega, ?_⟩
  ·rw [z25]
   by_cases h : i < y.length
   ·simp (discharger := omega) only [runL]
   ·have e := hy h
    simp (discharger := omega) only [runL, e, Int.add_zero]
  ·have hm := Int.emod_add_mul_ediv (x.getD i 0 + c + y.getD i 0) 1000000000
   dsimp only
   rw [z7k, h1, tx, ty, Int.pow_succ]
   grind
 ·left
  refine ⟨(out, c), ?_, by dsimp only; omega, h2, h3, ?_⟩
  ·rw [z25]; simp [hi]
  ·have : i = x.length := by omega
   subst this
   rwa [List.take_of_length_le (Nat.le_refl _), List.take_of_length_le hlen] at h4
theorem zhk {x y : List Int} {a b : Int} (hlen : y.length <= x.length) (hx : x.length <= 4000000) (hK : 2000000000 < K) (nx : NumN a x) (ny : NumN b y) :
  ∃ r : List Int × Int, z25 K x y K [] 0 0 = some r /\ r.1.length = x.length /\ NumN (a + b) (if r.2 > 0 then r.1 ++ [r.2] else r.1) := by
 obtain ⟨⟨r, c⟩, h1, h2, h3, h4, h5⟩ := zjd hlen hx hK nx.1.1 ny.1.1
 dsimp only at h2 h3 h4 h5
 rw [nx.2, ny.2] at h5
 refine ⟨_, h1, h2, ?_⟩
 dsimp only
 by_cases hc : c > 0
 ·rw [if_pos hc]
  have e : c = 1 := by omega
  subst e
  refine ⟨⟨h3.snoc (by omega), by simp⟩, ?_⟩
  rw [z7k, h2]
  exact h5
 ·rw [if_neg hc]
  have e : c = 0 := by omega
  subst e
  rw [Int.mul_zero, Int.add_zero] at h5
  refine ⟨?_, h5⟩
  by_cases h0 : r = []
  ·subst h0; exact ⟨h3, by simp⟩
  ·refine zmw (by omega) h3 h0 ?_
   have h6 := zhi (B := 1000000000) (by omega) nx.1 (by rintro rfl; exact h0 (List.length_eq_zero_iff.1 h2))
   have h7 := ny.nonneg
   rw [nx.2] at h6
   rw [h2, h5]
   omega
theorem zls {x y : List Int} {a b : Int} (hx : x.length <= 4000000) (hy : y.length <= 4000000) (hK : 2000000000 < K) (nx : NumN a x) (ny : NumN b y) : ∃ z, z6u K x y = some z /\ NumN (a + b) z /\ z.length <= max x.length y.length + 1 := by
 unfold z6u
 by_cases h : x.length < y.length
 ·obtain ⟨⟨r, c⟩, h1, h2, h3⟩ := zhk (K := K) (x := y) (y := x) (by omega) hy (by omega) ny nx
  dsimp only at h2 h3
  rw [Int.add_comm b a] at h3
  by_cases hc : c > 0
  ·rw [if_pos hc] at h3
   exact ⟨r ++ [c], by simp (discharger := omega) only [runL, h1], h3, by simp; omega⟩
  ·rw [if_neg hc] at h3
   exact ⟨r, by simp (discharger := omega) only [runL, h1], h3, by omega⟩
 ·obtain ⟨⟨r, c⟩, h1, h2, h3⟩ := zhk (K := K) (x := x) (y := y) (by omega) hx (by omega) nx ny
  dsimp only at h2 h3
  by_cases hc : c > 0
  ·rw [if_pos hc] at h3
   exact ⟨r ++ [c], by simp (discharger := omega) only [runL, h1], h3, by simp; omega⟩
  ·rw [if_neg hc] at h3
   exact ⟨r, by simp (discharger := omega) only [runL, h1], h3, by omega⟩
theorem zje {x y : List Int} (hx : x.length <= 4000000) (hK : 2000000000 < K) (dx : DigB 1000000000 x) (dy : DigB 1000000000 y) :
  ∃ r : List Int, z26 K x y K (List.replicate x.length 0) 0 0 = some r /\ r.length = x.length /\ DigB 1000000000 r /\ ∃ c : Int, (0 <= c /\ c <= 1) /\ valB 1000000000 r + valB 1000000000 (y.take x.length) = valB 1000000000 x + 1000000000 ^ x.length * c := by
 refine z9t (fun k (s : List Int × Int × Int) => z26 K x y k s.1 s.2.1 s.2.2) (fun s => ∃ i : Nat, s.2.2 = i /\ i <= x.length /\ s.1.length = x.length /\ DigB 1000000000 s.1 /\ (∀ j, i <= j -> s.1.getD j 0 = 0) /\ (0 <= s.2.1 /\ s.2.1 <= 1) /\ valB 1000000000 s.1 + valB 1000000000 (y.take i) = valB 1000000000 (x.take i) + 1000000000 ^ i * s.2.1) (fun s => (x.length - s.2.2 : Int).toNat) _ ?_ ((List.replicate x.length 0, 0, 0) : List Int × Int × Int) (by simp; omega) ⟨0, rfl, by omega, by simp, .zeros (by omega) _, fun j _ => by simp [zAb, List.getElem?_replicate]; split <;> rfl, ⟨by simp, by simp⟩, by simp [valB, z9n]⟩
 rintro k ⟨out, c, _⟩ ⟨i, rfl, h0, h1, h2, hz, h3, h4⟩
 dsimp only at h1 h2 h3 h4 hz ⊢
 by_cases hi : i < x.length
 ·right
  have ex := z1x (by omega) dx i
  have ey := z1x (by omega) dy i
  have tx := z3d 1000000000 x i
  have ty := z3d 1000000000 y i
  have hy : ¬ i < y.length -> y.getD i 0 = 0 := fun h => by rw [zAb, List.getElem?_eq_none (by omega)]; rfl
  have hset := fun d => z6n 1000000000 out i d (by omega)
  have hgs := fun d j => z7j (cs := out) (i := i) (j := j) (v := d) (by omega)
  have hz0 := hz i (Nat.le_refl _)
  by_cases hn : x.getD i 0 - c - y.getD i 0 < 0
  ·refine ⟨(out.set i (x.getD i 0 - c - y.getD i 0 + 1000000000), 1, (i : Int) + 1), ?_, by dsimp only; omega, i + 1, rfl, by omega, by simp [h1], h2.set _ (by omega), fun j hj => by rw [hgs, if_neg (by omega)]; exact hz j (by omega), by simp, ?_⟩
   ·rw [z26]
    by_cases h : i < y.length
    ·simp (discharger := omega) only [runL]
    ·have e := hy h
     rw [e, Int.sub_zero] at hn
     simp (discharger := omega) only [runL, e, Int.sub_zero]
   ·dsimp only
    rw [hset, hz0, tx, ty, Int.pow_succ]
    grind
  ·refine ⟨(out.set i (x.getD i 0 - c - y.getD i 0), 0, (i : Int) + 1), ?_, by dsimp only; omega, i + 1, rfl, by omega, by simp [h1], h2.set _ (by omega), fun j hj => by rw [hgs, if_neg (by omega)]; exact hz j (by omega), by simp, ?_⟩
   ·rw [z26]
    by_cases h : i < y.length
    ·simp (discharger := omega) only [runL]
    ·have e := hy h
     rw [e, Int.sub_zero] at hn
     simp (discharger := omega) only [runL, e, Int.sub_zero]
   ·dsimp only
    rw [hset, hz0, tx, ty, Int.pow_succ]
    grind
 ·left
  have : i = x.length := by omega
  subst this
  rw [List.take_of_length_le (i := x.length) (l := x) (Nat.le_refl _)] at h4
  exact ⟨out, by rw [z26]; simp (discharger := omega) only [runL], h1, h2, c, h3, h4⟩
theorem zk3 {x y : List Int} {a b : Int} (hx : x.length <= 4000000) (hK : 2000000000 < K) (nx : NumN a x) (ny : NumN b y) (hab : b <= a) : ∃ z, z5y K x y = some z /\ NumN (a - b) z /\ z.length <= x.length := by
 obtain ⟨r, h1, h2, h3, c, h4, h5⟩ := zje hx hK nx.1.1 ny.1.1
 have hl : y.length <= x.length := zdo (B := 1000000000) (by omega) ny.1 nx.1.1 (by rw [nx.2, ny.2]; exact hab)
 rw [List.take_of_length_le hl, nx.2, ny.2] at h5
 have hv := z4t (B := 1000000000) (by omega) r h3
 rw [h2] at hv
 have hc : c = 0 := by
  by_cases e : c = 0
  ·exact e
  ·have : c = 1 := by omega
   subst this; omega
 subst hc
 obtain ⟨t, t1, t2, t3, t4⟩ := zb8 (K := K) (B := 1000000000) (l := r) (by omega) hK h3
 refine ⟨t, ?_, ⟨t2, by rw [t3]; omega⟩, by omega⟩
 unfold z5y
 simp (discharger := omega) only [runL, h1, t1]
theorem zjf {x y : List Int} (hl : x.length = y.length) (hx : x.length <= 4000000) (hK : 2000000000 < K) (dx : DigB 1000000000 x) (dy : DigB 1000000000 y) :
  ∃ r : Int ⊕ Unit, z1s K x y K ((x.length : Int) - 1) = some r /\ r = (if valB 1000000000 x < valB 1000000000 y then .inl (-1) else if valB 1000000000 x = valB 1000000000 y then .inr () else .inl 1) := by
 have hdrop : ∀ (l : List Int) j, valB 1000000000 (l.drop j) = l.getD j 0 + 1000000000 * valB 1000000000 (l.drop (j + 1)) := fun l j => by
  by_cases h : j < l.length
  ·rw [List.drop_eq_getElem_cons h, zAb, zAh h]; rfl
  ·rw [List.drop_eq_nil_of_le (by omega), List.drop_eq_nil_of_le (by omega), zAb, List.getElem?_eq_none (by omega)]; rfl
 refine z9t (fun k (s : Int) => z1s K x y k s) (fun s => ∃ j : Nat, s = (j : Int) - 1 /\ j <= x.length /\ valB 1000000000 (x.drop j) = valB 1000000000 (y.drop j)) (fun s => (s + 1).toNat) _ ?_ ((x.length : Int) - 1) (by omega) ⟨x.length, rfl, Nat.le_refl _, by rw [List.drop_eq_nil_of_le (Nat.le_refl _), List.drop_eq_nil_of_le (by omega)]⟩
 rintro k _ ⟨j, rfl, hj, he⟩
 by_cases h0 : j = 0
 ·subst h0
  left
  rw [List.drop_zero, List.drop_zero] at he
  rw [z1s]
  refine ⟨.inr (), by simp (discharger := omega) only [runL], ?_⟩
  rw [if_neg (by omega), if_pos he]
 ·obtain ⟨i, rfl⟩ : ∃ i, j = i + 1 := ⟨j - 1, by omega⟩
  have e1 : ((i + 1 : Nat) : Int) - 1 = i := by omega
  rw [e1]
  have ex := z1x (by omega) dx i
  have ey := z1x (by omega) dy i
  have sx := z8b 1000000000 x i (by omega)
  have sy := z8b 1000000000 y i (by omega)
  have ax := hdrop x i
  have ay := hdrop y i
  have bx := z4t (B := 1000000000) (by omega) _ (dx.take i)
  have by' := z4t (B := 1000000000) (by omega) _ (dy.take i)
  have cx := z13 (B := 1000000000) (by omega) _ (dx.take i)
  have cy := z13 (B := 1000000000) (by omega) _ (dy.take i)
  rw [List.length_take, Nat.min_eq_left (by omega)] at bx by'
  have p0 : 0 < (1000000000 : Int) ^ i := Int.pow_pos (by omega)
  rw [ax, he] at sx
  rw [ay] at sy
  by_cases h1 : x.getD i 0 < y.getD i 0
  ·left
   refine ⟨.inl (-1), by rw [z1s]; simp (discharger := omega) only [runL], ?_⟩
   have := z3j (Int.le_of_lt p0) (show x.getD i 0 + 1 <= y.getD i 0 by omega)
   rw [if_pos (by grind)]
  ·by_cases h2 : x.getD i 0 > y.getD i 0
   ·left
    refine ⟨.inl 1, by rw [z1s]; simp (discharger := omega) only [runL], ?_⟩
    have := z3j (Int.le_of_lt p0) (show y.getD i 0 + 1 <= x.getD i 0 by omega)
    rw [if_neg (by grind), if_neg (by grind)]
   ·right
    refine ⟨(i : Int) - 1, by rw [z1s]; simp (discharger := omega) only [runL], by omega, i, rfl, by omega, ?_⟩
    rw [ax, ay, he]
    omega
theorem zf4 {x y : List Int} {a b : Int} (hx : x.length <= 4000000) (hy : y.length <= 4000000) (hK : 2000000000 < K) (nx : NumN a x) (ny : NumN b y) : z4b K x y = some (if a < b then -1 else if a = b then 0 else 1) := by
 unfold z4b
 by_cases h : x.length = y.length
 ·obtain ⟨r, h1, h2⟩ := zjf (K := K) h hx hK nx.1.1 ny.1.1
  rw [nx.2, ny.2] at h2
  have e : ((x.length : Int) != (y.length : Int)) = false := by simp; omega
  rw [e]
  rw [k64 (by omega) (by omega), h1, h2]
  simp only [Bool.false_eq_true, if_false, zbk, Option.bind_some]
  by_cases c1 : a < b
  ·simp [c1, tu1]
  ·by_cases c2 : a = b
   ·subst c2; simp [tu0]
   ·simp [c1, c2, tu1]
 ·have e : ((x.length : Int) != (y.length : Int)) = true := by simp; omega
  rw [e, if_pos rfl]
  by_cases h1 : x.length < y.length
  ·have := zhj (B := 1000000000) (by omega) nx.1.1 ny.1 h1
   rw [nx.2, ny.2] at this
   simp (discharger := omega) only [runL]
  ·have := zhj (B := 1000000000) (by omega) ny.1.1 nx.1 (by omega)
   rw [nx.2, ny.2] at this
   simp (discharger := omega) only [runL]
end Go.Am.Tryz
/- Plain law: products of the program's numbers; division by one digit. -/
namespace Go.Am.Tryz
open Go Go.Am Go.Proofs
variable {K : Nat}
theorem zk4 {a b : Int} (ha : 0 <= a /\ a < 1000000000) (hb : 0 <= b /\ b < 1000000000) : 0 <= a * b /\ a * b <= 999999998000000001 := by
 refine ⟨Int.mul_nonneg ha.1 hb.1, ?_⟩
 have h1 := z3j ha.1 (show b <= 999999999 by omega)
 omega
theorem zlt {y out : List Int} {u : Int} {i : Nat} (hl : i + y.length <= out.length) (ho : out.length <= 8000000) (hK : 2000000000 < K) (hu : 0 <= u /\ u < 1000000000) (dy : DigB 1000000000 y) (d0 : DigB 1000000000 out) :
  ∃ r : List Int × Int, z2l K y (i : Int) u K out 0 0 = some r /\ r.1.length = out.length /\ DigB 1000000000 r.1 /\ (0 <= r.2 /\ r.2 < 1000000000) /\ (∀ j, i + y.length <= j -> r.1.getD j 0 = out.getD j 0) ∧
   valB 1000000000 r.1 + 1000000000 ^ (i + y.length) * r.2 = valB 1000000000 out + 1000000000 ^ i * (u * valB 1000000000 y) := by
 refine z9t (fun k (s : List Int × Int × Int) => z2l K y (i : Int) u k s.1 s.2.1 s.2.2) (fun s => ∃ q : Nat, s.2.2 = q /\ q <= y.length /\ s.1.length = out.length /\ DigB 1000000000 s.1 /\ (0 <= s.2.1 /\ s.2.1 < 1000000000) /\ (∀ j, i + q <= j -> s.1.getD j 0 = out.getD j 0) ∧
   valB 1000000000 s.1 + 1000000000 ^ (i + q) * s.2.1 = valB 1000000000 out + 1000000000 ^ i * (u * valB 1000000000 (y.take q))) (fun s => (y.length - s.2.2 : Int).toNat) _ ?_ ((out, 0, 0) : List Int × Int × Int) (by simp; omega) ⟨0, rfl, by omega, rfl, d0, by simp, fun _ _ => rfl, by simp [valB]⟩
 rintro k ⟨o, c, _⟩ ⟨q, rfl, h0, h1, h2, h3, hz, h4⟩
 dsimp only at h1 h2 h3 h4 hz ⊢
 by_cases hq : q < y.length
 ·right
  have ey := z1x (by omega) dy q
  have eo := z1x (by omega) h2 (i + q)
  have ty := z3d 1000000000 y q
  have hm := zk4 hu ey
  have hset := fun d => z6n 1000000000 o (i + q) d (by omega)
  have hgs := fun d j => z7j (cs := o) (i := i + q) (j := j) (v := d) (by omega)
  have e1 : ((i : Int) + (q : Int)) = ((i + q : Nat) : Int) := by omega
  generalize hw : u * y.getD q 0 = w at hm
  generalize ho : o.getD (i + q) 0 = z at eo hset
  have hdm := Int.emod_add_mul_ediv (w + z + c) 1000000000
  refine ⟨(o.set (i + q) ((w + z + c) % 1000000000), (w + z + c) / 1000000000, (q : Int) + 1), ?_, by dsimp only; omega, q + 1, rfl, by omega, by simp [h1], h2.set _ (by omega), by dsimp only; omega, fun j hj => by rw [hgs, if_neg (by omega)]; exact hz j (by omega), ?_⟩
  ·rw [z2l]
   simp (discharger := omega) only [runL, e1, hw, ho]
  ·dsimp only
   rw [hset, ty]
   have e2 : (1000000000 : Int) ^ (i + (q + 1)) = 1000000000 ^ i * 1000000000 ^ q * 1000000000 := by rw [<- Nat.add_assoc, Int.pow_succ, Int.pow_add]
   rw [e2]
   rw [Int.pow_add] at h4 ⊢
   subst hw
   generalize (u * y.getD q 0 + z + c) / 1000000000 = Q at *
   generalize (u * y.getD q 0 + z + c) % 1000000000 = R at *
   grind
 ·left
  have : q = y.length := by omega
  subst this
  rw [List.take_of_length_le (Nat.le_refl _)] at h4
  exact ⟨(o, c), by rw [z2l]; simp (discharger := omega) only [runL], h1, h2, h3, hz, h4⟩
theorem zjg {x y : List Int} (hl : x.length + y.length <= 8000000) (hK : 2000000000 < K) (dx : DigB 1000000000 x) (dy : DigB 1000000000 y) :
  ∃ r : List Int, z2m K x y K (List.replicate (x.length + y.length) 0) 0 = some r /\ r.length = x.length + y.length /\ DigB 1000000000 r /\ valB 1000000000 r = valB 1000000000 x * valB 1000000000 y := by
 refine z9t (fun k (s : List Int × Int) => z2m K x y k s.1 s.2) (fun s => ∃ i : Nat, s.2 = i /\ i <= x.length /\ s.1.length = x.length + y.length /\ DigB 1000000000 s.1 /\ (∀ j, i + y.length <= j -> s.1.getD j 0 = 0) /\ valB 1000000000 s.1 = valB 1000000000 (x.take i) * valB 1000000000 y) (fun s => (x.length - s.2 : Int).toNat) _ ?_ ((List.replicate (x.length + y.length) 0, 0) : List Int × Int) (by simp; omega) ⟨0, rfl, by omega, by simp, .zeros (by omega) _, fun j _ => by simp [zAb, List.getElem?_replicate]; split <;> rfl, by simp [valB, z9n]⟩
 rintro k ⟨out, _⟩ ⟨i, rfl, h0, h1, h2, hz, h4⟩
 dsimp only at h1 h2 h4 hz ⊢
 by_cases hi : i < x.length
 ·right
  have ex := z1x (by omega) dx i
  have tx := z3d 1000000000 x i
  obtain ⟨⟨r, c⟩, r1, r2, r3, r4, r5, r6⟩ := zlt (K := K) (y := y) (out := out) (u := x.getD i 0) (i := i) (by omega) (by omega) hK ex dy h2
  dsimp only at r2 r3 r4 r5 r6
  have hz0 := r5 (i + y.length) (Nat.le_refl _)
  rw [hz _ (Nat.le_refl _)] at hz0
  have hset := z6n 1000000000 r (i + y.length) c (by omega)
  have hgs := fun d j => z7j (cs := r) (i := i + y.length) (j := j) (v := d) (by omega)
  have e1 : ((i : Int) + (y.length : Int)) = ((i + y.length : Nat) : Int) := by omega
  refine ⟨(r.set (i + y.length) c, (i : Int) + 1), ?_, by dsimp only; omega, i + 1, rfl, by omega, by simp [r2, h1], r3.set _ r4, fun j hj => by rw [hgs, if_neg (by omega), r5 j (by omega)]; exact hz j (by omega), ?_⟩
  ·rw [z2m]
   simp (discharger := omega) only [runL, r1, e1]
  ·dsimp only
   rw [hset, hz0, tx]
   grind
 ·left
  have : i = x.length := by omega
  subst this
  rw [List.take_of_length_le (Nat.le_refl _)] at h4
  exact ⟨out, by rw [z2m]; simp (discharger := omega) only [runL], h1, h2, h4⟩
theorem z9p {x y : List Int} {a b : Int} (hl : x.length + y.length <= 8000000) (hK : 2000000000 < K) (nx : NumN a x) (ny : NumN b y) : ∃ z, z2c K x y = some z /\ NumN (a * b) z /\ z.length <= x.length + y.length := by
 obtain ⟨r, h1, h2, h3, h4⟩ := zjg hl hK nx.1.1 ny.1.1
 rw [nx.2, ny.2] at h4
 obtain ⟨t, t1, t2, t3, t4⟩ := zb8 (K := K) (B := 1000000000) (l := r) (by omega) hK h3
 refine ⟨t, ?_, ⟨t2, by rw [t3, h4]⟩, by omega⟩
 unfold z2c
 have e1 : ((x.length : Int) + (y.length : Int)) = ((x.length + y.length : Nat) : Int) := by omega
 simp (discharger := omega) only [runL, h1, t1, e1]
theorem zed (l : List Int) (j : Nat) : valB 1000000000 (l.drop j) = l.getD j 0 + 1000000000 * valB 1000000000 (l.drop (j + 1)) := by
 by_cases h : j < l.length
 ·rw [List.drop_eq_getElem_cons h, zAb, zAh h]; rfl
 ·rw [List.drop_eq_nil_of_le (by omega), List.drop_eq_nil_of_le (by omega), zAb, List.getElem?_eq_none (by omega)]; rfl
theorem zft {x : List Int} {d : Int} (hl : x.length <= 8000000) (hK : 2000000000 < K) (dx : DigB 1000000000 x) (hd : 1 <= d /\ d <= 1000000000) :
  ∃ r : List Int × Int, z1u K x d K (List.replicate x.length 0) 0 ((x.length : Int) - 1) = some r /\ r.1.length = x.length /\ DigB 1000000000 r.1 /\ (0 <= r.2 /\ r.2 < d) /\ valB 1000000000 x = d * valB 1000000000 r.1 + r.2 := by
 refine z9t (fun k (s : List Int × Int × Int) => z1u K x d k s.1 s.2.1 s.2.2) (fun s => ∃ j : Nat, s.2.2 = (j : Int) - 1 /\ j <= x.length /\ s.1.length = x.length /\ DigB 1000000000 s.1 /\ (0 <= s.2.1 /\ s.2.1 < d) /\ valB 1000000000 (x.drop j) = d * valB 1000000000 (s.1.drop j) + s.2.1) (fun s => (s.2.2 + 1).toNat) _ ?_ ((List.replicate x.length 0, 0, (x.length : Int) - 1) : List Int × Int × Int) (by dsimp only; omega) ⟨x.length, rfl, Nat.le_refl _, by simp, .zeros (by omega) _, by dsimp only; omega, by simp [valB]⟩
 rintro k ⟨out, c, _⟩ ⟨j, rfl, hj, h1, h2, h3, h4⟩
 dsimp only at h1 h2 h3 h4 ⊢
 by_cases h0 : j = 0
 ·left
  subst h0
  rw [List.drop_zero, List.drop_zero] at h4
  exact ⟨(out, c), by rw [z1u]; simp (discharger := omega) only [runL], h1, h2, h3, h4⟩
 ·right
  obtain ⟨i, rfl⟩ : ∃ i, j = i + 1 := ⟨j - 1, by omega⟩
  have e1 : ((i + 1 : Nat) : Int) - 1 = i := by omega
  rw [e1]
  have ex := z1x (by omega) dx i
  have ax := zed x i
  generalize hu : x.getD i 0 = u at ex ax
  have hq0 : 0 <= (c * 1000000000 + u) / d := Int.ediv_nonneg (by omega) (by omega)
  have hqB : (c * 1000000000 + u) / d < 1000000000 := Int.ediv_lt_of_lt_mul (by omega) (by omega)
  have hr0 : 0 <= (c * 1000000000 + u) % d := Int.emod_nonneg _ (by omega)
  have hrd : (c * 1000000000 + u) % d < d := Int.emod_lt_of_pos _ (by omega)
  have hdm := Int.emod_add_mul_ediv (c * 1000000000 + u) d
  refine ⟨(out.set i ((c * 1000000000 + u) / d), (c * 1000000000 + u) % d, (i : Int) - 1), ?_, by dsimp only; omega, i, rfl, by omega, by simp [h1], h2.set _ ⟨hq0, hqB⟩, ⟨hr0, hrd⟩, ?_⟩
  ·rw [z1u]
   have hd' : d ≠ 0 := by omega
   simp (discharger := omega) only [runL, hu]
  ·dsimp only
   rw [zed (out.set i _) i, List.drop_set_of_lt (by omega), z7j (by omega), if_pos rfl, ax, h4]
   generalize (c * 1000000000 + u) / d = Q at *
   generalize (c * 1000000000 + u) % d = R at *
   grind
theorem zjh {d : Int} (hd : 0 <= d /\ d < 1000000000) (hK : 2000000000 < K) : ∃ z, z1z K [d] = some z /\ NumN d z /\ z.length <= 1 := by
 obtain ⟨t, t1, t2, t3, t4⟩ := zb8 (K := K) (B := 1000000000) (l := [d]) (by simp) hK (fun x hx => by simp at hx; omega)
 exact ⟨t, t1, ⟨t2, by rw [t3]; simp [valB]⟩, by simpa using t4⟩
theorem zb9 {n d q r : Int} (hd : 0 < d) (h : n = d * q + r) (h0 : 0 <= r) (h1 : r < d) : q = n / d /\ r = n % d := by
 have e1 : n / d = q := by
  rw [h, Int.add_comm, Int.add_mul_ediv_left _ _ (by omega), Int.ediv_eq_zero_of_lt h0 h1]; omega
 refine ⟨e1.symm, ?_⟩
 have := Int.emod_add_mul_ediv n d
 rw [e1] at this
 omega
theorem zf5 {x : List Int} {a d : Int} (hl : x.length <= 8000000) (hK : 2000000000 < K) (nx : NumN a x) (hd : 1 <= d /\ d <= 1000000000) : ∃ q r, z4c K x d = some (q, r) /\ NumN (a / d) q /\ NumN (a % d) r /\ q.length <= x.length /\ r.length <= 1 := by
 obtain ⟨⟨o, c⟩, h1, h2, h3, h4, h5⟩ := zft hl hK nx.1.1 hd
 dsimp only at h2 h3 h4 h5
 rw [nx.2] at h5
 obtain ⟨e1, e2⟩ := zb9 (by omega) h5 h4.1 h4.2
 obtain ⟨t, t1, t2, t3, t4⟩ := zb8 (K := K) (B := 1000000000) (l := o) (by omega) hK h3
 obtain ⟨z, z1, z2, z3⟩ := zjh (K := K) (d := c) (by omega) hK
 refine ⟨t, z, ?_, ⟨t2, by rw [t3, e1]⟩, by rw [<- e2]; exact z2, by omega, z3⟩
 unfold z4c
 simp (discharger := omega) only [runL, h1, t1, z1]
end Go.Am.Tryz
/- Plain law: texts and the program's numbers: Read and Text. -/
namespace Go.Am.Tryz
open Go Go.Am Go.Proofs
variable {K : Nat}
def numB (l : List Int) : Int := valB 10 ((l.map (· - 48)).reverse)
theorem zcp (s : zAd) : numT s = numB (z05 s) := rfl
theorem z8x : numB [] = 0 := rfl
theorem zak (l : List Int) (c : Int) : numB (l ++ [c]) = numB l * 10 + (c - 48) := by
 unfold numB
 simp [valB]
 omega
theorem zee (l m : List Int) : numB (l ++ m) = numB m + 10 ^ m.length * numB l := by
 unfold numB
 rw [List.map_append, List.reverse_append, z5k]
 simp
theorem zal (c : Int) (l : List Int) : numB (c :: l) = numB l + 10 ^ l.length * (c - 48) := by
 have := zee [c] l
 simpa [numB, valB] using this
theorem zhl {l : List Int} (h : l.all digT = true) : DigB 10 ((l.map (· - 48)).reverse) := by
 intro d hd
 rw [List.mem_reverse, List.mem_map] at hd
 obtain ⟨c, hc, rfl⟩ := hd
 have := List.all_eq_true.1 h c hc
 simp only [digT, Bool.and_eq_true, decide_eq_true_eq] at this
 omega
theorem z61 {l : List Int} (h : l.all digT = true) : 0 <= numB l := z13 (by omega) _ (zhl h)
theorem zc1 {l : List Int} (h : l.all digT = true) : numB l < 10 ^ l.length := by
 have := z4t (B := 10) (by omega) _ (zhl h)
 simpa [numB] using this
theorem digT_iff {c : Int} : digT c = true ↔ 48 <= c /\ c <= 57 := by simp [digT]
theorem zba {l : List Int} (h : l.all digT = true) (k : Nat) : (l.take k).all digT = true := List.all_eq_true.2 fun x hx => List.all_eq_true.1 h x (List.mem_of_mem_take hx)
theorem zkx {l : List Int} (h : l.all digT = true) (k : Nat) : (l.drop k).all digT = true := List.all_eq_true.2 fun x hx => List.all_eq_true.1 h x (List.mem_of_mem_drop hx)
theorem zf6 {l : List Int} {i : Nat} (h : i < l.length) : l.take (i + 1) = l.take i ++ [l.getD i 0] := by
 rw [List.take_add_one, zAh h, zAb, zAh h]; rfl
theorem zf7 {l : List Int} (h : l.all digT = true) {i : Nat} (hi : i < l.length) : 48 <= l.getD i 0 /\ l.getD i 0 <= 57 := by
 rw [zAb, zAh hi]
 exact digT_iff.1 (List.all_eq_true.1 h _ (List.getElem_mem hi))
theorem zji {t : zAd} (ht : t.size <= 9) (hK : 2000000000 < K) (hd : (z05 t).all digT = true) : z2k K t K 0 0 = some (numT t) := by
 suffices h : ∃ r, z2k K t K 0 0 = some r /\ r = numT t by obtain ⟨r, h1, rfl⟩ := h; exact h1
 have hn := z01 t
 refine z9t (fun k (s : Int × Int) => z2k K t k s.1 s.2) (fun s => ∃ i : Nat, s.2 = i /\ i <= t.size /\ s.1 = numB ((z05 t).take i)) (fun s => (t.size - s.2 : Int).toNat) _ ?_ ((0, 0) : Int × Int) (by simp; omega) ⟨0, rfl, by omega, by simp [z8x]⟩
 rintro k ⟨_, _⟩ ⟨i, rfl, h0, rfl⟩
 dsimp only
 by_cases hi : i < t.size
 ·right
  have b1 := z61 (zba hd i)
  have b2 := zc1 (zba hd i)
  have b3 : (10 : Int) ^ (List.take i (z05 t)).length <= 10 ^ 8 := by
   rw [List.length_take, hn, Nat.min_eq_left (by omega)]
   exact z6h (by omega) (by omega)
  have hc := zf7 hd (i := i) (by omega)
  have hs := zf6 (l := z05 t) (i := i) (by omega)
  have b4 : (10 : Int) ^ 8 = 100000000 := by decide
  refine ⟨(numB ((z05 t).take (i + 1)), (i : Int) + 1), ?_, by dsimp only; omega, i + 1, rfl, by omega, rfl⟩
  rw [z2k, hs, zak]
  generalize numB ((z05 t).take i) = d at *
  rw [hn]
  have hi' : (i : Int) < ((z05 t).length : Int) := by omega
  simp (discharger := omega) only [runL]
 ·left
  have : i = t.size := by omega
  subst this
  refine ⟨numB ((z05 t).take t.size), by rw [z2k, hn]; simp (discharger := omega) only [runL], ?_⟩
  rw [List.take_of_length_le (by omega)]
  rfl
theorem zjj {s : zAd} (hs : s.size <= 8000000) (hK : 2000000000 < K) (hd : (z05 s).all digT = true) :
  ∃ r : List Int, z2y K s K [] (s.size : Int) = some r /\ 9 * r.length < s.size + 9 /\ DigB 1000000000 r /\ valB 1000000000 r = numT s := by
 have hn := z01 s
 refine z9t (fun k (q : List Int × Int) => z2y K s k q.1 q.2) (fun q => q.2 = (s.size : Int) - 9 * q.1.length /\ 9 * q.1.length < s.size + 9 /\ DigB 1000000000 q.1 /\ valB 1000000000 q.1 + 1000000000 ^ q.1.length * numB ((z05 s).take q.2.toNat) = numT s) (fun q => (q.2 + 9).toNat) _ ?_ (([], (s.size : Int)) : List Int × Int) (by dsimp only; omega) ⟨by simp, by simp, .nil _, by simp [valB]; rw [List.take_of_length_le (by omega)]; rfl⟩
 rintro k ⟨out, e⟩ ⟨h1, h2, h3, h4⟩
 dsimp only at h1 h2 h3 h4 ⊢
 by_cases he : e > 0
 ·right
  obtain ⟨lo, hlo, hm⟩ : ∃ lo : Nat, imax 0 (z04 .i64 (e - 9)) = lo /\ ((lo : Int) = e - 9 \/ ((lo = 0) /\ e < 9)) := by
   rw [k64 (by omega) (by omega)]
   unfold imax
   by_cases h9 : e - 9 > 0
   ·exact ⟨(e - 9).toNat, by rw [if_pos h9]; omega, .inl (by omega)⟩
   ·exact ⟨0, by rw [if_neg h9]; rfl, by omega⟩
  have hb : z05 (s.extract lo e.toNat) = ((z05 s).drop lo).take (e.toNat - lo) := z2r _ _ _
  have hsz : (s.extract lo e.toNat).size = e.toNat - lo := by rw [<- z01, hb, List.length_take, List.length_drop]; omega
  have hdp : (z05 (s.extract lo e.toNat)).all digT = true := by rw [hb]; exact zba (zkx hd _) _
  have hp := zji (K := K) (t := s.extract lo e.toNat) (by omega) hK hdp
  have hv0 := z61 hdp
  have hv1 := zc1 hdp
  have hsplit : (z05 s).take e.toNat = (z05 s).take lo ++ z05 (s.extract lo e.toNat) := by
   rw [hb, show e.toNat = lo + (e.toNat - lo) by omega, List.take_add]; simp
  have hlen : (z05 (s.extract lo e.toNat)).length = e.toNat - lo := by rw [z01]; exact hsz
  have hBv : numB (z05 (s.extract lo e.toNat)) < 1000000000 := by
   have : (10 : Int) ^ (z05 (s.extract lo e.toNat)).length <= 10 ^ 9 := z6h (by omega) (by omega)
   have e9 : (10 : Int) ^ 9 = 1000000000 := by decide
   omega
  refine ⟨(out ++ [numT (s.extract lo e.toNat)], e - 9), ?_, by dsimp only; omega, by simp; omega, by simp; omega, h3.snoc ⟨hv0, hBv⟩, ?_⟩
  ·rw [z2y, hlo]
   simp (discharger := omega) only [runL, hp]
  ·dsimp only
   rw [z7k, List.length_append, List.length_singleton, Int.pow_succ, zcp]
   rw [hsplit, zee, hlen] at h4
   rcases hm with hm | ⟨hm, h9⟩
   ·have e9 : e.toNat - lo = 9 := by omega
    have e10 : (10 : Int) ^ 9 = 1000000000 := by decide
    have el : (e - 9).toNat = lo := by omega
    rw [e9, e10] at h4
    rw [el]
    grind
   ·subst hm
    have el : (e - 9).toNat = 0 := by omega
    rw [el, List.take_zero, z8x] at *
    grind
 ·left
  have el : e.toNat = 0 := by omega
  rw [el, List.take_zero, z8x] at h4
  exact ⟨out, by rw [z2y]; simp (discharger := omega) only [runL], h2, h3, by omega⟩
theorem za3 {s : zAd} (hs : s.size <= 8000000) (hK : 2000000000 < K) (hd : (z05 s).all digT = true) : ∃ z, z5f K s = some z /\ NumN (numT s) z /\ 9 * z.length < s.size + 9 := by
 obtain ⟨r, h1, h2, h3, h4⟩ := zjj hs hK hd
 obtain ⟨t, t1, t2, t3, t4⟩ := zb8 (K := K) (B := 1000000000) (l := r) (by omega) hK h3
 exact ⟨t, by unfold z5f; simp (discharger := omega) only [runL, h1, t1], ⟨t2, by rw [t3, h4]⟩, by omega⟩
theorem zjk {d : Int} (hd : 0 <= d /\ d < 1000000000) (hK : 2000000000 < K) : ∃ p, z28 K K (List.replicate 9 0) d 8 = some p /\ p.length = 9 /\ p.all digT = true /\ numB p = d := by
 refine z9t (fun k (s : List Int × Int × Int) => z28 K k s.1 s.2.1 s.2.2) (fun s => ∃ j : Nat, s.2.2 = (j : Int) - 1 /\ j <= 9 /\ s.1.length = 9 /\ (s.1.drop j).all digT = true /\ (0 <= s.2.1 /\ s.2.1 <= d) /\ d = s.2.1 * 10 ^ (9 - j) + numB (s.1.drop j)) (fun s => (s.2.2 + 1).toNat) _ ?_ ((List.replicate 9 0, d, 8) : List Int × Int × Int) (by simp; omega) ⟨9, rfl, by omega, by simp, by simp, by dsimp only; omega, by simp [z8x]⟩
 rintro k ⟨p, c, _⟩ ⟨j, rfl, hj, h1, h2, h3, h4⟩
 dsimp only at h1 h2 h3 h4 ⊢
 by_cases h0 : j = 0
 ·subst h0
  left
  rw [List.drop_zero] at h2 h4
  have e9 : (10 : Int) ^ (9 - 0) = 1000000000 := by decide
  have := z61 h2
  rw [e9] at h4
  exact ⟨p, by rw [z28]; simp (discharger := omega) only [runL], h1, h2, by omega⟩
 ·right
  obtain ⟨i, rfl⟩ : ∃ i, j = i + 1 := ⟨j - 1, by omega⟩
  have e1 : ((i + 1 : Nat) : Int) - 1 = i := by omega
  rw [e1]
  have hx : (p.set i (48 + c % 10)).drop i = (48 + c % 10) :: p.drop (i + 1) := by
   rw [List.drop_eq_getElem_cons (by simp; omega), List.drop_set_of_lt (by omega)]
   simp
  have e2 : (10 : Int) ^ (9 - i) = 10 ^ (9 - (i + 1)) * 10 := by rw [<- Int.pow_succ]; congr 1; omega
  have e3 : (p.drop (i + 1)).length = 9 - (i + 1) := by rw [List.length_drop, h1]
  have hdm := Int.emod_add_mul_ediv c 10
  refine ⟨(p.set i (48 + c % 10), c / 10, (i : Int) - 1), ?_, by dsimp only; omega, i, rfl, by omega, by simp [h1], ?_, by dsimp only; omega, ?_⟩
  ·rw [z28]
   simp (discharger := omega) only [runL]
  ·dsimp only
   rw [hx, List.all_cons, h2, Bool.and_true]
   exact digT_iff.2 (by omega)
  ·dsimp only
   rw [hx, zal, e2, e3]
   generalize (10 : Int) ^ (9 - (i + 1)) = P at *
   grind
theorem zhm {x : List Int} (hx : x.length <= 1000000) (hK : 2000000000 < K) (dx : DigB 1000000000 x) : ∃ b, z29 K x K [] ((x.length : Int) - 1) = some b /\ b.length = 9 * x.length /\ b.all digT = true /\ numB b = valB 1000000000 x := by
 refine z9t (fun k (s : List Int × Int) => z29 K x k s.1 s.2) (fun s => ∃ j : Nat, s.2 = (j : Int) - 1 /\ j <= x.length /\ s.1.length = 9 * (x.length - j) /\ s.1.all digT = true /\ numB s.1 = valB 1000000000 (x.drop j)) (fun s => (s.2 + 1).toNat) _ ?_ (([], (x.length : Int) - 1) : List Int × Int) (by dsimp only; omega) ⟨x.length, rfl, Nat.le_refl _, by simp, by simp, by simp [valB, z8x]⟩
 rintro k ⟨b, _⟩ ⟨j, rfl, hj, h1, h2, h4⟩
 dsimp only at h1 h2 h4 ⊢
 by_cases h0 : j = 0
 ·subst h0
  left
  exact ⟨b, by rw [z29]; simp (discharger := omega) only [runL], h1, h2, h4⟩
 ·right
  obtain ⟨i, rfl⟩ : ∃ i, j = i + 1 := ⟨j - 1, by omega⟩
  have e1 : ((i + 1 : Nat) : Int) - 1 = i := by omega
  rw [e1]
  have ex := z1x (by omega) dx i
  obtain ⟨p, p1, p2, p3, p4⟩ := zjk (K := K) (d := x.getD i 0) ex hK
  have e9 : (10 : Int) ^ 9 = 1000000000 := by decide
  refine ⟨(b ++ p, (i : Int) - 1), ?_, by dsimp only; omega, i, rfl, by omega, by simp; omega, ?_, ?_⟩
  ·rw [z29]
   simp (discharger := omega) only [runL, p1]
  ·dsimp only
   rw [List.all_append, h2, p3]; rfl
  ·dsimp only
   rw [zee, p2, p4, h4, zed x i, e9]
theorem zdp {n : Int} : ∀ k (s : zAd), s.size < k -> s.size <= 16777216 -> (z05 s).all digT = true -> numT s = n -> ∃ t, z0m K 48 k s = some t /\ (z05 t).all digT = true /\ numT t = n /\ (z05 t).head? ≠ some 48 /\ t.size <= s.size := by
 intro k
 induction k with
 | zero => intro s h; omega
 | succ k ih =>
  intro s hk hb hd hn
  have hl := z01 s
  by_cases h0 : s.size > 0
  ·cases hc : z05 s with
   | nil => rw [hc] at hl; simp at hl; omega
   | cons c l =>
    obtain ⟨t, t1, t2, t3⟩ := zb7 hc
    rw [hc] at hd hl
    simp only [List.all_cons, Bool.and_eq_true, List.length_cons] at hd hl
    have hcc : bidx s 0 = some c := by rw [z9d, hc]; rfl
    by_cases h1 : c = 48
    ·subst h1
     obtain ⟨r, r1, r2, r3, r4, r5⟩ := ih t (by omega) (by omega) (by rw [t2]; exact hd.2) (by rw [<- hn, zcp, zcp, t2, hc, zal]; simp)
     refine ⟨r, ?_, r2, r3, r4, by omega⟩
     rw [z0m, hcc, t1]
     simp (discharger := omega) only [runL, r1]
    ·refine ⟨s, ?_, by rw [hc]; simp [hd], hn, by rw [hc]; simp; omega, Nat.le_refl _⟩
     rw [z0m, hcc]
     simp (discharger := omega) only [runL]
  ·refine ⟨s, ?_, hd, hn, ?_, Nat.le_refl _⟩
   ·rw [z0m]
    have e : (decide ((s.size : Int) > 0)) = false := decide_eq_false (by omega)
    rw [e]
    simp (discharger := omega) only [runL, Bool.false_eq_true]
   ·have : z05 s = [] := List.length_eq_zero_iff.1 (by omega)
    rw [this]; simp
theorem zlu {s t : zAd} (h : s.size ≠ t.size) : sEq s t = false := by
 cases e : sEq s t with
 | false => rfl
 | true => rw [sEq_iff] at e; subst e; exact absurd rfl h
theorem zfu {s : zAd} (hs : s.size <= 16777216) (hK : 2000000000 < K) (hp : 0 < numT s) (hd : (z05 s).all digT = true) : ∃ t, z2t K s ⟨#[48]⟩ = some t /\ CanT t /\ numT t = numT s /\ t.size <= s.size := by
 obtain ⟨t, t1, t2, t3, t4, t5⟩ := zdp (K := K) K s (by omega) hs hd rfl
 have ne : ∀ u : zAd, 0 < numT u -> u.size ≠ 0 := fun u hu e => by
  have : z05 u = [] := List.length_eq_zero_iff.1 (by rw [z01]; exact e)
  rw [zcp, this, z8x] at hu; omega
 refine ⟨t, ?_, ⟨ne t (by omega), t2, fun h => absurd h t4⟩, t3, t5⟩
 unfold z2t z2n
 have e1 : sEq s ⟨#[]⟩ = false := zlu (ne s hp)
 have e2 : sEq ⟨#[48]⟩ ⟨#[]⟩ = false := zlu (by decide)
 have e3 : bidx (⟨#[48]⟩ : zAd) 0 = some 48 := rfl
 have e4 : (((⟨#[48]⟩ : zAd).size : Int) == 1) = true := rfl
 rw [e1, e2, e3, e4]
 simp (discharger := omega) only [runL, Bool.false_eq_true, t1]
theorem zhn {x : List Int} {n : Int} (hx : x.length <= 1000000) (hK : 2000000000 < K) (nx : NumN n x) : ∃ t, z48 K x = some t /\ CanT t /\ numT t = n /\ t.size <= 9 * x.length + 1 := by
 unfold z48
 by_cases h0 : x = []
 ·subst h0
  have e : n = 0 := nx.nil_iff.1 rfl
  subst e
  exact ⟨⟨#[48]⟩, rfl, ⟨by decide, rfl, fun _ => rfl⟩, rfl, by decide⟩
 ·have hl : x.length ≠ 0 := fun e => h0 (List.length_eq_zero_iff.1 e)
  obtain ⟨b, b1, b2, b3, b4⟩ := zhm hx hK nx.1.1
  rw [nx.2] at b4
  have hr : ∀ c ∈ b, 0 <= c /\ c <= 255 := fun c hc => by have := digT_iff.1 (List.all_eq_true.1 b3 c hc); omega
  have hb := zc0 b hr
  have hsz : (strOfNums b).size = b.length := by rw [<- z01, hb]
  obtain ⟨t, t1, t2, t3, t4⟩ := zfu (K := K) (s := strOfNums b) (by omega) hK (by rw [zcp, hb, b4]; exact nx.pos h0) (by rw [hb]; exact b3)
  refine ⟨t, ?_, t2, by rw [t3, zcp, hb, b4], by omega⟩
  have e : ((x.length : Int) == 0) = false := by simp; omega
  rw [e]
  simp (discharger := omega) only [runL, Bool.false_eq_true, b1, t1]
end Go.Am.Tryz
/- Plain law: the reference's texts of digits. -/
namespace Go.Am.Tryz
open Go Go.Am Go.Proofs
variable {K : Nat}
theorem zjl {s : zAd} {c : Int} {l : List Int} (h : z05 s = c :: l) : bidx s 0 = some c := by rw [z9d, h]; rfl
theorem zho : ∀ n k (s : zAd), s.size = n -> n < k -> 0 < n -> (z05 s).all digT = true -> ∃ t, z52 K k s = some t /\ CanT t /\ numT t = numT s := by
 intro n
 induction n with
 | zero => intro k s _ _ h; omega
 | succ n ih =>
  intro k s hs hk _ hd
  obtain ⟨k, rfl⟩ : ∃ m, k = m + 1 := ⟨k - 1, by omega⟩
  have hn := z01 s
  cases hb : z05 s with
  | nil => rw [hb] at hn; simp at hn; omega
  | cons c l =>
   rw [z52, zjl hb]
   by_cases h1 : (s.size : Int) > 1
   ·by_cases h2 : c = 48
    ·obtain ⟨t, h3, h4, h5⟩ := zb7 hb
     have hl : l.length = n := by rw [hb] at hn; simp at hn; omega
     obtain ⟨r, h6, h7, h8⟩ := ih k t (by omega) (by omega) (by omega) (by rw [h4]; rw [hb] at hd; simp only [List.all_cons, Bool.and_eq_true] at hd; exact hd.2)
     refine ⟨r, ?_, h7, ?_⟩
     ·simp [h1, h2, h3, h6, tu1]
     ·rw [h8, zja (s := s) (t := t) (c := c) (by rw [hb, h4]), h2]; simp
    ·refine ⟨s, by simp [h1, h2, tu1], ⟨by omega, hd, fun e => ?_⟩, rfl⟩
     rw [hb] at e; simp at e; exact absurd e h2
   ·exact ⟨s, by simp [h1, tu1], ⟨by omega, hd, fun e => by omega⟩, rfl⟩
theorem zam {s : zAd} (hs : s.size <= 1048576) (h0 : 0 < s.size) (hK : s.size < K) (hd : (z05 s).all digT = true) : ∃ t, z6g K s = some t /\ CanT t /\ numT t = numT s := by
 obtain ⟨t, h1, h2⟩ := zho (K := K) s.size K s rfl hK h0 hd
 exact ⟨t, by unfold z6g; rw [h1]; rfl, h2⟩
theorem z8g {s : zAd} (hs : s.size <= 1048576) (hd : (z05 s).all digT = true) (k : Nat) (hk : k <= 1048577) : z57 K s k = some ((z5l s).getD k 0) := by
 have hn := z01 s
 unfold z57
 by_cases h : k < s.size
 ·have h' : ((k : Int) < (s.size : Int)) := by omega
  have hi : s.size - 1 - k < (z05 s).length := by omega
  have e1 : z04 .i64 (z04 .i64 ((s.size : Int) - 1) - (k : Int)) = ((s.size - 1 - k : Nat) : Int) := by
   rw [kw (a := (s.size : Int) - 1) (by omega) (by omega), kw (by omega) (by omega)]; omega
  have hx : (z05 s)[s.size - 1 - k]? = some (z05 s)[s.size - 1 - k] := zAh hi
  have hc := List.all_eq_true.1 hd _ (List.getElem_mem hi)
  simp only [digT, Bool.and_eq_true, decide_eq_true_eq] at hc
  rw [decide_eq_true h', if_pos rfl, e1, z9d, z3y hx]
  have hg : (z5l s).getD k 0 = (z05 s)[s.size - 1 - k] - 48 := by
   unfold z5l
   rw [zAb, List.getElem?_reverse (by simp; omega), List.length_map, hn, List.getElem?_map, hx]
   rfl
  rw [hg]
  generalize (z05 s)[s.size - 1 - k] = c at hc
  have e2 : z04 .u8 (c - 48) = c - 48 := z77 (by simp [z94]; omega)
  have e3 : IntKind.wrap .i64 (c - 48) = c - 48 := by rw [<- z73]; exact kw (by omega) (by omega)
  simp [e2, e3]
 ·have h' : ¬ ((k : Int) < (s.size : Int)) := by omega
  rw [decide_eq_false h', if_neg (by simp)]
  congr 1
  rw [zAb, List.getElem?_eq_none (by rw [z59]; omega)]
  rfl
theorem znw {x : Int} (h : 0 <= x) (h' : x <= 255) : z04 .u8 x = x := z77 (by simp [z94]; omega)
theorem zjm {l : List Int} (hl : l.length <= 1048577) (hK : l.length < K) (hd : DigB 10 l) : z2v K l K (List.replicate l.length 0) 0 = some (l.map (48 + ·)).reverse := by
 suffices h : ∃ r, z2v K l K (List.replicate l.length 0) 0 = some r /\ r = (l.map (48 + ·)).reverse by
  obtain ⟨r, h1, rfl⟩ := h; exact h1
 refine zec (S := List Int) l.length (fun k s i => z2v K l k s i) (fun b i => b.length = l.length /\ ∀ j < l.length, b.getD j 0 = if l.length - 1 - j < i then 48 + l.getD (l.length - 1 - j) 0 else 0) _ ?_ ?_ K _ hK ⟨by simp, fun j hj => by simp [zAb, hj]⟩
 ·rintro k b i hi ⟨hb, hj⟩
  right
  have hp : l.length - 1 - i < b.length := by omega
  have e1 : z04 .i64 (z04 .i64 ((l.length : Int) - 1) - (i : Int)) = ((l.length - 1 - i : Nat) : Int) := by
   rw [kw (a := (l.length : Int) - 1) (by omega) (by omega), kw (by omega) (by omega)]; omega
  have hx := hd (l.getD i 0) (by rw [zAb, zAh hi]; simp)
  have e2 : IntKind.wrap .u8 (z04 .i64 (48 + l.getD i 0)) = 48 + l.getD i 0 := by
   rw [kw (a := 48 + l.getD i 0) (by omega) (by omega), <- z73]; exact znw (by omega) (by omega)
  refine ⟨b.set (l.length - 1 - i) (48 + l.getD i 0), ⟨by simp [hb], fun j hjl => ?_⟩, ?_⟩
  ·have hg : (b.set (l.length - 1 - i) (48 + l.getD i 0)).getD j 0 = if j = l.length - 1 - i then 48 + l.getD i 0 else b.getD j 0 := z7j hp
   rw [hg, hj j hjl]
   by_cases e : j = l.length - 1 - i
   ·have e3 : l.length - 1 - j = i := by omega
    rw [if_pos e, e3, if_pos (zAg i)]
   ·rw [if_neg e]
    by_cases e3 : l.length - 1 - j < i
    ·rw [if_pos e3, if_pos (by omega)]
    ·rw [if_neg e3, if_neg (by omega)]
  ·show z2v K l (k + 1) b i = _
   rw [z2v, zj9 hi, if_pos rfl, zhg hi]
   simp only [Option.bind_some, e1, zhg hp, e2, Int.toNat_natCast, kw1 hi (by omega)]
 ·rintro k b i rfl ⟨hb, hj⟩
  refine ⟨b, ?_, ?_⟩
  ·show z2v K l (k + 1) b l.length = _
   rw [z2v, zf0 (Nat.le_refl _)]; simp
  ·apply List.ext_getElem (by simp [hb])
   intro j h1 h2
   have h3 := hj j (by omega)
   rw [if_pos (by omega), zAb, zAh h1, zAb, zAh (show l.length - 1 - j < l.length by omega)] at h3
   simp at h3
   simp [h3]
theorem zef {l : List Int} (hl : l.length <= 1048575) (h0 : l ≠ []) (hK : l.length + 1 < K) (hd : DigB 10 l) : ∃ t, z8t K l = some t /\ CanT t /\ numT t = valB 10 l := by
 have hlen : 0 < l.length := by cases l with | nil => exact absurd rfl h0 | cons _ _ => simp
 have hrange : ∀ x ∈ (l.map (48 + ·)).reverse, 0 <= x /\ x <= 255 := fun x hx => by
  rw [List.mem_reverse, List.mem_map] at hx
  obtain ⟨d, h1, rfl⟩ := hx
  have := hd d h1
  omega
 have hb := zc0 _ hrange
 have hz : z05 ((⟨#[48]⟩ : zAd) ++ strOfNums (l.map (48 + ·)).reverse) = 48 :: (l.map (48 + ·)).reverse := by
  rw [z0u, hb]; rfl
 have hsz : ((⟨#[48]⟩ : zAd) ++ strOfNums (l.map (48 + ·)).reverse).size = l.length + 1 := by
  rw [<- z01, hz]; simp
 have hdg : (z05 ((⟨#[48]⟩ : zAd) ++ strOfNums (l.map (48 + ·)).reverse)).all digT = true := by
  rw [hz, List.all_eq_true]
  intro x hx
  rcases List.mem_cons.1 hx with rfl | hx
  ·rfl
  ·rw [List.mem_reverse, List.mem_map] at hx
   obtain ⟨d, h1, rfl⟩ := hx
   have := hd d h1
   simp [digT]; omega
 obtain ⟨t, h1, h2, h3⟩ := zam (K := K) (s := (⟨#[48]⟩ : zAd) ++ strOfNums (l.map (48 + ·)).reverse) (by omega) (by omega) (by omega) hdg
 refine ⟨t, ?_, h2, ?_⟩
 ·unfold z8t
  rw [if_pos (by omega), Int.toNat_natCast, zjm (by omega) (by omega) hd]
  have e1 : (⟨#[48]⟩ : zAd).size = 1 := rfl
  simp only [Option.bind_some, tu1, List.length_reverse, List.length_map, strOfNums_size, e1]
  rw [if_pos hlen, if_pos (by omega), h1]
  rfl
 ·rw [h3]
  unfold numT z5l
  rw [hz, List.map_cons, List.reverse_cons, z5k, List.map_reverse, List.reverse_reverse, List.map_map]
  have : l.map ((fun x => x - 48) ∘ (fun x => 48 + x)) = l := by
   conv => rhs; rw [<- List.map_id l]
   apply List.map_congr_left
   intro x _
   show 48 + x - 48 = x
   omega
  rw [this]
  simp [valB]
end Go.Am.Tryz
/- Plain law: the reference's sum and difference of texts. -/
namespace Go.Am.Tryz
open Go Go.Am Go.Proofs
variable {K : Nat}
theorem zcq (B : Int) (x : List Int) (k : Nat) : valB B (x.take (k + 1)) = valB B (x.take k) + B ^ k * x.getD k 0 := by
 by_cases h : k < x.length
 ·have hx : x[k]? = some x[k] := zAh h
  rw [List.take_add_one, hx, z5k, List.length_take, Nat.min_eq_left (by omega), zAb, hx]
  simp [valB]
 ·rw [List.take_of_length_le (by omega), List.take_of_length_le (by omega), zAb, List.getElem?_eq_none (by omega)]
  simp
theorem zjn {B : Int} (hB : 0 < B) {x : List Int} (h : DigB B x) (k : Nat) : 0 <= x.getD k 0 /\ x.getD k 0 < B := by
 by_cases hk : k < x.length
 ·rw [zAb, zAh hk]
  exact h _ (List.getElem_mem hk)
 ·rw [zAb, List.getElem?_eq_none (by omega)]
  simp [hB]
theorem zhp {i j : Nat} (h : i <= j) : (10 : Int) ^ i <= 10 ^ j := by
 have h1 : (10 : Nat) ^ i <= 10 ^ j := Nat.pow_le_pow_right (by omega) h
 have h2 : ((10 ^ i : Nat) : Int) <= ((10 ^ j : Nat) : Int) := by omega
 simpa using h2
theorem zjo (i : Nat) : 0 < (10 : Int) ^ i := by
 have h1 : 0 < (10 : Nat) ^ i := Nat.pow_pos (by omega)
 have h2 : (0 : Int) < ((10 ^ i : Nat) : Int) := by omega
 simpa using h2
theorem zlv {a b : zAd} (ha : a.size <= 1000000) (hb : b.size <= 1000000) (h0 : 0 < a.size) (hK : 1048580 < K) (da : (z05 a).all digT = true) (db : (z05 b).all digT = true) : ∃ t, z87 K a b = some t /\ CanT t /\ numT t = numT a + numT b := by
 have dx := z7i da
 have dy := z7i db
 have lx := z59 a
 have ly := z59 b
 have vx := z4t (B := 10) (by omega) _ dx
 have vy := z4t (B := 10) (by omega) _ dy
 have key : ∃ r, z2b K a b K [] 0 0 = some r /\ r ≠ [] /\ r.length <= 1048575 /\ DigB 10 r /\ valB 10 r = numT a + numT b := by
  refine zec (S := List Int × Int) (max a.size b.size + 1) (fun k s i => z2b K a b k s.1 s.2 i) (fun s i => s.1.length = i /\ DigB 10 s.1 /\ (0 <= s.2 /\ s.2 <= 1) /\ valB 10 s.1 + 10 ^ i * s.2 = valB 10 ((z5l a).take i) + valB 10 ((z5l b).take i)) _ ?_ ?_ K ([], 0) (by omega) ⟨rfl, DigB.nil 10, ⟨by omega, by omega⟩, by simp [valB]⟩
  ·rintro k ⟨out, c⟩ i hi ⟨h1, h2, h3, h4⟩
   simp only at h1 h2 h3 h4
   have hcond : (if (decide ((i : Int) < (a.size : Int))) = true then some true else (if (decide ((i : Int) < (b.size : Int))) = true then some true else some (decide (c > 0)))) = some (decide ((i < a.size \/ i < b.size) \/ c > 0)) := by
    by_cases e1 : i < a.size
    ·simp [e1]
    ·by_cases e2 : i < b.size
     ·simp [e1, e2]
     ·simp [e1, e2]
   show (∃ r, z2b K a b (k + 1) out c i = some r /\ _) \/ _
   rw [z2b, hcond]
   simp only [Option.bind_some, tu1]
   by_cases hc : (i < a.size \/ i < b.size) \/ c > 0
   ·right
    have ex := zjn (by omega) dx i
    have ey := zjn (by omega) dy i
    rw [decide_eq_true hc, if_pos rfl, z8g (by omega) da i (by omega), z8g (by omega) db i (by omega)]
    have tx := zcq 10 (z5l a) i
    have ty := zcq 10 (z5l b) i
    generalize (z5l a).getD i 0 = x at ex tx
    generalize (z5l b).getD i 0 = y at ey ty
    have e1 : z04 .i64 (x + y) = x + y := kw (by omega) (by omega)
    have e2 : z04 .i64 (x + y + c) = x + y + c := kw (by omega) (by omega)
    have e3 : Int.tmod (x + y + c) 10 = (x + y + c) % 10 := Int.tmod_eq_emod_of_nonneg (by omega)
    have e4 : Int.tdiv (x + y + c) 10 = (x + y + c) / 10 := Int.tdiv_eq_ediv_of_nonneg (by omega)
    have e5 : z04 .i64 ((x + y + c) / 10) = (x + y + c) / 10 := kw (by omega) (by omega)
    refine ⟨(out ++ [(x + y + c) % 10], (x + y + c) / 10), ⟨by simp [h1], h2.app (fun d hd => by simp at hd; omega), ⟨by omega, by omega⟩, ?_⟩, ?_⟩
    ·have hm := Int.emod_add_mul_ediv (x + y + c) 10
     generalize hq : (x + y + c) / 10 = q at hm
     generalize hr : (x + y + c) % 10 = r at hm
     simp only
     rw [z5k, h1, tx, ty, Int.pow_succ]
     simp only [valB, Int.mul_zero, Int.add_zero]
     generalize valB 10 ((z5l a).take i) = A at h4
     generalize valB 10 ((z5l b).take i) = B at h4
     generalize valB 10 out = C at h4
     generalize (10 : Int) ^ i = p at h4
     have e6 : p * (r + 10 * q) = p * (x + y + c) := by rw [hm]
     rw [Int.mul_add, Int.mul_add, Int.mul_add, <- Int.mul_assoc] at e6
     omega
    ·simp only [Option.bind_some, e1, e2, e3, e4, e5, lt, List.length_cons, List.length_nil, kw1 hi (by omega)]
     rw [if_pos (by omega)]
   ·left
    rw [decide_eq_false hc]
    refine ⟨out, by simp, ?_, by omega, h2, ?_⟩
    ·intro e; rw [e] at h1; simp at h1; omega
    ·rw [List.take_of_length_le (by omega), List.take_of_length_le (by omega)] at h4
     have : c = 0 := by omega
     rw [this] at h4
     unfold numT
     omega
  ·rintro k ⟨out, c⟩ i rfl ⟨h1, h2, h3, h4⟩
   simp only at h1 h2 h3 h4
   rw [List.take_of_length_le (by omega), List.take_of_length_le (by omega)] at h4
   have p1 : (10 : Int) ^ (z5l a).length <= 10 ^ (max a.size b.size) := zhp (by omega)
   have p2 : (10 : Int) ^ (z5l b).length <= 10 ^ (max a.size b.size) := zhp (by omega)
   have p3 := z13 (B := 10) (by omega) _ h2
   have p4 := zjo (max a.size b.size)
   have hc0 : c = 0 := by
    by_cases e : c = 0
    ·exact e
    ·have e1 : c = 1 := by omega
     rw [e1, Int.mul_one, Int.pow_succ] at h4
     omega
   subst hc0
   have hcond : (if (decide (((max a.size b.size + 1 : Nat) : Int) < (a.size : Int))) = true then some true else (if (decide (((max a.size b.size + 1 : Nat) : Int) < (b.size : Int))) = true then some true else some (decide ((0 : Int) > 0)))) = some false := by
    rw [decide_eq_false (by omega), decide_eq_false (by omega)]; rfl
   refine ⟨out, ?_, ?_, by omega, h2, by unfold numT; omega⟩
   ·show z2b K a b (k + 1) out 0 _ = _
    rw [z2b, hcond]; rfl
   ·intro e; rw [e] at h1; simp at h1
 obtain ⟨r, h1, h2, h3, h4, h5⟩ := key
 obtain ⟨t, h6, h7, h8⟩ := zef (K := K) h3 h2 (by omega) h4
 refine ⟨t, ?_, h7, by rw [h8, h5]⟩
 unfold z87
 rw [h1]
 simp only [Option.bind_some, tu1, h6]
theorem zhq {a b : zAd} (ha : a.size <= 1000000) (hb : b.size <= a.size) (h0 : 0 < a.size) (hK : 1048580 < K) (da : (z05 a).all digT = true) (db : (z05 b).all digT = true) (hle : numT b <= numT a) : ∃ t, z70 K a b = some t /\ CanT t /\ numT t = numT a - numT b := by
 have dx := z7i da
 have dy := z7i db
 have lx := z59 a
 have ly := z59 b
 have key : ∃ r, z2a K a b K [] 0 0 = some r /\ r ≠ [] /\ r.length <= 1048575 /\ DigB 10 r /\ valB 10 r = numT a - numT b := by
  refine zec (S := List Int × Int) a.size (fun k s i => z2a K a b k s.1 s.2 i) (fun s i => s.1.length = i /\ DigB 10 s.1 /\ (0 <= s.2 /\ s.2 <= 1) /\ valB 10 s.1 + valB 10 ((z5l b).take i) = valB 10 ((z5l a).take i) + 10 ^ i * s.2) _ ?_ ?_ K ([], 0) (by omega) ⟨rfl, DigB.nil 10, ⟨by omega, by omega⟩, by simp [valB]⟩
  ·rintro k ⟨out, c⟩ i hi ⟨h1, h2, h3, h4⟩
   simp only at h1 h2 h3 h4
   right
   have ex := zjn (by omega) dx i
   have ey := zjn (by omega) dy i
   show ∃ s', _ /\ z2a K a b (k + 1) out c i = _
   rw [z2a, zj9 hi, if_pos rfl, z8g (by omega) da i (by omega), z8g (by omega) db i (by omega)]
   have tx := zcq 10 (z5l a) i
   have ty := zcq 10 (z5l b) i
   generalize (z5l a).getD i 0 = x at ex tx
   generalize (z5l b).getD i 0 = y at ey ty
   have e1 : z04 .i64 (x - y) = x - y := kw (by omega) (by omega)
   have e2 : z04 .i64 (x - y - c) = x - y - c := kw (by omega) (by omega)
   have e3 : z04 .i64 (x - y - c + 10) = x - y - c + 10 := kw (by omega) (by omega)
   simp only [Option.bind_some, e1, e2, e3, lt, tu2, List.length_cons, List.length_nil, kw1 hi (by omega)]
   have h9 : out.length + (0 + 1) <= 16777216 := by omega
   by_cases hn : x - y - c < 0
   ·refine ⟨(out ++ [x - y - c + 10], 1), ⟨by simp [h1], h2.app (fun d hd => by simp at hd; omega), ⟨by omega, by omega⟩, ?_⟩, ?_⟩
    ·simp only
     rw [z5k, h1, tx, ty, Int.pow_succ]
     simp only [valB, Int.mul_zero, Int.add_zero, Int.mul_one]
     generalize valB 10 ((z5l a).take i) = A at h4
     generalize valB 10 ((z5l b).take i) = B at h4
     generalize valB 10 out = C at h4
     generalize (10 : Int) ^ i = p at h4
     rw [Int.mul_add, Int.mul_sub, Int.mul_sub]
     omega
    ·rw [decide_eq_true hn]
     simp only [if_true, Option.bind_some, if_pos h9, tu2]
   ·refine ⟨(out ++ [x - y - c], 0), ⟨by simp [h1], h2.app (fun d hd => by simp at hd; omega), ⟨by omega, by omega⟩, ?_⟩, ?_⟩
    ·simp only
     rw [z5k, h1, tx, ty, Int.pow_succ]
     simp only [valB, Int.mul_zero, Int.add_zero]
     generalize valB 10 ((z5l a).take i) = A at h4
     generalize valB 10 ((z5l b).take i) = B at h4
     generalize valB 10 out = C at h4
     generalize (10 : Int) ^ i = p at h4
     rw [Int.mul_sub, Int.mul_sub]
     omega
    ·rw [decide_eq_false hn]
     simp only [Bool.false_eq_true, if_false, Option.bind_some, if_pos h9, tu2]
  ·rintro k ⟨out, c⟩ i rfl ⟨h1, h2, h3, h4⟩
   simp only at h1 h2 h3 h4
   rw [List.take_of_length_le (by omega), List.take_of_length_le (by omega)] at h4
   have p3 := z4t (B := 10) (by omega) _ h2
   rw [h1] at p3
   have hle' : valB 10 (z5l b) <= valB 10 (z5l a) := hle
   have hc0 : c = 0 := by
    by_cases e : c = 0
    ·exact e
    ·have e1 : c = 1 := by omega
     rw [e1, Int.mul_one] at h4
     omega
   subst hc0
   refine ⟨out, ?_, ?_, by omega, h2, by unfold numT; omega⟩
   ·show z2a K a b (k + 1) out 0 _ = _
    rw [z2a, zf0 (Nat.le_refl _)]; simp
   ·intro e; rw [e] at h1; simp at h1; omega
 obtain ⟨r, h1, h2, h3, h4, h5⟩ := key
 obtain ⟨t, h6, h7, h8⟩ := zef (K := K) h3 h2 (by omega) h4
 refine ⟨t, ?_, h7, by rw [h8, h5]⟩
 unfold z70
 rw [h1]
 simp only [Option.bind_some, tu1, h6]
end Go.Am.Tryz
/- Plain law: the reference's comparison, product, quotient and divisor of texts. -/
namespace Go.Am.Tryz
open Go Go.Am Go.Proofs
variable {K : Nat}
theorem z3h {s : zAd} (h : (z05 s).all digT = true) : 0 <= numT s := z61 h
theorem zbb {s : zAd} (h : (z05 s).all digT = true) : numT s < 10 ^ s.size := by
 have := zc1 h
 rwa [z01] at this
theorem zc2 {s : zAd} (h : CanT s) (h2 : 2 <= s.size) : (10 : Int) ^ (s.size - 1) <= numT s := by
 have hh : (z05 s).head? ≠ some 48 := fun e => by have := h.2.2 e; omega
 have h3 := zhi (B := 10) (by omega) (zco h hh) (by intro e; have := z59 s; rw [e] at this; simp at this; omega)
 rwa [z59] at h3
theorem zbc {a b : zAd} (ha : (z05 a).all digT = true) (hb : CanT b) (h0 : a.size ≠ 0) (h : a.size < b.size) : numT a < numT b := by
 have h1 := zbb ha
 have h2 := zc2 hb (by omega)
 have h3 : (10 : Int) ^ a.size <= 10 ^ (b.size - 1) := z6h (by omega) (by omega)
 omega
theorem z3x {a b : zAd} (ha : CanT a) (hb : CanT b) (h : numT b <= numT a) : b.size <= a.size := by
 refine Nat.not_lt.1 fun hl => ?_
 have := zbc ha.2.1 hb ha.1 hl
 omega
theorem zan : CanT ⟨#[48]⟩ := ⟨by decide, rfl, fun _ => rfl⟩
theorem z6i : numT ⟨#[48]⟩ = 0 := rfl
theorem za1 : CanT ⟨#[49]⟩ := ⟨by decide, rfl, fun h => by simp [z05] at h⟩
theorem z8y : numT ⟨#[49]⟩ = 1 := rfl
theorem zbd {s : zAd} (h : CanT s) : numT s = 0 ↔ s = ⟨#[48]⟩ := ⟨fun e => z8w h zan (by rw [e, z6i]), fun e => by rw [e, z6i]⟩
theorem zaa : ∀ (x y : List UInt8), x.length = y.length -> (x.map fun b => (b.toNat : Int)).all digT = true -> (y.map fun b => (b.toNat : Int)).all digT = true -> (Op.bytesLess x y = true ↔ numB (x.map fun b => (b.toNat : Int)) < numB (y.map fun b => (b.toNat : Int)))
 | [], [], _, _, _ => by simp [Op.bytesLess]
 | [], _ :: _, h, _, _ => by simp at h
 | _ :: _, [], h, _, _ => by simp at h
 | a :: x, b :: y, h, hx, hy => by
  simp only [List.map_cons, List.all_cons, Bool.and_eq_true] at hx hy
  simp only [List.length_cons, Nat.add_right_cancel_iff] at h
  have ih := zaa x y h hx.2 hy.2
  have dx := digT_iff.1 hx.1
  have dy := digT_iff.1 hy.1
  simp only [Op.bytesLess, List.map_cons, zal, List.length_map, h]
  have lx0 := z61 hx.2
  have lx1 := zc1 hx.2
  have ly0 := z61 hy.2
  have ly1 := zc1 hy.2
  rw [List.length_map] at lx1 ly1
  rw [h] at lx1
  generalize numB (x.map fun b => (b.toNat : Int)) = X at *
  generalize numB (y.map fun b => (b.toNat : Int)) = Y at *
  have p0 : (0 : Int) < 10 ^ y.length := Int.pow_pos (by omega)
  generalize (10 : Int) ^ y.length = P at *
  rw [Bool.or_eq_true, Bool.and_eq_true, ih, decide_eq_true_eq, beq_iff_eq, UInt8.lt_iff_toNat_lt]
  rcases Nat.lt_trichotomy a.toNat b.toNat with h1 | h1 | h1
  ·have := z3j (Int.le_of_lt p0) (show ((a.toNat : Int) - 48) + 1 <= (b.toNat : Int) - 48 by omega)
   rw [Int.mul_add, Int.mul_one] at this
   exact ⟨fun _ => by omega, fun _ => .inl h1⟩
  ·have e : a = b := UInt8.toNat_inj.1 h1
   subst e
   exact ⟨fun h => by rcases h with h | h <;> omega, fun h => .inr ⟨rfl, by omega⟩⟩
  ·have := z3j (Int.le_of_lt p0) (show ((b.toNat : Int) - 48) + 1 <= (a.toNat : Int) - 48 by omega)
   rw [Int.mul_add, Int.mul_one] at this
   refine ⟨fun h => ?_, fun h => by omega⟩
   rcases h with h | ⟨h, _⟩
   ·omega
   ·subst h; omega
theorem zlw {a b : zAd} (h : a.size = b.size) (ha : (z05 a).all digT = true) (hb : (z05 b).all digT = true) : sLt a b = decide (numT a < numT b) := by
 have := zaa a.data.toList b.data.toList (by simpa using h) ha hb
 unfold sLt
 rw [ByteArray.toList_eq, ByteArray.toList_eq]
 by_cases c : numT a < numT b
 ·rw [decide_eq_true c]; exact this.2 c
 ·rw [decide_eq_false c]
  cases e : Op.bytesLess a.data.toList b.data.toList with
  | false => rfl
  | true => exact absurd (this.1 e) c
theorem zk5 {a b : zAd} (ha : CanT a) (hb : CanT b) : z6z K a b = some (if numT a < numT b then -1 else if numT a = numT b then 0 else 1) := by
 unfold z6z
 by_cases h1 : a.size < b.size
 ·have := zbc ha.2.1 hb ha.1 h1
  simp (discharger := omega) only [runL]
 ·by_cases h2 : a.size > b.size
  ·have := zbc hb.2.1 ha hb.1 h2
   simp (discharger := omega) only [runL]
  ·have he : a.size = b.size := by omega
   rw [if_neg (by simp; omega), if_neg (by simp; omega), zlw he ha.2.1 hb.2.1]
   by_cases c : numT a < numT b
   ·simp (discharger := omega) only [runL]
   ·by_cases d : numT a = numT b
    ·have : a = b := z8w ha hb d
     subst this
     have e : sEq a a = true := sEq_iff.2 rfl
     simp [e]
    ·have e : sEq a b = false := by
      cases e : sEq a b with
      | false => rfl
      | true => rw [sEq_iff] at e; subst e; exact absurd rfl d
     simp [e, c, d]
theorem zlx {b : zAd} {out : List Int} {u : Int} {i : Nat} (hb : b.size <= 1000000) (hl : i + b.size < out.length) (ho : out.length <= 8000000) (hK : 2000000000 < K) (hu : 0 <= u /\ u <= 9) (db : (z05 b).all digT = true) (d0 : DigB 10 out) :
  ∃ r : List Int, z33 K b (i : Int) u K out 0 = some r /\ r.length = out.length /\ (∀ j, 0 <= r.getD j 0 /\ r.getD j 0 <= 90) /\ valB 10 r = valB 10 out + 10 ^ i * (u * numT b) := by
 have dx := z7i db
 have lx := z59 b
 refine z9t (fun k (s : List Int × Int) => z33 K b (i : Int) u k s.1 s.2) (fun s => ∃ q : Nat, s.2 = q /\ q <= b.size /\ s.1.length = out.length /\ (∀ j, 0 <= s.1.getD j 0 /\ s.1.getD j 0 <= 90) /\ (∀ j, i + q <= j -> s.1.getD j 0 <= 9) /\ valB 10 s.1 = valB 10 out + 10 ^ i * (u * valB 10 ((z5l b).take q))) (fun s => (b.size - s.2 : Int).toNat) _ ?_ ((out, 0) : List Int × Int) (by simp; omega) ⟨0, rfl, by omega, rfl, fun j => by have := z1x (by omega) d0 j; dsimp only; omega, fun j _ => by have := z1x (by omega) d0 j; dsimp only; omega, by simp [valB]⟩
 rintro k ⟨o, _⟩ ⟨q, rfl, h0, h1, h2, h3, h4⟩
 dsimp only at h1 h2 h3 h4 ⊢
 by_cases hq : q < b.size
 ·right
  have ey := z1x (by omega) dx q
  have eo := h2 (i + q)
  have eo9 := h3 (i + q) (Nat.le_refl _)
  have ty := z3d 10 (z5l b) q
  have hdg := z8g (K := K) (s := b) (by omega) db q (by omega)
  have hm : 0 <= u * (z5l b).getD q 0 /\ u * (z5l b).getD q 0 <= 81 := by
   have := z3j hu.1 (show (z5l b).getD q 0 <= 9 by omega)
   exact ⟨z8j hu.1 ey.1, by omega⟩
  have hset := fun d => z6n 10 o (i + q) d (by omega)
  have hgs := fun d j => z7j (cs := o) (i := i + q) (j := j) (v := d) (by omega)
  have e1 : ((i : Int) + (q : Int)) = ((i + q : Nat) : Int) := by omega
  generalize hw : u * (z5l b).getD q 0 = w at hm
  generalize ho : o.getD (i + q) 0 = z at eo eo9 hset
  refine ⟨(o.set (i + q) (z + w), (q : Int) + 1), ?_, by dsimp only; omega, q + 1, rfl, by omega, by simp [h1], fun j => ?_, fun j hj => ?_, ?_⟩
  ·rw [z33, hdg]
   simp (discharger := omega) only [runL, e1, hw, ho]
  ·dsimp only; rw [hgs]; split
   ·omega
   ·exact h2 j
  ·dsimp only; rw [hgs, if_neg (by omega)]; exact h3 j (by omega)
  ·dsimp only
   rw [hset, h4, ty, <- hw, Int.pow_add]
   grind
 ·left
  have : q = b.size := by omega
  subst this
  rw [List.take_of_length_le (by omega)] at h4
  exact ⟨o, by rw [z33]; simp (discharger := omega) only [runL], h1, h2, h4⟩
theorem zhr {c v : List Int} (hv : v.length + 1 = c.length) (hl : c.length <= 8000000) (hK : 2000000000 < K) (hc : ∀ j, 0 <= c.getD j 0 /\ c.getD j 0 <= 90) :
  ∃ r : List Int, z2o K v K c 0 = some r /\ r.length = c.length /\ (∀ j, 0 <= r.getD j 0) /\ (∀ j < v.length, r.getD j 0 <= 9) /\ valB 10 r = valB 10 c := by
 refine z9t (fun k (s : List Int × Int) => z2o K v k s.1 s.2) (fun s => ∃ i : Nat, s.2 = i /\ i <= v.length /\ s.1.length = c.length /\ (∀ j, 0 <= s.1.getD j 0 /\ s.1.getD j 0 <= 100) /\ (∀ j, i < j -> s.1.getD j 0 <= 90) /\ (∀ j < i, s.1.getD j 0 <= 9) /\ valB 10 s.1 = valB 10 c) (fun s => (v.length - s.2 : Int).toNat) _ ?_ ((c, 0) : List Int × Int) (by simp; omega) ⟨0, rfl, by omega, rfl, fun j => by have := hc j; dsimp only; omega, fun j _ => by have := hc j; dsimp only; omega, fun j hj => by omega, rfl⟩
 rintro k ⟨o, _⟩ ⟨i, rfl, h0, h1, h2, h3, h4, h5⟩
 dsimp only at h1 h2 h3 h4 h5 ⊢
 by_cases hi : i < v.length
 ·right
  have e1 : ((i : Int) + 1).toNat = i + 1 := by omega
  have b1 := h2 i
  have b2 := h2 (i + 1)
  have b3 := h3 (i + 1) (by omega)
  by_cases h9 : o.getD i 0 > 9
  ·generalize hz : o.getD i 0 = z at *
   generalize hz1 : o.getD (i + 1) 0 = z1 at *
   have hdm := Int.emod_add_mul_ediv z 10
   have hset := fun d => z6n 10 o (i + 1) d (by omega)
   have hset2 := fun d e => z6n 10 (o.set (i + 1) d) i e (by simp; omega)
   have hgs := fun d j => z7j (cs := o) (i := i + 1) (j := j) (v := d) (by omega)
   have hgs2 := fun d e j => z7j (cs := o.set (i + 1) d) (i := i) (j := j) (v := e) (by simp; omega)
   have hgi := fun d => hgs d i
   simp only [show ¬ i = i + 1 by omega, if_false, hz] at hgi
   have hsi : ∀ d, idx (o.set (i + 1) d) (i : Int) = some z := fun d => by rw [idxI (by omega) (by simp; omega), Int.toNat_natCast, hgi]
   refine ⟨((o.set (i + 1) (z1 + z / 10)).set i (z % 10), (i : Int) + 1), ?_, by dsimp only; omega, i + 1, rfl, by omega, by simp [h1], fun j => ?_, fun j hj => ?_, fun j hj => ?_, ?_⟩
   ·rw [z2o]
    simp (discharger := omega) only [runL, e1, hz, hz1, hsi]
   ·dsimp only; rw [hgs2, hgs]
    have := h2 j
    split
    ·omega
    ·split <;> omega
   ·dsimp only; rw [hgs2, hgs, if_neg (by omega), if_neg (by omega)]; exact h3 j (by omega)
   ·dsimp only; rw [hgs2]
    split
    ·omega
    ·rw [hgs, if_neg (by omega)]; exact h4 j (by omega)
   ·dsimp only
    rw [hset2, hset, hgi, hz1, h5, Int.pow_succ]
    grind
  ·refine ⟨(o, (i : Int) + 1), ?_, by dsimp only; omega, i + 1, rfl, by omega, h1, h2, fun j hj => h3 j (by omega), fun j hj => ?_, h5⟩
   ·have e : decide (o.getD i 0 > 9) = false := decide_eq_false h9
    rw [z2o]
    simp (discharger := omega) only [runL, e, Bool.false_eq_true]
   ·by_cases hj2 : j = i
    ·subst hj2; dsimp only; omega
    ·exact h4 j (by omega)
 ·left
  have : i = v.length := by omega
  subst this
  exact ⟨o, by rw [z2o]; simp (discharger := omega) only [runL], h1, fun j => (h2 j).1, h4, h5⟩
theorem kr1 {A B p q X : Int} : A * B + p * (q * B) = (A + p * q) * B := by grind
theorem zjp {a b : zAd} (ha : a.size <= 500000) (hb : b.size <= 500000) (hK : 2000000000 < K) (da : (z05 a).all digT = true) (db : (z05 b).all digT = true) :
  ∃ r : List Int, z34 K a b K (List.replicate (a.size + b.size + 1) 0) 0 = some r /\ r.length = a.size + b.size + 1 /\ DigB 10 r /\ valB 10 r = numT a * numT b := by
 have dx := z7i da
 have lx := z59 a
 refine z9t (fun k (s : List Int × Int) => z34 K a b k s.1 s.2) (fun s => ∃ i : Nat, s.2 = i /\ i <= a.size /\ s.1.length = a.size + b.size + 1 /\ DigB 10 s.1 /\ valB 10 s.1 = valB 10 ((z5l a).take i) * numT b) (fun s => (a.size - s.2 : Int).toNat) _ ?_ ((List.replicate (a.size + b.size + 1) 0, 0) : List Int × Int) (by simp; omega) ⟨0, rfl, by omega, by simp, .zeros (by omega) _, by simp [valB, z9n]⟩
 rintro k ⟨o, _⟩ ⟨i, rfl, h0, h1, h2, h4⟩
 dsimp only at h1 h2 h4 ⊢
 by_cases hi : i < a.size
 ·right
  have ex := z1x (by omega) dx i
  have tx := z3d 10 (z5l a) i
  have hdg := z8g (K := K) (s := a) (by omega) da i (by omega)
  obtain ⟨c, c1, c2, c3, c4⟩ := zlx (K := K) (b := b) (out := o) (u := (z5l a).getD i 0) (i := i) (by omega) (by omega) (by omega) hK ⟨ex.1, by omega⟩ db h2
  obtain ⟨v, hv⟩ : ∃ v, lsl c 0 ((c.length : Int) - 1) = some v := ⟨_, lslI (by omega) (by omega) (by omega)⟩
  have hvl : v.length + 1 = c.length := by
   rw [lslI (by omega) (by omega) (by omega)] at hv
   cases hv
   rw [List.length_take, List.length_drop]
   omega
  obtain ⟨r, r1, r2, r3, r4, r5⟩ := zhr (K := K) (c := c) (v := v) hvl (by omega) hK c3
  have hval : valB 10 r = valB 10 ((z5l a).take (i + 1)) * numT b := by
   rw [r5, c4, h4, tx, kr1 (X := 0)]
  -- no digit is left over
  have htop : r.getD v.length 0 = 0 := by
   have s1 := z8b 10 r v.length (by omega)
   have dlow : DigB 10 (r.take v.length) := fun d hd => by
    obtain ⟨j, hj, rfl⟩ := List.mem_iff_getElem.1 hd
    rw [List.length_take] at hj
    have q1 := r3 j
    have q2 := r4 j (by omega)
    rw [List.getElem_take]
    rw [zAb, zAh (by omega)] at q1 q2
    simp at q1 q2
    omega
   have s2 := z13 (B := 10) (by omega) _ dlow
   have s3 : r.drop v.length = [r.getD v.length 0] := by
    rw [List.drop_eq_getElem_cons (by omega), List.drop_eq_nil_of_le (by omega), zAb, zAh (by omega)]; rfl
   rw [s3] at s1
   simp only [valB, Int.mul_zero, Int.add_zero] at s1
   have t1 := z4t (B := 10) (by omega) _ (dx.take (i + 1))
   have t2 := zbb db
   have t3 := z3h db
   have t4 := z13 (B := 10) (by omega) _ (dx.take (i + 1))
   have t5 : (10 : Int) ^ ((z5l a).take (i + 1)).length <= 10 ^ a.size := z6h (by omega) (by rw [List.length_take]; omega)
   have t6 : valB 10 r < 10 ^ v.length := by
    rw [hval, show v.length = a.size + b.size by omega, Int.pow_add]
    have p0 : (0 : Int) < 10 ^ b.size := Int.pow_pos (by omega)
    have m1 := z3j t4 (show numT b <= 10 ^ b.size by omega)
    have m2 := Int.mul_lt_mul_of_pos_right (show valB 10 ((z5l a).take (i + 1)) < 10 ^ a.size by omega) p0
    omega
   refine Int.le_antisymm (Int.not_lt.1 fun hlt => ?_) (r3 _)
   have p0 : (0 : Int) < 10 ^ v.length := Int.pow_pos (by omega)
   have := z3j (Int.le_of_lt p0) (show 1 <= r.getD v.length 0 by omega)
   omega
  have dr : DigB 10 r := fun d hd => by
   obtain ⟨j, hj, rfl⟩ := List.mem_iff_getElem.1 hd
   have q1 := r3 j
   have q2 : r.getD j 0 <= 9 := by
    by_cases hjv : j < v.length
    ·exact r4 j hjv
    ·have : j = v.length := by omega
     subst this; omega
   rw [zAb, zAh hj] at q1 q2
   simp at q1 q2
   omega
  refine ⟨(r, (i : Int) + 1), ?_, by dsimp only; omega, i + 1, rfl, by omega, by dsimp only; omega, dr, hval⟩
  have hcl : (c.length : Int) - 1 = c.length - 1 := rfl
  rw [z34, hdg, if_pos (decide_eq_true (by omega)), z0d, c1, z0d, tu1a, k64 (by omega) (by omega), hv, z0d, r1, z0d, tu1a, k64 (by omega) (by omega)]
 ·left
  have : i = a.size := by omega
  subst this
  rw [List.take_of_length_le (by omega)] at h4
  exact ⟨o, by rw [z34]; simp (discharger := omega) only [runL], h1, h2, h4⟩
theorem zhs {a b : zAd} (ha : a.size <= 500000) (hb : b.size <= 500000) (hK : 2000000000 < K) (da : (z05 a).all digT = true) (db : (z05 b).all digT = true) : ∃ t, z6e K a b = some t /\ CanT t /\ numT t = numT a * numT b := by
 obtain ⟨r, h1, h2, h3, h4⟩ := zjp ha hb hK da db
 obtain ⟨t, t1, t2, t3⟩ := zef (K := K) (l := r) (by omega) (by intro e; rw [e] at h2; simp at h2) (by omega) h3
 refine ⟨t, ?_, t2, by rw [t3, h4]⟩
 unfold z6e
 have e1 : ((a.size : Int) + (b.size : Int) + 1) = ((a.size + b.size + 1 : Nat) : Int) := by omega
 simp (discharger := omega) only [runL, e1, h1, t1]
end Go.Am.Tryz
/- Plain law: long division of the program's numbers. -/
namespace Go.Am.Tryz
open Go Go.Am Go.Proofs
variable {K : Nat}
theorem zht (u : List Int) (i n : Nat) (h : i + n <= u.length) : valB 1000000000 u = valB 1000000000 (u.take i) + 1000000000 ^ i * (valB 1000000000 ((u.drop i).take n) + 1000000000 ^ n * valB 1000000000 (u.drop (i + n))) := by
 have h1 := z8b 1000000000 u i (by omega)
 have h2 := z8b 1000000000 (u.drop i) n (by rw [List.length_drop]; omega)
 rw [h1, h2, List.drop_drop]
theorem zk6 {l : List Int} {i : Nat} (h : l.length <= i) : l.getD i 0 = 0 := by rw [zAb, List.getElem?_eq_none h]; rfl
theorem zky {u v : List Int} {k : Nat} {q : Int} (hk : k + v.length + 1 <= u.length) (hl : u.length <= 8000000) (hK : 2000000000 < K) (hq : 0 <= q /\ q < 1000000000) (du : DigB 1000000000 u) (dv : DigB 1000000000 v) :
  ∃ (b : Int) (u' : List Int), z3p K u v k q = some (decide (b > 0), u') /\ (b = 0 \/ b = 1) /\ u'.length = u.length /\ DigB 1000000000 u' /\ u'.take k = u.take k /\ u'.drop (k + (v.length + 1)) = u.drop (k + (v.length + 1)) ∧
   valB 1000000000 u' = valB 1000000000 u - 1000000000 ^ k * (q * valB 1000000000 v) + 1000000000 ^ (k + (v.length + 1)) * b := by
 have key : ∃ r : List Int × Int, z1g K v k q K u 0 0 0 = some r /\ (r.2 = 0 \/ r.2 = 1) /\ r.1.length = u.length /\ DigB 1000000000 r.1 /\ r.1.take k = u.take k /\ r.1.drop (k + (v.length + 1)) = u.drop (k + (v.length + 1)) ∧
   valB 1000000000 r.1 = valB 1000000000 u - 1000000000 ^ k * (q * valB 1000000000 v) + 1000000000 ^ (k + (v.length + 1)) * r.2 := by
  refine z9t (fun m (s : List Int × Int × Int × Int) => z1g K v k q m s.1 s.2.1 s.2.2.1 s.2.2.2) (fun s => ∃ i : Nat, s.2.2.2 = i /\ i <= v.length + 1 /\ s.1.length = u.length /\ DigB 1000000000 s.1 /\ (s.2.1 = 0 \/ s.2.1 = 1) /\ (0 <= s.2.2.1 /\ s.2.2.1 < 1000000000) /\ (i = v.length + 1 -> s.2.2.1 = 0) /\ s.1.take k = u.take k /\ s.1.drop (k + (v.length + 1)) = u.drop (k + (v.length + 1)) ∧
   valB 1000000000 s.1 = valB 1000000000 u - 1000000000 ^ k * (q * valB 1000000000 (v.take i)) + 1000000000 ^ (k + i) * (s.2.1 + s.2.2.1)) (fun s => (v.length + 1 - s.2.2.2 : Int).toNat) _ ?_ ((u, 0, 0, 0) : List Int × Int × Int × Int) (by simp; omega) ⟨0, rfl, by omega, rfl, du, .inl rfl, by simp, by simp, rfl, rfl, by simp [valB]⟩
  rintro m ⟨o, b, c, _⟩ ⟨i, rfl, h0, h1, h2, h3, h4, h5, h6, h7, h8⟩
  dsimp only at h1 h2 h3 h4 h5 h6 h7 h8 ⊢
  by_cases hi : i < v.length + 1
  ·right
   have ev := z1x (by omega) dv i
   have eo := z1x (by omega) h2 (k + i)
   have hm := zk4 hq ev
   have tv := z3d 1000000000 v i
   have e1 : ((k : Int) + (i : Int)) = ((k + i : Nat) : Int) := by omega
   have e2 : (1000000000 : Int) ^ (k + (i + 1)) = 1000000000 ^ k * 1000000000 ^ i * 1000000000 := by rw [<- Nat.add_assoc, Int.pow_succ, Int.pow_add]
   have hset := fun d => z6n 1000000000 o (k + i) d (by omega)
   have hz : ¬ i < v.length -> q * v.getD i 0 = 0 := fun h => by rw [zk6 (by omega)]; simp
   generalize hw : q * v.getD i 0 = w at hm hz
   generalize ho : o.getD (k + i) 0 = z at eo hset
   have hdm := Int.emod_add_mul_ediv (c + w) 1000000000
   have htk : ∀ d, (o.set (k + i) d).take k = u.take k := fun d => by rw [List.take_set_of_le (by omega), h6]
   have hdr : ∀ d, (o.set (k + i) d).drop (k + (v.length + 1)) = u.drop (k + (v.length + 1)) := fun d => by rw [List.drop_set_of_lt (by omega), h7]
   have hc0 : i + 1 = v.length + 1 -> (c + w) / 1000000000 = 0 := fun h => by rw [hz (by omega)]; omega
   have hb2 : 0 <= b /\ b <= 1 := by rcases h3 with rfl | rfl <;> omega
   by_cases hn : z - (c + w) % 1000000000 - b < 0
   ·refine ⟨(o.set (k + i) (z - (c + w) % 1000000000 - b + 1000000000), 1, (c + w) / 1000000000, (i : Int) + 1), ?_, by dsimp only; omega, i + 1, rfl, by omega, by simp [h1], h2.set _ (by omega), .inr rfl, by dsimp only; omega, hc0, htk _, hdr _, ?_⟩
    ·rw [z1g]
     by_cases h : i < v.length
     ·simp (discharger := omega) only [runL, e1, hw, ho]
     ·have e := hz h
      subst e
      simp only [Int.add_zero] at hn ⊢
      simp (discharger := omega) only [runL, e1, ho]
    ·dsimp only
     rw [hset, tv, e2]
     rw [Int.pow_add] at h8 ⊢
     subst hw
     generalize (c + q * v.getD i 0) / 1000000000 = Q at *
     generalize (c + q * v.getD i 0) % 1000000000 = R at *
     grind
   ·refine ⟨(o.set (k + i) (z - (c + w) % 1000000000 - b), 0, (c + w) / 1000000000, (i : Int) + 1), ?_, by dsimp only; omega, i + 1, rfl, by omega, by simp [h1], h2.set _ (by omega), .inl rfl, by dsimp only; omega, hc0, htk _, hdr _, ?_⟩
    ·rw [z1g]
     by_cases h : i < v.length
     ·simp (discharger := omega) only [runL, e1, hw, ho]
     ·have e := hz h
      subst e
      simp only [Int.add_zero] at hn ⊢
      simp (discharger := omega) only [runL, e1, ho]
    ·dsimp only
     rw [hset, tv, e2]
     rw [Int.pow_add] at h8 ⊢
     subst hw
     generalize (c + q * v.getD i 0) / 1000000000 = Q at *
     generalize (c + q * v.getD i 0) % 1000000000 = R at *
     grind
  ·left
   have : i = v.length + 1 := by omega
   subst this
   have hc := h5 rfl
   subst hc
   rw [List.take_of_length_le (by omega), Int.add_zero] at h8
   exact ⟨(o, b), by rw [z1g]; simp (discharger := omega) only [runL], h3, h1, h2, h6, h7, h8⟩
 obtain ⟨⟨u', b⟩, h1, h2⟩ := key
 exact ⟨b, u', by unfold z3p; rw [h1]; rfl, h2⟩
theorem zly {u v : List Int} {k : Nat} (hk : k + v.length + 1 <= u.length) (hl : u.length <= 8000000) (hK : 2000000000 < K) (du : DigB 1000000000 u) (dv : DigB 1000000000 v) :
  ∃ (u' : List Int) (b : Int), z47 K u v k = some u' /\ (b = 0 \/ b = 1) /\ u'.length = u.length /\ DigB 1000000000 u' /\ u'.take k = u.take k /\ u'.drop (k + (v.length + 1)) = u.drop (k + (v.length + 1)) ∧
   valB 1000000000 u' + 1000000000 ^ (k + (v.length + 1)) * b = valB 1000000000 u + 1000000000 ^ k * valB 1000000000 v := by
 have key : ∃ r : List Int, z27 K v k K u 0 0 = some r /\ ∃ b : Int, (b = 0 \/ b = 1) /\ r.length = u.length /\ DigB 1000000000 r /\ r.take k = u.take k /\ r.drop (k + (v.length + 1)) = u.drop (k + (v.length + 1)) ∧
   valB 1000000000 r + 1000000000 ^ (k + (v.length + 1)) * b = valB 1000000000 u + 1000000000 ^ k * valB 1000000000 v := by
  refine z9t (fun m (s : List Int × Int × Int) => z27 K v k m s.1 s.2.1 s.2.2) (fun s => ∃ i : Nat, s.2.2 = i /\ i <= v.length + 1 /\ s.1.length = u.length /\ DigB 1000000000 s.1 /\ (s.2.1 = 0 \/ s.2.1 = 1) /\ s.1.take k = u.take k /\ s.1.drop (k + (v.length + 1)) = u.drop (k + (v.length + 1)) ∧
   valB 1000000000 s.1 + 1000000000 ^ (k + i) * s.2.1 = valB 1000000000 u + 1000000000 ^ k * valB 1000000000 (v.take i)) (fun s => (v.length + 1 - s.2.2 : Int).toNat) _ ?_ ((u, 0, 0) : List Int × Int × Int) (by simp; omega) ⟨0, rfl, by omega, rfl, du, .inl rfl, rfl, rfl, by simp [valB]⟩
  rintro m ⟨o, b, _⟩ ⟨i, rfl, h0, h1, h2, h3, h6, h7, h8⟩
  dsimp only at h1 h2 h3 h6 h7 h8 ⊢
  by_cases hi : i < v.length + 1
  ·right
   have ev := z1x (by omega) dv i
   have eo := z1x (by omega) h2 (k + i)
   have tv := z3d 1000000000 v i
   have e1 : ((k : Int) + (i : Int)) = ((k + i : Nat) : Int) := by omega
   have e2 : (1000000000 : Int) ^ (k + (i + 1)) = 1000000000 ^ k * 1000000000 ^ i * 1000000000 := by rw [<- Nat.add_assoc, Int.pow_succ, Int.pow_add]
   have hset := fun d => z6n 1000000000 o (k + i) d (by omega)
   have hz : ¬ i < v.length -> v.getD i 0 = 0 := fun h => zk6 (by omega)
   generalize hw : v.getD i 0 = w at ev hz tv
   generalize ho : o.getD (k + i) 0 = z at eo hset
   have hdm := Int.emod_add_mul_ediv (z + b + w) 1000000000
   have htk : ∀ d, (o.set (k + i) d).take k = u.take k := fun d => by rw [List.take_set_of_le (by omega), h6]
   have hdr : ∀ d, (o.set (k + i) d).drop (k + (v.length + 1)) = u.drop (k + (v.length + 1)) := fun d => by rw [List.drop_set_of_lt (by omega), h7]
   have hb2 : 0 <= b /\ b <= 1 := by rcases h3 with rfl | rfl <;> omega
   refine ⟨(o.set (k + i) ((z + b + w) % 1000000000), (z + b + w) / 1000000000, (i : Int) + 1), ?_, by dsimp only; omega, i + 1, rfl, by omega, by simp [h1], h2.set _ (by omega), by dsimp only; omega, htk _, hdr _, ?_⟩
   ·rw [z27]
    by_cases h : i < v.length
    ·simp (discharger := omega) only [runL, e1, hw, ho]
    ·have e := hz h
     subst e
     simp only [Int.add_zero] at hdm ⊢
     simp (discharger := omega) only [runL, e1, ho]
   ·dsimp only
    rw [hset, tv, e2]
    rw [Int.pow_add] at h8
    generalize (z + b + w) / 1000000000 = Q at *
    generalize (z + b + w) % 1000000000 = R at *
    grind
  ·left
   have : i = v.length + 1 := by omega
   subst this
   rw [List.take_of_length_le (by omega)] at h8
   exact ⟨o, by rw [z27]; simp (discharger := omega) only [runL], b, h3, h1, h2, h6, h7, h8⟩
 obtain ⟨u', h1, b, h2⟩ := key
 exact ⟨u', b, by unfold z47; rw [h1]; rfl, h2⟩
theorem zkz {u v : List Int} {k : Nat} {P vl top ul q g r : Int} (hn : 2 <= v.length) (hk : k + v.length + 1 <= u.length) (hl : u.length <= 8000000) (hK : 2000000000 < K)
  (h : Kn 1000000000 P (v.getD (v.length - 1) 0) (v.getD (v.length - 2) 0) vl top (u.getD (k + v.length - 2) 0) ul q) (hv : v.getD (v.length - 1) 0 < 1000000000) (ht : top < 1000000000 * v.getD (v.length - 1) 0 + 1000000000) (hr : top = g * v.getD (v.length - 1) 0 + r) (hg : q <= g) (hg2 : g < 2000000000) (hr0 : 0 <= r /\ r < 1000000000) :
  ∃ g', z23 K v u k K g r = some g' /\ q <= g' /\ g' <= q + 1 /\ g' < 1000000000 := by
 generalize hv1 : v.getD (v.length - 1) 0 = v1 at *
 generalize hv2 : v.getD (v.length - 2) 0 = v2 at *
 generalize hu3 : u.getD (k + v.length - 2) 0 = u3 at *
 have a1 := h.v1p
 have a2 := h.v2p
 have a3 := h.v2b
 have a4 := h.u3p
 have a5 := h.u3b
 have a6 := h.q0
 have a7 := h.qB
 refine z9t (fun m (s : Int × Int) => z23 K v u k m s.1 s.2) (fun s => top = s.1 * v1 + s.2 /\ q <= s.1 /\ s.1 < 2000000000 /\ 0 <= s.2 /\ s.2 < 1000000000) (fun s => (1000000000 - s.2).toNat) _ ?_ ((g, r) : Int × Int) ?_ ⟨hr, hg, hg2, hr0.1, hr0.2⟩
 ·rintro m ⟨g, r⟩ ⟨b1, b2, b3, b4, b5⟩
  dsimp only at b1 b2 b3 b4 b5 ⊢
  have f1 : idx v (z04 .i64 ((v.length : Int) - 1)) = some v1 := by
   rw [k64 (by omega) (by omega), idxI (by omega) (by omega), <- hv1]; congr 2; omega
  have f2 : idx v (z04 .i64 ((v.length : Int) - 2)) = some v2 := by
   rw [k64 (by omega) (by omega), idxI (by omega) (by omega), <- hv2]; congr 2; omega
  have f3 : idx u (z04 .i64 (z04 .i64 ((k : Int) + (v.length : Int)) - 2)) = some u3 := by
   rw [k64 (a := (k : Int) + (v.length : Int)) (by omega) (by omega), k64 (by omega) (by omega), idxI (by omega) (by omega), <- hu3]; congr 2; omega
  have m1 : 0 <= g * v2 := z8j (by omega) a2
  have m2 := z3j (show 0 <= g by omega) (show v2 <= 999999999 by omega)
  rw [z23, f1, f2]
  generalize hw : g * v2 = w at m1 m2
  by_cases c : g >= 1000000000 \/ w > r * 1000000000 + u3
  ·have hqg : q < g := by
    rcases c with c | c
    ·omega
    ·exact h.down b1 (by omega) (by omega)
   have hc : (if (decide (g >= 1000000000)) = true then some true else ((some v2).bind fun x235 => (lt (z04 .i64 ((z04 .i64 ((k : Int) + (v.length : Int))) - 2)) fun x239 => ((idx u x239).bind fun x242 => (lt (z04 .u64 ((z04 .u64 (r * 1000000000)) + (IntKind.wrap .u64 x242))) fun x246 => (lt (decide ((z04 .u64 (g * (IntKind.wrap .u64 x235))) > x246)) fun x249 => some x249)))))) = some true := by
    by_cases c1 : g >= 1000000000
    ·rw [decide_eq_true c1]; rfl
    ·rw [decide_eq_false c1]
     simp only [z0d, lta, Bool.false_eq_true, if_false, f3]
     rw [u64w (a := v2) (by omega) (by omega), hw, u64w (a := u3) (by omega) (by omega), ku64 (a := w) (by omega) (by omega), ku64 (a := r * 1000000000) (by omega) (by omega), ku64 (a := r * 1000000000 + u3) (by omega) (by omega), decide_eq_true (by omega)]
   rw [hc]
   by_cases c2 : r + v1 >= 1000000000
   ·left
    have hgB : g <= 1000000000 := by
     refine Int.not_lt.1 fun hlt => ?_
     have := z3j (show 0 <= v1 by omega) (show 1000000001 <= g by omega)
     rw [Int.mul_comm v1 g] at this
     omega
    have hx := h.exitB (g := g - 1) (r := r + v1) (by rw [Int.sub_mul]; omega) (by omega) (by omega) c2
    refine ⟨g - 1, ?_, by omega, by omega, by omega⟩
    simp (discharger := omega) only [runL]
   ·right
    refine ⟨(g - 1, r + v1), ?_, by dsimp only; omega, by dsimp only; rw [Int.sub_mul]; omega, by dsimp only; omega, by dsimp only; omega, by dsimp only; omega, by dsimp only; omega⟩
    have e : decide (r + v1 >= 1000000000) = false := decide_eq_false c2
    simp (discharger := omega) only [runL, e, Bool.false_eq_true]
  ·left
   have c1 : ¬ g >= 1000000000 := fun x => c (.inl x)
   have c3 : ¬ w > r * 1000000000 + u3 := fun x => c (.inr x)
   have hx := h.exitA b1 (by omega) (by omega) (by omega)
   refine ⟨g, ?_, b2, hx, by omega⟩
   rw [decide_eq_false c1]
   simp only [z0d, lta, Bool.false_eq_true, if_false, f3]
   rw [u64w (a := v2) (by omega) (by omega), hw, u64w (a := u3) (by omega) (by omega), ku64 (a := w) (by omega) (by omega), ku64 (a := r * 1000000000) (by omega) (by omega), ku64 (a := r * 1000000000 + u3) (by omega) (by omega), decide_eq_false c3]
   simp only [z0d, tu1a, Bool.false_eq_true, if_false]
 ·dsimp only; omega
end Go.Am.Tryz
/- Plain law: quotient and remainder, greatest common divisor of the program's numbers. -/
namespace Go.Am.Tryz
open Go Go.Am Go.Proofs
variable {K : Nat}
theorem zhu (u : List Int) (i j : Nat) : (u.drop i).getD j 0 = u.getD (i + j) 0 := by
 rw [zAb, List.getElem?_drop, zAb]
section
variable {p X Y V M HI LO U g q b c rr M1 M2 U1 U2 P v1 v2 vl t1 t2 t3 ul top : Int}
theorem kd1 : vl + P * v2 + P * 1000000000 * v1 = P * (1000000000 * v1 + v2) + vl := by grind
theorem kd2 : ul + P * t3 + P * 1000000000 * t2 + P * 1000000000 * 1000000000 * t1 = P * (1000000000 * (t1 * 1000000000 + t2) + t3) + ul := by grind
theorem kd3 (hu : U < p * 1000000000 * V) (hm : U = LO + p * (M + Y * 1000000000 * HI)) (h0 : 0 <= LO) (p0 : 0 < p) (Y0 : 0 < Y) (hV : V < Y) (hM : 0 <= M) (hH : 0 <= HI) : HI = 0 := by
 refine Int.le_antisymm (Int.not_lt.1 fun hlt => ?_) hH
 have a1 := z3j (Int.le_of_lt Y0) (show 1 <= HI by omega)
 have a2 := z3j (Int.le_of_lt p0) (show V + 1 <= Y by omega)
 have a3 := z3j (Int.le_of_lt p0) (show Y * 1000000000 <= M + Y * 1000000000 * HI by grind)
 grind
theorem kd4 (hu : U < p * 1000000000 * V) (hm : U = LO + p * (M + X * 0)) (h0 : 0 <= LO) (p0 : 0 < p) : M < 1000000000 * V := by
 refine Int.not_le.1 fun hle => ?_
 have a1 := z3j (Int.le_of_lt p0) hle
 grind
theorem kd5 (h : rr + V * q = M) (h0 : 0 <= rr) : q * V <= M := by grind
theorem kd5' (h : rr + V * q = M) (h0 : rr < V) : M < (q + 1) * V := by grind
theorem kd6 (hM : M = P * (1000000000 * top + t3) + ul) (hV : V = P * (1000000000 * v1 + v2) + vl) (h : M < 1000000000 * V) (P0 : 0 < P) (b2 : v2 < 1000000000) (b3 : 0 <= t3) (u0 : 0 <= ul) (vb : vl < P) : top < 1000000000 * v1 + 1000000000 := by
 refine Int.not_le.1 fun hle => ?_
 have a1 := z3j (Int.le_of_lt P0) (z3j (show (0:Int) <= 1000000000 by omega) hle)
 have a2 := z3j (Int.le_of_lt P0) (show v2 <= 999999999 by omega)
 have a3 := z8j (Int.le_of_lt P0) b3
 subst hM hV
 grind
theorem kd7 (p0 : 0 < p) (h1 : U1 = LO + p * (M1 + X * 0)) (h2 : U1 = U - p * (g * V) + p * X * b) (h3 : U = LO + p * (M + X * 0)) : M1 = M - g * V + X * b := by
 have : p * M1 = p * (M - g * V + X * b) := by grind
 exact Int.eq_of_mul_eq_mul_left (by omega) this
theorem kd8 (h : rr + V * q = M) (h1 : rr < V) (hV : 0 < V) (hm : M1 = M - g * V + X * 0) (h0 : 0 <= M1) (hq : q <= g) : g = q := by
 refine Int.le_antisymm (Int.not_lt.1 fun hlt => ?_) hq
 have a1 := z3j (Int.le_of_lt hV) (show q + 1 <= g by omega)
 grind
theorem kd9 (h : rr + V * q = M) (h0 : 0 <= rr) (hm : M1 = M - g * V + X * 1) (h1 : M1 < X) (hq : q <= g) (hq1 : g <= q + 1) : g = q + 1 := by
 refine Int.le_antisymm hq1 (Int.not_lt.1 fun hlt => ?_)
 have : g = q := by omega
 subst this
 grind
theorem kd10 (p0 : 0 < p) (h1 : U2 = LO + p * (M2 + X * 0)) (h2 : U2 + p * X * c = U1 + p * V) (h3 : U1 = LO + p * (M1 + X * 0)) (h4 : M1 = M - (q + 1) * V + X * 1) : M2 = M - q * V + X * (1 - c) := by
 have : p * M2 = p * (M - q * V + X * (1 - c)) := by grind
 exact Int.eq_of_mul_eq_mul_left (by omega) this
theorem kd11 (h : rr + V * q = M) (h0 : 0 <= rr) (hm : M2 = M - q * V + X * (1 - c)) (h1 : M2 < X) (hc : c = 0 \/ c = 1) : c = 1 := by
 rcases hc with rfl | rfl
 ·grind
 ·rfl
theorem kd12 (h1 : U1 = LO + p * (M1 + X * 0)) (hm : M1 = M - q * V) (h3 : U = LO + p * (M + X * 0)) : U1 + p * (q * V) = U := by grind
theorem kd13 (p0 : 0 < p) (h1 : U1 = LO + p * (M1 + X * 0)) (hm : M1 = M - q * V) (h : rr + V * q = M) (hr : rr < V) (hl : LO < p) : U1 < p * V := by
 have a1 := z3j (Int.le_of_lt p0) (show M1 + 1 <= V by grind)
 grind
end
theorem zhv {u v : List Int} {i : Nat} (hn : 2 <= v.length) (hk : i + v.length + 1 <= u.length) (hl : u.length <= 8000000) (hK : 2000000000 < K) (du : DigB 1000000000 u) (cv : CanB 1000000000 v) (hu : valB 1000000000 u < 1000000000 ^ (i + 1) * valB 1000000000 v) :
  ∃ g b u1 u2 q, z23 K v u i K ((u.getD (i + v.length) 0 * 1000000000 + u.getD (i + v.length - 1) 0) / v.getD (v.length - 1) 0) ((u.getD (i + v.length) 0 * 1000000000 + u.getD (i + v.length - 1) 0) % v.getD (v.length - 1) 0) = some g /\ 0 <= g /\ g < 1000000000 ∧
   z3p K u v i g = some (b, u1) /\ (b = true -> z47 K u1 v i = some u2 /\ q = g - 1) /\ (b = false -> u2 = u1 /\ q = g) /\ 0 <= q /\ q < 1000000000 /\ u2.length = u.length /\ DigB 1000000000 u2 ∧
   valB 1000000000 u2 + 1000000000 ^ i * (q * valB 1000000000 v) = valB 1000000000 u /\ valB 1000000000 u2 < 1000000000 ^ i * valB 1000000000 v /\ 1 <= v.getD (v.length - 1) 0 /\ v.getD (v.length - 1) 0 < 1000000000 := by
 obtain ⟨n, hnv⟩ : ∃ n, v.length = n + 2 := ⟨v.length - 2, by omega⟩
 have dv := cv.1
 have ev1 := z1x (by omega) dv (n + 1)
 have ev2 := z1x (by omega) dv n
 have et1 := z1x (by omega) du (i + n + 2)
 have et2 := z1x (by omega) du (i + n + 1)
 have et3 := z1x (by omega) du (i + n)
 -- the divisor's leading digits
 have hv1 : 1 <= v.getD (n + 1) 0 := by
  have : v.getD (n + 1) 0 ≠ 0 := fun e => cv.2 (by
   rw [List.getLast?_eq_getElem?, hnv]
   have hi : n + 2 - 1 < v.length := by omega
   rw [zAb, zAh (by omega)] at e
   rw [zAh hi]
   simp at e ⊢
   exact e)
  omega
 have hV : valB 1000000000 v = 1000000000 ^ n * (1000000000 * v.getD (n + 1) 0 + v.getD n 0) + valB 1000000000 (v.take n) := by
  have h1 := z3d 1000000000 v n
  have h2 := z3d 1000000000 v (n + 1)
  rw [List.take_of_length_le (by omega)] at h2
  rw [h2, h1, Int.pow_succ, kd1]
 have hVn : valB 1000000000 v < 1000000000 ^ (n + 2) := by rw [<- hnv]; exact z4t (by omega) v dv
 -- the middle of what is divided
 have hmid := zht u i (n + 3) (by omega)
 have hM : valB 1000000000 ((u.drop i).take (n + 3)) = 1000000000 ^ n * (1000000000 * (u.getD (i + n + 2) 0 * 1000000000 + u.getD (i + n + 1) 0) + u.getD (i + n) 0) + valB 1000000000 ((u.drop i).take n) := by
  have h1 := z3d 1000000000 (u.drop i) n
  have h2 := z3d 1000000000 (u.drop i) (n + 1)
  have h3 := z3d 1000000000 (u.drop i) (n + 2)
  rw [zhu] at h1 h2 h3
  rw [h3, h2, h1, Int.pow_succ 1000000000 (n + 1), Int.pow_succ 1000000000 n, <- Nat.add_assoc, <- Nat.add_assoc, kd2]
 have dlo := du.take i
 have lo0 := z13 (B := 1000000000) (by omega) _ dlo
 have lo1 := z4t (B := 1000000000) (by omega) _ dlo
 rw [List.length_take, Nat.min_eq_left (by omega)] at lo1
 have dmi := (du.drop i).take (n + 3)
 have mi0 := z13 (B := 1000000000) (by omega) _ dmi
 have dhi := du.drop (i + (n + 3))
 have hi0 := z13 (B := 1000000000) (by omega) _ dhi
 have p0 : 0 < (1000000000 : Int) ^ i := Int.pow_pos (by omega)
 have pn0 : 0 < (1000000000 : Int) ^ n := Int.pow_pos (by omega)
 have pn3 : 0 < (1000000000 : Int) ^ (n + 3) := Int.pow_pos (by omega)
 have ep1 : (1000000000 : Int) ^ (i + 1) = 1000000000 ^ i * 1000000000 := Int.pow_succ _ _
 have ep3 : (1000000000 : Int) ^ (n + 3) = 1000000000 ^ (n + 2) * 1000000000 := Int.pow_succ _ _
 have dul := (du.drop i).take n
 have ul0 := z13 (B := 1000000000) (by omega) _ dul
 have ul1 := z4t (B := 1000000000) (by omega) _ dul
 rw [List.length_take, List.length_drop, Nat.min_eq_left (by omega)] at ul1
 have dvl := dv.take n
 have vl0 := z13 (B := 1000000000) (by omega) _ dvl
 have vl1 := z4t (B := 1000000000) (by omega) _ dvl
 rw [List.length_take, Nat.min_eq_left (by omega)] at vl1
 have hmin := fun (g : Int) (hg : 0 <= g /\ g < 1000000000) => zky (K := K) (u := u) (v := v) (k := i) (q := g) hk hl hK hg du dv
 have hplu := fun (u1 : List Int) (h1 : u1.length = u.length) (d1 : DigB 1000000000 u1) => zly (K := K) (u := u1) (v := v) (k := i) (by omega) (by omega) hK d1 dv
 rw [show i + v.length = i + n + 2 by omega, show i + n + 2 - 1 = i + n + 1 by omega, show v.length - 1 = n + 1 by omega]
 generalize hVV : valB 1000000000 v = V at *
 generalize hMM : valB 1000000000 ((u.drop i).take (n + 3)) = M at *
 generalize hLL : valB 1000000000 (u.take i) = LO at *
 generalize hHH : valB 1000000000 (u.drop (i + (n + 3))) = HI at *
 have hV0 : 0 < V := by
  have := z3j (Int.le_of_lt pn0) (show 1 <= 1000000000 * v.getD (n + 1) 0 + v.getD n 0 by omega)
  omega
 have hHI : HI = 0 := by
  rw [ep3] at hmid
  rw [ep1] at hu
  exact kd3 hu hmid lo0 p0 (Int.pow_pos (by omega)) hVn mi0 hi0
 rw [hHI] at hmid
 have hMV : M < 1000000000 * V := by
  rw [ep1] at hu
  exact kd4 hu hmid lo0 p0
 -- the true digit
 have q0 : 0 <= M / V := Int.ediv_nonneg mi0 (by omega)
 have qB : M / V < 1000000000 := Int.ediv_lt_of_lt_mul hV0 hMV
 have hdm := Int.emod_add_mul_ediv M V
 have r0 := Int.emod_nonneg M (show V ≠ 0 by omega)
 have r1 := Int.emod_lt_of_pos M hV0
 generalize hq : M / V = q at *
 generalize M % V = rr at *
 have hkn : Kn 1000000000 (1000000000 ^ n) (v.getD (n + 1) 0) (v.getD n 0) (valB 1000000000 (v.take n)) (u.getD (i + n + 2) 0 * 1000000000 + u.getD (i + n + 1) 0) (u.getD (i + n) 0) (valB 1000000000 ((u.drop i).take n)) q := by
  refine ⟨by omega, pn0, hv1, ev2.1, ev2.2, vl0, vl1, by omega, et3.1, et3.2, ul0, ul1, q0, qB, ?_, ?_⟩
  ·rw [<- hM, <- hV]; exact kd5 hdm r0
  ·rw [<- hM, <- hV]; exact kd5' hdm r1
 have ht : u.getD (i + n + 2) 0 * 1000000000 + u.getD (i + n + 1) 0 < 1000000000 * v.getD (n + 1) 0 + 1000000000 := kd6 hM hV hMV pn0 ev2.2 et3.1 ul0 vl1
 generalize htop : u.getD (i + n + 2) 0 * 1000000000 + u.getD (i + n + 1) 0 = top at *
 have htd := Int.emod_add_mul_ediv top (v.getD (n + 1) 0)
 have hfirst := hkn.first
 have g2 : top / v.getD (n + 1) 0 < 2000000000 := Int.ediv_lt_of_lt_mul (by omega) (by omega)
 have rt0 := Int.emod_nonneg top (show v.getD (n + 1) 0 ≠ 0 by omega)
 have rt1 := Int.emod_lt_of_pos top (show 0 < v.getD (n + 1) 0 by omega)
 obtain ⟨g, w1, w2, w3, w4⟩ := zkz (K := K) (u := u) (v := v) (k := i) (P := 1000000000 ^ n) (vl := valB 1000000000 (v.take n)) (top := top) (ul := valB 1000000000 ((u.drop i).take n)) (q := q) (g := top / v.getD (n + 1) 0) (r := top % v.getD (n + 1) 0) hn hk hl hK
  (by rw [hnv, show n + 2 - 1 = n + 1 by omega, show n + 2 - 2 = n by omega, show i + (n + 2) - 2 = i + n by omega]; exact hkn) (by rw [hnv, show n + 2 - 1 = n + 1 by omega]; omega) (by rw [hnv, show n + 2 - 1 = n + 1 by omega]; omega) (by rw [hnv, show n + 2 - 1 = n + 1 by omega, Int.mul_comm]; omega) hfirst g2 (by omega)
 obtain ⟨b, u1, m1, m2, m3, m4, m5, m6, m7⟩ := hmin g (by omega)
 have hmid1 := zht u1 i (n + 3) (by omega)
 have dm1 := (m4.drop i).take (n + 3)
 have m10 := z13 (B := 1000000000) (by omega) _ dm1
 have m11 := z4t (B := 1000000000) (by omega) _ dm1
 rw [List.length_take, List.length_drop, Nat.min_eq_left (by omega)] at m11
 rw [show i + (n + 3) = i + (v.length + 1) by omega, m6, show i + (v.length + 1) = i + (n + 3) by omega, hHH, hHI, m5, hLL] at hmid1
 rw [show i + (v.length + 1) = i + (n + 3) by omega, Int.pow_add] at m7
 generalize hM1 : valB 1000000000 ((u1.drop i).take (n + 3)) = M1 at *
 have hM1e : M1 = M - g * V + 1000000000 ^ (n + 3) * b := kd7 p0 hmid1 m7 hmid
 rcases m2 with rfl | rfl
 ·-- no borrow: the guess was right
  have hgq : g = q := kd8 hdm r1 hV0 hM1e m10 w2
  subst hgq
  have hM1f : M1 = M - g * V := by rw [hM1e]; omega
  exact ⟨g, false, u1, u1, g, w1, q0, w4, by simpa using m1, by simp, by simp, q0, qB, m3, m4, kd12 hmid1 hM1f hmid, kd13 p0 hmid1 hM1f hdm r1 lo1, hv1, ev1.2⟩
 ·have hgq : g = q + 1 := kd9 hdm r0 hM1e m11 w2 w3
  subst hgq
  obtain ⟨u2, c, s1, s2, s3, s4, s5, s6, s7⟩ := hplu u1 m3 m4
  have hmid2 := zht u2 i (n + 3) (by omega)
  have dm2 := (s4.drop i).take (n + 3)
  have m20 := z13 (B := 1000000000) (by omega) _ dm2
  have m21 := z4t (B := 1000000000) (by omega) _ dm2
  rw [List.length_take, List.length_drop, Nat.min_eq_left (by omega)] at m21
  rw [show i + (n + 3) = i + (v.length + 1) by omega, s6, m6, show i + (v.length + 1) = i + (n + 3) by omega, hHH, hHI, s5, m5, hLL] at hmid2
  rw [show i + (v.length + 1) = i + (n + 3) by omega, Int.pow_add] at s7
  generalize hM2 : valB 1000000000 ((u2.drop i).take (n + 3)) = M2 at *
  have hM2e : M2 = M - q * V + 1000000000 ^ (n + 3) * (1 - c) := kd10 p0 hmid2 s7 hmid1 hM1e
  have hc : c = 1 := kd11 hdm r0 hM2e m21 s2
  subst hc
  have hM2f : M2 = M - q * V := by rw [hM2e]; omega
  exact ⟨q + 1, true, u1, u2, q, w1, by omega, w4, by simpa using m1, fun _ => ⟨s1, by omega⟩, by simp, q0, qB, by omega, s4, kd12 hmid2 hM2f hmid, kd13 p0 hmid2 hM2f hdm r1 lo1, hv1, ev1.2⟩
end Go.Am.Tryz
