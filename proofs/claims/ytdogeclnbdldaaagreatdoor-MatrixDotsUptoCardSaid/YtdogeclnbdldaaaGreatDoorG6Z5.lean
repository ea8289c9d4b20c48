/- Typed functions with the same answers as the program's, and the walks that show it. -/
import Derived.Test.YtdogeclnbdldaaaGreatDoorG2Z5
import Derived.Test.YtdogeclnbdldaaaGreatDoorG5Z5
import Derived.Laws.Strings
set_option maxRecDepth 100000
set_option maxHeartbeats 4000000
set_option linter.unusedVariables false
set_option linter.unusedSimpArgs false
namespace Go.Am.Tryz
open Go Go.Am Go.Proofs
variable (K : Nat) {G : GM} {H : AH} {L : List Pc}

def z1j (K : Nat) : Nat -> zAd -> zAd -> Option (zAd)
  | 0, _, _ => none
  | k + 1, x5, x6 => (if (!(sEq x6 (⟨#[48]⟩ : zAd))) = true then ((z6n K x5 x6).bind fun x18 => z1j K k x6 x18.2) else some x5)
def z7a (K : Nat) (p0 : zAd) (p1 : zAd) : Option zAd := (Option.bind (z1j K K p0 p1) (tu1 fun x30 => some x30))
set_option maxHeartbeats 4000000 in
theorem zah (p0 : zAd) (p1 : zAd) (O : Ow G H (L)) (r : zAd) (h : z7a K p0 p1 = some r) :
    CR Tryz.prog 60 [(.string p0), (.string p1)] G H (L) (fun v G' _ => v = .string r) := by
 unfold z7a at h
 refine CR.of (z06 (n := 18) (fn := Tryz.f60) (R := fun v H' => ∃ G', Ow G' H' (L) /\ G.le G' /\ v = .string r) (by kernel_rfl) rfl rfl ?_)
 refine .seq (.region (W.q1 (.string (⟨#[]⟩ : zAd)) rfl (.nil (.seq ?_))))
 obtain ⟨q1, h2, h3⟩ := z00 h
 refine AW.midT (fun σ' H' => ∃ (y1 : zAd) (G' : GM), y1 = q1 /\ Ow G' H' (L) /\ GM.le G G' /\ σ' 0 = .string y1) ?_ ?_
 rotate_left
 .rintro σ31 H32 fr33 ⟨x30, G34, rfl, O35, s36, t38⟩
  have h39 := z0c h3
  refine .seq (.region (W.q2 (.string x30) t38 (W.q1 (.string x30) rfl (.nil (.ret ?_)))))
  obtain rfl := zAa h39
  refine z1a (P := Tryz.prog) (fn := Tryz.f60) (n := 18) (R := fun v H' => ∃ G', Ow G' H' (L) /\ G.le G' /\ v = .string x30) (v1 := (.string x30)) (by rfl) (z08 (by rfl) (by exact rfl)) ?_
  exact ⟨_, O35, s36, rfl⟩
 refine .block (AW.loop (α := Nat) (fun k' σ' H' => ∃ (y1 : zAd) (y2 : zAd) (G' : GM), z1j K k' y1 y2 = some q1 /\ Ow G' H' (L) /\ GM.le G G' /\ σ' 0 = .string y1 /\ σ' 1 = .string y2) (fun k' => k') K ⟨p0, p1, _, h2, O, (zAf _), rfl, rfl⟩ ?_)
 rintro k4
 rintro σ7 H8 fr9 ⟨x5, x6, G10, h13, O11, s12, t14, t15⟩
 rcases k4 with _ | k4
 .exact z07 h13
 rw [z1j] at h13
 refine .seq (.seq (.region (W.q2 (.string x6) t15 (W.pure (v := (.bool (!(sEq x6 (⟨#[48]⟩ : zAd))))) rfl rfl (zjm (oo rfl rfl) (oo rfl rfl)) (.nil (.cond (b := (!(sEq x6 (⟨#[48]⟩ : zAd)))) rfl rfl (fun g16 => ?_) (fun g16 => ?_)))))))
 rotate_left
 .have h29 := z0h g16 h13
  refine .exit ?_
  obtain rfl := zAa h29
  exact ⟨x5, _, rfl, O11, s12, t14⟩
 have h17 := z04 g16 h13
 refine .skip (.block (.seq (.region (W.q2 (.string x5) t14 (W.q2 (.string x6) t15 ?_)))))
 obtain ⟨x18, i19, h20⟩ := z00 h17
 refine W.lo rfl rfl (Lo.callP (ps := []) (ps' := []) rfl (fn := Tryz.f129) (by kernel_rfl) rfl (mc rfl (mc rfl mn)) O11 (fun L' O' => z89 K x5 x6 O' _ i19)) ?_
 rintro v27 H28 ⟨G21, O22, s23, sm26, rfl⟩
 replace O22 : Ow G21 H28 (L) := O22
 refine W.q2 (.tuple #[(.string x18.1), (.string x18.2)]) rfl (W.pure (v := (.string x18.1)) rfl rfl (z09 (oo rfl rfl) rfl) (W.pure (v := (.string x18.2)) rfl rfl (z09 (oo rfl rfl) rfl) (W.q1 (.string x18.1) rfl (W.q1 (.string x18.2) rfl (.nil (.region ?_))))))
 refine W.q2 (.string x6) t15 (W.q2 (.string x18.2) rfl (W.q1 (.string x6) rfl (W.q1 (.string x18.2) rfl (.nil ?_))))
 exact ⟨k4, zAg _, ⟨x6, x18.2, _, h20, O22, (zAe s12 s23), rfl, rfl⟩⟩
def z1b (K : Nat) (x30 : zAd) : Nat -> Int -> zAd -> zAd -> Int -> Option (Int × zAd × zAd)
  | 0, _, _, _, _ => none
  | k + 1, x46, x47, x48, x49 => (if (decide (x49 < (x30.size : Int))) = true then (Option.bind ((Option.bind (((bidx x30 x49).bind fun x69 => (if (x69 == 47) = true then some (x46 == 1) else some false))) (tu1 fun x76 => (if x76 = true then ((ssl x30 0 x49).bind fun x93 => ((ssl x30 (z02 .i64 (x49 + 1)) (x30.size : Int)).bind fun x96 => some (2, x93, x96))) else some (x46, x47, x48))))) (tu3 fun x100 x101 x102 => z1b K x30 k x100 x101 x102 (z02 .i64 (x49 + 1)))) else some (x46, x47, x48))
def z5a (K : Nat) (p0 : zAd) : Option Int := (Option.bind ((if (decide ((p0.size : Int) > 0)) = true then ((bidx p0 0).bind fun x7 => some (x7 == 45)) else some false)) (tu1 fun x11 => (Option.bind ((if x11 = true then ((ssl p0 1 (p0.size : Int)).bind fun x26 => some (x26, true)) else some (p0, false))) (tu2 fun x30 x31 => (Option.bind (z1b K x30 K 1 x30 (⟨#[50]⟩ : zAd) 0) (tu3 fun x115 x116 x117 => ((z57 K x116).bind fun x129 => ((z57 K x117).bind fun x140 => (Option.bind ((if (x129 == 5) = true then some true else (if (x140 == 5) = true then some true else (if x31 = true then some (sEq x116 (⟨#[48]⟩ : zAd)) else some false)))) (tu1 fun x166 => (if x166 = true then some 5 else (Option.bind ((if (x129 != 0) = true then some true else some (x140 != 0))) (tu1 fun x186 => (if x186 = true then some 2 else (Option.bind ((if (x115 == 2) = true then (if (sEq x117 (⟨#[48]⟩ : zAd)) = true then some true else (if (sEq x117 (⟨#[49]⟩ : zAd)) = true then some true else ((z7a K x116 x117).bind fun x213 => some (!(sEq x213 (⟨#[49]⟩ : zAd)))))) else some false)) (tu1 fun x225 => (if x225 = true then some 3 else some 0)))))))))))))))))
set_option maxHeartbeats 4000000 in
theorem zc0 (p0 : zAd) (O : Ow G H (L)) (r : Int) (h : z5a K p0 = some r) :
    CR Tryz.prog 16 [(.string p0)] G H (L) (fun v G' _ => v = .int .i64 r) := by
 unfold z5a at h
 refine CR.of (z06 (n := 86) (fn := Tryz.f16) (R := fun v H' => ∃ G', Ow G' H' (L) /\ G.le G' /\ v = .int .i64 r) (by kernel_rfl) rfl rfl ?_)
 refine .seq (.region (W.q1 (.int .i64 0) rfl (.nil (.seq (.region (W.q2 (.string p0) rfl ?_))))))
 refine W.q1 (.string p0) rfl (W.q1 (.bool false) rfl (W.q1 (.int .i64 1) rfl (.nil (.seq (.seq ?_)))))
 obtain ⟨q1, h2, h3⟩ := z00 h
 refine AW.midT (fun σ' H' => ∃ (y1 : Bool) (G' : GM), y1 = q1 /\ Ow G' H' (L) /\ GM.le G G' /\ σ' 19 = .bool y1) ?_ ?_
 .refine .region (W.q2 (.string p0) rfl (W.pure (v := (.int .i64 (p0.size : Int))) rfl rfl (z1h (oo rfl rfl) un9) (W.q3 (.bool (decide ((p0.size : Int) > 0))) rfl rfl (W.q2 (.bool (decide ((p0.size : Int) > 0))) rfl (W.splitAt (t := 15) (b := decide ((p0.size : Int) > 0)) rfl (fun g4 gv5 => ?_) (fun g4 gv5 => ?_))))))
  rotate_left
  .have h10 := z0h g4 h2
   refine W.q6 rfl gv5 (W.q6 rfl gv5 (W.q6 rfl gv5 (W.q5 (.bool false) gv5 rfl (.nil ?_))))
   obtain rfl := zAa h10
   exact ⟨false, _, rfl, O, (zAf _), rfl⟩
  have h6 := z04 g4 h2
  refine W.q2 (hg := gk rfl rfl gv5 rfl) (.string p0) rfl ?_
  obtain ⟨x7, i8, h9⟩ := z00 h6
  refine W.pure (v := (.int .u8 x7)) (gk rfl rfl gv5 rfl) rfl (z9g un9 (oo rfl rfl) (oo rfl rfl) i8) (W.q3 (hg := gk rfl rfl gv5 rfl) (.bool (x7 == 45)) rfl rfl (W.q4 (.bool (x7 == 45)) gv5 rfl (.nil ?_)))
  obtain rfl := zAa h9
  exact ⟨(x7 == 45), _, rfl, O, (zAf _), rfl⟩
 rintro σ12 H13 fr14 ⟨x11, G15, rfl, O16, s17, t19⟩
 have h20 := z0c h3
 obtain ⟨q21, h22, h23⟩ := z00 h20
 refine AW.midT (fun σ' H' => ∃ (y1 : zAd) (y2 : Bool) (G' : GM), (y1, y2) = q21 /\ Ow G' H' (L) /\ GM.le G15 G' /\ σ' 3 = .string y1 /\ σ' 4 = .bool y2) ?_ ?_
 .refine .cond (b := x11) rfl t19 (fun g24 => ?_) (fun g24 => ?_)
  rotate_left
  .have h29 := z0h g24 h22
   refine .skip ?_
   obtain rfl := zAa h29
   exact ⟨p0, false, _, rfl, O16, (zAf _), ((fr14 3 rfl).trans rfl), ((fr14 4 rfl).trans rfl)⟩
  have h25 := z04 g24 h22
  refine .region (W.q2 (.string p0) ((fr14 3 rfl).trans rfl) ?_)
  obtain ⟨x26, i27, h28⟩ := z00 h25
  refine W.pure (v := (.string x26)) rfl rfl (zds un9 (oo rfl rfl) (oo rfl rfl) i27) (W.q1 (.string x26) rfl (W.q1 (.bool true) rfl (.nil ?_)))
  obtain rfl := zAa h28
  exact ⟨x26, true, _, rfl, O16, (zAf _), rfl, rfl⟩
 rintro σ32 H33 fr34 ⟨x30, x31, G35, rfl, O36, s37, t39, t40⟩
 have h41 := z61 h23
 refine .seq (.region (W.q2 (.string x30) t39 (W.q1 (.string x30) rfl (W.q1 (.string (⟨#[50]⟩ : zAd)) rfl (.nil (.seq ?_))))))
 refine .seq (.region (W.q2 (.string x30) t39 (W.pure (v := (.int .i64 (x30.size : Int))) rfl rfl (z1h (oo rfl rfl) un9) (W.q2 (.int .i64 0) rfl (.nil ?_)))))
 obtain ⟨q42, h43, h44⟩ := z00 h41
 refine AW.midT (fun σ' H' => ∃ (y1 : Int) (y2 : zAd) (y3 : zAd) (G' : GM), (y1, y2, y3) = q42 /\ Ow G' H' (L) /\ GM.le G35 G' /\ σ' 5 = .int .i64 y1 /\ σ' 6 = .string y2 /\ σ' 7 = .string y3) ?_ ?_
 .refine .block (AW.loop (α := Nat) (fun k' σ' H' => ∃ (y1 : Int) (y2 : zAd) (y3 : zAd) (y4 : Int) (G' : GM), z1b K x30 k' y1 y2 y3 y4 = some q42 /\ Ow G' H' (L) /\ GM.le G35 G' /\ σ' 5 = .int .i64 y1 /\ σ' 6 = .string y2 /\ σ' 7 = .string y3 /\ σ' 25 = .int .i64 y4) (fun k' => k') K ⟨1, x30, (⟨#[50]⟩ : zAd), 0, _, h43, O36, (zAf _), ((fr34 5 rfl).trans ((fr14 5 rfl).trans rfl)), rfl, rfl, rfl⟩ ?_)
  rintro k45
  rintro σ50 H51 fr52 ⟨x46, x47, x48, x49, G53, h56, O54, s55, t57, t58, t59, t60⟩
  rcases k45 with _ | k45
  .exact z07 h56
  rw [z1b] at h56
  refine .seq (.region (W.q3 (.bool (decide (x49 < (x30.size : Int)))) t60 ((fr52 24 rfl).trans rfl) (.nil (.seq (.cond (b := decide (x49 < (x30.size : Int))) rfl rfl (fun g61 => ?_) (fun g61 => ?_))))))
  rotate_left
  .have h114 := z0h g61 h56
   refine .exit ?_
   obtain rfl := zAa h114
   exact ⟨x46, x47, x48, _, rfl, O54, s55, t57, t58, t59⟩
  have h62 := z04 g61 h56
  refine .skip (.seq ?_)
  obtain ⟨q63, h64, h65⟩ := z00 h62
  refine AW.midT (fun σ' H' => ∃ (y1 : Int) (y2 : zAd) (y3 : zAd) (G' : GM), (y1, y2, y3) = q63 /\ Ow G' H' (L) /\ GM.le G53 G' /\ σ' 5 = .int .i64 y1 /\ σ' 6 = .string y2 /\ σ' 7 = .string y3) ?_ ?_
  rotate_left
  .rintro σ103 H104 fr105 ⟨x100, x101, x102, G106, rfl, O107, s108, t110, t111, t112⟩
   have h113 := zfb h65
   refine .region (W.q3 (.int .i64 (z02 .i64 (x49 + 1))) ((fr105 25 rfl).trans t60) rfl (W.q2 (.int .i64 (z02 .i64 (x49 + 1))) rfl (.nil ?_)))
   exact ⟨k45, zAg _, ⟨x100, x101, x102, z02 .i64 (x49 + 1), _, h113, O107, (zAe s55 s108), t110, t111, t112, rfl⟩⟩
  refine .block (.seq (.region (W.q2 (.int .i64 x49) t60 (W.q1 (.int .i64 x49) rfl (.nil (.seq ?_))))))
  obtain ⟨q66, h67, h68⟩ := z00 h64
  refine AW.midT (fun σ' H' => ∃ (y1 : Bool) (G' : GM), y1 = q66 /\ Ow G' H' (L) /\ GM.le G53 G' /\ σ' 35 = .bool y1) ?_ ?_
  .refine .region (W.q2 (.string x30) ((fr52 3 rfl).trans t39) (W.q2 (.int .i64 x49) rfl ?_))
   obtain ⟨x69, i70, h71⟩ := z00 h67
   refine W.pure (v := (.int .u8 x69)) rfl rfl (z9g un9 (oo rfl rfl) (oo rfl rfl) i70) (W.q3 (.bool (x69 == 47)) rfl rfl (W.q2 (.bool (x69 == 47)) rfl (W.splitAt (t := 32) (b := (x69 == 47)) rfl (fun g72 gv73 => ?_) (fun g72 gv73 => ?_))))
   rotate_left
   .have h75 := z0h g72 h71
    refine W.q6 rfl gv73 (W.q6 rfl gv73 (W.q5 (.bool false) gv73 rfl (.nil ?_)))
    obtain rfl := zAa h75
    exact ⟨false, _, rfl, O54, (zAf _), rfl⟩
   have h74 := z04 g72 h71
   refine W.q2 (hg := gk rfl rfl gv73 rfl) (.int .i64 x46) t57 (W.q3 (hg := gk rfl rfl gv73 rfl) (.bool (x46 == 1)) rfl rfl (W.q4 (.bool (x46 == 1)) gv73 rfl (.nil ?_)))
   obtain rfl := zAa h74
   exact ⟨(x46 == 1), _, rfl, O54, (zAf _), rfl⟩
  rintro σ77 H78 fr79 ⟨x76, G80, rfl, O81, s82, t84⟩
  have h85 := z0c h68
  refine .cond (b := x76) rfl t84 (fun g86 => ?_) (fun g86 => ?_)
  rotate_left
  .have h99 := z0h g86 h85
   refine .skip ?_
   obtain rfl := zAa h99
   exact ⟨x46, x47, x48, _, rfl, O81, s82, ((fr79 5 rfl).trans t57), ((fr79 6 rfl).trans t58), ((fr79 7 rfl).trans t59)⟩
  have h87 := z04 g86 h85
  refine .draw2 (M := [0, 0, 3, 0, 0, 16, 56, 7, 255, 511]) mixed (by kernel_rfl) (by kernel_rfl) fun H88 N92 x89 F91 => ?_
  have O90 := O81.ext x89
  refine D2.q2 (.string x30) ((fr79 3 rfl).trans ((fr52 3 rfl).trans t39)) (D2.q2 (.int .i64 x49) ((fr79 8 rfl).trans rfl) ?_)
  obtain ⟨x93, i94, h95⟩ := z00 h87
  refine D2.pure (v := (.string x93)) rfl rfl (zhp un9 (oo rfl rfl) (oo rfl rfl) i94) (D2.q2 (.string x30) ((fr79 3 rfl).trans ((fr52 3 rfl).trans t39)) (D2.q2 (.int .i64 x49) ((fr79 8 rfl).trans rfl) (D2.q3 (.int .i64 (z02 .i64 (x49 + 1))) rfl rfl ?_)))
  obtain ⟨x96, i97, h98⟩ := z00 h95
  refine D2.pure (v := (.string x96)) rfl rfl (zds un9 (oo rfl rfl) (oo rfl rfl) i97) (D2.q1 (.string x93) rfl (D2.q1 (.string x96) rfl (D2.q1 (.int .i64 2) rfl (.nil ?_))))
  obtain rfl := zAa h98
  exact ⟨2, x93, x96, _, rfl, O90, s82, rfl, rfl, rfl⟩
 rintro σ118 H119 fr120 ⟨x115, x116, x117, G121, rfl, O122, s123, t125, t126, t127⟩
 have h128 := zfb h44
 refine .seq (.region (W.q2 (.string x116) t126 ?_))
 obtain ⟨x129, i130, h131⟩ := z00 h128
 refine W.lo rfl rfl (Lo.callP (ps := []) (ps' := []) rfl (fn := Tryz.f59) (by kernel_rfl) rfl (mc rfl mn) O122 (fun L' O' => z8w K x116 O' _ i130)) ?_
 rintro v138 H139 ⟨G132, O133, s134, sm137, rfl⟩
 replace O133 : Ow G132 H139 (L) := O133
 refine W.q2 (.string x117) t127 ?_
 obtain ⟨x140, i141, h142⟩ := z00 h131
 refine W.lo rfl rfl (Lo.callP (ps := []) (ps' := []) rfl (fn := Tryz.f59) (by kernel_rfl) rfl (mc rfl mn) O133 (fun L' O' => z8w K x117 O' _ i141)) ?_
 rintro v149 H150 ⟨G143, O144, s145, sm148, rfl⟩
 replace O144 : Ow G143 H150 (L) := O144
 refine W.q1 (.int .i64 x129) rfl (W.q1 (.int .i64 x140) rfl (.nil (.seq (.block (.seq ?_)))))
 obtain ⟨q151, h152, h153⟩ := z00 h142
 refine AW.midT (fun σ' H' => ∃ (y1 : Bool) (G' : GM), y1 = q151 /\ Ow G' H' (L) /\ GM.le G143 G' /\ σ' 48 = .bool y1) ?_ ?_
 .refine .region (W.q2 (.int .i64 x129) rfl (W.q3 (.bool (x129 == 5)) rfl rfl (W.q2 (.bool (x129 == 5)) rfl (W.splitAt (t := 51) (b := (x129 == 5)) rfl (fun g154 gv155 => ?_) (fun g154 gv155 => ?_)))))
  .have h156 := z04 g154 h152
   refine W.q6 rfl gv155 (W.q6 rfl gv155 (W.q4 (.bool true) gv155 rfl (W.q2 (.bool true) rfl (W.q6 rfl rfl (W.q6 rfl rfl (W.skipU rfl rfl rfl rfl ?_))))))
   refine W.skipU rfl rfl rfl rfl (W.q6 rfl rfl (W.q4 (.bool true) rfl rfl (W.q1 (.bool true) rfl (.nil ?_))))
   obtain rfl := zAa h156
   exact ⟨true, _, rfl, O144, (zAf _), rfl⟩
  have h157 := z0h g154 h152
  refine W.q2 (hg := gk rfl rfl gv155 rfl) (.int .i64 x140) rfl (W.q3 (hg := gk rfl rfl gv155 rfl) (.bool (x140 == 5)) rfl rfl (W.q5 (.bool (x140 == 5)) gv155 rfl (W.q2 (.bool (x140 == 5)) rfl (W.splitAt (t := 55) (b := (x140 == 5)) rfl (fun g158 gv159 => ?_) (fun g158 gv159 => ?_)))))
  .have h160 := z04 g158 h157
   refine W.q6 rfl gv159 (W.q6 rfl gv159 (W.skipU rfl rfl rfl rfl (W.skipU rfl rfl rfl rfl (W.q6 rfl gv159 (W.q4 (.bool true) gv159 rfl (W.q1 (.bool true) rfl ?_))))))
   refine .nil ?_
   obtain rfl := zAa h160
   exact ⟨true, _, rfl, O144, (zAf _), rfl⟩
  have h161 := z0h g158 h157
  refine W.q2 (hg := gk rfl rfl gv159 rfl) (.bool x31) ((fr120 4 rfl).trans t40) (W.q2 (hg := gk rfl rfl gv159 rfl) (.bool x31) rfl (W.splitAt (t := 57) (b := x31) rfl (fun g162 gv163 => ?_) (fun g162 gv163 => ?_)))
  rotate_left
  .have h165 := z0h g162 h161
   refine W.q6 rfl gv163 (W.q6 rfl gv163 (W.q5 (hg := gk rfl rfl gv159 rfl) (.bool false) gv163 rfl (W.q5 (.bool false) gv159 rfl (W.q1 (.bool false) rfl (.nil ?_)))))
   obtain rfl := zAa h165
   exact ⟨false, _, rfl, O144, (zAf _), rfl⟩
  have h164 := z04 g162 h161
  refine W.q2 (hg := gk rfl rfl gv163 rfl) (.string x116) t126 (W.pure (v := (.bool (sEq x116 (⟨#[48]⟩ : zAd)))) (gk rfl rfl gv163 rfl) rfl (z8p (oo rfl rfl) (oo rfl rfl)) (W.q4 (hg := gk rfl rfl gv159 rfl) (.bool (sEq x116 (⟨#[48]⟩ : zAd))) gv163 rfl (W.q5 (.bool (sEq x116 (⟨#[48]⟩ : zAd))) gv159 rfl (W.q1 (.bool (sEq x116 (⟨#[48]⟩ : zAd))) rfl (.nil ?_)))))
  obtain rfl := zAa h164
  exact ⟨sEq x116 (⟨#[48]⟩ : zAd), _, rfl, O144, (zAf _), rfl⟩
 rintro σ167 H168 fr169 ⟨x166, G170, rfl, O171, s172, t174⟩
 have h175 := z0c h153
 refine .cond (b := x166) rfl t174 (fun g176 => ?_) (fun g176 => ?_)
 .have h177 := z04 g176 h175
  refine .seq (.region (W.q1 (.int .i64 5) rfl (.nil (.ret ?_))))
  obtain rfl := zAa h177
  refine z1a (P := Tryz.prog) (fn := Tryz.f16) (n := 86) (R := fun v H' => ∃ G', Ow G' H' (L) /\ G.le G' /\ v = .int .i64 5) (v1 := (.int .i64 5)) (by rfl) (z08 (by rfl) (by exact rfl)) ?_
  exact ⟨_, O171, (zAe s17 (zAe s37 (zAe s123 (zAe s134 (zAe s145 s172))))), rfl⟩
 have h178 := z0h g176 h175
 refine .seq ?_
 obtain ⟨q179, h180, h181⟩ := z00 h178
 refine AW.midT (fun σ' H' => ∃ (y1 : Bool) (G' : GM), y1 = q179 /\ Ow G' H' (L) /\ GM.le G170 G' /\ σ' 62 = .bool y1) ?_ ?_
 .refine .region (W.q2 (.int .i64 x129) ((fr169 9 rfl).trans rfl) (W.q3 (.bool (x129 != 0)) rfl rfl (W.q2 (.bool (x129 != 0)) rfl (W.splitAt (t := 65) (b := (x129 != 0)) rfl (fun g182 gv183 => ?_) (fun g182 gv183 => ?_)))))
  .have h184 := z04 g182 h180
   refine W.q6 rfl gv183 (W.q6 rfl gv183 (W.q4 (.bool true) gv183 rfl (W.q1 (.bool true) rfl (.nil ?_))))
   obtain rfl := zAa h184
   exact ⟨true, _, rfl, O171, (zAf _), rfl⟩
  have h185 := z0h g182 h180
  refine W.q2 (hg := gk rfl rfl gv183 rfl) (.int .i64 x140) ((fr169 10 rfl).trans rfl) (W.q3 (hg := gk rfl rfl gv183 rfl) (.bool (x140 != 0)) rfl rfl (W.q5 (.bool (x140 != 0)) gv183 rfl (W.q1 (.bool (x140 != 0)) rfl (.nil ?_))))
  obtain rfl := zAa h185
  exact ⟨(x140 != 0), _, rfl, O171, (zAf _), rfl⟩
 rintro σ187 H188 fr189 ⟨x186, G190, rfl, O191, s192, t194⟩
 have h195 := z0c h181
 refine .cond (b := x186) rfl t194 (fun g196 => ?_) (fun g196 => ?_)
 .have h197 := z04 g196 h195
  refine .seq (.region (W.q1 (.int .i64 2) rfl (.nil (.ret ?_))))
  obtain rfl := zAa h197
  refine z1a (P := Tryz.prog) (fn := Tryz.f16) (n := 86) (R := fun v H' => ∃ G', Ow G' H' (L) /\ G.le G' /\ v = .int .i64 2) (v1 := (.int .i64 2)) (by rfl) (z08 (by rfl) (by exact rfl)) ?_
  exact ⟨_, O191, (zAe s17 (zAe s37 (zAe s123 (zAe s134 (zAe s145 (zAe s172 s192)))))), rfl⟩
 have h198 := z0h g196 h195
 refine .seq ?_
 obtain ⟨q199, h200, h201⟩ := z00 h198
 refine AW.midT (fun σ' H' => ∃ (y1 : Bool) (G' : GM), y1 = q199 /\ Ow G' H' (L) /\ GM.le G190 G' /\ σ' 69 = .bool y1) ?_ ?_
 rotate_left
 .rintro σ226 H227 fr228 ⟨x225, G229, rfl, O230, s231, t233⟩
  have h234 := z0c h201
  refine .cond (b := x225) rfl t233 (fun g235 => ?_) (fun g235 => ?_)
  .have h236 := z04 g235 h234
   refine .seq (.region (W.q1 (.int .i64 3) rfl (.nil (.ret ?_))))
   obtain rfl := zAa h236
   refine z1a (P := Tryz.prog) (fn := Tryz.f16) (n := 86) (R := fun v H' => ∃ G', Ow G' H' (L) /\ G.le G' /\ v = .int .i64 3) (v1 := (.int .i64 3)) (by rfl) (z08 (by rfl) (by exact rfl)) ?_
   exact ⟨_, O230, (zAe s17 (zAe s37 (zAe s123 (zAe s134 (zAe s145 (zAe s172 (zAe s192 s231))))))), rfl⟩
  have h237 := z0h g235 h234
  refine .skip (.seq (.region (W.q1 (.int .i64 0) rfl (.nil (.ret ?_)))))
  obtain rfl := zAa h237
  refine z1a (P := Tryz.prog) (fn := Tryz.f16) (n := 86) (R := fun v H' => ∃ G', Ow G' H' (L) /\ G.le G' /\ v = .int .i64 0) (v1 := (.int .i64 0)) (by rfl) (z08 (by rfl) (by exact rfl)) ?_
  exact ⟨_, O230, (zAe s17 (zAe s37 (zAe s123 (zAe s134 (zAe s145 (zAe s172 (zAe s192 s231))))))), rfl⟩
 refine .region (W.q2 (.int .i64 x115) ((fr189 5 rfl).trans ((fr169 5 rfl).trans t125)) (W.q3 (.bool (x115 == 2)) rfl rfl (W.q2 (.bool (x115 == 2)) rfl (W.splitAt (t := 72) (b := (x115 == 2)) rfl (fun g202 gv203 => ?_) (fun g202 gv203 => ?_)))))
 rotate_left
 .have h224 := z0h g202 h200
  refine W.q6 rfl gv203 (W.q6 rfl gv203 (W.q6 rfl gv203 (W.skipU rfl rfl rfl rfl (W.skipU rfl rfl rfl rfl (W.q6 rfl gv203 (W.q6 rfl gv203 ?_))))))
  refine W.skipU rfl rfl rfl rfl (W.skipU rfl rfl rfl rfl (W.skipU rfl rfl rfl rfl (W.skipU rfl rfl rfl rfl (W.q6 rfl gv203 (W.q5 (.bool false) gv203 rfl (W.q1 (.bool false) rfl ?_))))))
  refine .nil ?_
  obtain rfl := zAa h224
  exact ⟨false, _, rfl, O191, (zAf _), rfl⟩
 have h204 := z04 g202 h200
 refine W.q2 (hg := gk rfl rfl gv203 rfl) (.string x117) ((fr189 7 rfl).trans ((fr169 7 rfl).trans t127)) (W.pure (v := (.bool (sEq x117 (⟨#[48]⟩ : zAd)))) (gk rfl rfl gv203 rfl) rfl (z8p (oo rfl rfl) (oo rfl rfl)) (W.q2 (hg := gk rfl rfl gv203 rfl) (.bool (sEq x117 (⟨#[48]⟩ : zAd))) rfl (W.splitAt (t := 75) (b := sEq x117 (⟨#[48]⟩ : zAd)) rfl (fun g205 gv206 => ?_) (fun g205 gv206 => ?_))))
 .have h207 := z04 g205 h204
  refine W.q6 rfl gv206 (W.q6 rfl gv206 (W.q4 (hg := gk rfl rfl gv203 rfl) (.bool true) gv206 rfl (W.q2 (hg := gk rfl rfl gv203 rfl) (.bool true) rfl (W.q6 rfl rfl (W.q6 rfl rfl (W.q6 rfl rfl ?_))))))
  refine W.q6 rfl rfl (W.q4 (hg := gk rfl rfl gv203 rfl) (.bool true) rfl rfl (W.q4 (.bool true) gv203 rfl (W.q1 (.bool true) rfl (.nil ?_))))
  obtain rfl := zAa h207
  exact ⟨true, _, rfl, O191, (zAf _), rfl⟩
 have h208 := z0h g205 h204
 refine W.q2 (hg := gk rfl rfl gv206 rfl) (.string x117) ((fr189 7 rfl).trans ((fr169 7 rfl).trans t127)) (W.pure (v := (.bool (sEq x117 (⟨#[49]⟩ : zAd)))) (gk rfl rfl gv206 rfl) rfl (z8p (oo rfl rfl) (oo rfl rfl)) (W.q5 (hg := gk rfl rfl gv203 rfl) (.bool (sEq x117 (⟨#[49]⟩ : zAd))) gv206 rfl (W.q2 (hg := gk rfl rfl gv203 rfl) (.bool (sEq x117 (⟨#[49]⟩ : zAd))) rfl (W.splitAt (t := 79) (b := sEq x117 (⟨#[49]⟩ : zAd)) rfl (fun g209 gv210 => ?_) (fun g209 gv210 => ?_)))))
 .have h211 := z04 g209 h208
  refine W.q6 rfl gv210 (W.q6 rfl gv210 (W.q6 rfl gv210 (W.q6 rfl gv210 (W.q4 (hg := gk rfl rfl gv203 rfl) (.bool true) gv210 rfl (W.q4 (.bool true) gv203 rfl (W.q1 (.bool true) rfl ?_))))))
  refine .nil ?_
  obtain rfl := zAa h211
  exact ⟨true, _, rfl, O191, (zAf _), rfl⟩
 have h212 := z0h g209 h208
 refine W.q2 (hg := gk rfl rfl gv210 rfl) (.string x116) ((fr189 6 rfl).trans ((fr169 6 rfl).trans t126)) (W.q2 (hg := gk rfl rfl gv210 rfl) (.string x117) ((fr189 7 rfl).trans ((fr169 7 rfl).trans t127)) ?_)
 obtain ⟨x213, i214, h215⟩ := z00 h212
 refine W.lo (gk rfl rfl gv210 rfl) rfl (Lo.callP (ps := []) (ps' := []) rfl (fn := Tryz.f60) (by kernel_rfl) rfl (mc rfl (mc rfl mn)) O191 (fun L' O' => zah K x116 x117 O' _ i214)) ?_
 rintro v222 H223 ⟨G216, O217, s218, sm221, rfl⟩
 replace O217 : Ow G216 H223 (L) := O217
 refine W.pure (v := (.bool (!(sEq x213 (⟨#[49]⟩ : zAd))))) (gk rfl rfl gv210 rfl) rfl (zjm (oo rfl rfl) (oo rfl rfl)) (W.q5 (hg := gk rfl rfl gv203 rfl) (.bool (!(sEq x213 (⟨#[49]⟩ : zAd)))) gv210 rfl (W.q4 (.bool (!(sEq x213 (⟨#[49]⟩ : zAd)))) gv203 rfl (W.q1 (.bool (!(sEq x213 (⟨#[49]⟩ : zAd)))) rfl (.nil ?_))))
 obtain rfl := zAa h215
 exact ⟨(!(sEq x213 (⟨#[49]⟩ : zAd))), _, rfl, O217, s218, rfl⟩
def z1f (K : Nat) (p0 : List zAd) : Nat -> Int -> Option (Int ⊕ Unit)
  | 0, _ => none
  | k + 1, x5 => (if (decide (x5 < (List.length p0 : Int))) = true then ((idx p0 x5).bind fun x16 => ((z5a K x16).bind fun x20 => (if (x20 != 0) = true then some (.inl x20) else z1f K p0 k (z02 .i64 (x5 + 1))))) else some (.inr ()))
def z5s (K : Nat) (p0 : List zAd) : Option Int := (zb9 (z1f K p0 K 0) (tu1 fun a44 => some a44) (tu0 (some 0)))
set_option maxHeartbeats 4000000 in
theorem zbf (v0 : Value) (p0 : List zAd) (hp0 : (rSl rS).rep G [v0] p0) (O : Ow G H (L)) (r : Int) (h : z5s K p0 = some r) :
    CR Tryz.prog 58 [v0] G H (L) (fun v G' _ => v = .int .i64 r) := by
 unfold z5s at h
 refine CR.of (z06 (n := 18) (fn := Tryz.f58) (R := fun v H' => ∃ G', Ow G' H' (L) /\ G.le G' /\ v = .int .i64 r) (by kernel_rfl) rfl rfl ?_)
 refine .seq (.region (W.q1 (.int .i64 0) rfl (.nil (.seq (.seq (.region ?_))))))
 refine W.q2 v0 rfl (W.pure (v := (.int .i64 (List.length p0 : Int))) rfl rfl (z0i (oo rfl rfl) (z0d hp0) (z03 el23)) (W.q2 (.int .i64 0) rfl (.nil ?_)))
 obtain ⟨q1, h2, h3⟩ := z2s h
 refine AW.midT (fun σ' H' => ∃  (G' : GM), (.inr ()) = q1 /\ Ow G' H' (L) /\ GM.le G G') ?_ ?_
 rotate_left
 .rintro σ36 H37 fr38 ⟨G39, rfl, O40, s41⟩
  have h43 := z6q (z8o h3)
  refine .seq (.region (W.q1 (.int .i64 0) rfl (.nil (.ret ?_))))
  obtain rfl := zAa h43
  refine z1a (P := Tryz.prog) (fn := Tryz.f58) (n := 18) (R := fun v H' => ∃ G', Ow G' H' (L) /\ G.le G' /\ v = .int .i64 0) (v1 := (.int .i64 0)) (by rfl) (z08 (by rfl) (by exact rfl)) ?_
  exact ⟨_, O40, s41, rfl⟩
 refine .block (AW.loop (α := Nat) (fun k' σ' H' => ∃ (y1 : Int) (G' : GM), z1f K p0 k' y1 = some q1 /\ Ow G' H' (L) /\ GM.le G G' /\ σ' 8 = .int .i64 y1) (fun k' => k') K ⟨0, _, h2, O, (zAf _), rfl⟩ ?_)
 rintro k4
 rintro σ6 H7 fr8 ⟨x5, G9, h12, O10, s11, t13⟩
 rcases k4 with _ | k4
 .exact z07 h12
 rw [z1f] at h12
 refine .seq (.region (W.q3 (.bool (decide (x5 < (List.length p0 : Int)))) t13 ((fr8 7 rfl).trans rfl) (.nil (.seq (.cond (b := decide (x5 < (List.length p0 : Int))) rfl rfl (fun g14 => ?_) (fun g14 => ?_))))))
 rotate_left
 .have h35 := z0h g14 h12
  refine .exit ?_
  obtain rfl := zAa h35
  exact ⟨_, rfl, O10, s11⟩
 have h15 := z04 g14 h12
 refine .skip (.seq (.block (.seq (.region ?_))))
 obtain ⟨x16, i17, h18⟩ := z00 h15
 have j19 := z0e i17
 refine W.pure (v := (z1y v0 (Int.toNat x5 * 1))) rfl rfl (z2g el23 sz22 (oo rfl ((fr8 6 rfl).trans rfl)) (oo rfl t13) (z0d (RT.mono _ s11 hp0)) j19.1 j19.2.1) (W.load1 (v := (.string x16)) (r := []) rfl rfl ag22 (z1g rfl (At.str (At.le (At.le (z1s hp0 j19.2.2) s11 s11) (zAf _) O10.fro))) (W.q1 (.string x16) rfl (.nil (.seq (.region (W.q2 (.string x16) rfl ?_))))))
 obtain ⟨x20, i21, h22⟩ := z00 h18
 refine W.lo rfl rfl (Lo.callP (ps := []) (ps' := []) rfl (fn := Tryz.f16) (by kernel_rfl) rfl (mc rfl mn) O10 (fun L' O' => zc0 K x16 O' _ i21)) ?_
 rintro v29 H30 ⟨G23, O24, s25, sm28, rfl⟩
 replace O24 : Ow G23 H30 (L) := O24
 refine W.q1 (.int .i64 x20) rfl (.nil (.seq (.region (W.q2 (.int .i64 x20) rfl (W.q3 (.bool (x20 != 0)) rfl rfl (.nil ?_))))))
 refine .cond (b := (x20 != 0)) rfl rfl (fun g31 => ?_) (fun g31 => ?_)
 rotate_left
 .have h34 := z0h g31 h22
  refine .skip (.region (W.q3 (.int .i64 (z02 .i64 (x5 + 1))) t13 rfl (W.q2 (.int .i64 (z02 .i64 (x5 + 1))) rfl (.nil ?_))))
  exact ⟨k4, zAg _, ⟨z02 .i64 (x5 + 1), _, h34, O24, (zAe s11 s25), rfl⟩⟩
 have h32 := z04 g31 h22
 refine .seq (.region (W.q2 (.int .i64 x20) rfl (W.q1 (.int .i64 x20) rfl (.nil (.ret ?_)))))
 obtain rfl := zAa h32
 have h33 := z0c (z7f h3)
 obtain rfl := zAa h33
 refine z1a (P := Tryz.prog) (fn := Tryz.f58) (n := 18) (R := fun v H' => ∃ G', Ow G' H' (L) /\ G.le G' /\ v = .int .i64 x20) (v1 := (.int .i64 x20)) (by rfl) (z08 (by rfl) (by exact rfl)) ?_
 exact ⟨_, O24, (zAe s11 s25), rfl⟩
def z5b (K : Nat) (p0 : List zAd) : Option Int := (if (decide ((List.length p0 : Int) > 40)) = true then some 2 else ((z5s K p0).bind fun x4 => some x4))
set_option maxHeartbeats 4000000 in
theorem z8x (v0 : Value) (p0 : List zAd) (hp0 : (rSl rS).rep G [v0] p0) (O : Ow G H (L)) (r : Int) (h : z5b K p0 = some r) :
    CR Tryz.prog 33 [v0] G H (L) (fun v G' _ => v = .int .i64 r) := by
 unfold z5b at h
 refine CR.of (z06 (n := 8) (fn := Tryz.f33) (R := fun v H' => ∃ G', Ow G' H' (L) /\ G.le G' /\ v = .int .i64 r) (by kernel_rfl) rfl rfl ?_)
 refine .seq (.region (W.q1 (.int .i64 0) rfl (.nil (.seq (.seq (.region ?_))))))
 refine W.q2 v0 rfl (W.pure (v := (.int .i64 (List.length p0 : Int))) rfl rfl (z0i (oo rfl rfl) (z0d hp0) (z03 el45)) (W.q3 (.bool (decide ((List.length p0 : Int) > 40))) rfl rfl (.nil (.cond (b := decide ((List.length p0 : Int) > 40)) rfl rfl (fun g1 => ?_) (fun g1 => ?_)))))
 .have h2 := z04 g1 h
  refine .seq (.region (W.q1 (.int .i64 2) rfl (.nil (.ret ?_))))
  obtain rfl := zAa h2
  refine z1a (P := Tryz.prog) (fn := Tryz.f33) (n := 8) (R := fun v H' => ∃ G', Ow G' H' (L) /\ G.le G' /\ v = .int .i64 2) (v1 := (.int .i64 2)) (by rfl) (z08 (by rfl) (by exact rfl)) ?_
  exact ⟨_, O, (zAf _), rfl⟩
 have h3 := z0h g1 h
 refine .skip (.seq (.region (W.q2 v0 rfl ?_)))
 obtain ⟨x4, i5, h6⟩ := z00 h3
 refine W.lo rfl rfl (Lo.callP (ps := []) (ps' := []) rfl (fn := Tryz.f58) (by kernel_rfl) rfl (mc rfl mn) O (fun L' O' => zbf K v0 p0 hp0 O' _ i5)) ?_
 rintro v13 H14 ⟨G7, O8, s9, sm12, rfl⟩
 replace O8 : Ow G7 H14 (L) := O8
 refine W.q1 (.int .i64 x4) rfl (.nil (.ret ?_))
 obtain rfl := zAa h6
 refine z1a (P := Tryz.prog) (fn := Tryz.f33) (n := 8) (R := fun v H' => ∃ G', Ow G' H' (L) /\ G.le G' /\ v = .int .i64 x4) (v1 := (.int .i64 x4)) (by rfl) (z08 (by rfl) (by exact rfl)) ?_
 exact ⟨_, O8, s9, rfl⟩
def z3d (K : Nat) (p0 : List Int) : Nat -> Int -> Option (Int ⊕ Unit)
  | 0, _ => none
  | k + 1, x5 => (if (decide (x5 < (List.length p0 : Int))) = true then ((idx p0 x5).bind fun x16 => (if (x16 != 0) = true then some (.inl x16) else z3d K p0 k (z02 .i64 (x5 + 1)))) else some (.inr ()))
def z6g (K : Nat) (p0 : List Int) : Option Int := (zb9 (z3d K p0 K 0) (tu1 fun a33 => some a33) (tu0 (some 0)))
set_option maxHeartbeats 4000000 in
theorem zd4 (v0 : Value) (p0 : List Int) (hp0 : (rSl (rI .i64)).rep G [v0] p0) (O : Ow G H (L)) (r : Int) (h : z6g K p0 = some r) :
    CR Tryz.prog 18 [v0] G H (L) (fun v G' _ => v = .int .i64 r) := by
 unfold z6g at h
 refine CR.of (z06 (n := 15) (fn := Tryz.f18) (R := fun v H' => ∃ G', Ow G' H' (L) /\ G.le G' /\ v = .int .i64 r) (by kernel_rfl) rfl rfl ?_)
 refine .seq (.region (W.q1 (.int .i64 0) rfl (.nil (.seq (.seq (.region ?_))))))
 refine W.q2 v0 rfl (W.pure (v := (.int .i64 (List.length p0 : Int))) rfl rfl (z0i (oo rfl rfl) (z0d hp0) (z03 el91)) (W.q2 (.int .i64 0) rfl (.nil ?_)))
 obtain ⟨q1, h2, h3⟩ := z2s h
 refine AW.midT (fun σ' H' => ∃  (G' : GM), (.inr ()) = q1 /\ Ow G' H' (L) /\ GM.le G G') ?_ ?_
 rotate_left
 .rintro σ25 H26 fr27 ⟨G28, rfl, O29, s30⟩
  have h32 := z6q (z8o h3)
  refine .seq (.region (W.q1 (.int .i64 0) rfl (.nil (.ret ?_))))
  obtain rfl := zAa h32
  refine z1a (P := Tryz.prog) (fn := Tryz.f18) (n := 15) (R := fun v H' => ∃ G', Ow G' H' (L) /\ G.le G' /\ v = .int .i64 0) (v1 := (.int .i64 0)) (by rfl) (z08 (by rfl) (by exact rfl)) ?_
  exact ⟨_, O29, s30, rfl⟩
 refine .block (AW.loop (α := Nat) (fun k' σ' H' => ∃ (y1 : Int) (G' : GM), z3d K p0 k' y1 = some q1 /\ Ow G' H' (L) /\ GM.le G G' /\ σ' 7 = .int .i64 y1) (fun k' => k') K ⟨0, _, h2, O, (zAf _), rfl⟩ ?_)
 rintro k4
 rintro σ6 H7 fr8 ⟨x5, G9, h12, O10, s11, t13⟩
 rcases k4 with _ | k4
 .exact z07 h12
 rw [z3d] at h12
 refine .seq (.region (W.q3 (.bool (decide (x5 < (List.length p0 : Int)))) t13 ((fr8 6 rfl).trans rfl) (.nil (.seq (.cond (b := decide (x5 < (List.length p0 : Int))) rfl rfl (fun g14 => ?_) (fun g14 => ?_))))))
 rotate_left
 .have h24 := z0h g14 h12
  refine .exit ?_
  obtain rfl := zAa h24
  exact ⟨_, rfl, O10, s11⟩
 have h15 := z04 g14 h12
 refine .skip (.seq (.block (.seq (.region ?_))))
 obtain ⟨x16, i17, h18⟩ := z00 h15
 have j19 := z0e i17
 refine W.pure (v := (z1y v0 (Int.toNat x5 * 1))) rfl rfl (z2g el91 sz28 (oo rfl ((fr8 5 rfl).trans rfl)) (oo rfl t13) (z0d (RT.mono _ s11 hp0)) j19.1 j19.2.1) (W.load1 (v := (.int .i64 x16)) (r := []) rfl rfl ag28 (z1g rfl (At.int (At.le (At.le (z1s hp0 j19.2.2) s11 s11) (zAf _) O10.fro))) (W.q1 (.int .i64 x16) rfl (.nil (.seq (.region (W.q2 (.int .i64 x16) rfl ?_))))))
 refine W.q3 (.bool (x16 != 0)) rfl rfl (.nil (.cond (b := (x16 != 0)) rfl rfl (fun g20 => ?_) (fun g20 => ?_)))
 rotate_left
 .have h23 := z0h g20 h18
  refine .skip (.region (W.q3 (.int .i64 (z02 .i64 (x5 + 1))) t13 rfl (W.q2 (.int .i64 (z02 .i64 (x5 + 1))) rfl (.nil ?_))))
  exact ⟨k4, zAg _, ⟨z02 .i64 (x5 + 1), _, h23, O10, s11, rfl⟩⟩
 have h21 := z04 g20 h18
 refine .seq (.region (W.q2 (.int .i64 x16) rfl (W.q1 (.int .i64 x16) rfl (.nil (.ret ?_)))))
 obtain rfl := zAa h21
 have h22 := z0c (z7f h3)
 obtain rfl := zAa h22
 refine z1a (P := Tryz.prog) (fn := Tryz.f18) (n := 15) (R := fun v H' => ∃ G', Ow G' H' (L) /\ G.le G' /\ v = .int .i64 x16) (v1 := (.int .i64 x16)) (by rfl) (z08 (by rfl) (by exact rfl)) ?_
 exact ⟨_, O10, s11, rfl⟩
def z0a (K : Nat) (p0 : List zAd) (p1 : zAd -> Option Bool) : Nat -> Int -> Option (Int ⊕ Unit)
  | 0, _ => none
  | k + 1, x5 => (if (decide (x5 < (List.length p0 : Int))) = true then ((idx p0 x5).bind fun x16 => ((p1 x16).bind fun x20 => (if x20 = true then some (.inl x5) else z0a K p0 p1 k (z02 .i64 (x5 + 1))))) else some (.inr ()))
def z0p (K : Nat) (p0 : List zAd) (p1 : zAd -> Option Bool) : Option Int := (zb9 (z0a K p0 p1 K 0) (tu1 fun a42 => some a42) (tu0 (some (-1))))
set_option maxHeartbeats 4000000 in
theorem z47 (v0 : Value) (p0 : List zAd) (hp0 : (rSl rS).rep G [v0] p0) (v1 : Value) (p1 : zAd -> Option Bool) (hp1 : FnOk Tryz.prog G v1 (fun _ vs (x : (zAd)) => vs = [.string x]) (fun _ v (rr : (Bool)) => v = .bool rr) p1) (O : Ow G H (L)) (r : Int) (h : z0p K p0 p1 = some r) :
    CR Tryz.prog 143 [v0, v1] G H (L) (fun v G' _ => v = .int .i64 r) := by
 unfold z0p at h
 refine CR.of (z06 (n := 19) (fn := Tryz.f143) (R := fun v H' => ∃ G', Ow G' H' (L) /\ G.le G' /\ v = .int .i64 r) (by kernel_rfl) rfl rfl ?_)
 refine .seq (.region (W.q1 (.int .i64 0) rfl (.nil (.seq (.seq (.region ?_))))))
 refine W.q2 v0 rfl (W.pure (v := (.int .i64 (List.length p0 : Int))) rfl rfl (z0i (oo rfl rfl) (z0d hp0) (z03 el45)) (W.q2 (.int .i64 0) rfl (.nil ?_)))
 obtain ⟨q1, h2, h3⟩ := z2s h
 refine AW.midT (fun σ' H' => ∃  (G' : GM), (.inr ()) = q1 /\ Ow G' H' (L) /\ GM.le G G') ?_ ?_
 rotate_left
 .rintro σ34 H35 fr36 ⟨G37, rfl, O38, s39⟩
  have h41 := z6q (z8o h3)
  refine .seq (.region (W.q1 (.int .i64 (-1)) rfl (.nil (.ret ?_))))
  obtain rfl := zAa h41
  refine z1a (P := Tryz.prog) (fn := Tryz.f143) (n := 19) (R := fun v H' => ∃ G', Ow G' H' (L) /\ G.le G' /\ v = .int .i64 (-1)) (v1 := (.int .i64 (-1))) (by rfl) (z08 (by rfl) (by exact rfl)) ?_
  exact ⟨_, O38, s39, rfl⟩
 refine .block (AW.loop (α := Nat) (fun k' σ' H' => ∃ (y1 : Int) (G' : GM), z0a K p0 p1 k' y1 = some q1 /\ Ow G' H' (L) /\ GM.le G G' /\ σ' 8 = .int .i64 y1) (fun k' => k') K ⟨0, _, h2, O, (zAf _), rfl⟩ ?_)
 rintro k4
 rintro σ6 H7 fr8 ⟨x5, G9, h12, O10, s11, t13⟩
 rcases k4 with _ | k4
 .exact z07 h12
 rw [z0a] at h12
 refine .seq (.region (W.q3 (.bool (decide (x5 < (List.length p0 : Int)))) t13 ((fr8 7 rfl).trans rfl) (.nil (.seq (.cond (b := decide (x5 < (List.length p0 : Int))) rfl rfl (fun g14 => ?_) (fun g14 => ?_))))))
 rotate_left
 .have h33 := z0h g14 h12
  refine .exit ?_
  obtain rfl := zAa h33
  exact ⟨_, rfl, O10, s11⟩
 have h15 := z04 g14 h12
 refine .skip (.seq (.block (.seq (.region (W.q2 (.int .i64 x5) t13 (W.q1 (.int .i64 x5) rfl ?_))))))
 refine .nil (.seq (.region (W.q2 v1 ((fr8 1 rfl).trans rfl) (W.q2 v0 ((fr8 0 rfl).trans rfl) (W.q2 (.int .i64 x5) rfl ?_)))))
 obtain ⟨x16, i17, h18⟩ := z00 h15
 have j19 := z0e i17
 refine W.pure (v := (z1y v0 (Int.toNat x5 * 1))) rfl rfl (z2g el45 sz22 (oo rfl rfl) (oo rfl rfl) (z0d (RT.mono _ s11 hp0)) j19.1 j19.2.1) (W.load1 (v := (.string x16)) (r := []) rfl rfl ag22 (z1g rfl (At.str (At.le (At.le (z1s hp0 j19.2.2) s11 s11) (zAf _) O10.fro))) ?_)
 obtain ⟨x20, i21, h22⟩ := z00 h18
 refine W.lo rfl rfl (Lo.callF (x0 := x16) rfl rfl (FnOk.le hp1 s11) (mc rfl mn) rfl i21 O10) ?_
 rintro v27 H28 ⟨G23, O24, s25, sm26, rfl⟩
 refine .nil (.cond (b := x20) rfl rfl (fun g29 => ?_) (fun g29 => ?_))
 rotate_left
 .have h32 := z0h g29 h22
  refine .skip (.region (W.q3 (.int .i64 (z02 .i64 (x5 + 1))) t13 rfl (W.q2 (.int .i64 (z02 .i64 (x5 + 1))) rfl (.nil ?_))))
  exact ⟨k4, zAg _, ⟨z02 .i64 (x5 + 1), _, h32, O24, (zAe s11 s25), rfl⟩⟩
 have h30 := z04 g29 h22
 refine .seq (.region (W.q2 (.int .i64 x5) rfl (W.q1 (.int .i64 x5) rfl (.nil (.ret ?_)))))
 obtain rfl := zAa h30
 have h31 := z0c (z7f h3)
 obtain rfl := zAa h31
 refine z1a (P := Tryz.prog) (fn := Tryz.f143) (n := 19) (R := fun v H' => ∃ G', Ow G' H' (L) /\ G.le G' /\ v = .int .i64 x5) (v1 := (.int .i64 x5)) (by rfl) (z08 (by rfl) (by exact rfl)) ?_
 exact ⟨_, O24, (zAe s11 s25), rfl⟩
def z0k (K : Nat) (p0 : List zAd) (p1 : zAd -> Option Bool) : Option Bool := ((z0p K p0 p1).bind fun x1 => some (decide (x1 >= 0)))
set_option maxHeartbeats 4000000 in
theorem z3r (v0 : Value) (p0 : List zAd) (hp0 : (rSl rS).rep G [v0] p0) (v1 : Value) (p1 : zAd -> Option Bool) (hp1 : FnOk Tryz.prog G v1 (fun _ vs (x : (zAd)) => vs = [.string x]) (fun _ v (rr : (Bool)) => v = .bool rr) p1) (O : Ow G H (L)) (r : Bool) (h : z0k K p0 p1 = some r) :
    CR Tryz.prog 87 [v0, v1] G H (L) (fun v G' _ => v = .bool r) := by
 unfold z0k at h
 refine CR.of (z06 (n := 9) (fn := Tryz.f87) (R := fun v H' => ∃ G', Ow G' H' (L) /\ G.le G' /\ v = .bool r) (by kernel_rfl) rfl rfl ?_)
 refine .seq (.region (W.q1 (.bool false) rfl (.nil (.seq (.region (W.q2 v0 rfl ?_))))))
 refine W.q2 v1 rfl ?_
 obtain ⟨x1, i2, h3⟩ := z00 h
 refine W.lo rfl rfl (Lo.callP (ps := []) (ps' := []) rfl (fn := Tryz.f143) (by kernel_rfl) rfl (mc rfl (mc rfl mn)) O (fun L' O' => z47 K v0 p0 hp0 v1 p1 hp1 O' _ i2)) ?_
 rintro v10 H11 ⟨G4, O5, s6, sm9, rfl⟩
 replace O5 : Ow G4 H11 (L) := O5
 refine W.q3 (.bool (decide (x1 >= 0))) rfl rfl (W.q1 (.bool (decide (x1 >= 0))) rfl (.nil (.ret ?_)))
 obtain rfl := zAa h3
 refine z1a (P := Tryz.prog) (fn := Tryz.f87) (n := 9) (R := fun v H' => ∃ G', Ow G' H' (L) /\ G.le G' /\ v = .bool (decide (x1 >= 0))) (v1 := (.bool (decide (x1 >= 0)))) (by rfl) (z08 (by rfl) (by exact rfl)) ?_
 exact ⟨_, O5, s6, rfl⟩
def z6o (K : Nat) (p0 : zAd) : Option Bool := some (decide ((p0.size : Int) > 12))
set_option maxHeartbeats 4000000 in
theorem zc1 (p0 : zAd) (O : Ow G H (L)) (r : Bool) (h : z6o K p0 = some r) :
    CR Tryz.prog 88 [(.string p0)] G H (L) (fun v G' _ => v = .bool r) := by
 unfold z6o at h
 refine CR.of (z06 (n := 6) (fn := Tryz.f88) (R := fun v H' => ∃ G', Ow G' H' (L) /\ G.le G' /\ v = .bool r) (by kernel_rfl) rfl rfl ?_)
 refine .seq (.region (W.q1 (.bool false) rfl (.nil (.seq (.region (W.q2 (.string p0) rfl ?_))))))
 refine W.pure (v := (.int .i64 (p0.size : Int))) rfl rfl (z1h (oo rfl rfl) un22) (W.q3 (.bool (decide ((p0.size : Int) > 12))) rfl rfl (W.q1 (.bool (decide ((p0.size : Int) > 12))) rfl (.nil (.ret ?_))))
 obtain rfl := zAa h
 refine z1a (P := Tryz.prog) (fn := Tryz.f88) (n := 6) (R := fun v H' => ∃ G', Ow G' H' (L) /\ G.le G' /\ v = .bool (decide ((p0.size : Int) > 12))) (v1 := (.bool (decide ((p0.size : Int) > 12)))) (by rfl) (z08 (by rfl) (by exact rfl)) ?_
 exact ⟨_, O, (zAf _), rfl⟩
def z34 (K : Nat) (p0 : Int) (x16 : List (List zAd)) : Nat -> Int -> Option (Bool ⊕ Unit)
  | 0, _ => none
  | k + 1, x31 => (if (decide (x31 < (List.length x16 : Int))) = true then ((idx x16 x31).bind fun x42 => (Option.bind ((if (decide ((List.length x42 : Int) > p0)) = true then some true else ((z0k K x42 (fun x => z6o K x)).bind fun x56 => some x56))) (tu1 fun x67 => (if x67 = true then some (.inl true) else z34 K p0 x16 k (z02 .i64 (x31 + 1)))))) else some (.inr ()))
def z3s (K : Nat) (p0 : Int) (p1 : List (List (List zAd))) : Nat -> Int -> Option (Bool ⊕ Unit)
  | 0, _ => none
  | k + 1, x5 => (if (decide (x5 < (List.length p1 : Int))) = true then ((idx p1 x5).bind fun x16 => (if (decide ((List.length x16 : Int) > p0)) = true then some (.inl true) else (zb9 (z34 K p0 x16 K 0) (tu1 fun a91 => some (.inl a91)) (tu0 (z3s K p0 p1 k (z02 .i64 (x5 + 1))))))) else some (.inr ()))
def z7b (K : Nat) (p0 : Int) (p1 : List (List (List zAd))) : Option Bool := (zb9 (z3s K p0 p1 K 0) (tu1 fun a101 => some a101) (tu0 (some false)))
set_option maxHeartbeats 4000000 in
theorem zdx (p0 : Int) (v1 : Value) (p1 : List (List (List zAd))) (hp1 : (rSl (rSl (rSl rS))).rep G [v1] p1) (O : Ow G H (L)) (r : Bool) (h : z7b K p0 p1 = some r) :
    CR Tryz.prog 32 [(.int .i64 p0), v1] G H (L) (fun v G' _ => v = .bool r) := by
 unfold z7b at h
 refine CR.of (z06 (n := 35) (fn := Tryz.f32) (R := fun v H' => ∃ G', Ow G' H' (L) /\ G.le G' /\ v = .bool r) (by kernel_rfl) rfl rfl ?_)
 refine .seq (.region (W.q1 (.bool false) rfl (.nil (.seq (.seq (.region ?_))))))
 refine W.q2 v1 rfl (W.pure (v := (.int .i64 (List.length p1 : Int))) rfl rfl (z0i (oo rfl rfl) (z0d hp1) (z03 zno)) (W.q2 (.int .i64 0) rfl (.nil ?_)))
 obtain ⟨q1, h2, h3⟩ := z2s h
 refine AW.midT (fun σ' H' => ∃  (G' : GM), (.inr ()) = q1 /\ Ow G' H' (L) /\ GM.le G G') ?_ ?_
 rotate_left
 .rintro σ93 H94 fr95 ⟨G96, rfl, O97, s98⟩
  have h100 := z6q (z8o h3)
  refine .seq (.region (W.q1 (.bool false) rfl (.nil (.ret ?_))))
  obtain rfl := zAa h100
  refine z1a (P := Tryz.prog) (fn := Tryz.f32) (n := 35) (R := fun v H' => ∃ G', Ow G' H' (L) /\ G.le G' /\ v = .bool false) (v1 := (.bool false)) (by rfl) (z08 (by rfl) (by exact rfl)) ?_
  exact ⟨_, O97, s98, rfl⟩
 refine .block (AW.loop (α := Nat) (fun k' σ' H' => ∃ (y1 : Int) (G' : GM), z3s K p0 p1 k' y1 = some q1 /\ Ow G' H' (L) /\ GM.le G G' /\ σ' 11 = .int .i64 y1) (fun k' => k') K ⟨0, _, h2, O, (zAf _), rfl⟩ ?_)
 rintro k4
 rintro σ6 H7 fr8 ⟨x5, G9, h12, O10, s11, t13⟩
 rcases k4 with _ | k4
 .exact z07 h12
 rw [z3s] at h12
 refine .seq (.region (W.q3 (.bool (decide (x5 < (List.length p1 : Int)))) t13 ((fr8 10 rfl).trans rfl) (.nil (.seq (.cond (b := decide (x5 < (List.length p1 : Int))) rfl rfl (fun g14 => ?_) (fun g14 => ?_))))))
 rotate_left
 .have h92 := z0h g14 h12
  refine .exit ?_
  obtain rfl := zAa h92
  exact ⟨_, rfl, O10, s11⟩
 have h15 := z04 g14 h12
 refine .skip (.seq (.block (.seq (.region ?_))))
 obtain ⟨x16, i17, h18⟩ := z00 h15
 have j19 := z0e i17
 refine W.pure (v := (z1y v1 (Int.toNat x5 * 1))) rfl rfl (z2g zno sz44 (oo rfl ((fr8 9 rfl).trans rfl)) (oo rfl t13) (z0d (RT.mono _ s11 hp1)) j19.1 j19.2.1) ?_
 obtain ⟨w20, p21, f22⟩ := At.sl (At.le (z1s hp1 j19.2.2) s11 s11)
 replace p21 := PtG.le p21 O10.fro
 refine W.load1 (v := w20) (r := []) rfl rfl ag44 (z1g rfl p21) (W.q1 w20 rfl (.nil (.seq (.seq (.region (W.q2 w20 rfl ?_))))))
 refine W.pure (v := (.int .i64 (List.length x16 : Int))) rfl rfl (z0i (oo rfl rfl) (z0d f22) (z03 el44)) (W.q2 (.int .i64 p0) ((fr8 0 rfl).trans rfl) (W.q3 (.bool (decide ((List.length x16 : Int) > p0))) rfl rfl (.nil (.cond (b := decide ((List.length x16 : Int) > p0)) rfl rfl (fun g23 => ?_) (fun g23 => ?_)))))
 .have h24 := z04 g23 h18
  refine .seq (.region (W.q1 (.bool true) rfl (.nil (.ret ?_))))
  obtain rfl := zAa h24
  have h25 := z0c (z7f h3)
  obtain rfl := zAa h25
  refine z1a (P := Tryz.prog) (fn := Tryz.f32) (n := 35) (R := fun v H' => ∃ G', Ow G' H' (L) /\ G.le G' /\ v = .bool true) (v1 := (.bool true)) (by rfl) (z08 (by rfl) (by exact rfl)) ?_
  exact ⟨_, O10, s11, rfl⟩
 have h26 := z0h g23 h18
 refine .skip (.seq (.region (W.q2 w20 rfl (W.pure (v := (.int .i64 (List.length x16 : Int))) rfl rfl (z0i (oo rfl rfl) (z0d f22) (z03 el44)) (W.q2 (.int .i64 0) rfl (.nil ?_))))))
 obtain ⟨q27, h28, h29⟩ := z2s h26
 refine AW.midT (fun σ' H' => ∃  (G' : GM), (.inr ()) = q27 /\ Ow G' H' (L) /\ GM.le G9 G') ?_ ?_
 rotate_left
 .rintro σ83 H84 fr85 ⟨G86, rfl, O87, s88⟩
  have h90 := z6q (z8o h29)
  refine .region (W.q3 (.int .i64 (z02 .i64 (x5 + 1))) ((fr85 11 rfl).trans t13) rfl (W.q2 (.int .i64 (z02 .i64 (x5 + 1))) rfl (.nil ?_)))
  exact ⟨k4, zAg _, ⟨z02 .i64 (x5 + 1), _, h90, O87, (zAe s11 s88), rfl⟩⟩
 refine .block (AW.loop (α := Nat) (fun k' σ' H' => ∃ (y1 : Int) (G' : GM), z34 K p0 x16 k' y1 = some q27 /\ Ow G' H' (L) /\ GM.le G9 G' /\ σ' 21 = .int .i64 y1) (fun k' => k') K ⟨0, _, h28, O10, (zAf _), rfl⟩ ?_)
 rintro k30
 rintro σ32 H33 fr34 ⟨x31, G35, h38, O36, s37, t39⟩
 rcases k30 with _ | k30
 .exact z07 h38
 rw [z34] at h38
 refine .seq (.region (W.q3 (.bool (decide (x31 < (List.length x16 : Int)))) t39 ((fr34 20 rfl).trans rfl) (.nil (.seq (.cond (b := decide (x31 < (List.length x16 : Int))) rfl rfl (fun g40 => ?_) (fun g40 => ?_))))))
 rotate_left
 .have h82 := z0h g40 h38
  refine .exit ?_
  obtain rfl := zAa h82
  exact ⟨_, rfl, O36, s37⟩
 have h41 := z04 g40 h38
 refine .skip (.seq (.block (.seq (.region ?_))))
 obtain ⟨x42, i43, h44⟩ := z00 h41
 have j45 := z0e i43
 refine W.pure (v := (z1y w20 (Int.toNat x31 * 1))) rfl rfl (z2g el44 sz45 (oo rfl ((fr34 19 rfl).trans rfl)) (oo rfl t39) (z0d (RT.mono _ s37 f22)) j45.1 j45.2.1) ?_
 obtain ⟨w46, p47, f48⟩ := At.sl (At.le (z1s f22 j45.2.2) s37 s37)
 replace p47 := PtG.le p47 O36.fro
 refine W.load1 (v := w46) (r := []) rfl rfl ag45 (z1g rfl p47) (W.q1 w46 rfl (.nil (.seq ?_)))
 obtain ⟨q49, h50, h51⟩ := z00 h44
 refine AW.midT (fun σ' H' => ∃ (y1 : Bool) (G' : GM), y1 = q49 /\ Ow G' H' (L) /\ GM.le G35 G' /\ σ' 32 = .bool y1) ?_ ?_
 rotate_left
 .rintro σ68 H69 fr70 ⟨x67, G71, rfl, O72, s73, t75⟩
  have h76 := z0c h51
  refine .cond (b := x67) rfl t75 (fun g77 => ?_) (fun g77 => ?_)
  rotate_left
  .have h81 := z0h g77 h76
   refine .skip (.region (W.q3 (.int .i64 (z02 .i64 (x31 + 1))) ((fr70 21 rfl).trans t39) rfl (W.q2 (.int .i64 (z02 .i64 (x31 + 1))) rfl (.nil ?_))))
   exact ⟨k30, zAg _, ⟨z02 .i64 (x31 + 1), _, h81, O72, (zAe s37 s73), rfl⟩⟩
  have h78 := z04 g77 h76
  refine .seq (.region (W.q1 (.bool true) rfl (.nil (.ret ?_))))
  obtain rfl := zAa h78
  have h79 := z0c (z7f h29)
  obtain rfl := zAa h79
  have h80 := z0c (z7f h3)
  obtain rfl := zAa h80
  refine z1a (P := Tryz.prog) (fn := Tryz.f32) (n := 35) (R := fun v H' => ∃ G', Ow G' H' (L) /\ G.le G' /\ v = .bool true) (v1 := (.bool true)) (by rfl) (z08 (by rfl) (by exact rfl)) ?_
  exact ⟨_, O72, (zAe s11 (zAe s37 s73)), rfl⟩
 refine .region (W.q2 w46 rfl (W.pure (v := (.int .i64 (List.length x42 : Int))) rfl rfl (z0i (oo rfl rfl) (z0d f48) (z03 el45)) (W.q2 (.int .i64 p0) ((fr34 0 rfl).trans ((fr8 0 rfl).trans rfl)) (W.q3 (.bool (decide ((List.length x42 : Int) > p0))) rfl rfl (W.q2 (.bool (decide ((List.length x42 : Int) > p0))) rfl (W.splitAt (t := 29) (b := decide ((List.length x42 : Int) > p0)) rfl (fun g52 gv53 => ?_) (fun g52 gv53 => ?_)))))))
 .have h54 := z04 g52 h50
  refine W.q6 rfl gv53 (W.q6 rfl gv53 (W.q4 (.bool true) gv53 rfl (.nil ?_)))
  obtain rfl := zAa h54
  exact ⟨true, _, rfl, O36, (zAf _), rfl⟩
 have h55 := z0h g52 h50
 refine W.q2 (hg := gk rfl rfl gv53 rfl) w46 rfl ?_
 obtain ⟨x56, i57, h58⟩ := z00 h55
 refine W.lo (gk rfl rfl gv53 rfl) rfl (Lo.callP (ps := []) (ps' := []) rfl (fn := Tryz.f87) (by kernel_rfl) rfl (mc rfl (mc rfl mn)) O36 (fun L' O' => z3r K w46 x42 f48 (.func (.func 88) #[] #[]) (fun x => z6o K x) ⟨88, _, _, Tryz.f88, rfl, by kernel_rfl, rfl, fun G1 H L vs x r hG O hA hF => by obtain rfl := hA; exact zc1 K x O _ hF⟩ O' _ i57)) ?_
 rintro v65 H66 ⟨G59, O60, s61, sm64, rfl⟩
 replace O60 : Ow G59 H66 (L) := O60
 refine W.q5 (.bool x56) gv53 rfl (.nil ?_)
 obtain rfl := zAa h58
 exact ⟨x56, _, rfl, O60, s61, rfl⟩
def z3e (K : Nat) (x1 : Int) (x13 : zAd) : Nat -> Int -> Option ((Bool × zAd × zAd) ⊕ Unit)
  | 0, _ => none
  | k + 1, x27 => (if (decide (x27 < (x13.size : Int))) = true then ((bidx x13 x27).bind fun x38 => (if (x38 == 47) = true then ((ssl x13 0 x27).bind fun x48 => ((ssl x13 (z02 .i64 (x27 + 1)) (x13.size : Int)).bind fun x51 => some (.inl ((x1 == 45), x48, x51)))) else z3e K x1 x13 k (z02 .i64 (x27 + 1)))) else some (.inr ()))
def z66 (K : Nat) (p0 : zAd) : Option (Bool × zAd × zAd) := ((bidx p0 0).bind fun x1 => (Option.bind ((if (x1 == 45) = true then ((ssl p0 1 (p0.size : Int)).bind fun x9 => some x9) else some p0)) (tu1 fun x13 => (zb9 (z3e K x1 x13 K 0) (tu3 fun a65 a66 a67 => some (a65, a66, a67)) (tu0 (some ((x1 == 45), x13, (⟨#[49]⟩ : zAd))))))))
set_option maxHeartbeats 4000000 in
theorem z7n (p0 : zAd) (O : Ow G H (L)) (r : Bool × zAd × zAd) (h : z66 K p0 = some r) :
    CR Tryz.prog 61 [(.string p0)] G H (L) (fun v G' _ => v = .tuple #[.bool r.1, .string r.2.1, .string r.2.2]) := by
 unfold z66 at h
 refine CR.of (z06 (n := 35) (fn := Tryz.f61) (R := fun v H' => ∃ G', Ow G' H' (L) /\ G.le G' /\ v = .tuple #[.bool r.1, .string r.2.1, .string r.2.2]) (by kernel_rfl) rfl rfl ?_)
 refine .seq (.region (W.q1 (.bool false) rfl (W.q1 (.string (⟨#[]⟩ : zAd)) rfl (W.q1 (.string (⟨#[]⟩ : zAd)) rfl (.nil (.seq ?_))))))
 refine .region (W.q2 (.string p0) rfl (W.q1 (.string p0) rfl (.nil (.seq (.region (W.q2 (.string p0) rfl ?_))))))
 obtain ⟨x1, i2, h3⟩ := z00 h
 refine W.pure (v := (.int .u8 x1)) rfl rfl (z9g un9 (oo rfl rfl) (oo rfl rfl) i2) (W.q3 (.bool (x1 == 45)) rfl rfl (W.q1 (.bool (x1 == 45)) rfl (.nil (.seq (.seq (.region ?_))))))
 refine W.q2 (.bool (x1 == 45)) rfl (.nil ?_)
 obtain ⟨q4, h5, h6⟩ := z00 h3
 refine AW.midT (fun σ' H' => ∃ (y1 : zAd) (G' : GM), y1 = q4 /\ Ow G' H' (L) /\ GM.le G G' /\ σ' 5 = .string y1) ?_ ?_
 .refine .cond (b := (x1 == 45)) rfl rfl (fun g7 => ?_) (fun g7 => ?_)
  rotate_left
  .have h12 := z0h g7 h5
   refine .skip ?_
   obtain rfl := zAa h12
   exact ⟨p0, _, rfl, O, (zAf _), rfl⟩
  have h8 := z04 g7 h5
  refine .region (W.q2 (.string p0) rfl ?_)
  obtain ⟨x9, i10, h11⟩ := z00 h8
  refine W.pure (v := (.string x9)) rfl rfl (zds un9 (oo rfl rfl) (oo rfl rfl) i10) (W.q1 (.string x9) rfl (.nil ?_))
  obtain rfl := zAa h11
  exact ⟨x9, _, rfl, O, (zAf _), rfl⟩
 rintro σ14 H15 fr16 ⟨x13, G17, rfl, O18, s19, t21⟩
 have h22 := z0c h6
 refine .seq (.seq (.region (W.q2 (.string x13) t21 (W.pure (v := (.int .i64 (x13.size : Int))) rfl rfl (z1h (oo rfl rfl) un9) (W.q2 (.int .i64 0) rfl (.nil ?_))))))
 obtain ⟨q23, h24, h25⟩ := z2s h22
 refine AW.midT (fun σ' H' => ∃  (G' : GM), (.inr ()) = q23 /\ Ow G' H' (L) /\ GM.le G17 G') ?_ ?_
 rotate_left
 .rintro σ57 H58 fr59 ⟨G60, rfl, O61, s62⟩
  have h64 := z6q (z8o h25)
  refine .seq (.region (W.q2 (.bool (x1 == 45)) ((fr59 6 rfl).trans ((fr16 6 rfl).trans rfl)) (W.q2 (.string x13) ((fr59 5 rfl).trans t21) (W.q1 (.bool (x1 == 45)) rfl (W.q1 (.string x13) rfl (W.q1 (.string (⟨#[49]⟩ : zAd)) rfl ?_))))))
  refine .nil (.ret ?_)
  obtain rfl := zAa h64
  refine zm7 (P := Tryz.prog) (fn := Tryz.f61) (n := 35) (R := fun v H' => ∃ G', Ow G' H' (L) /\ G.le G' /\ v = .tuple #[.bool ((x1 == 45), x13, (⟨#[49]⟩ : zAd)).1, .string ((x1 == 45), x13, (⟨#[49]⟩ : zAd)).2.1, .string ((x1 == 45), x13, (⟨#[49]⟩ : zAd)).2.2]) (v1 := (.bool (x1 == 45))) (v2 := (.string x13)) (v3 := (.string (⟨#[49]⟩ : zAd))) (by rfl) (z08 (by rfl) (by exact rfl)) (z08 (by rfl) (by exact rfl)) (z08 (by rfl) (by exact rfl)) ?_
  exact ⟨_, O61, (zAe s19 s62), rfl⟩
 refine .block (AW.loop (α := Nat) (fun k' σ' H' => ∃ (y1 : Int) (G' : GM), z3e K x1 x13 k' y1 = some q23 /\ Ow G' H' (L) /\ GM.le G17 G' /\ σ' 17 = .int .i64 y1) (fun k' => k') K ⟨0, _, h24, O18, (zAf _), rfl⟩ ?_)
 rintro k26
 rintro σ28 H29 fr30 ⟨x27, G31, h34, O32, s33, t35⟩
 rcases k26 with _ | k26
 .exact z07 h34
 rw [z3e] at h34
 refine .seq (.region (W.q3 (.bool (decide (x27 < (x13.size : Int)))) t35 ((fr30 16 rfl).trans rfl) (.nil (.seq (.cond (b := decide (x27 < (x13.size : Int))) rfl rfl (fun g36 => ?_) (fun g36 => ?_))))))
 rotate_left
 .have h56 := z0h g36 h34
  refine .exit ?_
  obtain rfl := zAa h56
  exact ⟨_, rfl, O32, s33⟩
 have h37 := z04 g36 h34
 refine .skip (.seq (.block (.seq (.region (W.q2 (.int .i64 x27) t35 (W.q1 (.int .i64 x27) rfl ?_))))))
 refine .nil (.seq (.region (W.q2 (.string x13) ((fr30 5 rfl).trans t21) (W.q2 (.int .i64 x27) rfl ?_))))
 obtain ⟨x38, i39, h40⟩ := z00 h37
 refine W.pure (v := (.int .u8 x38)) rfl rfl (z9g un9 (oo rfl rfl) (oo rfl rfl) i39) (W.q3 (.bool (x38 == 47)) rfl rfl (.nil (.cond (b := (x38 == 47)) rfl rfl (fun g41 => ?_) (fun g41 => ?_))))
 rotate_left
 .have h55 := z0h g41 h40
  refine .skip (.region (W.q3 (.int .i64 (z02 .i64 (x27 + 1))) t35 rfl (W.q2 (.int .i64 (z02 .i64 (x27 + 1))) rfl (.nil ?_))))
  exact ⟨k26, zAg _, ⟨z02 .i64 (x27 + 1), _, h55, O32, s33, rfl⟩⟩
 have h42 := z04 g41 h40
 refine .seq (.draw2 (M := [0, 0, 0, 6, 0, 0, 32, 112, 1, 271, 1023]) mixed (by kernel_rfl) (by kernel_rfl) fun H43 N47 x44 F46 => ?_)
 have O45 := O32.ext x44
 refine D2.q2 (.bool (x1 == 45)) ((fr30 6 rfl).trans ((fr16 6 rfl).trans rfl)) (D2.q2 (.string x13) ((fr30 5 rfl).trans t21) (D2.q2 (.int .i64 x27) rfl ?_))
 obtain ⟨x48, i49, h50⟩ := z00 h42
 refine D2.pure (v := (.string x48)) rfl rfl (zhp un9 (oo rfl rfl) (oo rfl rfl) i49) (D2.q2 (.string x13) ((fr30 5 rfl).trans t21) (D2.q2 (.int .i64 x27) rfl (D2.q3 (.int .i64 (z02 .i64 (x27 + 1))) rfl rfl ?_)))
 obtain ⟨x51, i52, h53⟩ := z00 h50
 refine D2.pure (v := (.string x51)) rfl rfl (zds un9 (oo rfl rfl) (oo rfl rfl) i52) (D2.q1 (.bool (x1 == 45)) rfl (D2.q1 (.string x48) rfl (D2.q1 (.string x51) rfl (.nil (.ret ?_)))))
 obtain rfl := zAa h53
 have h54 := zfb (z7f h25)
 obtain rfl := zAa h54
 refine zm7 (P := Tryz.prog) (fn := Tryz.f61) (n := 35) (R := fun v H' => ∃ G', Ow G' H' (L) /\ G.le G' /\ v = .tuple #[.bool ((x1 == 45), x48, x51).1, .string ((x1 == 45), x48, x51).2.1, .string ((x1 == 45), x48, x51).2.2]) (v1 := (.bool (x1 == 45))) (v2 := (.string x48)) (v3 := (.string x51)) (by rfl) (z08 (by rfl) (by exact rfl)) (z08 (by rfl) (by exact rfl)) (z08 (by rfl) (by exact rfl)) ?_
 exact ⟨_, O45, (zAe s19 s33), rfl⟩
def z35 (K : Nat) (p1 : zAd) (x15 : Int) (x26 : Int) : Nat -> List Int -> Int -> Option (List Int)
  | 0, _, _ => none
  | k + 1, x41, x42 => (if (decide (x42 < (p1.size : Int))) = true then ((idx x41 (z02 .i64 (x15 + x42))).bind fun x58 => ((z5l K p1 x42).bind fun x62 => ((idx x41 (z02 .i64 (x15 + x42))).bind fun x73 => z35 K p1 x15 x26 k (List.set x41 (Int.toNat (z02 .i64 (x15 + x42))) (z02 .i64 (x58 + (z02 .i64 (x26 * x62))))) (z02 .i64 (x42 + 1))))) else some x41)
def z2m (K : Nat) (x91 : List Int) : Nat -> List Int -> Int -> Option (List Int)
  | 0, _, _ => none
  | k + 1, x102, x103 => (if (decide (x103 < (List.length x91 : Int))) = true then (Option.bind (((idx x102 x103).bind fun x117 => (if (decide (x117 > 9)) = true then ((idx x102 (z02 .i64 (x103 + 1))).bind fun x128 => ((idx x102 x103).bind fun x132 => ((idx x102 (z02 .i64 (x103 + 1))).bind fun x136 => ((idx (List.set x102 (Int.toNat (z02 .i64 (x103 + 1))) (z02 .i64 (x128 + (z02 .i64 (Int.tdiv x132 10))))) x103).bind fun x144 => ((idx (List.set x102 (Int.toNat (z02 .i64 (x103 + 1))) (z02 .i64 (x128 + (z02 .i64 (Int.tdiv x132 10))))) x103).bind fun x148 => some (List.set (List.set x102 (Int.toNat (z02 .i64 (x103 + 1))) (z02 .i64 (x128 + (z02 .i64 (Int.tdiv x132 10))))) (Int.toNat x103) (Int.tmod x144 10))))))) else some x102))) (tu1 fun x157 => z2m K x91 k x157 (z02 .i64 (x103 + 1)))) else some x102)
def z36 (K : Nat) (p0 : zAd) (p1 : zAd) : Nat -> List Int -> Int -> Option (List Int)
  | 0, _, _ => none
  | k + 1, x14, x15 => (if (decide (x15 < (p0.size : Int))) = true then ((z5l K p0 x15).bind fun x26 => (Option.bind (z35 K p1 x15 x26 K x14 0) (tu1 fun x82 => ((lsl x82 0 (z02 .i64 ((List.length x82 : Int) - 1))).bind fun x91 => (Option.bind (z2m K x91 K x82 0) (tu1 fun x167 => z36 K p0 p1 k x167 (z02 .i64 (x15 + 1)))))))) else some x14)
def z4x (K : Nat) (p0 : zAd) (p1 : zAd) : Option zAd := (lt (z02 .i64 ((z02 .i64 ((p0.size : Int) + (p1.size : Int))) + 1)) fun x1 => (if 0 <= x1 /\ x1 <= x1 /\ x1 <= 16777216 then (Option.bind (z36 K p0 p1 K (List.replicate (Int.toNat x1) 0) 0) (tu1 fun x177 => ((z94 K x177).bind fun x186 => some x186))) else none))
set_option maxHeartbeats 4000000 in
theorem z5t (p0 : zAd) (p1 : zAd) (O : Ow G H (L)) (r : zAd) (h : z4x K p0 p1 = some r) :
    CR Tryz.prog 94 [(.string p0), (.string p1)] G H (L) (fun v G' _ => v = .string r) := by
 unfold z4x at h
 refine CR.of (z06 (n := 80) (fn := Tryz.f94) (R := fun v H' => ∃ G', Ow G' H' (L) /\ G.le G' /\ v = .string r) (by kernel_rfl) rfl rfl ?_)
 refine .seq (.region (W.q1 (.string (⟨#[]⟩ : zAd)) rfl (.nil (.seq (.region (W.q2 (.string p0) rfl ?_))))))
 refine W.pure (v := (.int .i64 (p0.size : Int))) rfl rfl (z1h (oo rfl rfl) un9) (W.q2 (.string p1) rfl (W.pure (v := (.int .i64 (p1.size : Int))) rfl rfl (z1h (oo rfl rfl) un9) (W.q3 (.int .i64 (z02 .i64 ((p0.size : Int) + (p1.size : Int)))) rfl rfl (W.q3 (.int .i64 (z02 .i64 ((z02 .i64 ((p0.size : Int) + (p1.size : Int))) + 1))) rfl rfl ?_))))
 obtain ⟨x1, e2, h3⟩ := z6z h
 obtain ⟨g5, h6⟩ := z2b h3
 refine W.lo rfl rfl (Lo.makeSlice (r := (rI .i64)) (x0 := 0) (a := x1) (c := x1) rfl zcc ze3 sz3 (by kernel_rfl) rfl by3 (by decide) (congrArg (Value.int .i64) e2) (congrArg (Value.int .i64) e2) g5 (zI .i64) O) ?_
 rintro v8 H9 ⟨O4, sm7⟩
 refine W.q1 v8 rfl (.nil (.seq (.seq (.region (W.q2 (.string p0) rfl (W.pure (v := (.int .i64 (p0.size : Int))) rfl rfl (z1h (oo rfl rfl) un9) ?_))))))
 refine W.q2 (.int .i64 0) rfl (.nil ?_)
 obtain ⟨q10, h11, h12⟩ := z00 h6
 refine AW.midT (fun σ' H' => ∃ (y1 : List Int) (G' : GM), y1 = q10 /\ Ow G' H' (eSl v8 3 (rI .i64) y1 :: L) /\ GM.le G G') ?_ ?_
 rotate_left
 .rintro σ178 H179 fr180 ⟨x177, G181, rfl, O182, s183⟩
  have h185 := z0c h12
  refine .seq (.region (W.q2 v8 ((fr180 5 rfl).trans rfl) ?_))
  obtain ⟨x186, i187, h188⟩ := z00 h185
  refine W.lo rfl rfl (Lo.callB (j := 0) rfl rfl (fn := Tryz.f150) (by kernel_rfl) rfl (mc rfl mn) O182 (fun G' L' hG O' hB => za9 K v8 x177 hB O' _ i187)) ?_
  rintro v195 H196 ⟨G189, O190, s191, sm194, rfl⟩
  replace O190 : Ow G189 H196 (eSl v8 3 (rI .i64) x177 :: L) := O190
  refine W.q1 (.string x186) rfl (.nil (.ret ?_))
  have O197 : Ow G189 H196 (L) := O190.drop 0
  obtain rfl := zAa h188
  refine z1a (P := Tryz.prog) (fn := Tryz.f94) (n := 80) (R := fun v H' => ∃ G', Ow G' H' (L) /\ G.le G' /\ v = .string x186) (v1 := (.string x186)) (by rfl) (z08 (by rfl) (by exact rfl)) ?_
  exact ⟨_, O197, (zAe s183 s191), rfl⟩
 refine .block (AW.loop (α := Nat) (fun k' σ' H' => ∃ (y1 : List Int) (y2 : Int) (G' : GM), z36 K p0 p1 k' y1 y2 = some q10 /\ Ow G' H' (eSl v8 3 (rI .i64) y1 :: L) /\ GM.le G G' /\ σ' 19 = .int .i64 y2) (fun k' => k') K ⟨(List.replicate (Int.toNat x1) 0), 0, _, h11, O4, (zAf _), rfl⟩ ?_)
 rintro k13
 rintro σ16 H17 fr18 ⟨x14, x15, G19, h22, O20, s21, t23⟩
 rcases k13 with _ | k13
 .exact z07 h22
 rw [z36] at h22
 refine .seq (.region (W.q3 (.bool (decide (x15 < (p0.size : Int)))) t23 ((fr18 18 rfl).trans rfl) (.nil (.seq (.cond (b := decide (x15 < (p0.size : Int))) rfl rfl (fun g24 => ?_) (fun g24 => ?_))))))
 rotate_left
 .have h176 := z0h g24 h22
  refine .exit ?_
  obtain rfl := zAa h176
  exact ⟨x14, _, rfl, O20, s21⟩
 have h25 := z04 g24 h22
 refine .skip (.seq (.block (.seq (.region (W.q2 (.int .i64 x15) t23 (W.q1 (.int .i64 x15) rfl ?_))))))
 refine .nil (.seq (.region (W.q2 (.string p0) ((fr18 0 rfl).trans rfl) (W.q2 (.int .i64 x15) rfl ?_))))
 obtain ⟨x26, i27, h28⟩ := z00 h25
 refine W.lo rfl rfl (Lo.callP (ps := []) (ps' := []) rfl (fn := Tryz.f149) (by kernel_rfl) rfl (mc rfl (mc rfl mn)) O20 (fun L' O' => z59 K p0 x15 O' _ i27)) ?_
 rintro v35 H36 ⟨G29, O30, s31, sm34, rfl⟩
 replace O30 : Ow G29 H36 (eSl v8 3 (rI .i64) x14 :: L) := O30
 refine W.q1 (.int .i64 x26) rfl (.nil (.seq (.seq (.region (W.q2 (.string p1) ((fr18 1 rfl).trans rfl) (W.pure (v := (.int .i64 (p1.size : Int))) rfl rfl (z1h (oo rfl rfl) un9) ?_))))))
 refine W.q2 (.int .i64 0) rfl (.nil ?_)
 obtain ⟨q37, h38, h39⟩ := z00 h28
 refine AW.midT (fun σ' H' => ∃ (y1 : List Int) (G' : GM), y1 = q37 /\ Ow G' H' (eSl v8 3 (rI .i64) y1 :: L) /\ GM.le G29 G') ?_ ?_
 .refine .block (AW.loop (α := Nat) (fun k' σ' H' => ∃ (y1 : List Int) (y2 : Int) (G' : GM), z35 K p1 x15 x26 k' y1 y2 = some q37 /\ Ow G' H' (eSl v8 3 (rI .i64) y1 :: L) /\ GM.le G29 G' /\ σ' 27 = .int .i64 y2) (fun k' => k') K ⟨x14, 0, _, h38, O30, (zAf _), rfl⟩ ?_)
  rintro k40
  rintro σ43 H44 fr45 ⟨x41, x42, G46, h49, O47, s48, t50⟩
  rcases k40 with _ | k40
  .exact z07 h49
  rw [z35] at h49
  refine .seq (.region (W.q3 (.bool (decide (x42 < (p1.size : Int)))) t50 ((fr45 26 rfl).trans rfl) (.nil (.seq (.cond (b := decide (x42 < (p1.size : Int))) rfl rfl (fun g51 => ?_) (fun g51 => ?_))))))
  rotate_left
  .have h81 := z0h g51 h49
   refine .exit ?_
   obtain rfl := zAa h81
   exact ⟨x41, _, rfl, O47, s48⟩
  have h52 := z04 g51 h49
  refine .skip (.seq (.block (.seq (.region (W.q2 (.int .i64 x42) t50 (W.q1 (.int .i64 x42) rfl ?_))))))
  refine .nil (.draw2 (M := [0, 0, 0, 6, 15, 31, 0, 0, 0, 384, 960, 2047, 4095, 8191]) mixed (by kernel_rfl) (by kernel_rfl) fun H53 N57 x54 F56 => ?_)
  have O55 := O47.ext x54
  refine D2.q2 v8 ((fr45 5 rfl).trans ((fr18 5 rfl).trans rfl)) (D2.q2 (.int .i64 x15) ((fr45 6 rfl).trans rfl) (D2.q2 (.int .i64 x42) rfl (D2.q3 (.int .i64 (z02 .i64 (x15 + x42))) rfl rfl ?_)))
  obtain ⟨x58, i59, h60⟩ := z00 h52
  have j61 := z0e i59
  refine D2.pure (v := (z1y v8 (Int.toNat (z02 .i64 (x15 + x42)) * 1))) rfl rfl (z2g zcc sz3 (oo rfl rfl) (oo rfl rfl) (O55.slLen (j := 0) rfl) j61.1 j61.2.1) (D2.load1' (v := (.int .i64 x58)) (r := []) rfl rfl ag3 (z1g rfl (At.int (O55.atSl (j := 0) rfl j61.2.2))) z0b (D2.q2 (.int .i64 x26) ((fr45 7 rfl).trans rfl) (D2.q2 (.string p1) ((fr45 1 rfl).trans ((fr18 1 rfl).trans rfl)) (D2.q2 (.int .i64 x42) rfl ?_))))
  obtain ⟨x62, i63, h64⟩ := z00 h60
  refine D2.lo rfl rfl (Lo.callP (ps := []) (ps' := []) rfl (fn := Tryz.f149) (by kernel_rfl) rfl (mc rfl (mc rfl mn)) O55 (fun L' O' => z59 K p1 x42 O' _ i63)) ?_ z0b ?_ ?_
  .rintro v71 H72 ⟨G65, O66, s67, sm70, rfl⟩; exact (faR1 (.inr (sm70 _ (Or.inr ⟨0, _, rfl, (O55.footSl (j := 0) rfl j61.2.2)⟩))) z0b)
  .rintro v71 H72 ⟨G65, O66, s67, sm70, rfl⟩; exact z0b
  rintro v71 H72 ⟨G65, O66, s67, sm70, rfl⟩
  replace O66 : Ow G65 H72 (eSl v8 3 (rI .i64) x41 :: L) := O66
  refine D2.q3 (.int .i64 (z02 .i64 (x26 * x62))) rfl rfl (D2.q3 (.int .i64 (z02 .i64 (x58 + (z02 .i64 (x26 * x62))))) rfl rfl ?_)
  obtain ⟨x73, i74, h75⟩ := z00 h64
  have j76 := z0e i74
  refine D2.pure (v := (z1y v8 (Int.toNat (z02 .i64 (x15 + x42)) * 1))) rfl rfl (z2g zcc sz3 (oo rfl rfl) (oo rfl rfl) (O66.slLen (j := 0) rfl) j76.1 j76.2.1) (D2.lo rfl rfl (Lo.storeSl0 (j := 0) (y0 := z02 .i64 (x58 + (z02 .i64 (x26 * x62)))) (v := (.int .i64 (z02 .i64 (x58 + (z02 .i64 (x26 * x62)))))) rfl j76.2.2  rfl sz3 rfl rfl rfl O66) ?_ (z19 (by decide) z0b) ?_ ?_)
  .rintro v79 H80 ⟨O77, sm78⟩; exact (faR1 (.inl (by decide)) z0b)
  .rintro v79 H80 ⟨O77, sm78⟩; exact z0b
  rintro v79 H80 ⟨O77, sm78⟩
  replace O77 : Ow G65 H80 (eSl v8 3 (rI .i64) (List.set x41 (Int.toNat (z02 .i64 (x15 + x42))) (z02 .i64 (x58 + (z02 .i64 (x26 * x62))))) :: L) := O77
  refine .nil (.region (W.q3 (.int .i64 (z02 .i64 (x42 + 1))) t50 rfl (W.q2 (.int .i64 (z02 .i64 (x42 + 1))) rfl (.nil ?_))))
  exact ⟨k40, zAg _, ⟨(List.set x41 (Int.toNat (z02 .i64 (x15 + x42))) (z02 .i64 (x58 + (z02 .i64 (x26 * x62))))), z02 .i64 (x42 + 1), _, h75, O77, (zAe s48 s67), rfl⟩⟩
 rintro σ83 H84 fr85 ⟨x82, G86, rfl, O87, s88⟩
 have h90 := z0c h39
 refine .seq (.region (W.q2 v8 ((fr85 5 rfl).trans ((fr18 5 rfl).trans rfl)) (W.q2 v8 ((fr85 5 rfl).trans ((fr18 5 rfl).trans rfl)) (W.pure (v := (.int .i64 (List.length x82 : Int))) rfl rfl (z0i (oo rfl rfl) (O87.slLen (j := 0) rfl) (z03 zcc)) (W.q3 (.int .i64 (z02 .i64 ((List.length x82 : Int) - 1))) rfl rfl ?_)))))
 obtain ⟨x91, i92, h93⟩ := z00 h90
 obtain ⟨w94, e96, f97⟩ := O87.view (j := 0) rfl zcc sz3 i92
 refine W.pure (v := w94) rfl rfl (e96 (oo rfl rfl) (oo rfl rfl)) (W.pure (v := (.int .i64 (List.length x91 : Int))) rfl rfl (z0i (oo rfl rfl) f97 (z03 zcc)) (W.q2 (.int .i64 0) rfl (.nil ?_)))
 obtain ⟨q98, h99, h100⟩ := z00 h93
 refine AW.midT (fun σ' H' => ∃ (y1 : List Int) (G' : GM), y1 = q98 /\ Ow G' H' (eSl v8 3 (rI .i64) y1 :: L) /\ GM.le G86 G') ?_ ?_
 rotate_left
 .rintro σ168 H169 fr170 ⟨x167, G171, rfl, O172, s173⟩
  have h175 := z0c h100
  refine .region (W.q3 (.int .i64 (z02 .i64 (x15 + 1))) ((fr170 19 rfl).trans ((fr85 19 rfl).trans t23)) rfl (W.q2 (.int .i64 (z02 .i64 (x15 + 1))) rfl (.nil ?_)))
  exact ⟨k13, zAg _, ⟨x167, z02 .i64 (x15 + 1), _, h175, O172, (zAe s21 (zAe s31 (zAe s88 s173))), rfl⟩⟩
 refine .block (AW.loop (α := Nat) (fun k' σ' H' => ∃ (y1 : List Int) (y2 : Int) (G' : GM), z2m K x91 k' y1 y2 = some q98 /\ Ow G' H' (eSl v8 3 (rI .i64) y1 :: L) /\ GM.le G86 G' /\ σ' 50 = .int .i64 y2) (fun k' => k') K ⟨x82, 0, _, h99, O87, (zAf _), rfl⟩ ?_)
 rintro k101
 rintro σ104 H105 fr106 ⟨x102, x103, G107, h110, O108, s109, t111⟩
 rcases k101 with _ | k101
 .exact z07 h110
 rw [z2m] at h110
 refine .seq (.region (W.q3 (.bool (decide (x103 < (List.length x91 : Int)))) t111 ((fr106 49 rfl).trans rfl) (.nil (.seq (.cond (b := decide (x103 < (List.length x91 : Int))) rfl rfl (fun g112 => ?_) (fun g112 => ?_))))))
 rotate_left
 .have h166 := z0h g112 h110
  refine .exit ?_
  obtain rfl := zAa h166
  exact ⟨x102, _, rfl, O108, s109⟩
 have h113 := z04 g112 h110
 refine .skip (.seq ?_)
 obtain ⟨q114, h115, h116⟩ := z00 h113
 refine AW.midT (fun σ' H' => ∃ (y1 : List Int) (G' : GM), y1 = q114 /\ Ow G' H' (eSl v8 3 (rI .i64) y1 :: L) /\ GM.le G107 G') ?_ ?_
 rotate_left
 .rintro σ158 H159 fr160 ⟨x157, G161, rfl, O162, s163⟩
  have h165 := z0c h116
  refine .region (W.q3 (.int .i64 (z02 .i64 (x103 + 1))) ((fr160 50 rfl).trans t111) rfl (W.q2 (.int .i64 (z02 .i64 (x103 + 1))) rfl (.nil ?_)))
  exact ⟨k101, zAg _, ⟨x157, z02 .i64 (x103 + 1), _, h165, O162, (zAe s109 s163), rfl⟩⟩
 refine .block (.seq (.region (W.q2 (.int .i64 x103) t111 (W.q1 (.int .i64 x103) rfl (.nil (.seq ?_))))))
 refine .region (W.q2 v8 ((fr106 5 rfl).trans ((fr85 5 rfl).trans ((fr18 5 rfl).trans rfl))) (W.q2 (.int .i64 x103) rfl ?_))
 obtain ⟨x117, i118, h119⟩ := z00 h115
 have j120 := z0e i118
 refine W.pure (v := (z1y v8 (Int.toNat x103 * 1))) rfl rfl (z2g zcc sz3 (oo rfl rfl) (oo rfl rfl) (O108.slLen (j := 0) rfl) j120.1 j120.2.1) (W.load1 (v := (.int .i64 x117)) (r := []) rfl rfl ag3 (z1g rfl (At.int (O108.atSl (j := 0) rfl j120.2.2))) (W.q3 (.bool (decide (x117 > 9))) rfl rfl (.nil (.cond (b := decide (x117 > 9)) rfl rfl (fun g121 => ?_) (fun g121 => ?_)))))
 rotate_left
 .have h156 := z0h g121 h119
  refine .skip ?_
  obtain rfl := zAa h156
  exact ⟨x102, _, rfl, O108, (zAf _)⟩
 have h122 := z04 g121 h119
 refine .seq (.draw2 (M := [0, 0, 2, 7, 15, 0, 0, 96, 224, 480, 1023, 2047, 4095]) mixed (by kernel_rfl) (by kernel_rfl) fun H123 N127 x124 F126 => ?_)
 have O125 := O108.ext x124
 refine D2.q2 v8 ((fr106 5 rfl).trans ((fr85 5 rfl).trans ((fr18 5 rfl).trans rfl))) (D2.q2 (.int .i64 x103) rfl (D2.q3 (.int .i64 (z02 .i64 (x103 + 1))) rfl rfl ?_))
 obtain ⟨x128, i129, h130⟩ := z00 h122
 have j131 := z0e i129
 refine D2.pure (v := (z1y v8 (Int.toNat (z02 .i64 (x103 + 1)) * 1))) rfl rfl (z2g zcc sz3 (oo rfl rfl) (oo rfl rfl) (O125.slLen (j := 0) rfl) j131.1 j131.2.1) (D2.load1' (v := (.int .i64 x128)) (r := []) rfl rfl ag3 (z1g rfl (At.int (O125.atSl (j := 0) rfl j131.2.2))) z0b (D2.q2 v8 ((fr106 5 rfl).trans ((fr85 5 rfl).trans ((fr18 5 rfl).trans rfl))) (D2.q2 (.int .i64 x103) rfl ?_)))
 obtain ⟨x132, i133, h134⟩ := z00 h130
 have j135 := z0e i133
 refine D2.pure (v := (z1y v8 (Int.toNat x103 * 1))) rfl rfl (z2g zcc sz3 (oo rfl rfl) (oo rfl rfl) (O125.slLen (j := 0) rfl) j135.1 j135.2.1) (D2.load1' (v := (.int .i64 x132)) (r := []) rfl rfl ag3 (z1g rfl (At.int (O125.atSl (j := 0) rfl j135.2.2))) z0b (D2.pure (v := (.int .i64 (z02 .i64 (Int.tdiv x132 10)))) rfl rfl (zhh (by decide) (oo rfl rfl) (oo rfl rfl)) (D2.q3 (.int .i64 (z02 .i64 (x128 + (z02 .i64 (Int.tdiv x132 10))))) rfl rfl ?_)))
 obtain ⟨x136, i137, h138⟩ := z00 h134
 have j139 := z0e i137
 refine D2.pure (v := (z1y v8 (Int.toNat (z02 .i64 (x103 + 1)) * 1))) rfl rfl (z2g zcc sz3 (oo rfl rfl) (oo rfl rfl) (O125.slLen (j := 0) rfl) j139.1 j139.2.1) (D2.lo rfl rfl (Lo.storeSl0 (j := 0) (y0 := z02 .i64 (x128 + (z02 .i64 (Int.tdiv x132 10)))) (v := (.int .i64 (z02 .i64 (x128 + (z02 .i64 (Int.tdiv x132 10)))))) rfl j139.2.2  rfl sz3 rfl rfl rfl O125) ?_ z0b ?_ ?_)
 .rintro v142 H143 ⟨O140, sm141⟩; exact (faR1 (.inl (by decide)) (faR1 (.inl (by decide)) z0b))
 .rintro v142 H143 ⟨O140, sm141⟩; exact z0b
 rintro v142 H143 ⟨O140, sm141⟩
 replace O140 : Ow G107 H143 (eSl v8 3 (rI .i64) (List.set x102 (Int.toNat (z02 .i64 (x103 + 1))) (z02 .i64 (x128 + (z02 .i64 (Int.tdiv x132 10))))) :: L) := O140
 refine .nil (.region (W.q2 v8 ((fr106 5 rfl).trans ((fr85 5 rfl).trans ((fr18 5 rfl).trans rfl))) (W.q2 (.int .i64 x103) rfl ?_)))
 obtain ⟨x144, i145, h146⟩ := z00 h138
 have j147 := z0e i145
 refine W.pure (v := (z1y v8 (Int.toNat x103 * 1))) rfl rfl (z2g zcc sz3 (oo rfl rfl) (oo rfl rfl) (O140.slLen (j := 0) rfl) j147.1 j147.2.1) (W.load1 (v := (.int .i64 x144)) (r := []) rfl rfl ag3 (z1g rfl (At.int (O140.atSl (j := 0) rfl j147.2.2))) (W.pure (v := (.int .i64 (Int.tmod x144 10))) rfl rfl (ziw (by decide) (oo rfl rfl) (oo rfl rfl)) ?_))
 obtain ⟨x148, i149, h150⟩ := z00 h146
 have j151 := z0e i149
 refine W.pure (v := (z1y v8 (Int.toNat x103 * 1))) rfl rfl (z2g zcc sz3 (oo rfl rfl) (oo rfl rfl) (O140.slLen (j := 0) rfl) j151.1 j151.2.1) (W.lo rfl rfl (Lo.storeSl0 (j := 0) (y0 := Int.tmod x144 10) (v := (.int .i64 (Int.tmod x144 10))) rfl j151.2.2  rfl sz3 rfl rfl rfl O140) ?_)
 rintro v154 H155 ⟨O152, sm153⟩
 replace O152 : Ow G107 H155 (eSl v8 3 (rI .i64) (List.set (List.set x102 (Int.toNat (z02 .i64 (x103 + 1))) (z02 .i64 (x128 + (z02 .i64 (Int.tdiv x132 10))))) (Int.toNat x103) (Int.tmod x144 10)) :: L) := O152
 refine .nil ?_
 obtain rfl := zAa h150
 exact ⟨(List.set (List.set x102 (Int.toNat (z02 .i64 (x103 + 1))) (z02 .i64 (x128 + (z02 .i64 (Int.tdiv x132 10))))) (Int.toNat x103) (Int.tmod x144 10)), _, rfl, O152, (zAf _)⟩
def z29 (K : Nat) (p0 : zAd) (p1 : zAd) : Nat -> List Int -> Int -> Int -> Option (List Int)
  | 0, _, _, _ => none
  | k + 1, x6, x7, x8 => (Option.bind ((if (decide (x8 < (p0.size : Int))) = true then some true else (if (decide (x8 < (p1.size : Int))) = true then some true else some (decide (x7 > 0))))) (tu1 fun x29 => (if x29 = true then ((z5l K p0 x8).bind fun x41 => ((z5l K p1 x8).bind fun x52 => (if List.length x6 + List.length [Int.tmod (z02 .i64 ((z02 .i64 (x41 + x52)) + x7)) 10] <= 16777216 then (lt (z02 .i64 (Int.tdiv (z02 .i64 ((z02 .i64 (x41 + x52)) + x7)) 10)) fun x76 => z29 K p0 p1 k (x6 ++ [Int.tmod (z02 .i64 ((z02 .i64 (x41 + x52)) + x7)) 10]) x76 (z02 .i64 (x8 + 1))) else none))) else some x6)))
def z8a (K : Nat) (p0 : zAd) (p1 : zAd) : Option zAd := (Option.bind (z29 K p0 p1 K [] 0 0) (tu1 fun x81 => ((z94 K x81).bind fun x90 => some x90)))
set_option maxHeartbeats 4000000 in
theorem zdy (p0 : zAd) (p1 : zAd) (O : Ow G H (L)) (r : zAd) (h : z8a K p0 p1 = some r) :
    CR Tryz.prog 96 [(.string p0), (.string p1)] G H (L) (fun v G' _ => v = .string r) := by
 unfold z8a at h
 refine CR.of (z06 (n := 43) (fn := Tryz.f96) (R := fun v H' => ∃ G', Ow G' H' (L) /\ G.le G' /\ v = .string r) (by kernel_rfl) rfl rfl ?_)
 refine .seq (.region (W.q1 (.string (⟨#[]⟩ : zAd)) rfl (.nil (.seq (.region (W.q1 (.slice none 0 0) rfl ?_))))))
 refine .nil (.seq (.region (W.q1 (.int .i64 0) rfl (.nil (.seq (.seq ?_))))))
 refine .region (W.q1 (.int .i64 0) rfl (.nil ?_))
 obtain ⟨q1, h2, h3⟩ := z00 h
 refine AW.midT (fun σ' H' => ∃ (y1 : List Int) (G' : GM), y1 = q1 /\ Ow G' H' (eSl (σ' 5) 3 (rI .i64) y1 :: L) /\ GM.le G G') ?_ ?_
 rotate_left
 .rintro σ82 H83 fr84 ⟨x81, G85, rfl, O86, s87⟩
  have h89 := z0c h3
  refine .seq (.region (W.q2 (σ82 5) rfl ?_))
  obtain ⟨x90, i91, h92⟩ := z00 h89
  refine W.lo rfl rfl (Lo.callB (j := 0) rfl rfl (fn := Tryz.f150) (by kernel_rfl) rfl (mc rfl mn) O86 (fun G' L' hG O' hB => za9 K (σ82 5) x81 hB O' _ i91)) ?_
  rintro v99 H100 ⟨G93, O94, s95, sm98, rfl⟩
  replace O94 : Ow G93 H100 (eSl (σ82 5) 3 (rI .i64) x81 :: L) := O94
  refine W.q1 (.string x90) rfl (.nil (.ret ?_))
  have O101 : Ow G93 H100 (L) := O94.drop 0
  obtain rfl := zAa h92
  refine z1a (P := Tryz.prog) (fn := Tryz.f96) (n := 43) (R := fun v H' => ∃ G', Ow G' H' (L) /\ G.le G' /\ v = .string x90) (v1 := (.string x90)) (by rfl) (z08 (by rfl) (by exact rfl)) ?_
  exact ⟨_, O101, (zAe s87 s95), rfl⟩
 refine .block ?_
 have O4 := O.nilSl 3 (rI .i64)
 refine AW.loop (α := Nat) (fun k' σ' H' => ∃ (y1 : List Int) (y2 : Int) (y3 : Int) (G' : GM), z29 K p0 p1 k' y1 y2 y3 = some q1 /\ Ow G' H' (eSl (σ' 5) 3 (rI .i64) y1 :: L) /\ GM.le G G' /\ σ' 6 = .int .i64 y2 /\ σ' 7 = .int .i64 y3) (fun k' => k') K ⟨[], 0, 0, _, h2, O4, (zAf _), rfl, rfl⟩ ?_
 rintro k5
 rintro σ9 H10 fr11 ⟨x6, x7, x8, G12, h15, O13, s14, t16, t17⟩
 rcases k5 with _ | k5
 .exact z07 h15
 rw [z29] at h15
 refine .seq (.seq ?_)
 obtain ⟨q18, h19, h20⟩ := z00 h15
 refine AW.midT (fun σ' H' => ∃ (y1 : Bool) (G' : GM), y1 = q18 /\ Ow G' H' (eSl (σ9 5) 3 (rI .i64) x6 :: L) /\ GM.le G12 G' /\ σ' 22 = .bool y1) ?_ ?_
 .refine .region (W.q2 (.int .i64 x8) t17 (W.q2 (.string p0) ((fr11 0 rfl).trans rfl) (W.pure (v := (.int .i64 (p0.size : Int))) rfl rfl (z1h (oo rfl rfl) un9) (W.q3 (.bool (decide (x8 < (p0.size : Int)))) rfl rfl (W.q2 (.bool (decide (x8 < (p0.size : Int)))) rfl (W.splitAt (t := 13) (b := decide (x8 < (p0.size : Int))) rfl (fun g21 gv22 => ?_) (fun g21 gv22 => ?_)))))))
  .have h23 := z04 g21 h19
   refine W.q6 rfl gv22 (W.q6 rfl gv22 (W.q6 rfl gv22 (W.q6 rfl gv22 (W.q4 (.bool true) gv22 rfl (W.q2 (.bool true) rfl (W.q6 rfl rfl ?_))))))
   refine W.q6 rfl rfl (W.q4 (.bool true) rfl rfl (.nil ?_))
   obtain rfl := zAa h23
   exact ⟨true, _, rfl, O13, (zAf _), rfl⟩
  have h24 := z0h g21 h19
  refine W.q2 (hg := gk rfl rfl gv22 rfl) (.int .i64 x8) t17 (W.q2 (hg := gk rfl rfl gv22 rfl) (.string p1) ((fr11 1 rfl).trans rfl) (W.pure (v := (.int .i64 (p1.size : Int))) (gk rfl rfl gv22 rfl) rfl (z1h (oo rfl rfl) un9) (W.q3 (hg := gk rfl rfl gv22 rfl) (.bool (decide (x8 < (p1.size : Int)))) rfl rfl (W.q5 (.bool (decide (x8 < (p1.size : Int)))) gv22 rfl (W.q2 (.bool (decide (x8 < (p1.size : Int)))) rfl (W.splitAt (t := 19) (b := decide (x8 < (p1.size : Int))) rfl (fun g25 gv26 => ?_) (fun g25 gv26 => ?_)))))))
  .have h27 := z04 g25 h24
   refine W.q6 rfl gv26 (W.q6 rfl gv26 (W.q4 (.bool true) gv26 rfl (.nil ?_)))
   obtain rfl := zAa h27
   exact ⟨true, _, rfl, O13, (zAf _), rfl⟩
  have h28 := z0h g25 h24
  refine W.q2 (hg := gk rfl rfl gv26 rfl) (.int .i64 x7) t16 (W.q3 (hg := gk rfl rfl gv26 rfl) (.bool (decide (x7 > 0))) rfl rfl (W.q5 (.bool (decide (x7 > 0))) gv26 rfl (.nil ?_)))
  obtain rfl := zAa h28
  exact ⟨decide (x7 > 0), _, rfl, O13, (zAf _), rfl⟩
 rintro σ30 H31 fr32 ⟨x29, G33, rfl, O34, s35, t37⟩
 have h38 := z0c h20
 refine .cond (b := x29) rfl t37 (fun g39 => ?_) (fun g39 => ?_)
 rotate_left
 .have h80 := z0h g39 h38
  refine .exit ?_
  obtain rfl := zAa h80
  exact ⟨x6, _, rfl, (Ow.reval (j := 0) O34 rfl ((fr32 5 rfl).trans rfl)), (zAe s14 s35)⟩
 have h40 := z04 g39 h38
 refine .skip (.seq (.block (.seq (.region (W.q2 (.string p0) ((fr32 0 rfl).trans ((fr11 0 rfl).trans rfl)) (W.q2 (.int .i64 x8) ((fr32 7 rfl).trans t17) ?_))))))
 obtain ⟨x41, i42, h43⟩ := z00 h40
 refine W.lo rfl rfl (Lo.callP (ps := []) (ps' := []) rfl (fn := Tryz.f149) (by kernel_rfl) rfl (mc rfl (mc rfl mn)) O34 (fun L' O' => z59 K p0 x8 O' _ i42)) ?_
 rintro v50 H51 ⟨G44, O45, s46, sm49, rfl⟩
 replace O45 : Ow G44 H51 (eSl (σ9 5) 3 (rI .i64) x6 :: L) := O45
 refine W.q2 (.string p1) ((fr32 1 rfl).trans ((fr11 1 rfl).trans rfl)) (W.q2 (.int .i64 x8) ((fr32 7 rfl).trans t17) ?_)
 obtain ⟨x52, i53, h54⟩ := z00 h43
 refine W.lo rfl rfl (Lo.callP (ps := []) (ps' := []) rfl (fn := Tryz.f149) (by kernel_rfl) rfl (mc rfl (mc rfl mn)) O45 (fun L' O' => z59 K p1 x8 O' _ i53)) ?_
 rintro v61 H62 ⟨G55, O56, s57, sm60, rfl⟩
 replace O56 : Ow G55 H62 (eSl (σ9 5) 3 (rI .i64) x6 :: L) := O56
 refine W.q3 (.int .i64 (z02 .i64 (x41 + x52))) rfl rfl (W.q2 (.int .i64 x7) ((fr32 6 rfl).trans t16) (W.q3 (.int .i64 (z02 .i64 ((z02 .i64 (x41 + x52)) + x7))) rfl rfl (W.q1 (.int .i64 (z02 .i64 ((z02 .i64 (x41 + x52)) + x7))) rfl (.nil (.seq (.region ?_))))))
 refine W.q2 (σ9 5) ((fr32 5 rfl).trans rfl) (W.q2 (.int .i64 (z02 .i64 ((z02 .i64 (x41 + x52)) + x7))) rfl (W.pure (v := (.int .i64 (Int.tmod (z02 .i64 ((z02 .i64 (x41 + x52)) + x7)) 10))) rfl rfl (ziw (by decide) (oo rfl rfl) (oo rfl rfl)) (W.lo rfl rfl (Lo.buildSlice (r := (rI .i64)) (vs := [(.int .i64 (Int.tmod (z02 .i64 ((z02 .i64 (x41 + x52)) + x7)) 10))]) (xs := [Int.tmod (z02 .i64 ((z02 .i64 (x41 + x52)) + x7)) 10]) zcc ze3 sz3 (by kernel_rfl) rfl (qc rfl qn) rfl (.cons rfl .nil) O56) ?_)))
 rintro v65 H66 ⟨O63, sm64⟩
 obtain ⟨es68, e69, e70⟩ := z44 (j := 0) rfl O63
 obtain ⟨g71, h72⟩ := z2b h54
 refine W.lo rfl rfl (Lo.append (j := 1) (v := (σ9 5)) rfl rfl zcc zo2 ze3 sz3 by3 (by decide) (by decide) rfl e69 e70 g71 O63) ?_
 rintro v74 H75 ⟨O67, sm73⟩
 replace O67 : Ow G55 H75 (eSl v65 3 (rI .i64) [Int.tmod (z02 .i64 ((z02 .i64 (x41 + x52)) + x7)) 10] :: eSl v74 3 (rI .i64) (x6 ++ [Int.tmod (z02 .i64 ((z02 .i64 (x41 + x52)) + x7)) 10]) :: L) := O67
 refine W.q1 v74 rfl (.nil (.region (W.q2 (.int .i64 (z02 .i64 ((z02 .i64 (x41 + x52)) + x7))) rfl (W.pure (v := (.int .i64 (z02 .i64 (Int.tdiv (z02 .i64 ((z02 .i64 (x41 + x52)) + x7)) 10)))) rfl rfl (zhh (by decide) (oo rfl rfl) (oo rfl rfl)) ?_))))
 obtain ⟨x76, e77, h78⟩ := z6z h72
 refine W.q1 (.int .i64 x76) (congrArg (Value.int .i64) e77) (.nil (.region (W.q2 (.int .i64 x8) ((fr32 7 rfl).trans t17) (W.q3 (.int .i64 (z02 .i64 (x8 + 1))) rfl rfl (W.q1 (.int .i64 (z02 .i64 (x8 + 1))) rfl (.nil ?_))))))
 have O79 : Ow G55 H75 (eSl v74 3 (rI .i64) (x6 ++ [Int.tmod (z02 .i64 ((z02 .i64 (x41 + x52)) + x7)) 10]) :: L) := O67.drop 0
 exact ⟨k5, zAg _, ⟨(x6 ++ [Int.tmod (z02 .i64 ((z02 .i64 (x41 + x52)) + x7)) 10]), x76, z02 .i64 (x8 + 1), _, h78, O79, (zAe s14 (zAe s35 (zAe s46 s57))), rfl, rfl⟩⟩
def z7o (K : Nat) (p0 : Bool) (p1 : zAd) (p2 : zAd) : Option zAd := (if (sEq p1 (⟨#[48]⟩ : zAd)) = true then some (⟨#[48]⟩ : zAd) else ((z7a K p1 p2).bind fun x4 => ((z6n K p1 x4).bind fun x15 => ((z6n K p2 x4).bind fun x26 => (Option.bind ((if p0 = true then (if ((⟨#[45]⟩ : zAd)).size + (x15.1).size <= 4611686018427387904 then some ((⟨#[45]⟩ : zAd) ++ x15.1) else none) else some x15.1)) (tu1 fun x45 => (if (sEq x26.1 (⟨#[49]⟩ : zAd)) = true then some x45 else (if (x45).size + ((⟨#[47]⟩ : zAd)).size <= 4611686018427387904 then (if ((x45 ++ (⟨#[47]⟩ : zAd))).size + (x26.1).size <= 4611686018427387904 then some ((x45 ++ (⟨#[47]⟩ : zAd)) ++ x26.1) else none) else none))))))))
set_option maxHeartbeats 4000000 in
theorem z95 (p0 : Bool) (p1 : zAd) (p2 : zAd) (O : Ow G H (L)) (r : zAd) (h : z7o K p0 p1 p2 = some r) :
    CR Tryz.prog 95 [(.bool p0), (.string p1), (.string p2)] G H (L) (fun v G' _ => v = .string r) := by
 unfold z7o at h
 refine CR.of (z06 (n := 35) (fn := Tryz.f95) (R := fun v H' => ∃ G', Ow G' H' (L) /\ G.le G' /\ v = .string r) (by kernel_rfl) rfl rfl ?_)
 refine .seq (.region (W.q1 (.string (⟨#[]⟩ : zAd)) rfl (.nil (.seq (.seq (.region ?_))))))
 refine W.q2 (.string p1) rfl (W.pure (v := (.bool (sEq p1 (⟨#[48]⟩ : zAd)))) rfl rfl (z8p (oo rfl rfl) (oo rfl rfl)) (.nil (.cond (b := sEq p1 (⟨#[48]⟩ : zAd)) rfl rfl (fun g1 => ?_) (fun g1 => ?_))))
 .have h2 := z04 g1 h
  refine .seq (.region (W.q1 (.string (⟨#[48]⟩ : zAd)) rfl (.nil (.ret ?_))))
  obtain rfl := zAa h2
  refine z1a (P := Tryz.prog) (fn := Tryz.f95) (n := 35) (R := fun v H' => ∃ G', Ow G' H' (L) /\ G.le G' /\ v = .string (⟨#[48]⟩ : zAd)) (v1 := (.string (⟨#[48]⟩ : zAd))) (by rfl) (z08 (by rfl) (by exact rfl)) ?_
  exact ⟨_, O, (zAf _), rfl⟩
 have h3 := z0h g1 h
 refine .skip (.seq (.region (W.q2 (.string p1) rfl (W.q2 (.string p2) rfl ?_))))
 obtain ⟨x4, i5, h6⟩ := z00 h3
 refine W.lo rfl rfl (Lo.callP (ps := []) (ps' := []) rfl (fn := Tryz.f60) (by kernel_rfl) rfl (mc rfl (mc rfl mn)) O (fun L' O' => zah K p1 p2 O' _ i5)) ?_
 rintro v13 H14 ⟨G7, O8, s9, sm12, rfl⟩
 replace O8 : Ow G7 H14 (L) := O8
 refine W.q1 (.string x4) rfl (.nil (.seq (.region (W.q2 (.string p1) rfl (W.q2 (.string x4) rfl ?_)))))
 obtain ⟨x15, i16, h17⟩ := z00 h6
 refine W.lo rfl rfl (Lo.callP (ps := []) (ps' := []) rfl (fn := Tryz.f129) (by kernel_rfl) rfl (mc rfl (mc rfl mn)) O8 (fun L' O' => z89 K p1 x4 O' _ i16)) ?_
 rintro v24 H25 ⟨G18, O19, s20, sm23, rfl⟩
 replace O19 : Ow G18 H25 (L) := O19
 refine W.q2 (.tuple #[(.string x15.1), (.string x15.2)]) rfl (W.pure (v := (.string x15.1)) rfl rfl (z09 (oo rfl rfl) rfl) (W.pure (v := (.string x15.2)) rfl rfl (z09 (oo rfl rfl) rfl) (W.q1 (.string x15.1) rfl (.nil (.seq (.region ?_))))))
 refine W.q2 (.string p2) rfl (W.q2 (.string x4) rfl ?_)
 obtain ⟨x26, i27, h28⟩ := z00 h17
 refine W.lo rfl rfl (Lo.callP (ps := []) (ps' := []) rfl (fn := Tryz.f129) (by kernel_rfl) rfl (mc rfl (mc rfl mn)) O19 (fun L' O' => z89 K p2 x4 O' _ i27)) ?_
 rintro v35 H36 ⟨G29, O30, s31, sm34, rfl⟩
 replace O30 : Ow G29 H36 (L) := O30
 refine W.q2 (.tuple #[(.string x26.1), (.string x26.2)]) rfl (W.pure (v := (.string x26.1)) rfl rfl (z09 (oo rfl rfl) rfl) (W.pure (v := (.string x26.2)) rfl rfl (z09 (oo rfl rfl) rfl) (W.q1 (.string x26.1) rfl (.nil (.seq (.seq ?_))))))
 refine .region (W.q2 (.bool p0) rfl (.nil ?_))
 obtain ⟨q37, h38, h39⟩ := z00 h28
 refine AW.midT (fun σ' H' => ∃ (y1 : zAd) (G' : GM), y1 = q37 /\ Ow G' H' (L) /\ GM.le G29 G' /\ σ' 1 = .string y1) ?_ ?_
 .refine .cond (b := p0) rfl rfl (fun g40 => ?_) (fun g40 => ?_)
  rotate_left
  .have h44 := z0h g40 h38
   refine .skip ?_
   obtain rfl := zAa h44
   exact ⟨x15.1, _, rfl, O30, (zAf _), rfl⟩
  have h41 := z04 g40 h38
  refine .region (W.q2 (.string x15.1) rfl ?_)
  obtain ⟨g42, h43⟩ := z2b h41
  refine W.pure (v := (.string ((⟨#[45]⟩ : zAd) ++ x15.1))) rfl rfl (zbu g42 (oo rfl rfl) (oo rfl rfl)) (W.q1 (.string ((⟨#[45]⟩ : zAd) ++ x15.1)) rfl (.nil ?_))
  obtain rfl := zAa h43
  exact ⟨((⟨#[45]⟩ : zAd) ++ x15.1), _, rfl, O30, (zAf _), rfl⟩
 rintro σ46 H47 fr48 ⟨x45, G49, rfl, O50, s51, t53⟩
 have h54 := z0c h39
 refine .seq (.seq (.region (W.q2 (.string x26.1) ((fr48 2 rfl).trans rfl) (W.pure (v := (.bool (sEq x26.1 (⟨#[49]⟩ : zAd)))) rfl rfl (z8p (oo rfl rfl) (oo rfl rfl)) (.nil (.cond (b := sEq x26.1 (⟨#[49]⟩ : zAd)) rfl rfl (fun g55 => ?_) (fun g55 => ?_)))))))
 .have h56 := z04 g55 h54
  refine .seq (.region (W.q2 (.string x45) t53 (W.q1 (.string x45) rfl (.nil (.ret ?_)))))
  obtain rfl := zAa h56
  refine z1a (P := Tryz.prog) (fn := Tryz.f95) (n := 35) (R := fun v H' => ∃ G', Ow G' H' (L) /\ G.le G' /\ v = .string x45) (v1 := (.string x45)) (by rfl) (z08 (by rfl) (by exact rfl)) ?_
  exact ⟨_, O50, (zAe s9 (zAe s20 (zAe s31 s51))), rfl⟩
 have h57 := z0h g55 h54
 refine .skip (.seq (.region (W.q2 (.string x45) t53 ?_)))
 obtain ⟨g58, h59⟩ := z2b h57
 refine W.pure (v := (.string (x45 ++ (⟨#[47]⟩ : zAd)))) rfl rfl (zbu g58 (oo rfl rfl) (oo rfl rfl)) (W.q2 (.string x26.1) ((fr48 2 rfl).trans rfl) ?_)
 obtain ⟨g60, h61⟩ := z2b h59
 refine W.pure (v := (.string ((x45 ++ (⟨#[47]⟩ : zAd)) ++ x26.1))) rfl rfl (zbu g60 (oo rfl rfl) (oo rfl rfl)) (W.q1 (.string ((x45 ++ (⟨#[47]⟩ : zAd)) ++ x26.1)) rfl (.nil (.ret ?_)))
 obtain rfl := zAa h61
 refine z1a (P := Tryz.prog) (fn := Tryz.f95) (n := 35) (R := fun v H' => ∃ G', Ow G' H' (L) /\ G.le G' /\ v = .string ((x45 ++ (⟨#[47]⟩ : zAd)) ++ x26.1)) (v1 := (.string ((x45 ++ (⟨#[47]⟩ : zAd)) ++ x26.1))) (by rfl) (z08 (by rfl) (by exact rfl)) ?_
 exact ⟨_, O50, (zAe s9 (zAe s20 (zAe s31 s51))), rfl⟩
def z8b (K : Nat) (p0 : zAd) (p1 : zAd) : Option zAd := ((z66 K p0).bind fun x1 => ((z66 K p1).bind fun x12 => ((z4x K x1.2.1 x12.2.2).bind fun x23 => ((z4x K x12.2.1 x1.2.2).bind fun x34 => ((z4x K x1.2.2 x12.2.2).bind fun x45 => (if (x1.1 == x12.1) = true then ((z8a K x23 x34).bind fun x58 => ((z7o K x1.1 x58 x45).bind fun x69 => some x69)) else ((z78 K x23 x34).bind fun x81 => (Option.bind ((if (decide (x81 < 0)) = true then some (x12.1, x34, x23) else some (x1.1, x23, x34))) (tu3 fun x98 x99 x100 => ((z79 K x99 x100).bind fun x112 => ((z7o K x98 x112 x45).bind fun x123 => some x123)))))))))))
set_option maxHeartbeats 4000000 in
theorem zdz (p0 : zAd) (p1 : zAd) (O : Ow G H (L)) (r : zAd) (h : z8b K p0 p1 = some r) :
    CR Tryz.prog 41 [(.string p0), (.string p1)] G H (L) (fun v G' _ => v = .string r) := by
 unfold z8b at h
 refine CR.of (z06 (n := 57) (fn := Tryz.f41) (R := fun v H' => ∃ G', Ow G' H' (L) /\ G.le G' /\ v = .string r) (by kernel_rfl) rfl rfl ?_)
 refine .seq (.region (W.q1 (.string (⟨#[]⟩ : zAd)) rfl (.nil (.seq (.region (W.q2 (.string p0) rfl ?_))))))
 obtain ⟨x1, i2, h3⟩ := z00 h
 refine W.lo rfl rfl (Lo.callP (ps := []) (ps' := []) rfl (fn := Tryz.f61) (by kernel_rfl) rfl (mc rfl mn) O (fun L' O' => z7n K p0 O' _ i2)) ?_
 rintro v10 H11 ⟨G4, O5, s6, sm9, rfl⟩
 replace O5 : Ow G4 H11 (L) := O5
 refine W.q2 (.tuple #[(.bool x1.1), (.string x1.2.1), (.string x1.2.2)]) rfl (W.pure (v := (.bool x1.1)) rfl rfl (z09 (oo rfl rfl) rfl) (W.pure (v := (.string x1.2.1)) rfl rfl (z09 (oo rfl rfl) rfl) (W.pure (v := (.string x1.2.2)) rfl rfl (z09 (oo rfl rfl) rfl) (W.q1 (.bool x1.1) rfl (W.q1 (.string x1.2.1) rfl (W.q1 (.string x1.2.2) rfl ?_))))))
 refine .nil (.seq (.region (W.q2 (.string p1) rfl ?_)))
 obtain ⟨x12, i13, h14⟩ := z00 h3
 refine W.lo rfl rfl (Lo.callP (ps := []) (ps' := []) rfl (fn := Tryz.f61) (by kernel_rfl) rfl (mc rfl mn) O5 (fun L' O' => z7n K p1 O' _ i13)) ?_
 rintro v21 H22 ⟨G15, O16, s17, sm20, rfl⟩
 replace O16 : Ow G15 H22 (L) := O16
 refine W.q2 (.tuple #[(.bool x12.1), (.string x12.2.1), (.string x12.2.2)]) rfl (W.pure (v := (.bool x12.1)) rfl rfl (z09 (oo rfl rfl) rfl) (W.pure (v := (.string x12.2.1)) rfl rfl (z09 (oo rfl rfl) rfl) (W.pure (v := (.string x12.2.2)) rfl rfl (z09 (oo rfl rfl) rfl) (W.q1 (.bool x12.1) rfl (W.q1 (.string x12.2.1) rfl (W.q1 (.string x12.2.2) rfl ?_))))))
 refine .nil (.seq (.region (W.q2 (.string x1.2.1) rfl (W.q2 (.string x12.2.2) rfl ?_))))
 obtain ⟨x23, i24, h25⟩ := z00 h14
 refine W.lo rfl rfl (Lo.callP (ps := []) (ps' := []) rfl (fn := Tryz.f94) (by kernel_rfl) rfl (mc rfl (mc rfl mn)) O16 (fun L' O' => z5t K x1.2.1 x12.2.2 O' _ i24)) ?_
 rintro v32 H33 ⟨G26, O27, s28, sm31, rfl⟩
 replace O27 : Ow G26 H33 (L) := O27
 refine W.q2 (.string x12.2.1) rfl (W.q2 (.string x1.2.2) rfl ?_)
 obtain ⟨x34, i35, h36⟩ := z00 h25
 refine W.lo rfl rfl (Lo.callP (ps := []) (ps' := []) rfl (fn := Tryz.f94) (by kernel_rfl) rfl (mc rfl (mc rfl mn)) O27 (fun L' O' => z5t K x12.2.1 x1.2.2 O' _ i35)) ?_
 rintro v43 H44 ⟨G37, O38, s39, sm42, rfl⟩
 replace O38 : Ow G37 H44 (L) := O38
 refine W.q2 (.string x1.2.2) rfl (W.q2 (.string x12.2.2) rfl ?_)
 obtain ⟨x45, i46, h47⟩ := z00 h36
 refine W.lo rfl rfl (Lo.callP (ps := []) (ps' := []) rfl (fn := Tryz.f94) (by kernel_rfl) rfl (mc rfl (mc rfl mn)) O38 (fun L' O' => z5t K x1.2.2 x12.2.2 O' _ i46)) ?_
 rintro v54 H55 ⟨G48, O49, s50, sm53, rfl⟩
 replace O49 : Ow G48 H55 (L) := O49
 refine W.q1 (.string x23) rfl (W.q1 (.string x34) rfl (W.q1 (.string x45) rfl (.nil (.seq (.seq (.region ?_))))))
 refine W.q2 (.bool x1.1) rfl (W.q2 (.bool x12.1) rfl (W.pure (v := (.bool (x1.1 == x12.1))) rfl rfl (zha (oo rfl rfl) (oo rfl rfl) un4) (.nil (.cond (b := (x1.1 == x12.1)) rfl rfl (fun g56 => ?_) (fun g56 => ?_)))))
 .have h57 := z04 g56 h47
  refine .seq (.region (W.q2 (.bool x1.1) rfl (W.q2 (.string x23) rfl (W.q2 (.string x34) rfl ?_))))
  obtain ⟨x58, i59, h60⟩ := z00 h57
  refine W.lo rfl rfl (Lo.callP (ps := []) (ps' := []) rfl (fn := Tryz.f96) (by kernel_rfl) rfl (mc rfl (mc rfl mn)) O49 (fun L' O' => zdy K x23 x34 O' _ i59)) ?_
  rintro v67 H68 ⟨G61, O62, s63, sm66, rfl⟩
  replace O62 : Ow G61 H68 (L) := O62
  refine W.q2 (.string x45) rfl ?_
  obtain ⟨x69, i70, h71⟩ := z00 h60
  refine W.lo rfl rfl (Lo.callP (ps := []) (ps' := []) rfl (fn := Tryz.f95) (by kernel_rfl) rfl (mc rfl (mc rfl (mc rfl mn))) O62 (fun L' O' => z95 K x1.1 x58 x45 O' _ i70)) ?_
  rintro v78 H79 ⟨G72, O73, s74, sm77, rfl⟩
  replace O73 : Ow G72 H79 (L) := O73
  refine W.q1 (.string x69) rfl (.nil (.ret ?_))
  obtain rfl := zAa h71
  refine z1a (P := Tryz.prog) (fn := Tryz.f41) (n := 57) (R := fun v H' => ∃ G', Ow G' H' (L) /\ G.le G' /\ v = .string x69) (v1 := (.string x69)) (by rfl) (z08 (by rfl) (by exact rfl)) ?_
  exact ⟨_, O73, (zAe s6 (zAe s17 (zAe s28 (zAe s39 (zAe s50 (zAe s63 s74)))))), rfl⟩
 have h80 := z0h g56 h47
 refine .skip (.seq (.seq (.region (W.q2 (.string x23) rfl (W.q2 (.string x34) rfl ?_)))))
 obtain ⟨x81, i82, h83⟩ := z00 h80
 refine W.lo rfl rfl (Lo.callP (ps := []) (ps' := []) rfl (fn := Tryz.f97) (by kernel_rfl) rfl (mc rfl (mc rfl mn)) O49 (fun L' O' => zaf K x23 x34 O' _ i82)) ?_
 rintro v90 H91 ⟨G84, O85, s86, sm89, rfl⟩
 replace O85 : Ow G84 H91 (L) := O85
 refine W.q3 (.bool (decide (x81 < 0))) rfl rfl (.nil ?_)
 obtain ⟨q92, h93, h94⟩ := z00 h83
 refine AW.midT (fun σ' H' => ∃ (y1 : Bool) (y2 : zAd) (y3 : zAd) (G' : GM), (y1, y2, y3) = q92 /\ Ow G' H' (L) /\ GM.le G84 G' /\ σ' 5 = .bool y1 /\ σ' 11 = .string y2 /\ σ' 12 = .string y3) ?_ ?_
 .refine .cond (b := decide (x81 < 0)) rfl rfl (fun g95 => ?_) (fun g95 => ?_)
  rotate_left
  .have h97 := z0h g95 h93
   refine .skip ?_
   obtain rfl := zAa h97
   exact ⟨x1.1, x23, x34, _, rfl, O85, (zAf _), rfl, rfl, rfl⟩
  have h96 := z04 g95 h93
  refine .region (W.q2 (.string x34) rfl (W.q2 (.string x23) rfl (W.q2 (.bool x12.1) rfl (W.q1 (.string x34) rfl (W.q1 (.string x23) rfl (W.q1 (.bool x12.1) rfl ?_))))))
  refine .nil ?_
  obtain rfl := zAa h96
  exact ⟨x12.1, x34, x23, _, rfl, O85, (zAf _), rfl, rfl, rfl⟩
 rintro σ101 H102 fr103 ⟨x98, x99, x100, G104, rfl, O105, s106, t108, t109, t110⟩
 have h111 := zfb h94
 refine .seq (.region (W.q2 (.bool x98) t108 (W.q2 (.string x99) t109 (W.q2 (.string x100) t110 ?_))))
 obtain ⟨x112, i113, h114⟩ := z00 h111
 refine W.lo rfl rfl (Lo.callP (ps := []) (ps' := []) rfl (fn := Tryz.f98) (by kernel_rfl) rfl (mc rfl (mc rfl mn)) O105 (fun L' O' => zag K x99 x100 O' _ i113)) ?_
 rintro v121 H122 ⟨G115, O116, s117, sm120, rfl⟩
 replace O116 : Ow G115 H122 (L) := O116
 refine W.q2 (.string x45) ((fr103 13 rfl).trans rfl) ?_
 obtain ⟨x123, i124, h125⟩ := z00 h114
 refine W.lo rfl rfl (Lo.callP (ps := []) (ps' := []) rfl (fn := Tryz.f95) (by kernel_rfl) rfl (mc rfl (mc rfl (mc rfl mn))) O116 (fun L' O' => z95 K x98 x112 x45 O' _ i124)) ?_
 rintro v132 H133 ⟨G126, O127, s128, sm131, rfl⟩
 replace O127 : Ow G126 H133 (L) := O127
 refine W.q1 (.string x123) rfl (.nil (.ret ?_))
 obtain rfl := zAa h125
 refine z1a (P := Tryz.prog) (fn := Tryz.f41) (n := 57) (R := fun v H' => ∃ G', Ow G' H' (L) /\ G.le G' /\ v = .string x123) (v1 := (.string x123)) (by rfl) (z08 (by rfl) (by exact rfl)) ?_
 exact ⟨_, O127, (zAe s6 (zAe s17 (zAe s28 (zAe s39 (zAe s50 (zAe s86 (zAe s106 (zAe s117 s128)))))))), rfl⟩
def z8c (K : Nat) (p0 : zAd) (p1 : zAd) : Option zAd := ((z66 K p0).bind fun x1 => ((z66 K p1).bind fun x12 => ((z4x K x1.2.1 x12.2.1).bind fun x23 => ((z4x K x1.2.2 x12.2.2).bind fun x34 => ((z7o K (!(x1.1 == x12.1)) x23 x34).bind fun x45 => some x45)))))
set_option maxHeartbeats 4000000 in
theorem ze0 (p0 : zAd) (p1 : zAd) (O : Ow G H (L)) (r : zAd) (h : z8c K p0 p1 = some r) :
    CR Tryz.prog 42 [(.string p0), (.string p1)] G H (L) (fun v G' _ => v = .string r) := by
 unfold z8c at h
 refine CR.of (z06 (n := 33) (fn := Tryz.f42) (R := fun v H' => ∃ G', Ow G' H' (L) /\ G.le G' /\ v = .string r) (by kernel_rfl) rfl rfl ?_)
 refine .seq (.region (W.q1 (.string (⟨#[]⟩ : zAd)) rfl (.nil (.seq (.region (W.q2 (.string p0) rfl ?_))))))
 obtain ⟨x1, i2, h3⟩ := z00 h
 refine W.lo rfl rfl (Lo.callP (ps := []) (ps' := []) rfl (fn := Tryz.f61) (by kernel_rfl) rfl (mc rfl mn) O (fun L' O' => z7n K p0 O' _ i2)) ?_
 rintro v10 H11 ⟨G4, O5, s6, sm9, rfl⟩
 replace O5 : Ow G4 H11 (L) := O5
 refine W.q2 (.tuple #[(.bool x1.1), (.string x1.2.1), (.string x1.2.2)]) rfl (W.pure (v := (.bool x1.1)) rfl rfl (z09 (oo rfl rfl) rfl) (W.pure (v := (.string x1.2.1)) rfl rfl (z09 (oo rfl rfl) rfl) (W.pure (v := (.string x1.2.2)) rfl rfl (z09 (oo rfl rfl) rfl) (W.q1 (.bool x1.1) rfl (W.q1 (.string x1.2.1) rfl (W.q1 (.string x1.2.2) rfl ?_))))))
 refine .nil (.seq (.region (W.q2 (.string p1) rfl ?_)))
 obtain ⟨x12, i13, h14⟩ := z00 h3
 refine W.lo rfl rfl (Lo.callP (ps := []) (ps' := []) rfl (fn := Tryz.f61) (by kernel_rfl) rfl (mc rfl mn) O5 (fun L' O' => z7n K p1 O' _ i13)) ?_
 rintro v21 H22 ⟨G15, O16, s17, sm20, rfl⟩
 replace O16 : Ow G15 H22 (L) := O16
 refine W.q2 (.tuple #[(.bool x12.1), (.string x12.2.1), (.string x12.2.2)]) rfl (W.pure (v := (.bool x12.1)) rfl rfl (z09 (oo rfl rfl) rfl) (W.pure (v := (.string x12.2.1)) rfl rfl (z09 (oo rfl rfl) rfl) (W.pure (v := (.string x12.2.2)) rfl rfl (z09 (oo rfl rfl) rfl) (W.q1 (.bool x12.1) rfl (W.q1 (.string x12.2.1) rfl (W.q1 (.string x12.2.2) rfl ?_))))))
 refine .nil (.seq (.region (W.q2 (.bool x1.1) rfl (W.q2 (.bool x12.1) rfl (W.pure (v := (.bool (!(x1.1 == x12.1)))) rfl rfl (zhb (oo rfl rfl) (oo rfl rfl) un4) (W.q2 (.string x1.2.1) rfl ?_))))))
 refine W.q2 (.string x12.2.1) rfl ?_
 obtain ⟨x23, i24, h25⟩ := z00 h14
 refine W.lo rfl rfl (Lo.callP (ps := []) (ps' := []) rfl (fn := Tryz.f94) (by kernel_rfl) rfl (mc rfl (mc rfl mn)) O16 (fun L' O' => z5t K x1.2.1 x12.2.1 O' _ i24)) ?_
 rintro v32 H33 ⟨G26, O27, s28, sm31, rfl⟩
 replace O27 : Ow G26 H33 (L) := O27
 refine W.q2 (.string x1.2.2) rfl (W.q2 (.string x12.2.2) rfl ?_)
 obtain ⟨x34, i35, h36⟩ := z00 h25
 refine W.lo rfl rfl (Lo.callP (ps := []) (ps' := []) rfl (fn := Tryz.f94) (by kernel_rfl) rfl (mc rfl (mc rfl mn)) O27 (fun L' O' => z5t K x1.2.2 x12.2.2 O' _ i35)) ?_
 rintro v43 H44 ⟨G37, O38, s39, sm42, rfl⟩
 replace O38 : Ow G37 H44 (L) := O38
 obtain ⟨x45, i46, h47⟩ := z00 h36
 refine W.lo rfl rfl (Lo.callP (ps := []) (ps' := []) rfl (fn := Tryz.f95) (by kernel_rfl) rfl (mc rfl (mc rfl (mc rfl mn))) O38 (fun L' O' => z95 K (!(x1.1 == x12.1)) x23 x34 O' _ i46)) ?_
 rintro v54 H55 ⟨G48, O49, s50, sm53, rfl⟩
 replace O49 : Ow G48 H55 (L) := O49
 refine W.q1 (.string x45) rfl (.nil (.ret ?_))
 obtain rfl := zAa h47
 refine z1a (P := Tryz.prog) (fn := Tryz.f42) (n := 33) (R := fun v H' => ∃ G', Ow G' H' (L) /\ G.le G' /\ v = .string x45) (v1 := (.string x45)) (by rfl) (z08 (by rfl) (by exact rfl)) ?_
 exact ⟨_, O49, (zAe s6 (zAe s17 (zAe s28 (zAe s39 s50)))), rfl⟩
end Go.Am.Tryz
/- Typed functions with the same answers as the program's, and the walks that show it. -/
namespace Go.Am.Tryz
open Go Go.Am Go.Proofs

def z5u (K : Nat) (p0 : List zAd) (p1 : List zAd) : Nat -> zAd -> Int -> Option (zAd)
  | 0, _, _ => none
  | k + 1, x5, x6 => (if (decide (x6 >= 0)) = true then ((idx p0 x6).bind fun x23 => ((idx p1 x6).bind fun x27 => ((z8c K x23 x27).bind fun x31 => ((z8b K x31 x5).bind fun x42 => z5u K p0 p1 k x42 (z02 .i64 (x6 - 1)))))) else some x5)
def ze1 (K : Nat) (p0 : List zAd) (p1 : List zAd) : Option zAd := (Option.bind (z5u K p0 p1 K (⟨#[48]⟩ : zAd) (z02 .i64 ((List.length p0 : Int) - 1))) (tu1 fun x54 => some x54))
set_option maxHeartbeats 4000000 in
theorem zhw (K : Nat) {G : GM} {H : AH} {L : List Pc} (v0 : Value) (p0 : List zAd) (hp0 : (rSl rS).rep G [v0] p0) (v1 : Value) (p1 : List zAd) (hp1 : (rSl rS).rep G [v1] p1) (O : Ow G H (L)) (r : zAd) (h : ze1 K p0 p1 = some r) :
    CR Tryz.prog 36 [v0, v1] G H (L) (fun v G' _ => v = .string r) := by
 unfold ze1 at h
 refine CR.of (z06 (n := 26) (fn := Tryz.f36) (R := fun v H' => ∃ G', Ow G' H' (L) /\ G.le G' /\ v = .string r) (by kernel_rfl) rfl rfl ?_)
 refine .seq (.region (W.q1 (.string (⟨#[]⟩ : zAd)) rfl (.nil (.seq (.region (W.q1 (.string (⟨#[48]⟩ : zAd)) rfl ?_))))))
 refine .nil (.seq (.seq (.region (W.q2 v0 rfl (W.pure (v := (.int .i64 (List.length p0 : Int))) rfl rfl (z0i (oo rfl rfl) (z0d hp0) (z03 el45)) (W.q3 (.int .i64 (z02 .i64 ((List.length p0 : Int) - 1))) rfl rfl ?_))))))
 refine W.q1 (.int .i64 (z02 .i64 ((List.length p0 : Int) - 1))) rfl (.nil ?_)
 obtain ⟨q1, h2, h3⟩ := z00 h
 refine AW.midT (fun σ' H' => ∃ (y1 : zAd) (G' : GM), y1 = q1 /\ Ow G' H' (L) /\ GM.le G G' /\ σ' 5 = .string y1) ?_ ?_
 rotate_left
 .rintro σ55 H56 fr57 ⟨x54, G58, rfl, O59, s60, t62⟩
  have h63 := z0c h3
  refine .seq (.region (W.q2 (.string x54) t62 (W.q1 (.string x54) rfl (.nil (.ret ?_)))))
  obtain rfl := zAa h63
  refine z1a (P := Tryz.prog) (fn := Tryz.f36) (n := 26) (R := fun v H' => ∃ G', Ow G' H' (L) /\ G.le G' /\ v = .string x54) (v1 := (.string x54)) (by rfl) (z08 (by rfl) (by exact rfl)) ?_
  exact ⟨_, O59, s60, rfl⟩
 refine .block (AW.loop (α := Nat) (fun k' σ' H' => ∃ (y1 : zAd) (y2 : Int) (G' : GM), z5u K p0 p1 k' y1 y2 = some q1 /\ Ow G' H' (L) /\ GM.le G G' /\ σ' 5 = .string y1 /\ σ' 6 = .int .i64 y2) (fun k' => k') K ⟨(⟨#[48]⟩ : zAd), z02 .i64 ((List.length p0 : Int) - 1), _, h2, O, (zAf _), rfl, rfl⟩ ?_)
 rintro k4
 rintro σ7 H8 fr9 ⟨x5, x6, G10, h13, O11, s12, t14, t15⟩
 rcases k4 with _ | k4
 .exact z07 h13
 rw [z5u] at h13
 refine .seq (.seq (.region (W.q2 (.int .i64 x6) t15 (W.q3 (.bool (decide (x6 >= 0))) rfl rfl (.nil (.cond (b := decide (x6 >= 0)) rfl rfl (fun g16 => ?_) (fun g16 => ?_)))))))
 rotate_left
 .have h53 := z0h g16 h13
  refine .exit ?_
  obtain rfl := zAa h53
  exact ⟨x5, _, rfl, O11, s12, t14⟩
 have h17 := z04 g16 h13
 refine .skip (.seq (.block (.draw2 (M := [0, 0, 3, 7, 0, 0, 48, 112, 255, 0, 1023, 2047]) mixed (by kernel_rfl) (by kernel_rfl) fun H18 N22 x19 F21 => ?_)))
 have O20 := O11.ext x19
 refine D2.q2 v0 ((fr9 0 rfl).trans rfl) (D2.q2 (.int .i64 x6) t15 ?_)
 obtain ⟨x23, i24, h25⟩ := z00 h17
 have j26 := z0e i24
 refine D2.pure (v := (z1y v0 (Int.toNat x6 * 1))) rfl rfl (z2g el45 sz22 (oo rfl rfl) (oo rfl rfl) (z0d (RT.mono _ s12 hp0)) j26.1 j26.2.1) (D2.load1' (v := (.string x23)) (r := []) rfl rfl ag22 (z1g rfl (At.str (At.le (At.le (z1s hp0 j26.2.2) s12 s12) (zAf _) O20.fro))) z0b (D2.q2 v1 ((fr9 1 rfl).trans rfl) (D2.q2 (.int .i64 x6) t15 ?_)))
 obtain ⟨x27, i28, h29⟩ := z00 h25
 have j30 := z0e i28
 refine D2.pure (v := (z1y v1 (Int.toNat x6 * 1))) rfl rfl (z2g el45 sz22 (oo rfl rfl) (oo rfl rfl) (z0d (RT.mono _ s12 hp1)) j30.1 j30.2.1) (D2.load1' (v := (.string x27)) (r := []) rfl rfl ag22 (z1g rfl (At.str (At.le (At.le (z1s hp1 j30.2.2) s12 s12) (zAf _) O20.fro))) z0b ?_)
 obtain ⟨x31, i32, h33⟩ := z00 h29
 refine D2.lo rfl rfl (Lo.callP (ps := []) (ps' := []) rfl (fn := Tryz.f42) (by kernel_rfl) rfl (mc rfl (mc rfl mn)) O20 (fun L' O' => ze0 K x23 x27 O' _ i32)) ?_ z0b ?_ ?_
 .rintro v40 H41 ⟨G34, O35, s36, sm39, rfl⟩; exact (faR1 (.inl (by decide)) (faR1 (.inl (by decide)) z0b))
 .rintro v40 H41 ⟨G34, O35, s36, sm39, rfl⟩; exact z0b
 rintro v40 H41 ⟨G34, O35, s36, sm39, rfl⟩
 replace O35 : Ow G34 H41 (L) := O35
 refine D2.q2 (.string x5) t14 ?_
 obtain ⟨x42, i43, h44⟩ := z00 h33
 refine D2.lo rfl rfl (Lo.callP (ps := []) (ps' := []) rfl (fn := Tryz.f41) (by kernel_rfl) rfl (mc rfl (mc rfl mn)) O35 (fun L' O' => zdz K x31 x5 O' _ i43)) ?_ (z19 (by decide) z0b) ?_ ?_
 .rintro v51 H52 ⟨G45, O46, s47, sm50, rfl⟩; exact (faR1 (.inl (by decide)) (faR1 (.inl (by decide)) z0b))
 .rintro v51 H52 ⟨G45, O46, s47, sm50, rfl⟩; exact z0b
 rintro v51 H52 ⟨G45, O46, s47, sm50, rfl⟩
 replace O46 : Ow G45 H52 (L) := O46
 refine D2.q1 (.string x42) rfl (.nil (.region (W.q2 (.int .i64 x6) t15 (W.q3 (.int .i64 (z02 .i64 (x6 - 1))) rfl rfl (W.q1 (.int .i64 (z02 .i64 (x6 - 1))) rfl (.nil ?_))))))
 exact ⟨k4, zAg _, ⟨x42, z02 .i64 (x6 - 1), _, h44, O46, (zAe s12 (zAe s36 s47)), rfl, rfl⟩⟩
end Go.Am.Tryz
/- Typed functions with the same answers as the program's, and the walks that show it. -/
namespace Go.Am.Tryz
open Go Go.Am Go.Proofs

def z4y (K : Nat) (p0 : List zAd) (p1 : List zAd) : Option Bool := ((z4w K ).bind fun x1 => (if (!x1) = true then some false else ((z39 K p0 p1).bind fun x15 => ((z5b K p0).bind fun x26 => ((z5b K p1).bind fun x37 => ((z6g K [x26, x37]).bind fun x52 => (Option.bind ((if (x52 == 0) = true then some ((List.length p0 : Int) != (List.length p1 : Int)) else some false)) (tu1 fun x70 => (Option.bind ((if x70 = true then some 3 else some x52)) (tu1 fun x86 => (if (x86 != 0) = true then (Option.bind ((if (x15.2 == x86) = true then some (sEq x15.1 (⟨#[]⟩ : zAd)) else some false)) (tu1 fun x105 => some x105)) else (Option.bind (((z7b K 40 [[p0, p1]]).bind fun x132 => (if x132 = true then some true else (if (x15.2 == 0) = true then ((ze1 K p0 p1).bind fun x151 => some (sEq x15.1 x151)) else some false)))) (tu1 fun x165 => some x165)))))))))))))
set_option maxHeartbeats 4000000 in
theorem z9q (K : Nat) {G : GM} {H : AH} {L : List Pc} (v0 : Value) (p0 : List zAd) (hp0 : (rSl rS).rep G [v0] p0) (v1 : Value) (p1 : List zAd) (hp1 : (rSl rS).rep G [v1] p1) (O : Ow G H (L)) (r : Bool) (h : z4y K p0 p1 = some r) :
    CR Tryz.prog 5 [v0, v1] G H (L) (fun v G' _ => v = .bool r) := by
 unfold z4y at h
 refine CR.of (z06 (n := 56) (fn := Tryz.f5) (R := fun v H' => ∃ G', Ow G' H' (L) /\ G.le G' /\ v = .bool r) (by kernel_rfl) rfl rfl ?_)
 refine .seq (.region (W.q1 (.bool false) rfl (.nil (.seq (.seq (.region ?_))))))
 obtain ⟨x1, i2, h3⟩ := z00 h
 refine W.lo rfl rfl (Lo.callP (ps := []) (ps' := []) rfl (fn := Tryz.f26) (by kernel_rfl) rfl mn O (fun L' O' => z9p K  O' _ i2)) ?_
 rintro v10 H11 ⟨G4, O5, s6, sm9, rfl⟩
 replace O5 : Ow G4 H11 (L) := O5
 refine W.pure (v := (.bool (!x1))) rfl rfl (zb6 (a := x1) (oo rfl rfl)) (.nil (.cond (b := (!x1)) rfl rfl (fun g12 => ?_) (fun g12 => ?_)))
 .have h13 := z04 g12 h3
  refine .seq (.region (W.q1 (.bool false) rfl (.nil (.ret ?_))))
  obtain rfl := zAa h13
  refine z1a (P := Tryz.prog) (fn := Tryz.f5) (n := 56) (R := fun v H' => ∃ G', Ow G' H' (L) /\ G.le G' /\ v = .bool false) (v1 := (.bool false)) (by rfl) (z08 (by rfl) (by exact rfl)) ?_
  exact ⟨_, O5, s6, rfl⟩
 have h14 := z0h g12 h3
 refine .skip (.seq (.region (W.q2 v0 rfl (W.q2 v1 rfl ?_))))
 obtain ⟨x15, i16, h17⟩ := z00 h14
 refine W.lo rfl rfl (Lo.callP (ps := []) (ps' := []) rfl (fn := Tryz.f37) (by kernel_rfl) rfl (mc rfl (mc rfl mn)) O5 (fun L' O' => z8u K v0 p0 (RT.mono _ s6 hp0) v1 p1 (RT.mono _ s6 hp1) O' _ i16)) ?_
 rintro v24 H25 ⟨G18, O19, s20, sm23, rfl⟩
 replace O19 : Ow G18 H25 (L) := O19
 refine W.q2 (.tuple #[(.string x15.1), (.int .i64 x15.2)]) rfl (W.pure (v := (.string x15.1)) rfl rfl (z09 (oo rfl rfl) rfl) (W.pure (v := (.int .i64 x15.2)) rfl rfl (z09 (oo rfl rfl) rfl) (W.q1 (.string x15.1) rfl (W.q1 (.int .i64 x15.2) rfl (.nil (.seq ?_))))))
 refine .region (W.q2 v0 rfl ?_)
 obtain ⟨x26, i27, h28⟩ := z00 h17
 refine W.lo rfl rfl (Lo.callP (ps := []) (ps' := []) rfl (fn := Tryz.f33) (by kernel_rfl) rfl (mc rfl mn) O19 (fun L' O' => z8x K v0 p0 (RT.mono _ (zAe s6 s20) hp0) O' _ i27)) ?_
 rintro v35 H36 ⟨G29, O30, s31, sm34, rfl⟩
 replace O30 : Ow G29 H36 (L) := O30
 refine W.q2 v1 rfl ?_
 obtain ⟨x37, i38, h39⟩ := z00 h28
 refine W.lo rfl rfl (Lo.callP (ps := []) (ps' := []) rfl (fn := Tryz.f33) (by kernel_rfl) rfl (mc rfl mn) O30 (fun L' O' => z8x K v1 p1 (RT.mono _ (zAe s6 (zAe s20 s31)) hp1) O' _ i38)) ?_
 rintro v46 H47 ⟨G40, O41, s42, sm45, rfl⟩
 replace O41 : Ow G40 H47 (L) := O41
 refine W.lo rfl rfl (Lo.buildSlice (r := (rI .i64)) (vs := [(.int .i64 x26), (.int .i64 x37)]) (xs := [x26, x37]) el91 ze28 sz28 (by kernel_rfl) rfl (qc rfl (qc rfl qn)) rfl (.cons rfl (.cons rfl .nil)) O41) ?_
 rintro v50 H51 ⟨O48, sm49⟩
 obtain ⟨x52, i53, h54⟩ := z00 h39
 refine W.lo rfl rfl (Lo.callB (j := 0) rfl rfl (fn := Tryz.f18) (by kernel_rfl) rfl (mc rfl mn) O48 (fun G' L' hG O' hB => zd4 K v50 [x26, x37] hB O' _ i53)) ?_
 rintro v61 H62 ⟨G55, O56, s57, sm60, rfl⟩
 replace O56 : Ow G55 H62 (eSl v50 28 (rI .i64) [x26, x37] :: L) := O56
 refine W.q1 (.int .i64 x52) rfl (.nil (.seq (.seq ?_)))
 obtain ⟨q63, h64, h65⟩ := z00 h54
 refine AW.midT (fun σ' H' => ∃ (y1 : Bool) (G' : GM), y1 = q63 /\ Ow G' H' (eSl v50 28 (rI .i64) [x26, x37] :: L) /\ GM.le G55 G' /\ σ' 30 = .bool y1) ?_ ?_
 .refine .region (W.q2 (.int .i64 x52) rfl (W.q3 (.bool (x52 == 0)) rfl rfl (W.q2 (.bool (x52 == 0)) rfl (W.splitAt (t := 24) (b := (x52 == 0)) rfl (fun g66 gv67 => ?_) (fun g66 gv67 => ?_)))))
  rotate_left
  .have h69 := z0h g66 h64
   refine W.q6 rfl gv67 (W.q6 rfl gv67 (W.q6 rfl gv67 (W.q6 rfl gv67 (W.q6 rfl gv67 (W.q5 (.bool false) gv67 rfl (.nil ?_))))))
   obtain rfl := zAa h69
   exact ⟨false, _, rfl, O56, (zAf _), rfl⟩
  have h68 := z04 g66 h64
  refine W.q2 (hg := gk rfl rfl gv67 rfl) v0 rfl (W.pure (v := (.int .i64 (List.length p0 : Int))) (gk rfl rfl gv67 rfl) rfl (z0i (oo rfl rfl) (z0d (RT.mono _ (zAe s6 (zAe s20 (zAe s31 (zAe s42 s57)))) hp0)) (z03 el45)) (W.q2 (hg := gk rfl rfl gv67 rfl) v1 rfl (W.pure (v := (.int .i64 (List.length p1 : Int))) (gk rfl rfl gv67 rfl) rfl (z0i (oo rfl rfl) (z0d (RT.mono _ (zAe s6 (zAe s20 (zAe s31 (zAe s42 s57)))) hp1)) (z03 el45)) (W.q3 (hg := gk rfl rfl gv67 rfl) (.bool ((List.length p0 : Int) != (List.length p1 : Int))) rfl rfl (W.q4 (.bool ((List.length p0 : Int) != (List.length p1 : Int))) gv67 rfl (.nil ?_))))))
  obtain rfl := zAa h68
  exact ⟨((List.length p0 : Int) != (List.length p1 : Int)), _, rfl, O56, (zAf _), rfl⟩
 rintro σ71 H72 fr73 ⟨x70, G74, rfl, O75, s76, t78⟩
 have h79 := z0c h65
 obtain ⟨q80, h81, h82⟩ := z00 h79
 refine AW.midT (fun σ' H' => ∃ (y1 : Int) (G' : GM), y1 = q80 /\ Ow G' H' (eSl v50 28 (rI .i64) [x26, x37] :: L) /\ GM.le G74 G' /\ σ' 7 = .int .i64 y1) ?_ ?_
 .refine .cond (b := x70) rfl t78 (fun g83 => ?_) (fun g83 => ?_)
  rotate_left
  .have h85 := z0h g83 h81
   refine .skip ?_
   obtain rfl := zAa h85
   exact ⟨x52, _, rfl, O75, (zAf _), ((fr73 7 rfl).trans rfl)⟩
  have h84 := z04 g83 h81
  refine .region (W.q1 (.int .i64 3) rfl (.nil ?_))
  obtain rfl := zAa h84
  exact ⟨3, _, rfl, O75, (zAf _), rfl⟩
 rintro σ87 H88 fr89 ⟨x86, G90, rfl, O91, s92, t94⟩
 have h95 := z0c h82
 refine .seq (.seq (.region (W.q2 (.int .i64 x86) t94 (W.q3 (.bool (x86 != 0)) rfl rfl (.nil (.cond (b := (x86 != 0)) rfl rfl (fun g96 => ?_) (fun g96 => ?_)))))))
 .have h97 := z04 g96 h95
  refine .seq ?_
  obtain ⟨q98, h99, h100⟩ := z00 h97
  refine AW.midT (fun σ' H' => ∃ (y1 : Bool) (G' : GM), y1 = q98 /\ Ow G' H' (eSl v50 28 (rI .i64) [x26, x37] :: L) /\ GM.le G90 G' /\ σ' 4 = .bool y1) ?_ ?_
  rotate_left
  .rintro σ106 H107 fr108 ⟨x105, G109, rfl, O110, s111, t113⟩
   have h114 := z0c h100
   refine .ret ?_
   have O115 : Ow G109 H107 (L) := O110.drop 0
   obtain rfl := zAa h114
   refine z1a (P := Tryz.prog) (fn := Tryz.f5) (n := 56) (R := fun v H' => ∃ G', Ow G' H' (L) /\ G.le G' /\ v = .bool x105) (v1 := (.bool x105)) (by rfl) (z08 (by rfl) (by exact t113)) ?_
   exact ⟨_, O115, (zAe s6 (zAe s20 (zAe s31 (zAe s42 (zAe s57 (zAe s76 (zAe s92 s111))))))), rfl⟩
  refine .region (W.q2 (.int .i64 x15.2) ((fr89 6 rfl).trans ((fr73 6 rfl).trans rfl)) (W.q2 (.int .i64 x86) t94 (W.q3 (.bool (x15.2 == x86)) rfl rfl (W.q2 (.bool (x15.2 == x86)) rfl (W.splitAt (t := 36) (b := (x15.2 == x86)) rfl (fun g101 gv102 => ?_) (fun g101 gv102 => ?_))))))
  rotate_left
  .have h104 := z0h g101 h99
   refine W.q6 rfl gv102 (W.q6 rfl gv102 (W.q5 (.bool false) gv102 rfl (W.q1 (.bool false) rfl (.nil ?_))))
   obtain rfl := zAa h104
   exact ⟨false, _, rfl, O91, (zAf _), rfl⟩
  have h103 := z04 g101 h99
  refine W.q2 (hg := gk rfl rfl gv102 rfl) (.string x15.1) ((fr89 5 rfl).trans ((fr73 5 rfl).trans rfl)) (W.pure (v := (.bool (sEq x15.1 (⟨#[]⟩ : zAd)))) (gk rfl rfl gv102 rfl) rfl (z8p (oo rfl rfl) (oo rfl rfl)) (W.q4 (.bool (sEq x15.1 (⟨#[]⟩ : zAd))) gv102 rfl (W.q1 (.bool (sEq x15.1 (⟨#[]⟩ : zAd))) rfl (.nil ?_))))
  obtain rfl := zAa h103
  exact ⟨sEq x15.1 (⟨#[]⟩ : zAd), _, rfl, O91, (zAf _), rfl⟩
 have h116 := z0h g96 h95
 refine .skip (.seq ?_)
 obtain ⟨q117, h118, h119⟩ := z00 h116
 refine AW.midT (fun σ' H' => ∃ (y1 : Bool) (G' : GM), y1 = q117 /\ Ow G' H' (eSl v50 28 (rI .i64) [x26, x37] :: L) /\ GM.le G90 G' /\ σ' 4 = .bool y1) ?_ ?_
 rotate_left
 .rintro σ166 H167 fr168 ⟨x165, G169, rfl, O170, s171, t173⟩
  have h174 := z0c h119
  refine .ret ?_
  have O175 : Ow G169 H167 (L) := O170.drop 0
  obtain rfl := zAa h174
  refine z1a (P := Tryz.prog) (fn := Tryz.f5) (n := 56) (R := fun v H' => ∃ G', Ow G' H' (L) /\ G.le G' /\ v = .bool x165) (v1 := (.bool x165)) (by rfl) (z08 (by rfl) (by exact t173)) ?_
  exact ⟨_, O175, (zAe s6 (zAe s20 (zAe s31 (zAe s42 (zAe s57 (zAe s76 (zAe s92 s171))))))), rfl⟩
 refine .region (W.q2 v0 ((fr89 0 rfl).trans ((fr73 0 rfl).trans rfl)) (W.q2 v1 ((fr89 1 rfl).trans ((fr73 1 rfl).trans rfl)) (W.lo rfl rfl (Lo.buildSlice (r := (rSl rS)) (vs := [v0, v1]) (xs := [p0, p1]) el44 ze45 sz45 (by kernel_rfl) rfl (qc rfl (qc rfl qn)) rfl (.cons (z2h (RT.mono _ (zAe s6 (zAe s20 (zAe s31 (zAe s42 (zAe s57 (zAe s76 s92)))))) hp0)) (.cons (z2h (RT.mono _ (zAe s6 (zAe s20 (zAe s31 (zAe s42 (zAe s57 (zAe s76 s92)))))) hp1)) .nil)) O91) ?_)))
 rintro v122 H123 ⟨O120, sm121⟩
 obtain ⟨G125, O126, s127, f128⟩ := O120.frzSl (j := 0) rfl
 replace O126 : Ow G125 H123 (eSl v50 28 (rI .i64) [x26, x37] :: L) := O126
 refine W.lo rfl rfl (Lo.buildSlice (r := (rSl (rSl rS))) (vs := [v122]) (xs := [[p0, p1]]) zno ze44 sz44 (by kernel_rfl) rfl (qc rfl qn) rfl (.cons (z2h f128) .nil) O126) ?_
 rintro v130 H131 ⟨O124, sm129⟩
 obtain ⟨x132, i133, h134⟩ := z00 h118
 refine W.lo rfl rfl (Lo.callB (j := 0) rfl rfl (fn := Tryz.f32) (by kernel_rfl) rfl (mc rfl (mc rfl mn)) O124 (fun G' L' hG O' hB => zdx K 40 v130 [[p0, p1]] hB O' _ i133)) ?_
 rintro v141 H142 ⟨G135, O136, s137, sm140, rfl⟩
 replace O136 : Ow G135 H142 (eSl v130 44 (rSl (rSl rS)) [[p0, p1]] :: eSl v50 28 (rI .i64) [x26, x37] :: L) := O136
 refine W.q2 (.bool x132) rfl (W.splitAt (t := 45) (b := x132) rfl (fun g143 gv144 => ?_) (fun g143 gv144 => ?_))
 .have h145 := z04 g143 h134
  refine W.q6 rfl gv144 (W.q6 rfl gv144 (W.q6 rfl gv144 (W.skipU rfl rfl rfl rfl (W.skipU rfl rfl rfl rfl (W.skipU rfl rfl rfl rfl (W.skipU rfl rfl rfl rfl ?_))))))
  refine W.skipU rfl rfl rfl rfl (W.q6 rfl gv144 (W.q4 (.bool true) gv144 rfl (W.q1 (.bool true) rfl (.nil ?_))))
  have O146 : Ow G135 H142 (eSl v50 28 (rI .i64) [x26, x37] :: L) := O136.drop 0
  obtain rfl := zAa h145
  exact ⟨true, _, rfl, O146, (zAe s127 s137), rfl⟩
 have h147 := z0h g143 h134
 refine W.q2 (hg := gk rfl rfl gv144 rfl) (.int .i64 x15.2) ((fr89 6 rfl).trans ((fr73 6 rfl).trans rfl)) (W.q3 (hg := gk rfl rfl gv144 rfl) (.bool (x15.2 == 0)) rfl rfl (W.q2 (hg := gk rfl rfl gv144 rfl) (.bool (x15.2 == 0)) rfl (W.splitAt (t := 48) (b := (x15.2 == 0)) rfl (fun g148 gv149 => ?_) (fun g148 gv149 => ?_))))
 rotate_left
 .have h163 := z0h g148 h147
  refine W.q6 rfl gv149 (W.q6 rfl gv149 (W.q6 rfl gv149 (W.q6 rfl gv149 (W.q6 rfl gv149 (W.q5 (hg := gk rfl rfl gv144 rfl) (.bool false) gv149 rfl (W.q5 (.bool false) gv144 rfl ?_))))))
  refine W.q1 (.bool false) rfl (.nil ?_)
  have O164 : Ow G135 H142 (eSl v50 28 (rI .i64) [x26, x37] :: L) := O136.drop 0
  obtain rfl := zAa h163
  exact ⟨false, _, rfl, O164, (zAe s127 s137), rfl⟩
 have h150 := z04 g148 h147
 refine W.q2 (hg := gk rfl rfl gv149 rfl) (.string x15.1) ((fr89 5 rfl).trans ((fr73 5 rfl).trans rfl)) (W.q2 (hg := gk rfl rfl gv149 rfl) v0 ((fr89 0 rfl).trans ((fr73 0 rfl).trans rfl)) (W.q2 (hg := gk rfl rfl gv149 rfl) v1 ((fr89 1 rfl).trans ((fr73 1 rfl).trans rfl)) ?_))
 obtain ⟨x151, i152, h153⟩ := z00 h150
 refine W.lo (gk rfl rfl gv149 rfl) rfl (Lo.callP (ps := []) (ps' := []) rfl (fn := Tryz.f36) (by kernel_rfl) rfl (mc rfl (mc rfl mn)) O136 (fun L' O' => zhw K v0 p0 (RT.mono _ (zAe s6 (zAe s20 (zAe s31 (zAe s42 (zAe s57 (zAe s76 (zAe s92 (zAe s127 s137)))))))) hp0) v1 p1 (RT.mono _ (zAe s6 (zAe s20 (zAe s31 (zAe s42 (zAe s57 (zAe s76 (zAe s92 (zAe s127 s137)))))))) hp1) O' _ i152)) ?_
 rintro v160 H161 ⟨G154, O155, s156, sm159, rfl⟩
 replace O155 : Ow G154 H161 (eSl v130 44 (rSl (rSl rS)) [[p0, p1]] :: eSl v50 28 (rI .i64) [x26, x37] :: L) := O155
 refine W.pure (v := (.bool (sEq x15.1 x151))) (gk rfl rfl gv149 rfl) rfl (z8p (oo rfl rfl) (oo rfl rfl)) (W.q4 (hg := gk rfl rfl gv144 rfl) (.bool (sEq x15.1 x151)) gv149 rfl (W.q5 (.bool (sEq x15.1 x151)) gv144 rfl (W.q1 (.bool (sEq x15.1 x151)) rfl (.nil ?_))))
 have O162 : Ow G154 H161 (eSl v50 28 (rI .i64) [x26, x37] :: L) := O155.drop 0
 obtain rfl := zAa h153
 exact ⟨sEq x15.1 x151, _, rfl, O162, (zAe s127 (zAe s137 s156)), rfl⟩
end Go.Am.Tryz
/- Plain lemmas for typed functions: loops over lists, texts, whole numbers. -/
namespace Go.Am
open Go

theorem kw {a : Int} (h1 : -9223372036854775808 <= a) (h2 : a <= 9223372036854775807) : z02 .i64 a = a := z6y (z83 h1 h2)
theorem kw1 {i n : Nat} (h : i < n) (hn : n <= 4611686018427387904) : z02 .i64 ((i : Int) + 1) = ((i + 1 : Nat) : Int) := by rw [kw (by omega) (by omega)]; omega
theorem z5v {α : Type} {xs : List α} {i : Nat} {x : α} (h : xs[i]? = some x) : idx xs (i : Int) = some x := by
  unfold idx
  rw [if_neg (by omega)]
  simpa using h
theorem zjq {i n : Nat} (h : i < n) : decide ((i : Int) < (n : Int)) = true := by simp; omega
theorem zfe {i n : Nat} (h : n <= i) : decide ((i : Int) < (n : Int)) = false := by simp; omega

@[simp] theorem Sum.elim_ite {α β γ : Type} (f : α -> γ) (g : β -> γ) (c : Prop) [Decidable c] (x y : α ⊕ β) : Sum.elim f g (if c then x else y) = if c then Sum.elim f g x else Sum.elim f g y := by split <;> rfl
def runS {α S E : Type} (chk : α -> S -> E ⊕ S) : List α -> S -> E ⊕ S
  | [], s => .inr s
  | x :: xs, s => Sum.elim .inl (runS chk xs) (chk x s)
theorem zlf {α S E : Type} (xs : List α) (l : Nat -> S -> Int -> Option (E ⊕ S)) (chk : α -> S -> E ⊕ S) (I : S -> Nat -> Prop)
    (h : ∀ k s (i : Nat) x, xs[i]? = some x -> I s i -> l (k + 1) s i = Sum.elim (fun e => some (.inl e)) (fun s' => l k s' ((i + 1 : Nat) : Int)) (chk x s))
    (hI : ∀ s (i : Nat) x s', xs[i]? = some x -> I s i -> chk x s = .inr s' -> I s' (i + 1))
    (h0 : ∀ k s (i : Nat), xs.length <= i -> l (k + 1) s i = some (.inr s)) : ∀ d k s (i : Nat), xs.length - i = d -> d < k -> I s i -> l k s i = some (runS chk (xs.drop i) s) := by
  intro d
  induction d with
  | zero =>
    intro k s i hd hk _
    obtain ⟨k, rfl⟩ : ∃ m, k = m + 1 := ⟨k - 1, by omega⟩
    rw [h0 k s i (by omega), List.drop_eq_nil_of_le (by omega)]; rfl
  | succ d ih =>
    intro k s i hd hk hi
    obtain ⟨k, rfl⟩ : ∃ m, k = m + 1 := ⟨k - 1, by omega⟩
    have hl : i < xs.length := by omega
    have hx : xs[i]? = some xs[i] := zAh hl
    rw [h k s i _ hx hi, List.drop_eq_getElem_cons hl, runS]
    cases hc : chk xs[i] s with
    | inl e => rfl
    | inr s' => exact ih k s' (i + 1) (by omega) (by omega) (hI s i _ s' hx hi hc)
theorem zff {α S E : Type} (xs : List α) (l : Nat -> S -> Int -> Option (E ⊕ S)) (chk : α -> S -> E ⊕ S) (I : S -> Nat -> Prop)
    (h : ∀ k s (i : Nat) x, xs[i]? = some x -> I s i -> l (k + 1) s i = Sum.elim (fun e => some (.inl e)) (fun s' => l k s' ((i + 1 : Nat) : Int)) (chk x s))
    (hI : ∀ s (i : Nat) x s', xs[i]? = some x -> I s i -> chk x s = .inr s' -> I s' (i + 1))
    (h0 : ∀ k s (i : Nat), xs.length <= i -> l (k + 1) s i = some (.inr s)) (k : Nat) (s : S) (hk : xs.length < k) (hi : I s 0) : l k s 0 = some (runS chk xs s) := by
  have := zlf xs l chk I h hI h0 xs.length k s 0 (by omega) hk hi
  simpa using this


theorem sEq_iff {a b : zAd} : sEq a b = true ↔ a = b := by
  unfold sEq
  rw [beq_iff_eq, ByteArray.toList_eq, ByteArray.toList_eq]
  constructor
  . intro h
    cases a; cases b
    simp at h
    rw [h]
  . rintro rfl; rfl
theorem z01 (a : zAd) : (z05 a).length = a.size := by unfold z05; rw [List.length_map, Array.length_toList]; rfl
theorem z9r (a : zAd) (i : Int) : bidx a i = idx (z05 a) i := by
  unfold bidx idx
  by_cases h : 0 <= i
  . rw [if_pos h, if_neg (by omega)]
    unfold z05
    rw [List.getElem?_map, Array.getElem?_toList]
    rfl
  . rw [if_neg h, if_pos (by omega)]
end Go.Am
/- Numbers: digits in a base, the least one first; decimal texts. Plain, no program. -/
namespace Go.Am
open Go
def valB (B : Int) : List Int -> Int
  | [] => 0
  | d :: l => d + B * valB B l
def DigB (B : Int) (l : List Int) : Prop := ∀ d ∈ l, 0 <= d /\ d < B
theorem DigB.nil (B : Int) : DigB B [] := fun d h => by simp at h
theorem DigB.cons {B d : Int} {l : List Int} (h : DigB B (d :: l)) : (0 <= d /\ d < B) /\ DigB B l := ⟨h d (by simp), fun x hx => h x (by simp [hx])⟩
theorem DigB.app {B : Int} {l m : List Int} (h : DigB B l) (k : DigB B m) : DigB B (l ++ m) := fun d hd => by
  rcases List.mem_append.1 hd with hd | hd
  . exact h d hd
  . exact k d hd
theorem z5z (B : Int) : ∀ (l m : List Int), valB B (l ++ m) = valB B l + B ^ l.length * valB B m
  | [], m => by simp [valB]
  | d :: l, m => by
    simp only [List.cons_append, valB, z5z B l m, List.length_cons, Int.pow_succ]
    rw [Int.mul_add, <- Int.mul_assoc, Int.mul_comm B (B ^ l.length), Int.add_assoc]
theorem z10 {B : Int} (hB : 0 < B) : ∀ (l : List Int), DigB B l -> 0 <= valB B l
  | [], _ => Int.le_refl _
  | d :: l, h => by
    have h1 := (h.cons).1
    have h2 := z10 hB l h.cons.2
    have := Int.mul_nonneg (Int.le_of_lt hB) h2
    simp only [valB]; omega
theorem z4z {B : Int} (hB : 0 < B) : ∀ (l : List Int), DigB B l -> valB B l < B ^ l.length
  | [], _ => by simp [valB]
  | d :: l, h => by
    have h1 := (h.cons).1
    have h2 := z4z hB l h.cons.2
    have h3 : B * (valB B l + 1) <= B * B ^ l.length := Int.mul_le_mul_of_nonneg_left (by omega) (Int.le_of_lt hB)
    rw [Int.mul_add, Int.mul_one] at h3
    simp only [valB, List.length_cons, Int.pow_succ]
    rw [Int.mul_comm (B ^ l.length) B]
    omega
def CanB (B : Int) (l : List Int) : Prop := DigB B l /\ l.getLast? ≠ some 0
theorem CanB.tail {B d : Int} {l : List Int} (h : CanB B (d :: l)) : CanB B l := by
  refine ⟨h.1.cons.2, fun e => h.2 ?_⟩
  cases l with
  | nil => simp at e
  | cons x l => rw [List.getLast?_cons_cons]; exact e
theorem zbg {B : Int} (hB : 1 < B) : ∀ (l : List Int), CanB B l -> l ≠ [] -> 0 < valB B l
  | [], _, h => absurd rfl h
  | d :: l, h, _ => by
    have h1 := h.1.cons.1
    cases l with
    | nil =>
      have : d ≠ 0 := fun e => h.2 (by simp [e])
      simp only [valB]; omega
    | cons x l =>
      have h2 := zbg hB (x :: l) h.tail (by simp)
      have h3 : B * 1 <= B * valB B (x :: l) := Int.mul_le_mul_of_nonneg_left (by omega) (by omega)
      simp only [valB] at h2 h3 ⊢; omega
theorem zlg {B d e x y : Int} (hd : 0 <= d /\ d < B) (he : 0 <= e /\ e < B) (h : d + B * x = e + B * y) : d = e /\ x = y := by
  have h1 : x = y := by
    rcases Int.lt_trichotomy x y with h2 | h2 | h2
    . have : B * (x + 1) <= B * y := Int.mul_le_mul_of_nonneg_left (by omega) (by omega)
      rw [Int.mul_add, Int.mul_one] at this; omega
    . exact h2
    . have : B * (y + 1) <= B * x := Int.mul_le_mul_of_nonneg_left (by omega) (by omega)
      rw [Int.mul_add, Int.mul_one] at this; omega
  subst h1
  exact ⟨by omega, rfl⟩
theorem zlh {B : Int} (hB : 1 < B) : ∀ (l m : List Int), CanB B l -> CanB B m -> valB B l = valB B m -> l = m
  | [], [], _, _, _ => rfl
  | [], e :: m, _, h2, h => by
    have := zbg hB (e :: m) h2 (by simp)
    rw [<- h] at this; simp [valB] at this
  | d :: l, [], h1, _, h => by
    have := zbg hB (d :: l) h1 (by simp)
    rw [h] at this; simp [valB] at this
  | d :: l, e :: m, h1, h2, h => by
    obtain ⟨rfl, h3⟩ := zlg h1.1.cons.1 h2.1.cons.1 h
    rw [zlh hB l m h1.tail h2.tail h3]
def digT (c : Int) : Bool := decide (48 <= c) && decide (c <= 57)
def z60 (s : zAd) : List Int := ((z05 s).map (· - 48)).reverse
def numT (s : zAd) : Int := valB 10 (z60 s)
def CanT (s : zAd) : Prop := s.size ≠ 0 /\ (z05 s).all digT = true /\ ((z05 s).head? = some 48 -> s.size = 1)
theorem z3y {a b : zAd} (h : z05 a = z05 b) : a = b := by
  unfold z05 at h
  have h1 : a.data.toList = b.data.toList := by
    have : Function.Injective fun b : UInt8 => (b.toNat : Int) := fun x y h => by
      have : x.toNat = y.toNat := by have h' : (x.toNat : Int) = (y.toNat : Int) := h; omega
      exact UInt8.toNat_inj.1 this
    exact List.map_inj_right (fun x y h => this h) |>.1 h
  cases a; cases b
  congr 1
  exact Array.toList_inj.1 h1
theorem z7p {s : zAd} (h : (z05 s).all digT = true) : DigB 10 (z60 s) := by
  intro d hd
  unfold z60 at hd
  rw [List.mem_reverse, List.mem_map] at hd
  obtain ⟨c, hc, rfl⟩ := hd
  have := List.all_eq_true.1 h c hc
  simp only [digT, Bool.and_eq_true, decide_eq_true_eq] at this
  omega
theorem z5m (s : zAd) : (z60 s).length = s.size := by
  unfold z60
  rw [List.length_reverse, List.length_map, z01]
theorem zfg {a b : zAd} (h : z60 a = z60 b) : a = b := by
  unfold z60 at h
  have h1 := List.reverse_inj.1 h
  exact z3y (List.map_inj_right (fun x y h => by omega) |>.1 h1)
theorem z8k {s : zAd} (h : CanT s) (h0 : (z05 s).head? = some 48) : z60 s = [0] := by
  have h1 := h.2.2 h0
  have hl := z01 s
  rw [h1] at hl
  match hb : z05 s, hl with
  | [c], _ => rw [hb] at h0; simp at h0; subst h0; simp [z60, hb]
theorem zd5 {s : zAd} (h : CanT s) (h0 : (z05 s).head? ≠ some 48) : CanB 10 (z60 s) := by
  refine ⟨z7p h.2.1, fun e => h0 ?_⟩
  unfold z60 at e
  rw [List.getLast?_reverse, List.head?_map] at e
  cases hb : (z05 s).head? with
  | none => rw [hb] at e; cases e
  | some c => rw [hb] at e; simp at e; congr 1; omega
theorem z96 {a b : zAd} (ha : CanT a) (hb : CanT b) (h : numT a = numT b) : a = b := by
  have pos : ∀ s : zAd, CanT s -> (z05 s).head? ≠ some 48 -> 0 < numT s := fun s hs h0 => zbg (by omega) _ (zd5 hs h0) (fun e => by
    have := z5m s
    rw [e] at this
    exact hs.1 this.symm)
  by_cases h1 : (z05 a).head? = some 48 <;> by_cases h2 : (z05 b).head? = some 48
  . exact zfg (by rw [z8k ha h1, z8k hb h2])
  . have := pos b hb h2
    unfold numT at h this
    rw [z8k ha h1] at h
    simp [valB] at h; omega
  . have := pos a ha h1
    unfold numT at h this
    rw [z8k hb h2] at h
    simp [valB] at h; omega
  . exact zfg (zlh (by omega) _ _ (zd5 ha h1) (zd5 hb h2) h)
theorem z2q (a : zAd) (i j : Nat) : z05 (a.extract i j) = ((z05 a).drop i).take (j - i) := by
  unfold z05
  rw [ByteArray.data_extract, Array.toList_extract]
  simp [List.extract, List.map_drop, List.map_take]
theorem z0q (a b : zAd) : z05 (a ++ b) = z05 a ++ z05 b := by
  unfold z05
  rw [ByteArray.data_append, Array.toList_append, List.map_append]
theorem zcf (xs : List Int) (h : ∀ x ∈ xs, 0 <= x /\ x <= 255) : z05 (strOfNums xs) = xs := by
  unfold z05
  rw [strOfNums_data, List.map_map]
  conv => rhs; rw [<- List.map_id xs]
  apply List.map_congr_left
  intro x hx
  have := h x hx
  show ((UInt8.ofNat x.toNat).toNat : Int) = x
  rw [UInt8.toNat_ofNat']
  omega
theorem zbh {s : zAd} {c : Int} {l : List Int} (h : z05 s = c :: l) : ∃ t, ssl s 1 (s.size : Int) = some t /\ z05 t = l /\ t.size = l.length := by
  have hn := z01 s
  rw [h] at hn
  simp at hn
  refine ⟨s.extract 1 s.size, ?_, ?_, ?_⟩
  . unfold ssl
    rw [if_pos (by omega)]
    simp
  . rw [z2q, h]
    simp
    exact List.take_of_length_le (by omega)
  . rw [<- z01, z2q, h]
    simp
    omega
theorem zjr {s t : zAd} {c : Int} (h : z05 s = c :: z05 t) : numT s = numT t + 10 ^ t.size * (c - 48) := by
  unfold numT z60
  rw [h, List.map_cons, List.reverse_cons, z5z]
  simp [valB, z01]
end Go.Am
/- Graphs: connected parts, their numbers, closure of a matrix, ways. Plain, no program. -/
namespace Go.Am
open Go
def Edg (l : List (Int × Int)) (U : Nat -> Bool) (a b : Nat) : Prop := ∃ k, k < l.length /\ U k = true /\ (l.getD k (0, 0) = ((a : Int), (b : Int)) \/ l.getD k (0, 0) = ((b : Int), (a : Int)))
inductive Con (l : List (Int × Int)) (U : Nat -> Bool) : Nat -> Nat -> Prop
  | refl (a : Nat) : Con l U a a
  | tail {a b c : Nat} : Con l U a b -> Edg l U b c -> Con l U a c
structure Outer (l : List (Int × Int)) (U : Nat -> Bool) (n : Nat) (cs : List Int) (m s : Nat) : Prop where
  len : cs.length = n
  rng : ∀ i < n, -1 <= cs.getD i 0 /\ cs.getD i 0 < m
  done : ∀ i < s, i < n -> 0 <= cs.getD i 0
  cls : ∀ i j, i < n -> j < n -> 0 <= cs.getD i 0 -> (cs.getD i 0 = cs.getD j 0 ↔ Con l U i j)
  last : 0 < m -> ∃ j < s, j < n /\ cs.getD j 0 = (m : Int) - 1
  rgs : ∀ i < n, 0 < cs.getD i 0 -> ∃ j < i, cs.getD j 0 = cs.getD i 0 - 1
  few : m <= s
structure Mid (l : List (Int × Int)) (U : Nat -> Bool) (n : Nat) (base : List Int) (m s : Nat) (cs : List Int) : Prop where
  len : cs.length = n
  own : ∀ i < n, (cs.getD i 0 = m /\ base.getD i 0 = -1 /\ Con l U s i) \/ cs.getD i 0 = base.getD i 0
  start : cs.getD s 0 = m
theorem z7q {cs : List Int} {i j : Nat} {v : Int} (hi : i < cs.length) : (cs.set i v).getD j 0 = if j = i then v else cs.getD j 0 := by
  rw [zAb, List.getElem?_set]
  by_cases h : i = j
  . subst h; simp [hi]
  . rw [if_neg h, if_neg (fun e => h e.symm), zAb]
theorem Edg.symm {l : List (Int × Int)} {U : Nat -> Bool} {a b : Nat} (h : Edg l U a b) : Edg l U b a := by
  obtain ⟨k, h1, h2, h3⟩ := h
  exact ⟨k, h1, h2, h3.symm⟩
theorem Con.trans {l : List (Int × Int)} {U : Nat -> Bool} {a b c : Nat} (h : Con l U a b) (k : Con l U b c) : Con l U a c := by
  induction k with
  | refl => exact h
  | tail _ e ih => exact .tail ih e
theorem Con.symm {l : List (Int × Int)} {U : Nat -> Bool} {a b : Nat} (h : Con l U a b) : Con l U b a := by
  induction h with
  | refl => exact .refl _
  | tail _ e ih => exact (Con.tail (.refl _) e.symm).trans ih
structure EqvOn (M : Nat -> Nat -> Bool) (n : Nat) : Prop where
  refl : ∀ a < n, M a a = true
  symm : ∀ a b, a < n -> b < n -> M a b = true -> M b a = true
  trans : ∀ a b c, a < n -> b < n -> c < n -> M a b = true -> M b c = true -> M a c = true
structure NumOk (M : Nat -> Nat -> Bool) (cs : List Int) (m i : Nat) : Prop where
  len : cs.length = i
  rng : ∀ a < i, 0 <= cs.getD a 0 /\ cs.getD a 0 < m
  cls : ∀ a b, a < i -> b < i -> (cs.getD a 0 = cs.getD b 0 ↔ M a b = true)
  last : 0 < m -> ∃ a < i, cs.getD a 0 = (m : Int) - 1
  rgs : ∀ a < i, 0 < cs.getD a 0 -> ∃ b < a, cs.getD b 0 = cs.getD a 0 - 1
  few : m <= i
structure WOk (l : List (Int × Int)) (U : Nat -> Bool) (n : Nat) (M : Nat -> Nat -> Bool) (m : Nat) : Prop where
  sound : ∀ a b, a < n -> b < n -> M a b = true -> Con l U a b
  refl : ∀ a < n, M a a = true
  edge : ∀ a b, a < n -> b < n -> Edg l U a b -> M a b = true
  tr : ∀ c < m, ∀ a b, a < n -> b < n -> M a c = true -> M c b = true -> M a b = true
def Wk (l : List (Int × Int)) (U : Nat -> Bool) (to : Nat) : Nat -> Nat -> Prop
  | 0, v => v = to
  | k + 1, v => ∃ w, Edg l U v w /\ Wk l U to k w
structure FarOk (l : List (Int × Int)) (U : Nat -> Bool) (n to : Nat) (fs : List Int) (d : Nat) : Prop where
  len : fs.length = n
  rng : ∀ v < n, -1 <= fs.getD v 0
  fnd : ∀ v < n, ∀ k : Nat, fs.getD v 0 = k -> k <= d /\ Wk l U to k v /\ ∀ j < k, ¬ Wk l U to j v
  nof : ∀ v < n, fs.getD v 0 = -1 -> ∀ j ≤ d, ¬ Wk l U to j v
structure Rnd (l : List (Int × Int)) (U : Nat -> Bool) (n to : Nat) (fs gs : List Int) (d : Nat) : Prop where
  len : gs.length = n
  old : ∀ v < n, gs.getD v 0 = fs.getD v 0 \/ (fs.getD v 0 = -1 /\ gs.getD v 0 = (d : Int) + 1 /\ Wk l U to (d + 1) v)
def neg (n : Nat) (fs : List Int) : Nat := ((List.range n).filter fun v => fs.getD v 0 == -1).length
theorem zep {S R : Type} (n : Nat) (l : Nat -> S -> Int -> Option R) (I : S -> Nat -> Prop) (Q : R -> Prop)
    (h : ∀ k s (i : Nat), i < n -> I s i -> (∃ r, l (k + 1) s (i : Int) = some r /\ Q r) \/ ∃ s', I s' (i + 1) /\ l (k + 1) s (i : Int) = l k s' ((i + 1 : Nat) : Int))
    (h0 : ∀ k s (i : Nat), i = n -> I s i -> ∃ r, l (k + 1) s (i : Int) = some r /\ Q r) : ∀ k s, n < k -> I s 0 -> ∃ r, l k s 0 = some r /\ Q r := by
  have key : ∀ d k s (i : Nat), n - i = d -> i <= n -> d < k -> I s i -> ∃ r, l k s (i : Int) = some r /\ Q r := by
    intro d
    induction d with
    | zero =>
      intro k s i hd hi hk hI
      obtain ⟨k, rfl⟩ : ∃ m, k = m + 1 := ⟨k - 1, by omega⟩
      exact h0 k s i (by omega) hI
    | succ d ih =>
      intro k s i hd hi hk hI
      obtain ⟨k, rfl⟩ : ∃ m, k = m + 1 := ⟨k - 1, by omega⟩
      rcases h k s i (by omega) hI with h1 | ⟨s', h1, h2⟩
      . exact h1
      . rw [h2]; exact ih k s' (i + 1) (by omega) (by omega) (by omega) h1
  intro k s hk hI
  exact key n k s 0 (by omega) (Nat.zero_le _) hk hI
theorem zmf {S R : Type} (l : Nat -> S -> Option R) (I : S -> Prop) (mu : S -> Nat) (Q : R -> Prop)
    (h : ∀ k s, I s -> (∃ r, l (k + 1) s = some r /\ Q r) \/ ∃ s', I s' /\ mu s' < mu s /\ l (k + 1) s = l k s') : ∀ k s, mu s < k -> I s -> ∃ r, l k s = some r /\ Q r := by
  intro k
  induction k with
  | zero => intro s h1; omega
  | succ k ih =>
    intro s h1 hI
    rcases h k s hI with h2 | ⟨s', h2, h3, h4⟩
    . exact h2
    . rw [h4]; exact ih s' (by omega) h2
def two (p : Int × Int) : List Int := [p.1, p.2]
theorem zhx {cs : List Int} {a : Nat} (h : a < cs.length) : idx cs (a : Int) = some (cs.getD a 0) := by
  apply z5v
  simp [h, zAb]
end Go.Am
/- Plain lemmas: rules for typed functions over whole numbers; digits set in place; the guess of a digit of a quotient. -/
namespace Go.Am
open Go
theorem z0m {α β : Type} (a : α) (f : α -> Option β) : Option.bind (some a) f = f a := (rfl)
theorem tu0a {β : Type} (g : Option β) (u : Unit) : tu0 g u = g := (rfl)
theorem tu1a {α β : Type} (g : α -> Option β) (a : α) : tu1 g a = g a := (rfl)
theorem tu2a {α1 α2 β : Type} (g : α1 -> α2 -> Option β) (p : α1 × α2) : tu2 g p = g p.1 p.2 := (rfl)
theorem tu3a {α1 α2 α3 β : Type} (g : α1 -> α2 -> α3 -> Option β) (p : α1 × α2 × α3) : tu3 g p = g p.1 p.2.1 p.2.2 := (rfl)
theorem tu4a {α1 α2 α3 α4 β : Type} (g : α1 -> α2 -> α3 -> α4 -> Option β) (p : α1 × α2 × α3 × α4) : tu4 g p = g p.1 p.2.1 p.2.2.1 p.2.2.2 := (rfl)
theorem tu5a {α1 α2 α3 α4 α5 β : Type} (g : α1 -> α2 -> α3 -> α4 -> α5 -> Option β) (p : α1 × α2 × α3 × α4 × α5) : tu5 g p = g p.1 p.2.1 p.2.2.1 p.2.2.2.1 p.2.2.2.2 := (rfl)
theorem lta {α β : Type} (x : α) (f : α -> Option β) : lt x f = f x := (rfl)
theorem zhy {α β γ : Type} (a : α) (f : α -> Option γ) (g : β -> Option γ) : zb9 (some (.inl a)) f g = f a := (rfl)
theorem zjs {α β γ : Type} (b : β) (f : α -> Option γ) (g : β -> Option γ) : zb9 (some (.inr b)) f g = g b := (rfl)
theorem zoi {α β γ : Type} (a : α) (f : α -> Option γ) (g : β -> Option γ) : outS (.inl a) f g = f a := (rfl)
theorem zoj {α β γ : Type} (b : β) (f : α -> Option γ) (g : β -> Option γ) : outS (.inr b) f g = g b := (rfl)
theorem zmg {α : Type} [BEq α] [LawfulBEq α] {a b : α} : ((a == b) = true) = (a = b) := propext beq_iff_eq
theorem zmh {a b : Int} : ((a != b) = true) = (a ≠ b) := by simp
theorem k64 {a : Int} (h1 : -9223372036854775808 <= a) (h2 : a <= 9223372036854775807) : z02 .i64 a = a := kw h1 h2
theorem ku64 {a : Int} (h1 : 0 <= a) (h2 : a <= 18446744073709551615) : z02 .u64 a = a := z6y (by simp [z9b]; omega)
theorem ku32 {a : Int} (h1 : 0 <= a) (h2 : a <= 4294967295) : z02 .u32 a = a := z6y (by simp [z9b]; omega)
theorem ku8 {a : Int} (h1 : 0 <= a) (h2 : a <= 255) : z02 .u8 a = a := z6y (by simp [z9b]; omega)
theorem i64w {a : Int} (h1 : -9223372036854775808 <= a) (h2 : a <= 9223372036854775807) : IntKind.wrap .i64 a = a := by rw [<- z7z]; exact k64 h1 h2
theorem u64w {a : Int} (h1 : 0 <= a) (h2 : a <= 18446744073709551615) : IntKind.wrap .u64 a = a := by rw [<- z7z]; exact ku64 h1 h2
theorem u32w {a : Int} (h1 : 0 <= a) (h2 : a <= 4294967295) : IntKind.wrap .u32 a = a := by rw [<- z7z]; exact ku32 h1 h2
theorem u8w {a : Int} (h1 : 0 <= a) (h2 : a <= 255) : IntKind.wrap .u8 a = a := by rw [<- z7z]; exact ku8 h1 h2
theorem idxI {xs : List Int} {j : Int} (h1 : 0 <= j) (h2 : j < (xs.length : Int)) : idx xs j = some (xs.getD j.toNat 0) := by
  unfold idx
  rw [if_neg (by omega), zAb, zAh (by omega)]
  rfl
theorem znc {s : zAd} {j : Int} (h1 : 0 <= j) (h2 : j < (s.size : Int)) : bidx s j = some ((z05 s).getD j.toNat 0) := by
  rw [z9r]; exact idxI h1 (by rw [z01]; exact h2)
theorem lslI {α : Type} {xs : List α} {l h : Int} (h1 : 0 <= l) (h2 : l <= h) (h3 : h <= (xs.length : Int)) : lsl xs l h = some ((xs.drop l.toNat).take (h.toNat - l.toNat)) := by unfold lsl; rw [if_pos ⟨h1, h2, h3⟩]
theorem sslI {s : zAd} {l h : Int} (h1 : 0 <= l) (h2 : l <= h) (h3 : h <= (s.size : Int)) : ssl s l h = some (s.extract l.toNat h.toNat) := by unfold ssl; rw [if_pos ⟨h1, h2, h3⟩]
theorem zo6 {a b : Int} (h : 0 <= a) : Int.tdiv a b = a / b := Int.tdiv_eq_ediv_of_nonneg h
theorem zok {a b : Int} (h : 0 <= a) : Int.tmod a b = a % b := Int.tmod_eq_emod_of_nonneg h
theorem zai {S R : Type} (l : Nat -> S -> Option R) (I : S -> Prop) (mu : S -> Nat) (Q : R -> Prop)
    (h : ∀ k s, I s -> (∃ r, l (k + 1) s = some r /\ Q r) \/ ∃ s', l (k + 1) s = l k s' /\ mu s' < mu s /\ I s') {k : Nat} (s : S) (hk : mu s < k) (hI : I s) : ∃ r, l k s = some r /\ Q r :=
  zmf l I mu Q (fun k s hs => (h k s hs).imp id fun ⟨s', a, b, c⟩ => ⟨s', c, b, a⟩) k s hk hI
theorem z1w {B : Int} (hB : 0 < B) {x : List Int} (h : DigB B x) (k : Nat) : 0 <= x.getD k 0 /\ x.getD k 0 < B := by
  by_cases hk : k < x.length
  . rw [zAb, zAh hk]; exact h _ (List.getElem_mem hk)
  . rw [zAb, List.getElem?_eq_none (by omega)]; exact ⟨Int.le_refl _, hB⟩
theorem z72 (B : Int) : ∀ (l : List Int) (p : Nat) (d : Int), p < l.length -> valB B (l.set p d) = valB B l + B ^ p * (d - l.getD p 0)
  | [], p, d, h => by simp at h
  | x :: l, 0, d, _ => by simp [valB]; omega
  | x :: l, p + 1, d, h => by
    have := z72 B l p d (by simpa using h)
    simp only [List.set_cons_succ, valB, this, List.getD_cons_succ, Int.pow_succ]
    grind
theorem DigB.set {B d : Int} {l : List Int} (h : DigB B l) (p : Nat) (hd : 0 <= d /\ d < B) : DigB B (l.set p d) := fun x hx => by
  rcases List.mem_or_eq_of_mem_set hx with h1 | h1
  . exact h x h1
  . subst h1; exact hd
theorem DigB.take {B : Int} {l : List Int} (h : DigB B l) (k : Nat) : DigB B (l.take k) := fun x hx => h x (List.mem_of_mem_take hx)
theorem DigB.drop {B : Int} {l : List Int} (h : DigB B l) (k : Nat) : DigB B (l.drop k) := fun x hx => h x (List.mem_of_mem_drop hx)
theorem DigB.snoc {B d : Int} {l : List Int} (h : DigB B l) (hd : 0 <= d /\ d < B) : DigB B (l ++ [d]) := h.app fun x hx => by simp at hx; omega
theorem z8d (B : Int) (l : List Int) (k : Nat) (hk : k <= l.length) : valB B l = valB B (l.take k) + B ^ k * valB B (l.drop k) := by
  conv => lhs; rw [<- List.take_append_drop k l]
  rw [z5z, List.length_take, Nat.min_eq_left hk]
theorem z9s (B : Int) (n : Nat) : valB B (List.replicate n 0) = 0 := by
  induction n with
  | zero => rfl
  | succ n ih => simp [List.replicate_succ, valB, ih]
theorem DigB.zeros {B : Int} (hB : 0 < B) (n : Nat) : DigB B (List.replicate n 0) := fun x hx => by
  rw [List.mem_replicate] at hx; omega
theorem z3f (B : Int) (x : List Int) (k : Nat) : valB B (x.take (k + 1)) = valB B (x.take k) + B ^ k * x.getD k 0 := by
  by_cases h : k < x.length
  . have hx : x[k]? = some x[k] := zAh h
    rw [List.take_add_one, hx, z5z, List.length_take, Nat.min_eq_left (by omega), zAb, hx]
    simp [valB]
  . rw [List.take_of_length_le (by omega), List.take_of_length_le (by omega), zAb, List.getElem?_eq_none (by omega)]
    simp
theorem z8l (B : Int) (x : List Int) (d : Int) : valB B (x ++ [d]) = valB B x + B ^ x.length * d := by rw [z5z]; simp [valB]
theorem z9t (l : List Int) (h : l ≠ []) : ∃ r d, l = r ++ [d] := by
  rcases List.eq_nil_or_concat l with rfl | ⟨r, d, rfl⟩
  . exact absurd rfl h
  . exact ⟨r, d, by simp⟩
theorem zhz {B : Int} (hB : 1 < B) {l : List Int} (h : CanB B l) (h0 : l ≠ []) : B ^ (l.length - 1) <= valB B l := by
  obtain ⟨r, d, rfl⟩ := z9t l h0
  have hd : d ≠ 0 := fun e => h.2 (by simp [e])
  have hd2 := h.1 d (by simp)
  have hr := z10 (B := B) (by omega) r (fun x hx => h.1 x (by simp [hx]))
  have e : (r ++ [d]).length - 1 = r.length := by simp
  rw [z8l, e]
  have h1 : B ^ r.length * 1 <= B ^ r.length * d := Int.mul_le_mul_of_nonneg_left (by omega) (Int.le_of_lt (Int.pow_pos (by omega)))
  omega
theorem znt {B : Int} (hB : 1 < B) {l : List Int} (h : DigB B l) (h0 : l ≠ []) (hv : B ^ (l.length - 1) <= valB B l) : CanB B l := by
  refine ⟨h, fun e => ?_⟩
  obtain ⟨r, d, rfl⟩ := z9t l h0
  have hd : d = 0 := by simpa using e
  have hr := z4z (B := B) (by omega) r (fun x hx => h x (by simp [hx]))
  have e : (r ++ [(0 : Int)]).length - 1 = r.length := by simp
  rw [z8l, hd, e] at hv
  omega
theorem z7c {B : Int} (hB : 0 < B) {i j : Nat} (h : i <= j) : B ^ i <= B ^ j := by
  obtain ⟨m, rfl⟩ : ∃ m, j = i + m := ⟨j - i, by omega⟩
  rw [Int.pow_add]
  have p1 : 0 < B ^ m := Int.pow_pos hB
  have p2 : 0 < B ^ i := Int.pow_pos hB
  have := Int.mul_le_mul_of_nonneg_left (show 1 <= B ^ m by omega) (Int.le_of_lt p2)
  omega
theorem zi0 {B : Int} (hB : 1 < B) {l m : List Int} (h : DigB B l) (hm : CanB B m) (hl : l.length < m.length) : valB B l < valB B m := by
  have h1 := z4z (B := B) (by omega) l h
  have h2 := zhz hB hm (by intro e; subst e; simp at hl)
  have h3 : B ^ l.length <= B ^ (m.length - 1) := by
    obtain ⟨j, hj⟩ : ∃ j, m.length - 1 = l.length + j := ⟨m.length - 1 - l.length, by omega⟩
    rw [hj, Int.pow_add]
    have p1 : 0 < B ^ j := Int.pow_pos (by omega)
    have p2 : 0 < B ^ l.length := Int.pow_pos (by omega)
    have := Int.mul_le_mul_of_nonneg_left (show 1 <= B ^ j by omega) (Int.le_of_lt p2)
    omega
  omega
theorem ze2 {B : Int} (hB : 1 < B) {l m : List Int} (h : CanB B l) (hm : DigB B m) (hv : valB B l <= valB B m) : l.length <= m.length := by
  refine Nat.not_lt.1 fun hl => ?_
  have := zi0 hB hm h hl
  omega
theorem z3l {a b c : Int} (hc : 0 <= c) (h : a <= b) : c * a <= c * b := Int.mul_le_mul_of_nonneg_left h hc
theorem z8s {a b : Int} (ha : 0 <= a) (hb : 0 <= b) : 0 <= a * b := Int.mul_nonneg ha hb
structure Kn (B P v1 v2 vl top u3 ul q : Int) : Prop where
  B1 : 1 < B
  P0 : 0 < P
  v1p : 1 <= v1
  v2p : 0 <= v2
  v2b : v2 < B
  vlp : 0 <= vl
  vlb : vl < P
  tp : 0 <= top
  u3p : 0 <= u3
  u3b : u3 < B
  ulp : 0 <= ul
  ulb : ul < P
  q0 : 0 <= q
  qB : q < B
  lo : q * (P * (B * v1 + v2) + vl) <= P * (B * top + u3) + ul
  hi : P * (B * top + u3) + ul < (q + 1) * (P * (B * v1 + v2) + vl)
section
variable {B P v1 v2 vl top u3 ul q g r : Int}
theorem Kn.first (h : Kn B P v1 v2 vl top u3 ul q) : q <= top / v1 := by
  obtain ⟨B1, P0, v1p, v2p, v2b, vlp, vlb, tp, u3p, u3b, ulp, ulb, q0, qB, lo, hi⟩ := h
  rw [Int.le_ediv_iff_mul_le (by omega)]
  refine Int.le_of_lt_add_one (Int.not_le.1 fun hc => ?_)
  have a1 := z3l (Int.le_of_lt (Int.mul_pos P0 (show 0 < B by omega))) hc
  have a2 := z8s (Int.le_of_lt P0) (z8s q0 v2p)
  have a3 := z8s q0 vlp
  have a4 := z3l (Int.le_of_lt P0) (show u3 <= B - 1 by omega)
  grind
theorem Kn.down (h : Kn B P v1 v2 vl top u3 ul q) (hr : top = g * v1 + r) (hg : 0 <= g) (hc : g * v2 > r * B + u3) : q < g := by
  obtain ⟨B1, P0, v1p, v2p, v2b, vlp, vlb, tp, u3p, u3b, ulp, ulb, q0, qB, lo, hi⟩ := h
  refine Int.not_le.1 fun hq => ?_
  have hV : 0 <= P * (B * v1 + v2) + vl := by
    have := z8s (Int.le_of_lt P0) (show 0 <= B * v1 + v2 from by have := z8s (show 0 <= B by omega) (show 0 <= v1 by omega); omega)
    omega
  have a1 := z3l hV hq
  have a2 := z3l (Int.le_of_lt P0) (show r * B + u3 + 1 <= g * v2 by omega)
  have a3 := z8s hg vlp
  subst hr
  grind
theorem Kn.exitA (h : Kn B P v1 v2 vl top u3 ul q) (hr : top = g * v1 + r) (hg : 0 <= g) (hB : g < B) (hc : g * v2 <= r * B + u3) : g <= q + 1 := by
  obtain ⟨B1, P0, v1p, v2p, v2b, vlp, vlb, tp, u3p, u3b, ulp, ulb, q0, qB, lo, hi⟩ := h
  refine Int.not_lt.1 fun hq => ?_
  have hV : 0 <= P * (B * v1 + v2) + vl := by
    have := z8s (Int.le_of_lt P0) (show 0 <= B * v1 + v2 from by have := z8s (show 0 <= B by omega) (show 0 <= v1 by omega); omega)
    omega
  have a1 := z3l hV (show q + 1 <= g - 1 by omega)
  have a2 := z3l (Int.le_of_lt P0) hc
  have a3 := z3l hg (show vl <= P - 1 by omega)
  have a4 := z3l (Int.le_of_lt P0) (show g <= B - 1 by omega)
  have a5 := z3l (Int.le_of_lt (Int.mul_pos P0 (show 0 < B by omega))) v1p
  have a6 := z8s (Int.le_of_lt P0) v2p
  subst hr
  grind
theorem Kn.exitB (h : Kn B P v1 v2 vl top u3 ul q) (hr : top = g * v1 + r) (hg : 0 <= g) (hB : g <= B) (hc : B <= r) : g <= q := by
  obtain ⟨B1, P0, v1p, v2p, v2b, vlp, vlb, tp, u3p, u3b, ulp, ulb, q0, qB, lo, hi⟩ := h
  refine Int.not_lt.1 fun hq => ?_
  have hV : 0 <= P * (B * v1 + v2) + vl := by
    have := z8s (Int.le_of_lt P0) (show 0 <= B * v1 + v2 from by have := z8s (show 0 <= B by omega) (show 0 <= v1 by omega); omega)
    omega
  have a1 := z3l hV (show q + 1 <= g by omega)
  have hPg := z8s (Int.le_of_lt P0) hg
  have a2 := z3l hPg (show v2 <= B - 1 by omega)
  have a3 := z3l hg (show vl <= P - 1 by omega)
  have a4 := z3l (Int.le_of_lt (Int.mul_pos P0 (show 0 < B by omega))) (show g <= r by omega)
  have a6 := z8s (Int.le_of_lt P0) u3p
  subst hr
  grind
end
set_option linter.defProp false in
def runL := And.intro @decide_eq_true_eq (And.intro @if_pos.{1} (And.intro @if_neg.{1} (And.intro @if_true.{1} (And.intro @if_false.{1} (And.intro @z0m (And.intro @zmg (And.intro @zmh (And.intro @idxI (And.intro @znc (And.intro @sslI (And.intro @lslI (And.intro @k64 (And.intro @ku64 (And.intro @ku32 (And.intro @ku8 (And.intro @i64w (And.intro @u64w (And.intro @u32w (And.intro @u8w (And.intro @zo6 (And.intro @zok (And.intro @tu0a (And.intro @tu1a (And.intro @tu2a (And.intro @tu3a (And.intro @tu4a (And.intro @tu5a (And.intro @lta (And.intro @zhy (And.intro @zjs (And.intro @zoi (And.intro @zoj (And.intro @Int.toNat_natCast (And.intro @List.length_cons.{0} (And.intro @List.length_nil.{0} (And.intro @List.length_set.{0} (And.intro @Int.toNat_zero (@List.replicate_zero.{0}))))))))))))))))))))))))))))))))))))))
end Go.Am
/- Plain law: the program's numbers: digits in the base 10^9. -/
namespace Go.Am.Tryz
open Go Go.Am Go.Proofs
variable {K : Nat}
def NumN (n : Int) (l : List Int) : Prop := CanB 1000000000 l /\ valB 1000000000 l = n
theorem NumN.inj {n : Int} {l m : List Int} (h : NumN n l) (k : NumN n m) : l = m := zlh (B := 1000000000) (by omega) l m h.1 k.1 (h.2.trans k.2.symm)
theorem NumN.nonneg {n : Int} {l : List Int} (h : NumN n l) : 0 <= n := by rw [<- h.2]; exact z10 (by omega) l h.1.1
theorem NumN.nil : NumN 0 [] := ⟨⟨DigB.nil _, by simp⟩, rfl⟩
theorem NumN.pos {n : Int} {l : List Int} (h : NumN n l) (h0 : l ≠ []) : 0 < n := by rw [<- h.2]; exact zbg (by omega) l h.1 h0
theorem NumN.nil_iff {n : Int} {l : List Int} (h : NumN n l) : l = [] ↔ n = 0 := by
  constructor
  . rintro rfl; exact h.2.symm
  . intro e; by_cases h0 : l = []
    . exact h0
    . have := h.pos h0; omega
theorem NumN.len0 {n : Int} {l : List Int} (h : NumN n l) : l.length = 0 ↔ n = 0 := by rw [<- h.nil_iff, List.length_eq_zero_iff]
theorem NumN.one {n : Int} (h : 0 < n) (h2 : n < 1000000000) : NumN n [n] := ⟨⟨fun d hd => by simp at hd; omega, by simp; omega⟩, by simp [valB]⟩
theorem zjt {B : Int} : ∀ n k (l : List Int), l.length = n -> n <= 8000000 -> n < k -> DigB B l -> ∃ t, z2n K k l = some t /\ CanB B t /\ valB B t = valB B l /\ t.length <= l.length := by
  intro n
  induction n with
  | zero =>
    intro k l hl _ hk hd
    obtain ⟨k, rfl⟩ : ∃ m, k = m + 1 := ⟨k - 1, by omega⟩
    have : l = [] := List.length_eq_zero_iff.1 hl
    subst this
    exact ⟨[], by rw [z2n]; simp [tu1], ⟨hd, by simp⟩, rfl, Nat.le_refl _⟩
  | succ n ih =>
    intro k l hl hb hk hd
    obtain ⟨k, rfl⟩ : ∃ m, k = m + 1 := ⟨k - 1, by omega⟩
    obtain ⟨r, d, rfl⟩ : ∃ r d, l = r ++ [d] := z9t l (by intro e; subst e; simp at hl)
    have hr : r.length = n := by simpa using hl
    have e1 : z02 .i64 (((r ++ [d]).length : Int) - 1) = (n : Int) := by rw [hl, kw (by omega) (by omega)]; omega
    have e2 : idx (r ++ [d]) (n : Int) = some d := z5v (by simp [<- hr])
    have e3 : lsl (r ++ [d]) 0 (n : Int) = some r := by
      unfold lsl
      rw [if_pos (by rw [hl]; omega)]
      simp [<- hr]
    have e4 : ((r ++ [d]).length : Int) > 0 := by rw [hl]; omega
    have dr : DigB B r := fun x hx => hd x (by simp [hx])
    rw [z2n, e1, e2, e3, decide_eq_true e4]
    by_cases h0 : d = 0
    . obtain ⟨t, h1, h2, h3, h4⟩ := ih k r hr (by omega) (by omega) dr
      refine ⟨t, by simp [h0, tu1, h1], h2, ?_, by simp; omega⟩
      rw [h3, z5z, h0]; simp [valB]
    . exact ⟨r ++ [d], by simp [h0, tu1], ⟨hd, by simpa using h0⟩, rfl, Nat.le_refl _⟩
theorem zbi {B : Int} {l : List Int} (hl : l.length <= 8000000) (hK : 2000000000 < K) (hd : DigB B l) : ∃ t, z1z K l = some t /\ CanB B t /\ valB B t = valB B l /\ t.length <= l.length := by
  obtain ⟨t, h1, h2⟩ := zjt (K := K) l.length K l rfl hl (by omega) hd
  exact ⟨t, by unfold z1z; rw [h1]; rfl, h2⟩
theorem zju {x y : List Int} (hlen : y.length <= x.length) (hx : x.length <= 4000000) (hK : 2000000000 < K) (dx : DigB 1000000000 x) (dy : DigB 1000000000 y) :
    ∃ r : List Int × Int, z23 K x y K [] 0 0 = some r /\ r.1.length = x.length /\ DigB 1000000000 r.1 /\ (0 <= r.2 /\ r.2 <= 1) /\ valB 1000000000 r.1 + 1000000000 ^ x.length * r.2 = valB 1000000000 x + valB 1000000000 y := by
  refine zai (fun k (s : List Int × Int × Int) => z23 K x y k s.1 s.2.1 s.2.2) (fun s => ∃ i : Nat, s.2.2 = i /\ i <= x.length /\ s.1.length = i /\ DigB 1000000000 s.1 /\ (0 <= s.2.1 /\ s.2.1 <= 1) /\ valB 1000000000 s.1 + 1000000000 ^ i * s.2.1 = valB 1000000000 (x.take i) + valB 1000000000 (y.take i)) (fun s => x.length - s.1.length) _ ?_ (([], 0, 0) : List Int × Int × Int) (by simp; omega) ⟨0, rfl, by omega, rfl, DigB.nil _, ⟨by simp, by simp⟩, by simp [valB]⟩
  rintro k ⟨out, c, _⟩ ⟨i, rfl, h0, h1, h2, h3, h4⟩
  dsimp only at h1 h2 h3 h4 ⊢
  by_cases hi : i < x.length
  . right
    have ex := z1w (by omega) dx i
    have ey := z1w (by omega) dy i
    have tx := z3f 1000000000 x i
    have ty := z3f 1000000000 y i
    have hy : ¬ i < y.length -> y.getD i 0 = 0 := fun h => by rw [zAb, List.getElem?_eq_none (by omega)]; rfl
    refine ⟨(out ++ [(x.getD i 0 + c + y.getD i 0) % 1000000000], (x.getD i 0 + c + y.getD i 0) / 1000000000, (i : Int) + 1), ?_, by simp; omega, i + 1, rfl, by omega, by simp [h1], h2.snoc (by omega), by dsimp only; omega, ?_⟩
    . rw [z23]
      by_cases h : i < y.length
      . simp (discharger := omega) only [runL]
      . have e := hy h
        simp (discharger := omega) only [runL, e, Int.add_zero]
    . have hm := Int.emod_add_mul_ediv (x.getD i 0 + c + y.getD i 0) 1000000000
      dsimp only
      rw [z8l, h1, tx, ty, Int.pow_succ]
      grind
  . left
    refine ⟨(out, c), ?_, by dsimp only; omega, h2, h3, ?_⟩
    . rw [z23]; simp [hi]
    . have : i = x.length := by omega
      subst this
      rwa [List.take_of_length_le (Nat.le_refl _), List.take_of_length_le hlen] at h4
theorem zi1 {x y : List Int} {a b : Int} (hlen : y.length <= x.length) (hx : x.length <= 4000000) (hK : 2000000000 < K) (nx : NumN a x) (ny : NumN b y) :
    ∃ r : List Int × Int, z23 K x y K [] 0 0 = some r /\ r.1.length = x.length /\ NumN (a + b) (if r.2 > 0 then r.1 ++ [r.2] else r.1) := by
  obtain ⟨⟨r, c⟩, h1, h2, h3, h4, h5⟩ := zju hlen hx hK nx.1.1 ny.1.1
  dsimp only at h2 h3 h4 h5
  rw [nx.2, ny.2] at h5
  refine ⟨_, h1, h2, ?_⟩
  dsimp only
  by_cases hc : c > 0
  . rw [if_pos hc]
    have e : c = 1 := by omega
    subst e
    refine ⟨⟨h3.snoc (by omega), by simp⟩, ?_⟩
    rw [z8l, h2]
    exact h5
  . rw [if_neg hc]
    have e : c = 0 := by omega
    subst e
    rw [Int.mul_zero, Int.add_zero] at h5
    refine ⟨?_, h5⟩
    by_cases h0 : r = []
    . subst h0; exact ⟨h3, by simp⟩
    . refine znt (by omega) h3 h0 ?_
      have h6 := zhz (B := 1000000000) (by omega) nx.1 (by rintro rfl; exact h0 (List.length_eq_zero_iff.1 h2))
      have h7 := ny.nonneg
      rw [nx.2] at h6
      rw [h2, h5]
      omega
theorem zmi {x y : List Int} {a b : Int} (hx : x.length <= 4000000) (hy : y.length <= 4000000) (hK : 2000000000 < K) (nx : NumN a x) (ny : NumN b y) : ∃ z, z76 K x y = some z /\ NumN (a + b) z /\ z.length <= max x.length y.length + 1 := by
  unfold z76
  by_cases h : x.length < y.length
  . obtain ⟨⟨r, c⟩, h1, h2, h3⟩ := zi1 (K := K) (x := y) (y := x) (by omega) hy (by omega) ny nx
    dsimp only at h2 h3
    rw [Int.add_comm b a] at h3
    by_cases hc : c > 0
    . rw [if_pos hc] at h3
      exact ⟨r ++ [c], by simp (discharger := omega) only [runL, h1], h3, by simp; omega⟩
    . rw [if_neg hc] at h3
      exact ⟨r, by simp (discharger := omega) only [runL, h1], h3, by omega⟩
  . obtain ⟨⟨r, c⟩, h1, h2, h3⟩ := zi1 (K := K) (x := x) (y := y) (by omega) hx (by omega) nx ny
    dsimp only at h2 h3
    by_cases hc : c > 0
    . rw [if_pos hc] at h3
      exact ⟨r ++ [c], by simp (discharger := omega) only [runL, h1], h3, by simp; omega⟩
    . rw [if_neg hc] at h3
      exact ⟨r, by simp (discharger := omega) only [runL, h1], h3, by omega⟩
theorem zjv {x y : List Int} (hx : x.length <= 4000000) (hK : 2000000000 < K) (dx : DigB 1000000000 x) (dy : DigB 1000000000 y) :
    ∃ r : List Int, z24 K x y K (List.replicate x.length 0) 0 0 = some r /\ r.length = x.length /\ DigB 1000000000 r /\ ∃ c : Int, (0 <= c /\ c <= 1) /\ valB 1000000000 r + valB 1000000000 (y.take x.length) = valB 1000000000 x + 1000000000 ^ x.length * c := by
  refine zai (fun k (s : List Int × Int × Int) => z24 K x y k s.1 s.2.1 s.2.2) (fun s => ∃ i : Nat, s.2.2 = i /\ i <= x.length /\ s.1.length = x.length /\ DigB 1000000000 s.1 /\ (∀ j, i <= j -> s.1.getD j 0 = 0) /\ (0 <= s.2.1 /\ s.2.1 <= 1) /\ valB 1000000000 s.1 + valB 1000000000 (y.take i) = valB 1000000000 (x.take i) + 1000000000 ^ i * s.2.1) (fun s => (x.length - s.2.2 : Int).toNat) _ ?_ ((List.replicate x.length 0, 0, 0) : List Int × Int × Int) (by simp; omega) ⟨0, rfl, by omega, by simp, .zeros (by omega) _, fun j _ => by simp [zAb, List.getElem?_replicate]; split <;> rfl, ⟨by simp, by simp⟩, by simp [valB, z9s]⟩
  rintro k ⟨out, c, _⟩ ⟨i, rfl, h0, h1, h2, hz, h3, h4⟩
  dsimp only at h1 h2 h3 h4 hz ⊢
  by_cases hi : i < x.length
  . right
    have ex := z1w (by omega) dx i
    have ey := z1w (by omega) dy i
    have tx := z3f 1000000000 x i
    have ty := z3f 1000000000 y i
    have hy : ¬ i < y.length -> y.getD i 0 = 0 := fun h => by rw [zAb, List.getElem?_eq_none (by omega)]; rfl
    have hset := fun d => z72 1000000000 out i d (by omega)
    have hgs := fun d j => z7q (cs := out) (i := i) (j := j) (v := d) (by omega)
    have hz0 := hz i (Nat.le_refl _)
    by_cases hn : x.getD i 0 - c - y.getD i 0 < 0
    . refine ⟨(out.set i (x.getD i 0 - c - y.getD i 0 + 1000000000), 1, (i : Int) + 1), ?_, by dsimp only; omega, i + 1, rfl, by omega, by simp [h1], h2.set _ (by omega), fun j hj => by rw [hgs, if_neg (by omega)]; exact hz j (by omega), by simp, ?_⟩
      . rw [z24]
        by_cases h : i < y.length
        . simp (discharger := omega) only [runL]
        . have e := hy h
          rw [e, Int.sub_zero] at hn
          simp (discharger := omega) only [runL, e, Int.sub_zero]
      . dsimp only
        rw [hset, hz0, tx, ty, Int.pow_succ]
        grind
    . refine ⟨(out.set i (x.getD i 0 - c - y.getD i 0), 0, (i : Int) + 1), ?_, by dsimp only; omega, i + 1, rfl, by omega, by simp [h1], h2.set _ (by omega), fun j hj => by rw [hgs, if_neg (by omega)]; exact hz j (by omega), by simp, ?_⟩
      . rw [z24]
        by_cases h : i < y.length
        . simp (discharger := omega) only [runL]
        . have e := hy h
          rw [e, Int.sub_zero] at hn
          simp (discharger := omega) only [runL, e, Int.sub_zero]
      . dsimp only
        rw [hset, hz0, tx, ty, Int.pow_succ]
        grind
  . left
    have : i = x.length := by omega
    subst this
    rw [List.take_of_length_le (i := x.length) (l := x) (Nat.le_refl _)] at h4
    exact ⟨out, by rw [z24]; simp (discharger := omega) only [runL], h1, h2, c, h3, h4⟩
theorem zko {x y : List Int} {a b : Int} (hx : x.length <= 4000000) (hK : 2000000000 < K) (nx : NumN a x) (ny : NumN b y) (hab : b <= a) : ∃ z, z6d K x y = some z /\ NumN (a - b) z /\ z.length <= x.length := by
  obtain ⟨r, h1, h2, h3, c, h4, h5⟩ := zjv hx hK nx.1.1 ny.1.1
  have hl : y.length <= x.length := ze2 (B := 1000000000) (by omega) ny.1 nx.1.1 (by rw [nx.2, ny.2]; exact hab)
  rw [List.take_of_length_le hl, nx.2, ny.2] at h5
  have hv := z4z (B := 1000000000) (by omega) r h3
  rw [h2] at hv
  have hc : c = 0 := by
    by_cases e : c = 0
    . exact e
    . have : c = 1 := by omega
      subst this; omega
  subst hc
  obtain ⟨t, t1, t2, t3, t4⟩ := zbi (K := K) (B := 1000000000) (l := r) (by omega) hK h3
  refine ⟨t, ?_, ⟨t2, by rw [t3]; omega⟩, by omega⟩
  unfold z6d
  simp (discharger := omega) only [runL, h1, t1]
theorem zjw {x y : List Int} (hl : x.length = y.length) (hx : x.length <= 4000000) (hK : 2000000000 < K) (dx : DigB 1000000000 x) (dy : DigB 1000000000 y) :
    ∃ r : Int ⊕ Unit, z1o K x y K ((x.length : Int) - 1) = some r /\ r = (if valB 1000000000 x < valB 1000000000 y then .inl (-1) else if valB 1000000000 x = valB 1000000000 y then .inr () else .inl 1) := by
  have hdrop : ∀ (l : List Int) j, valB 1000000000 (l.drop j) = l.getD j 0 + 1000000000 * valB 1000000000 (l.drop (j + 1)) := fun l j => by
    by_cases h : j < l.length
    . rw [List.drop_eq_getElem_cons h, zAb, zAh h]; rfl
    . rw [List.drop_eq_nil_of_le (by omega), List.drop_eq_nil_of_le (by omega), zAb, List.getElem?_eq_none (by omega)]; rfl
  refine zai (fun k (s : Int) => z1o K x y k s) (fun s => ∃ j : Nat, s = (j : Int) - 1 /\ j <= x.length /\ valB 1000000000 (x.drop j) = valB 1000000000 (y.drop j)) (fun s => (s + 1).toNat) _ ?_ ((x.length : Int) - 1) (by omega) ⟨x.length, rfl, Nat.le_refl _, by rw [List.drop_eq_nil_of_le (Nat.le_refl _), List.drop_eq_nil_of_le (by omega)]⟩
  rintro k _ ⟨j, rfl, hj, he⟩
  by_cases h0 : j = 0
  . subst h0
    left
    rw [List.drop_zero, List.drop_zero] at he
    rw [z1o]
    refine ⟨.inr (), by simp (discharger := omega) only [runL], ?_⟩
    rw [if_neg (by omega), if_pos he]
  . obtain ⟨i, rfl⟩ : ∃ i, j = i + 1 := ⟨j - 1, by omega⟩
    have e1 : ((i + 1 : Nat) : Int) - 1 = i := by omega
    rw [e1]
    have ex := z1w (by omega) dx i
    have ey := z1w (by omega) dy i
    have sx := z8d 1000000000 x i (by omega)
    have sy := z8d 1000000000 y i (by omega)
    have ax := hdrop x i
    have ay := hdrop y i
    have bx := z4z (B := 1000000000) (by omega) _ (dx.take i)
    have by' := z4z (B := 1000000000) (by omega) _ (dy.take i)
    have cx := z10 (B := 1000000000) (by omega) _ (dx.take i)
    have cy := z10 (B := 1000000000) (by omega) _ (dy.take i)
    rw [List.length_take, Nat.min_eq_left (by omega)] at bx by'
    have p0 : 0 < (1000000000 : Int) ^ i := Int.pow_pos (by omega)
    rw [ax, he] at sx
    rw [ay] at sy
    by_cases h1 : x.getD i 0 < y.getD i 0
    . left
      refine ⟨.inl (-1), by rw [z1o]; simp (discharger := omega) only [runL], ?_⟩
      have := z3l (Int.le_of_lt p0) (show x.getD i 0 + 1 <= y.getD i 0 by omega)
      rw [if_pos (by grind)]
    . by_cases h2 : x.getD i 0 > y.getD i 0
      . left
        refine ⟨.inl 1, by rw [z1o]; simp (discharger := omega) only [runL], ?_⟩
        have := z3l (Int.le_of_lt p0) (show y.getD i 0 + 1 <= x.getD i 0 by omega)
        rw [if_neg (by grind), if_neg (by grind)]
      . right
        refine ⟨(i : Int) - 1, by rw [z1o]; simp (discharger := omega) only [runL], by omega, i, rfl, by omega, ?_⟩
        rw [ax, ay, he]
        omega
theorem zfh {x y : List Int} {a b : Int} (hx : x.length <= 4000000) (hy : y.length <= 4000000) (hK : 2000000000 < K) (nx : NumN a x) (ny : NumN b y) : z4k K x y = some (if a < b then -1 else if a = b then 0 else 1) := by
  unfold z4k
  by_cases h : x.length = y.length
  . obtain ⟨r, h1, h2⟩ := zjw (K := K) h hx hK nx.1.1 ny.1.1
    rw [nx.2, ny.2] at h2
    have e : ((x.length : Int) != (y.length : Int)) = false := by simp; omega
    rw [e]
    rw [k64 (by omega) (by omega), h1, h2]
    simp only [Bool.false_eq_true, if_false, zb9, Option.bind_some]
    by_cases c1 : a < b
    . simp [c1, tu1]
    . by_cases c2 : a = b
      . subst c2; simp [tu0]
      . simp [c1, c2, tu1]
  . have e : ((x.length : Int) != (y.length : Int)) = true := by simp; omega
    rw [e, if_pos rfl]
    by_cases h1 : x.length < y.length
    . have := zi0 (B := 1000000000) (by omega) nx.1.1 ny.1 h1
      rw [nx.2, ny.2] at this
      simp (discharger := omega) only [runL]
    . have := zi0 (B := 1000000000) (by omega) ny.1.1 nx.1 (by omega)
      rw [nx.2, ny.2] at this
      simp (discharger := omega) only [runL]
end Go.Am.Tryz
/- Plain law: products of the program's numbers; division by one digit. -/
namespace Go.Am.Tryz
open Go Go.Am Go.Proofs
variable {K : Nat}
theorem zkp {a b : Int} (ha : 0 <= a /\ a < 1000000000) (hb : 0 <= b /\ b < 1000000000) : 0 <= a * b /\ a * b <= 999999998000000001 := by
  refine ⟨Int.mul_nonneg ha.1 hb.1, ?_⟩
  have h1 := z3l ha.1 (show b <= 999999999 by omega)
  omega
theorem zmj {y out : List Int} {u : Int} {i : Nat} (hl : i + y.length <= out.length) (ho : out.length <= 8000000) (hK : 2000000000 < K) (hu : 0 <= u /\ u < 1000000000) (dy : DigB 1000000000 y) (d0 : DigB 1000000000 out) :
    ∃ r : List Int × Int, z2j K y (i : Int) u K out 0 0 = some r /\ r.1.length = out.length /\ DigB 1000000000 r.1 /\ (0 <= r.2 /\ r.2 < 1000000000) /\ (∀ j, i + y.length <= j -> r.1.getD j 0 = out.getD j 0) ∧
      valB 1000000000 r.1 + 1000000000 ^ (i + y.length) * r.2 = valB 1000000000 out + 1000000000 ^ i * (u * valB 1000000000 y) := by
  refine zai (fun k (s : List Int × Int × Int) => z2j K y (i : Int) u k s.1 s.2.1 s.2.2) (fun s => ∃ q : Nat, s.2.2 = q /\ q <= y.length /\ s.1.length = out.length /\ DigB 1000000000 s.1 /\ (0 <= s.2.1 /\ s.2.1 < 1000000000) /\ (∀ j, i + q <= j -> s.1.getD j 0 = out.getD j 0) ∧
      valB 1000000000 s.1 + 1000000000 ^ (i + q) * s.2.1 = valB 1000000000 out + 1000000000 ^ i * (u * valB 1000000000 (y.take q))) (fun s => (y.length - s.2.2 : Int).toNat) _ ?_ ((out, 0, 0) : List Int × Int × Int) (by simp; omega) ⟨0, rfl, by omega, rfl, d0, by simp, fun _ _ => rfl, by simp [valB]⟩
  rintro k ⟨o, c, _⟩ ⟨q, rfl, h0, h1, h2, h3, hz, h4⟩
  dsimp only at h1 h2 h3 h4 hz ⊢
  by_cases hq : q < y.length
  . right
    have ey := z1w (by omega) dy q
    have eo := z1w (by omega) h2 (i + q)
    have ty := z3f 1000000000 y q
    have hm := zkp hu ey
    have hset := fun d => z72 1000000000 o (i + q) d (by omega)
    have hgs := fun d j => z7q (cs := o) (i := i + q) (j := j) (v := d) (by omega)
    have e1 : ((i : Int) + (q : Int)) = ((i + q : Nat) : Int) := by omega
    generalize hw : u * y.getD q 0 = w at hm
    generalize ho : o.getD (i + q) 0 = z at eo hset
    have hdm := Int.emod_add_mul_ediv (w + z + c) 1000000000
    refine ⟨(o.set (i + q) ((w + z + c) % 1000000000), (w + z + c) / 1000000000, (q : Int) + 1), ?_, by dsimp only; omega, q + 1, rfl, by omega, by simp [h1], h2.set _ (by omega), by dsimp only; omega, fun j hj => by rw [hgs, if_neg (by omega)]; exact hz j (by omega), ?_⟩
    . rw [z2j]
      simp (discharger := omega) only [runL, e1, hw, ho]
    . dsimp only
      rw [hset, ty]
      have e2 : (1000000000 : Int) ^ (i + (q + 1)) = 1000000000 ^ i * 1000000000 ^ q * 1000000000 := by rw [<- Nat.add_assoc, Int.pow_succ, Int.pow_add]
      rw [e2]
      rw [Int.pow_add] at h4 ⊢
      subst hw
      generalize (u * y.getD q 0 + z + c) / 1000000000 = Q at *
      generalize (u * y.getD q 0 + z + c) % 1000000000 = R at *
      grind
  . left
    have : q = y.length := by omega
    subst this
    rw [List.take_of_length_le (Nat.le_refl _)] at h4
    exact ⟨(o, c), by rw [z2j]; simp (discharger := omega) only [runL], h1, h2, h3, hz, h4⟩
theorem zjx {x y : List Int} (hl : x.length + y.length <= 8000000) (hK : 2000000000 < K) (dx : DigB 1000000000 x) (dy : DigB 1000000000 y) :
    ∃ r : List Int, z2k K x y K (List.replicate (x.length + y.length) 0) 0 = some r /\ r.length = x.length + y.length /\ DigB 1000000000 r /\ valB 1000000000 r = valB 1000000000 x * valB 1000000000 y := by
  refine zai (fun k (s : List Int × Int) => z2k K x y k s.1 s.2) (fun s => ∃ i : Nat, s.2 = i /\ i <= x.length /\ s.1.length = x.length + y.length /\ DigB 1000000000 s.1 /\ (∀ j, i + y.length <= j -> s.1.getD j 0 = 0) /\ valB 1000000000 s.1 = valB 1000000000 (x.take i) * valB 1000000000 y) (fun s => (x.length - s.2 : Int).toNat) _ ?_ ((List.replicate (x.length + y.length) 0, 0) : List Int × Int) (by simp; omega) ⟨0, rfl, by omega, by simp, .zeros (by omega) _, fun j _ => by simp [zAb, List.getElem?_replicate]; split <;> rfl, by simp [valB, z9s]⟩
  rintro k ⟨out, _⟩ ⟨i, rfl, h0, h1, h2, hz, h4⟩
  dsimp only at h1 h2 h4 hz ⊢
  by_cases hi : i < x.length
  . right
    have ex := z1w (by omega) dx i
    have tx := z3f 1000000000 x i
    obtain ⟨⟨r, c⟩, r1, r2, r3, r4, r5, r6⟩ := zmj (K := K) (y := y) (out := out) (u := x.getD i 0) (i := i) (by omega) (by omega) hK ex dy h2
    dsimp only at r2 r3 r4 r5 r6
    have hz0 := r5 (i + y.length) (Nat.le_refl _)
    rw [hz _ (Nat.le_refl _)] at hz0
    have hset := z72 1000000000 r (i + y.length) c (by omega)
    have hgs := fun d j => z7q (cs := r) (i := i + y.length) (j := j) (v := d) (by omega)
    have e1 : ((i : Int) + (y.length : Int)) = ((i + y.length : Nat) : Int) := by omega
    refine ⟨(r.set (i + y.length) c, (i : Int) + 1), ?_, by dsimp only; omega, i + 1, rfl, by omega, by simp [r2, h1], r3.set _ r4, fun j hj => by rw [hgs, if_neg (by omega), r5 j (by omega)]; exact hz j (by omega), ?_⟩
    . rw [z2k]
      simp (discharger := omega) only [runL, r1, e1]
    . dsimp only
      rw [hset, hz0, tx]
      grind
  . left
    have : i = x.length := by omega
    subst this
    rw [List.take_of_length_le (Nat.le_refl _)] at h4
    exact ⟨out, by rw [z2k]; simp (discharger := omega) only [runL], h1, h2, h4⟩
theorem zbj {x y : List Int} {a b : Int} (hl : x.length + y.length <= 8000000) (hK : 2000000000 < K) (nx : NumN a x) (ny : NumN b y) : ∃ z, z2w K x y = some z /\ NumN (a * b) z /\ z.length <= x.length + y.length := by
  obtain ⟨r, h1, h2, h3, h4⟩ := zjx hl hK nx.1.1 ny.1.1
  rw [nx.2, ny.2] at h4
  obtain ⟨t, t1, t2, t3, t4⟩ := zbi (K := K) (B := 1000000000) (l := r) (by omega) hK h3
  refine ⟨t, ?_, ⟨t2, by rw [t3, h4]⟩, by omega⟩
  unfold z2w
  have e1 : ((x.length : Int) + (y.length : Int)) = ((x.length + y.length : Nat) : Int) := by omega
  simp (discharger := omega) only [runL, h1, t1, e1]
theorem zeq (l : List Int) (j : Nat) : valB 1000000000 (l.drop j) = l.getD j 0 + 1000000000 * valB 1000000000 (l.drop (j + 1)) := by
  by_cases h : j < l.length
  . rw [List.drop_eq_getElem_cons h, zAb, zAh h]; rfl
  . rw [List.drop_eq_nil_of_le (by omega), List.drop_eq_nil_of_le (by omega), zAb, List.getElem?_eq_none (by omega)]; rfl
theorem zg5 {x : List Int} {d : Int} (hl : x.length <= 8000000) (hK : 2000000000 < K) (dx : DigB 1000000000 x) (hd : 1 <= d /\ d <= 1000000000) :
    ∃ r : List Int × Int, z1u K x d K (List.replicate x.length 0) 0 ((x.length : Int) - 1) = some r /\ r.1.length = x.length /\ DigB 1000000000 r.1 /\ (0 <= r.2 /\ r.2 < d) /\ valB 1000000000 x = d * valB 1000000000 r.1 + r.2 := by
  refine zai (fun k (s : List Int × Int × Int) => z1u K x d k s.1 s.2.1 s.2.2) (fun s => ∃ j : Nat, s.2.2 = (j : Int) - 1 /\ j <= x.length /\ s.1.length = x.length /\ DigB 1000000000 s.1 /\ (0 <= s.2.1 /\ s.2.1 < d) /\ valB 1000000000 (x.drop j) = d * valB 1000000000 (s.1.drop j) + s.2.1) (fun s => (s.2.2 + 1).toNat) _ ?_ ((List.replicate x.length 0, 0, (x.length : Int) - 1) : List Int × Int × Int) (by dsimp only; omega) ⟨x.length, rfl, Nat.le_refl _, by simp, .zeros (by omega) _, by dsimp only; omega, by simp [valB]⟩
  rintro k ⟨out, c, _⟩ ⟨j, rfl, hj, h1, h2, h3, h4⟩
  dsimp only at h1 h2 h3 h4 ⊢
  by_cases h0 : j = 0
  . left
    subst h0
    rw [List.drop_zero, List.drop_zero] at h4
    exact ⟨(out, c), by rw [z1u]; simp (discharger := omega) only [runL], h1, h2, h3, h4⟩
  . right
    obtain ⟨i, rfl⟩ : ∃ i, j = i + 1 := ⟨j - 1, by omega⟩
    have e1 : ((i + 1 : Nat) : Int) - 1 = i := by omega
    rw [e1]
    have ex := z1w (by omega) dx i
    have ax := zeq x i
    generalize hu : x.getD i 0 = u at ex ax
    have hq0 : 0 <= (c * 1000000000 + u) / d := Int.ediv_nonneg (by omega) (by omega)
    have hqB : (c * 1000000000 + u) / d < 1000000000 := Int.ediv_lt_of_lt_mul (by omega) (by omega)
    have hr0 : 0 <= (c * 1000000000 + u) % d := Int.emod_nonneg _ (by omega)
    have hrd : (c * 1000000000 + u) % d < d := Int.emod_lt_of_pos _ (by omega)
    have hdm := Int.emod_add_mul_ediv (c * 1000000000 + u) d
    refine ⟨(out.set i ((c * 1000000000 + u) / d), (c * 1000000000 + u) % d, (i : Int) - 1), ?_, by dsimp only; omega, i, rfl, by omega, by simp [h1], h2.set _ ⟨hq0, hqB⟩, ⟨hr0, hrd⟩, ?_⟩
    . rw [z1u]
      have hd' : d ≠ 0 := by omega
      simp (discharger := omega) only [runL, hu]
    . dsimp only
      rw [zeq (out.set i _) i, List.drop_set_of_lt (by omega), z7q (by omega), if_pos rfl, ax, h4]
      generalize (c * 1000000000 + u) / d = Q at *
      generalize (c * 1000000000 + u) % d = R at *
      grind
theorem zjy {d : Int} (hd : 0 <= d /\ d < 1000000000) (hK : 2000000000 < K) : ∃ z, z1z K [d] = some z /\ NumN d z /\ z.length <= 1 := by
  obtain ⟨t, t1, t2, t3, t4⟩ := zbi (K := K) (B := 1000000000) (l := [d]) (by simp) hK (fun x hx => by simp at hx; omega)
  exact ⟨t, t1, ⟨t2, by rw [t3]; simp [valB]⟩, by simpa using t4⟩
theorem zbk {n d q r : Int} (hd : 0 < d) (h : n = d * q + r) (h0 : 0 <= r) (h1 : r < d) : q = n / d /\ r = n % d := by
  have e1 : n / d = q := by
    rw [h, Int.add_comm, Int.add_mul_ediv_left _ _ (by omega), Int.ediv_eq_zero_of_lt h0 h1]; omega
  refine ⟨e1.symm, ?_⟩
  have := Int.emod_add_mul_ediv n d
  rw [e1] at this
  omega
theorem zfi {x : List Int} {a d : Int} (hl : x.length <= 8000000) (hK : 2000000000 < K) (nx : NumN a x) (hd : 1 <= d /\ d <= 1000000000) : ∃ q r, z4l K x d = some (q, r) /\ NumN (a / d) q /\ NumN (a % d) r /\ q.length <= x.length /\ r.length <= 1 := by
  obtain ⟨⟨o, c⟩, h1, h2, h3, h4, h5⟩ := zg5 hl hK nx.1.1 hd
  dsimp only at h2 h3 h4 h5
  rw [nx.2] at h5
  obtain ⟨e1, e2⟩ := zbk (by omega) h5 h4.1 h4.2
  obtain ⟨t, t1, t2, t3, t4⟩ := zbi (K := K) (B := 1000000000) (l := o) (by omega) hK h3
  obtain ⟨z, z1, z2, z3⟩ := zjy (K := K) (d := c) (by omega) hK
  refine ⟨t, z, ?_, ⟨t2, by rw [t3, e1]⟩, by rw [<- e2]; exact z2, by omega, z3⟩
  unfold z4l
  simp (discharger := omega) only [runL, h1, t1, z1]
end Go.Am.Tryz
/- Plain law: texts and the program's numbers: Read and Text. -/
namespace Go.Am.Tryz
open Go Go.Am Go.Proofs
variable {K : Nat}
def numB (l : List Int) : Int := valB 10 ((l.map (· - 48)).reverse)
theorem zd6 (s : zAd) : numT s = numB (z05 s) := rfl
theorem z97 : numB [] = 0 := rfl
theorem zas (l : List Int) (c : Int) : numB (l ++ [c]) = numB l * 10 + (c - 48) := by
  unfold numB
  simp [valB]
  omega
theorem zer (l m : List Int) : numB (l ++ m) = numB m + 10 ^ m.length * numB l := by
  unfold numB
  rw [List.map_append, List.reverse_append, z5z]
  simp
theorem zat (c : Int) (l : List Int) : numB (c :: l) = numB l + 10 ^ l.length * (c - 48) := by
  have := zer [c] l
  simpa [numB, valB] using this
theorem zi2 {l : List Int} (h : l.all digT = true) : DigB 10 ((l.map (· - 48)).reverse) := by
  intro d hd
  rw [List.mem_reverse, List.mem_map] at hd
  obtain ⟨c, hc, rfl⟩ := hd
  have := List.all_eq_true.1 h c hc
  simp only [digT, Bool.and_eq_true, decide_eq_true_eq] at this
  omega
theorem z6h {l : List Int} (h : l.all digT = true) : 0 <= numB l := z10 (by omega) _ (zi2 h)
theorem zcg {l : List Int} (h : l.all digT = true) : numB l < 10 ^ l.length := by
  have := z4z (B := 10) (by omega) _ (zi2 h)
  simpa [numB] using this
theorem digT_iff {c : Int} : digT c = true ↔ 48 <= c /\ c <= 57 := by simp [digT]
theorem zbl {l : List Int} (h : l.all digT = true) (k : Nat) : (l.take k).all digT = true := List.all_eq_true.2 fun x hx => List.all_eq_true.1 h x (List.mem_of_mem_take hx)
theorem zli {l : List Int} (h : l.all digT = true) (k : Nat) : (l.drop k).all digT = true := List.all_eq_true.2 fun x hx => List.all_eq_true.1 h x (List.mem_of_mem_drop hx)
theorem zfj {l : List Int} {i : Nat} (h : i < l.length) : l.take (i + 1) = l.take i ++ [l.getD i 0] := by
  rw [List.take_add_one, zAh h, zAb, zAh h]; rfl
theorem zfk {l : List Int} (h : l.all digT = true) {i : Nat} (hi : i < l.length) : 48 <= l.getD i 0 /\ l.getD i 0 <= 57 := by
  rw [zAb, zAh hi]
  exact digT_iff.1 (List.all_eq_true.1 h _ (List.getElem_mem hi))
theorem zjz {t : zAd} (ht : t.size <= 9) (hK : 2000000000 < K) (hd : (z05 t).all digT = true) : z2i K t K 0 0 = some (numT t) := by
  suffices h : ∃ r, z2i K t K 0 0 = some r /\ r = numT t by obtain ⟨r, h1, rfl⟩ := h; exact h1
  have hn := z01 t
  refine zai (fun k (s : Int × Int) => z2i K t k s.1 s.2) (fun s => ∃ i : Nat, s.2 = i /\ i <= t.size /\ s.1 = numB ((z05 t).take i)) (fun s => (t.size - s.2 : Int).toNat) _ ?_ ((0, 0) : Int × Int) (by simp; omega) ⟨0, rfl, by omega, by simp [z97]⟩
  rintro k ⟨_, _⟩ ⟨i, rfl, h0, rfl⟩
  dsimp only
  by_cases hi : i < t.size
  . right
    have b1 := z6h (zbl hd i)
    have b2 := zcg (zbl hd i)
    have b3 : (10 : Int) ^ (List.take i (z05 t)).length <= 10 ^ 8 := by
      rw [List.length_take, hn, Nat.min_eq_left (by omega)]
      exact z7c (by omega) (by omega)
    have hc := zfk hd (i := i) (by omega)
    have hs := zfj (l := z05 t) (i := i) (by omega)
    have b4 : (10 : Int) ^ 8 = 100000000 := by decide
    refine ⟨(numB ((z05 t).take (i + 1)), (i : Int) + 1), ?_, by dsimp only; omega, i + 1, rfl, by omega, rfl⟩
    rw [z2i, hs, zas]
    generalize numB ((z05 t).take i) = d at *
    rw [hn]
    have hi' : (i : Int) < ((z05 t).length : Int) := by omega
    simp (discharger := omega) only [runL]
  . left
    have : i = t.size := by omega
    subst this
    refine ⟨numB ((z05 t).take t.size), by rw [z2i, hn]; simp (discharger := omega) only [runL], ?_⟩
    rw [List.take_of_length_le (by omega)]
    rfl
theorem zk0 {s : zAd} (hs : s.size <= 8000000) (hK : 2000000000 < K) (hd : (z05 s).all digT = true) :
    ∃ r : List Int, z30 K s K [] (s.size : Int) = some r /\ 9 * r.length < s.size + 9 /\ DigB 1000000000 r /\ valB 1000000000 r = numT s := by
  have hn := z01 s
  refine zai (fun k (q : List Int × Int) => z30 K s k q.1 q.2) (fun q => q.2 = (s.size : Int) - 9 * q.1.length /\ 9 * q.1.length < s.size + 9 /\ DigB 1000000000 q.1 /\ valB 1000000000 q.1 + 1000000000 ^ q.1.length * numB ((z05 s).take q.2.toNat) = numT s) (fun q => (q.2 + 9).toNat) _ ?_ (([], (s.size : Int)) : List Int × Int) (by dsimp only; omega) ⟨by simp, by simp, .nil _, by simp [valB]; rw [List.take_of_length_le (by omega)]; rfl⟩
  rintro k ⟨out, e⟩ ⟨h1, h2, h3, h4⟩
  dsimp only at h1 h2 h3 h4 ⊢
  by_cases he : e > 0
  . right
    obtain ⟨lo, hlo, hm⟩ : ∃ lo : Nat, imax 0 (z02 .i64 (e - 9)) = lo /\ ((lo : Int) = e - 9 \/ ((lo = 0) /\ e < 9)) := by
      rw [k64 (by omega) (by omega)]
      unfold imax
      by_cases h9 : e - 9 > 0
      . exact ⟨(e - 9).toNat, by rw [if_pos h9]; omega, .inl (by omega)⟩
      . exact ⟨0, by rw [if_neg h9]; rfl, by omega⟩
    have hb : z05 (s.extract lo e.toNat) = ((z05 s).drop lo).take (e.toNat - lo) := z2q _ _ _
    have hsz : (s.extract lo e.toNat).size = e.toNat - lo := by rw [<- z01, hb, List.length_take, List.length_drop]; omega
    have hdp : (z05 (s.extract lo e.toNat)).all digT = true := by rw [hb]; exact zbl (zli hd _) _
    have hp := zjz (K := K) (t := s.extract lo e.toNat) (by omega) hK hdp
    have hv0 := z6h hdp
    have hv1 := zcg hdp
    have hsplit : (z05 s).take e.toNat = (z05 s).take lo ++ z05 (s.extract lo e.toNat) := by
      rw [hb, show e.toNat = lo + (e.toNat - lo) by omega, List.take_add]; simp
    have hlen : (z05 (s.extract lo e.toNat)).length = e.toNat - lo := by rw [z01]; exact hsz
    have hBv : numB (z05 (s.extract lo e.toNat)) < 1000000000 := by
      have : (10 : Int) ^ (z05 (s.extract lo e.toNat)).length <= 10 ^ 9 := z7c (by omega) (by omega)
      have e9 : (10 : Int) ^ 9 = 1000000000 := by decide
      omega
    refine ⟨(out ++ [numT (s.extract lo e.toNat)], e - 9), ?_, by dsimp only; omega, by simp; omega, by simp; omega, h3.snoc ⟨hv0, hBv⟩, ?_⟩
    . rw [z30, hlo]
      simp (discharger := omega) only [runL, hp]
    . dsimp only
      rw [z8l, List.length_append, List.length_singleton, Int.pow_succ, zd6]
      rw [hsplit, zer, hlen] at h4
      rcases hm with hm | ⟨hm, h9⟩
      . have e9 : e.toNat - lo = 9 := by omega
        have e10 : (10 : Int) ^ 9 = 1000000000 := by decide
        have el : (e - 9).toNat = lo := by omega
        rw [e9, e10] at h4
        rw [el]
        grind
      . subst hm
        have el : (e - 9).toNat = 0 := by omega
        rw [el, List.take_zero, z97] at *
        grind
  . left
    have el : e.toNat = 0 := by omega
    rw [el, List.take_zero, z97] at h4
    exact ⟨out, by rw [z30]; simp (discharger := omega) only [runL], h2, h3, by omega⟩
theorem zaa {s : zAd} (hs : s.size <= 8000000) (hK : 2000000000 < K) (hd : (z05 s).all digT = true) : ∃ z, z5r K s = some z /\ NumN (numT s) z /\ 9 * z.length < s.size + 9 := by
  obtain ⟨r, h1, h2, h3, h4⟩ := zk0 hs hK hd
  obtain ⟨t, t1, t2, t3, t4⟩ := zbi (K := K) (B := 1000000000) (l := r) (by omega) hK h3
  exact ⟨t, by unfold z5r; simp (discharger := omega) only [runL, h1, t1], ⟨t2, by rw [t3, h4]⟩, by omega⟩
theorem zk1 {d : Int} (hd : 0 <= d /\ d < 1000000000) (hK : 2000000000 < K) : ∃ p, z26 K K (List.replicate 9 0) d 8 = some p /\ p.length = 9 /\ p.all digT = true /\ numB p = d := by
  refine zai (fun k (s : List Int × Int × Int) => z26 K k s.1 s.2.1 s.2.2) (fun s => ∃ j : Nat, s.2.2 = (j : Int) - 1 /\ j <= 9 /\ s.1.length = 9 /\ (s.1.drop j).all digT = true /\ (0 <= s.2.1 /\ s.2.1 <= d) /\ d = s.2.1 * 10 ^ (9 - j) + numB (s.1.drop j)) (fun s => (s.2.2 + 1).toNat) _ ?_ ((List.replicate 9 0, d, 8) : List Int × Int × Int) (by simp; omega) ⟨9, rfl, by omega, by simp, by simp, by dsimp only; omega, by simp [z97]⟩
  rintro k ⟨p, c, _⟩ ⟨j, rfl, hj, h1, h2, h3, h4⟩
  dsimp only at h1 h2 h3 h4 ⊢
  by_cases h0 : j = 0
  . subst h0
    left
    rw [List.drop_zero] at h2 h4
    have e9 : (10 : Int) ^ (9 - 0) = 1000000000 := by decide
    have := z6h h2
    rw [e9] at h4
    exact ⟨p, by rw [z26]; simp (discharger := omega) only [runL], h1, h2, by omega⟩
  . right
    obtain ⟨i, rfl⟩ : ∃ i, j = i + 1 := ⟨j - 1, by omega⟩
    have e1 : ((i + 1 : Nat) : Int) - 1 = i := by omega
    rw [e1]
    have hx : (p.set i (48 + c % 10)).drop i = (48 + c % 10) :: p.drop (i + 1) := by
      rw [List.drop_eq_getElem_cons (by simp; omega), List.drop_set_of_lt (by omega)]
      simp
    have e2 : (10 : Int) ^ (9 - i) = 10 ^ (9 - (i + 1)) * 10 := by rw [<- Int.pow_succ]; congr 1; omega
    have e3 : (p.drop (i + 1)).length = 9 - (i + 1) := by rw [List.length_drop, h1]
    have hdm := Int.emod_add_mul_ediv c 10
    refine ⟨(p.set i (48 + c % 10), c / 10, (i : Int) - 1), ?_, by dsimp only; omega, i, rfl, by omega, by simp [h1], ?_, by dsimp only; omega, ?_⟩
    . rw [z26]
      simp (discharger := omega) only [runL]
    . dsimp only
      rw [hx, List.all_cons, h2, Bool.and_true]
      exact digT_iff.2 (by omega)
    . dsimp only
      rw [hx, zat, e2, e3]
      generalize (10 : Int) ^ (9 - (i + 1)) = P at *
      grind
theorem zi3 {x : List Int} (hx : x.length <= 1000000) (hK : 2000000000 < K) (dx : DigB 1000000000 x) : ∃ b, z27 K x K [] ((x.length : Int) - 1) = some b /\ b.length = 9 * x.length /\ b.all digT = true /\ numB b = valB 1000000000 x := by
  refine zai (fun k (s : List Int × Int) => z27 K x k s.1 s.2) (fun s => ∃ j : Nat, s.2 = (j : Int) - 1 /\ j <= x.length /\ s.1.length = 9 * (x.length - j) /\ s.1.all digT = true /\ numB s.1 = valB 1000000000 (x.drop j)) (fun s => (s.2 + 1).toNat) _ ?_ (([], (x.length : Int) - 1) : List Int × Int) (by dsimp only; omega) ⟨x.length, rfl, Nat.le_refl _, by simp, by simp, by simp [valB, z97]⟩
  rintro k ⟨b, _⟩ ⟨j, rfl, hj, h1, h2, h4⟩
  dsimp only at h1 h2 h4 ⊢
  by_cases h0 : j = 0
  . subst h0
    left
    exact ⟨b, by rw [z27]; simp (discharger := omega) only [runL], h1, h2, h4⟩
  . right
    obtain ⟨i, rfl⟩ : ∃ i, j = i + 1 := ⟨j - 1, by omega⟩
    have e1 : ((i + 1 : Nat) : Int) - 1 = i := by omega
    rw [e1]
    have ex := z1w (by omega) dx i
    obtain ⟨p, p1, p2, p3, p4⟩ := zk1 (K := K) (d := x.getD i 0) ex hK
    have e9 : (10 : Int) ^ 9 = 1000000000 := by decide
    refine ⟨(b ++ p, (i : Int) - 1), ?_, by dsimp only; omega, i, rfl, by omega, by simp; omega, ?_, ?_⟩
    . rw [z27]
      simp (discharger := omega) only [runL, p1]
    . dsimp only
      rw [List.all_append, h2, p3]; rfl
    . dsimp only
      rw [zer, p2, p4, h4, zeq x i, e9]
theorem ze4 {n : Int} : ∀ k (s : zAd), s.size < k -> s.size <= 16777216 -> (z05 s).all digT = true -> numT s = n -> ∃ t, z0n K 48 k s = some t /\ (z05 t).all digT = true /\ numT t = n /\ (z05 t).head? ≠ some 48 /\ t.size <= s.size := by
  intro k
  induction k with
  | zero => intro s h; omega
  | succ k ih =>
    intro s hk hb hd hn
    have hl := z01 s
    by_cases h0 : s.size > 0
    . cases hc : z05 s with
      | nil => rw [hc] at hl; simp at hl; omega
      | cons c l =>
        obtain ⟨t, t1, t2, t3⟩ := zbh hc
        rw [hc] at hd hl
        simp only [List.all_cons, Bool.and_eq_true, List.length_cons] at hd hl
        have hcc : bidx s 0 = some c := by rw [z9r, hc]; rfl
        by_cases h1 : c = 48
        . subst h1
          obtain ⟨r, r1, r2, r3, r4, r5⟩ := ih t (by omega) (by omega) (by rw [t2]; exact hd.2) (by rw [<- hn, zd6, zd6, t2, hc, zat]; simp)
          refine ⟨r, ?_, r2, r3, r4, by omega⟩
          rw [z0n, hcc, t1]
          simp (discharger := omega) only [runL, r1]
        . refine ⟨s, ?_, by rw [hc]; simp [hd], hn, by rw [hc]; simp; omega, Nat.le_refl _⟩
          rw [z0n, hcc]
          simp (discharger := omega) only [runL]
    . refine ⟨s, ?_, hd, hn, ?_, Nat.le_refl _⟩
      . rw [z0n]
        have e : (decide ((s.size : Int) > 0)) = false := decide_eq_false (by omega)
        rw [e]
        simp (discharger := omega) only [runL, Bool.false_eq_true]
      . have : z05 s = [] := List.length_eq_zero_iff.1 (by omega)
        rw [this]; simp
theorem zmk {s t : zAd} (h : s.size ≠ t.size) : sEq s t = false := by
  cases e : sEq s t with
  | false => rfl
  | true => rw [sEq_iff] at e; subst e; exact absurd rfl h
theorem zg6 {s : zAd} (hs : s.size <= 16777216) (hK : 2000000000 < K) (hp : 0 < numT s) (hd : (z05 s).all digT = true) : ∃ t, z2x K s ⟨#[48]⟩ = some t /\ CanT t /\ numT t = numT s /\ t.size <= s.size := by
  obtain ⟨t, t1, t2, t3, t4, t5⟩ := ze4 (K := K) K s (by omega) hs hd rfl
  have ne : ∀ u : zAd, 0 < numT u -> u.size ≠ 0 := fun u hu e => by
    have : z05 u = [] := List.length_eq_zero_iff.1 (by rw [z01]; exact e)
    rw [zd6, this, z97] at hu; omega
  refine ⟨t, ?_, ⟨ne t (by omega), t2, fun h => absurd h t4⟩, t3, t5⟩
  unfold z2x z2l
  have e1 : sEq s ⟨#[]⟩ = false := zmk (ne s hp)
  have e2 : sEq ⟨#[48]⟩ ⟨#[]⟩ = false := zmk (by decide)
  have e3 : bidx (⟨#[48]⟩ : zAd) 0 = some 48 := rfl
  have e4 : (((⟨#[48]⟩ : zAd).size : Int) == 1) = true := rfl
  rw [e1, e2, e3, e4]
  simp (discharger := omega) only [runL, Bool.false_eq_true, t1]
theorem zi4 {x : List Int} {n : Int} (hx : x.length <= 1000000) (hK : 2000000000 < K) (nx : NumN n x) : ∃ t, z4h K x = some t /\ CanT t /\ numT t = n /\ t.size <= 9 * x.length + 1 := by
  unfold z4h
  by_cases h0 : x = []
  . subst h0
    have e : n = 0 := nx.nil_iff.1 rfl
    subst e
    exact ⟨⟨#[48]⟩, rfl, ⟨by decide, rfl, fun _ => rfl⟩, rfl, by decide⟩
  . have hl : x.length ≠ 0 := fun e => h0 (List.length_eq_zero_iff.1 e)
    obtain ⟨b, b1, b2, b3, b4⟩ := zi3 hx hK nx.1.1
    rw [nx.2] at b4
    have hr : ∀ c ∈ b, 0 <= c /\ c <= 255 := fun c hc => by have := digT_iff.1 (List.all_eq_true.1 b3 c hc); omega
    have hb := zcf b hr
    have hsz : (strOfNums b).size = b.length := by rw [<- z01, hb]
    obtain ⟨t, t1, t2, t3, t4⟩ := zg6 (K := K) (s := strOfNums b) (by omega) hK (by rw [zd6, hb, b4]; exact nx.pos h0) (by rw [hb]; exact b3)
    refine ⟨t, ?_, t2, by rw [t3, zd6, hb, b4], by omega⟩
    have e : ((x.length : Int) == 0) = false := by simp; omega
    rw [e]
    simp (discharger := omega) only [runL, Bool.false_eq_true, b1, t1]
end Go.Am.Tryz
/- Plain law: the reference's texts of digits. -/
namespace Go.Am.Tryz
open Go Go.Am Go.Proofs
variable {K : Nat}
theorem zk2 {s : zAd} {c : Int} {l : List Int} (h : z05 s = c :: l) : bidx s 0 = some c := by rw [z9r, h]; rfl
theorem zi5 : ∀ n k (s : zAd), s.size = n -> n < k -> 0 < n -> (z05 s).all digT = true -> ∃ t, z58 K k s = some t /\ CanT t /\ numT t = numT s := by
  intro n
  induction n with
  | zero => intro k s _ _ h; omega
  | succ n ih =>
    intro k s hs hk _ hd
    obtain ⟨k, rfl⟩ : ∃ m, k = m + 1 := ⟨k - 1, by omega⟩
    have hn := z01 s
    cases hb : z05 s with
    | nil => rw [hb] at hn; simp at hn; omega
    | cons c l =>
      rw [z58, zk2 hb]
      by_cases h1 : (s.size : Int) > 1
      . by_cases h2 : c = 48
        . obtain ⟨t, h3, h4, h5⟩ := zbh hb
          have hl : l.length = n := by rw [hb] at hn; simp at hn; omega
          obtain ⟨r, h6, h7, h8⟩ := ih k t (by omega) (by omega) (by omega) (by rw [h4]; rw [hb] at hd; simp only [List.all_cons, Bool.and_eq_true] at hd; exact hd.2)
          refine ⟨r, ?_, h7, ?_⟩
          . simp [h1, h2, h3, h6, tu1]
          . rw [h8, zjr (s := s) (t := t) (c := c) (by rw [hb, h4]), h2]; simp
        . refine ⟨s, by simp [h1, h2, tu1], ⟨by omega, hd, fun e => ?_⟩, rfl⟩
          rw [hb] at e; simp at e; exact absurd e h2
      . exact ⟨s, by simp [h1, tu1], ⟨by omega, hd, fun e => by omega⟩, rfl⟩
theorem zau {s : zAd} (hs : s.size <= 1048576) (h0 : 0 < s.size) (hK : s.size < K) (hd : (z05 s).all digT = true) : ∃ t, z6t K s = some t /\ CanT t /\ numT t = numT s := by
  obtain ⟨t, h1, h2⟩ := zi5 (K := K) s.size K s rfl hK h0 hd
  exact ⟨t, by unfold z6t; rw [h1]; rfl, h2⟩
theorem z8m {s : zAd} (hs : s.size <= 1048576) (hd : (z05 s).all digT = true) (k : Nat) (hk : k <= 1048577) : z5l K s k = some ((z60 s).getD k 0) := by
  have hn := z01 s
  unfold z5l
  by_cases h : k < s.size
  . have h' : ((k : Int) < (s.size : Int)) := by omega
    have hi : s.size - 1 - k < (z05 s).length := by omega
    have e1 : z02 .i64 (z02 .i64 ((s.size : Int) - 1) - (k : Int)) = ((s.size - 1 - k : Nat) : Int) := by
      rw [kw (a := (s.size : Int) - 1) (by omega) (by omega), kw (by omega) (by omega)]; omega
    have hx : (z05 s)[s.size - 1 - k]? = some (z05 s)[s.size - 1 - k] := zAh hi
    have hc := List.all_eq_true.1 hd _ (List.getElem_mem hi)
    simp only [digT, Bool.and_eq_true, decide_eq_true_eq] at hc
    rw [decide_eq_true h', if_pos rfl, e1, z9r, z5v hx]
    have hg : (z60 s).getD k 0 = (z05 s)[s.size - 1 - k] - 48 := by
      unfold z60
      rw [zAb, List.getElem?_reverse (by simp; omega), List.length_map, hn, List.getElem?_map, hx]
      rfl
    rw [hg]
    generalize (z05 s)[s.size - 1 - k] = c at hc
    have e2 : z02 .u8 (c - 48) = c - 48 := z6y (by simp [z9b]; omega)
    have e3 : IntKind.wrap .i64 (c - 48) = c - 48 := by rw [<- z7z]; exact kw (by omega) (by omega)
    simp [e2, e3]
  . have h' : ¬ ((k : Int) < (s.size : Int)) := by omega
    rw [decide_eq_false h', if_neg (by simp)]
    congr 1
    rw [zAb, List.getElem?_eq_none (by rw [z5m]; omega)]
    rfl
theorem zol {x : Int} (h : 0 <= x) (h' : x <= 255) : z02 .u8 x = x := z6y (by simp [z9b]; omega)
theorem zk3 {l : List Int} (hl : l.length <= 1048577) (hK : l.length < K) (hd : DigB 10 l) : z2y K l K (List.replicate l.length 0) 0 = some (l.map (48 + ·)).reverse := by
  suffices h : ∃ r, z2y K l K (List.replicate l.length 0) 0 = some r /\ r = (l.map (48 + ·)).reverse by
    obtain ⟨r, h1, rfl⟩ := h; exact h1
  refine zep (S := List Int) l.length (fun k s i => z2y K l k s i) (fun b i => b.length = l.length /\ ∀ j < l.length, b.getD j 0 = if l.length - 1 - j < i then 48 + l.getD (l.length - 1 - j) 0 else 0) _ ?_ ?_ K _ hK ⟨by simp, fun j hj => by simp [zAb, hj]⟩
  . rintro k b i hi ⟨hb, hj⟩
    right
    have hp : l.length - 1 - i < b.length := by omega
    have e1 : z02 .i64 (z02 .i64 ((l.length : Int) - 1) - (i : Int)) = ((l.length - 1 - i : Nat) : Int) := by
      rw [kw (a := (l.length : Int) - 1) (by omega) (by omega), kw (by omega) (by omega)]; omega
    have hx := hd (l.getD i 0) (by rw [zAb, zAh hi]; simp)
    have e2 : IntKind.wrap .u8 (z02 .i64 (48 + l.getD i 0)) = 48 + l.getD i 0 := by
      rw [kw (a := 48 + l.getD i 0) (by omega) (by omega), <- z7z]; exact zol (by omega) (by omega)
    refine ⟨b.set (l.length - 1 - i) (48 + l.getD i 0), ⟨by simp [hb], fun j hjl => ?_⟩, ?_⟩
    . have hg : (b.set (l.length - 1 - i) (48 + l.getD i 0)).getD j 0 = if j = l.length - 1 - i then 48 + l.getD i 0 else b.getD j 0 := z7q hp
      rw [hg, hj j hjl]
      by_cases e : j = l.length - 1 - i
      . have e3 : l.length - 1 - j = i := by omega
        rw [if_pos e, e3, if_pos (zAg i)]
      . rw [if_neg e]
        by_cases e3 : l.length - 1 - j < i
        . rw [if_pos e3, if_pos (by omega)]
        . rw [if_neg e3, if_neg (by omega)]
    . show z2y K l (k + 1) b i = _
      rw [z2y, zjq hi, if_pos rfl, zhx hi]
      simp only [Option.bind_some, e1, zhx hp, e2, Int.toNat_natCast, kw1 hi (by omega)]
  . rintro k b i rfl ⟨hb, hj⟩
    refine ⟨b, ?_, ?_⟩
    . show z2y K l (k + 1) b l.length = _
      rw [z2y, zfe (Nat.le_refl _)]; simp
    . apply List.ext_getElem (by simp [hb])
      intro j h1 h2
      have h3 := hj j (by omega)
      rw [if_pos (by omega), zAb, zAh h1, zAb, zAh (show l.length - 1 - j < l.length by omega)] at h3
      simp at h3
      simp [h3]
theorem zes {l : List Int} (hl : l.length <= 1048575) (h0 : l ≠ []) (hK : l.length + 1 < K) (hd : DigB 10 l) : ∃ t, z94 K l = some t /\ CanT t /\ numT t = valB 10 l := by
  have hlen : 0 < l.length := by cases l with | nil => exact absurd rfl h0 | cons _ _ => simp
  have hrange : ∀ x ∈ (l.map (48 + ·)).reverse, 0 <= x /\ x <= 255 := fun x hx => by
    rw [List.mem_reverse, List.mem_map] at hx
    obtain ⟨d, h1, rfl⟩ := hx
    have := hd d h1
    omega
  have hb := zcf _ hrange
  have hz : z05 ((⟨#[48]⟩ : zAd) ++ strOfNums (l.map (48 + ·)).reverse) = 48 :: (l.map (48 + ·)).reverse := by
    rw [z0q, hb]; rfl
  have hsz : ((⟨#[48]⟩ : zAd) ++ strOfNums (l.map (48 + ·)).reverse).size = l.length + 1 := by
    rw [<- z01, hz]; simp
  have hdg : (z05 ((⟨#[48]⟩ : zAd) ++ strOfNums (l.map (48 + ·)).reverse)).all digT = true := by
    rw [hz, List.all_eq_true]
    intro x hx
    rcases List.mem_cons.1 hx with rfl | hx
    . rfl
    . rw [List.mem_reverse, List.mem_map] at hx
      obtain ⟨d, h1, rfl⟩ := hx
      have := hd d h1
      simp [digT]; omega
  obtain ⟨t, h1, h2, h3⟩ := zau (K := K) (s := (⟨#[48]⟩ : zAd) ++ strOfNums (l.map (48 + ·)).reverse) (by omega) (by omega) (by omega) hdg
  refine ⟨t, ?_, h2, ?_⟩
  . unfold z94
    rw [if_pos (by omega), Int.toNat_natCast, zk3 (by omega) (by omega) hd]
    have e1 : (⟨#[48]⟩ : zAd).size = 1 := rfl
    simp only [Option.bind_some, tu1, List.length_reverse, List.length_map, strOfNums_size, e1]
    rw [if_pos hlen, if_pos (by omega), h1]
    rfl
  . rw [h3]
    unfold numT z60
    rw [hz, List.map_cons, List.reverse_cons, z5z, List.map_reverse, List.reverse_reverse, List.map_map]
    have : l.map ((fun x => x - 48) ∘ (fun x => 48 + x)) = l := by
      conv => rhs; rw [<- List.map_id l]
      apply List.map_congr_left
      intro x _
      show 48 + x - 48 = x
      omega
    rw [this]
    simp [valB]
end Go.Am.Tryz
/- Plain law: the reference's sum and difference of texts. -/
namespace Go.Am.Tryz
open Go Go.Am Go.Proofs
variable {K : Nat}
theorem zd7 (B : Int) (x : List Int) (k : Nat) : valB B (x.take (k + 1)) = valB B (x.take k) + B ^ k * x.getD k 0 := by
  by_cases h : k < x.length
  . have hx : x[k]? = some x[k] := zAh h
    rw [List.take_add_one, hx, z5z, List.length_take, Nat.min_eq_left (by omega), zAb, hx]
    simp [valB]
  . rw [List.take_of_length_le (by omega), List.take_of_length_le (by omega), zAb, List.getElem?_eq_none (by omega)]
    simp
theorem zk4 {B : Int} (hB : 0 < B) {x : List Int} (h : DigB B x) (k : Nat) : 0 <= x.getD k 0 /\ x.getD k 0 < B := by
  by_cases hk : k < x.length
  . rw [zAb, zAh hk]
    exact h _ (List.getElem_mem hk)
  . rw [zAb, List.getElem?_eq_none (by omega)]
    simp [hB]
theorem zi6 {i j : Nat} (h : i <= j) : (10 : Int) ^ i <= 10 ^ j := by
  have h1 : (10 : Nat) ^ i <= 10 ^ j := Nat.pow_le_pow_right (by omega) h
  have h2 : ((10 ^ i : Nat) : Int) <= ((10 ^ j : Nat) : Int) := by omega
  simpa using h2
theorem zk5 (i : Nat) : 0 < (10 : Int) ^ i := by
  have h1 : 0 < (10 : Nat) ^ i := Nat.pow_pos (by omega)
  have h2 : (0 : Int) < ((10 ^ i : Nat) : Int) := by omega
  simpa using h2
theorem zml {a b : zAd} (ha : a.size <= 1000000) (hb : b.size <= 1000000) (h0 : 0 < a.size) (hK : 1048580 < K) (da : (z05 a).all digT = true) (db : (z05 b).all digT = true) : ∃ t, z8a K a b = some t /\ CanT t /\ numT t = numT a + numT b := by
  have dx := z7p da
  have dy := z7p db
  have lx := z5m a
  have ly := z5m b
  have vx := z4z (B := 10) (by omega) _ dx
  have vy := z4z (B := 10) (by omega) _ dy
  have key : ∃ r, z29 K a b K [] 0 0 = some r /\ r ≠ [] /\ r.length <= 1048575 /\ DigB 10 r /\ valB 10 r = numT a + numT b := by
    refine zep (S := List Int × Int) (max a.size b.size + 1) (fun k s i => z29 K a b k s.1 s.2 i) (fun s i => s.1.length = i /\ DigB 10 s.1 /\ (0 <= s.2 /\ s.2 <= 1) /\ valB 10 s.1 + 10 ^ i * s.2 = valB 10 ((z60 a).take i) + valB 10 ((z60 b).take i)) _ ?_ ?_ K ([], 0) (by omega) ⟨rfl, DigB.nil 10, ⟨by omega, by omega⟩, by simp [valB]⟩
    . rintro k ⟨out, c⟩ i hi ⟨h1, h2, h3, h4⟩
      simp only at h1 h2 h3 h4
      have hcond : (if (decide ((i : Int) < (a.size : Int))) = true then some true else (if (decide ((i : Int) < (b.size : Int))) = true then some true else some (decide (c > 0)))) = some (decide ((i < a.size \/ i < b.size) \/ c > 0)) := by
        by_cases e1 : i < a.size
        . simp [e1]
        . by_cases e2 : i < b.size
          . simp [e1, e2]
          . simp [e1, e2]
      show (∃ r, z29 K a b (k + 1) out c i = some r /\ _) \/ _
      rw [z29, hcond]
      simp only [Option.bind_some, tu1]
      by_cases hc : (i < a.size \/ i < b.size) \/ c > 0
      . right
        have ex := zk4 (by omega) dx i
        have ey := zk4 (by omega) dy i
        rw [decide_eq_true hc, if_pos rfl, z8m (by omega) da i (by omega), z8m (by omega) db i (by omega)]
        have tx := zd7 10 (z60 a) i
        have ty := zd7 10 (z60 b) i
        generalize (z60 a).getD i 0 = x at ex tx
        generalize (z60 b).getD i 0 = y at ey ty
        have e1 : z02 .i64 (x + y) = x + y := kw (by omega) (by omega)
        have e2 : z02 .i64 (x + y + c) = x + y + c := kw (by omega) (by omega)
        have e3 : Int.tmod (x + y + c) 10 = (x + y + c) % 10 := Int.tmod_eq_emod_of_nonneg (by omega)
        have e4 : Int.tdiv (x + y + c) 10 = (x + y + c) / 10 := Int.tdiv_eq_ediv_of_nonneg (by omega)
        have e5 : z02 .i64 ((x + y + c) / 10) = (x + y + c) / 10 := kw (by omega) (by omega)
        refine ⟨(out ++ [(x + y + c) % 10], (x + y + c) / 10), ⟨by simp [h1], h2.app (fun d hd => by simp at hd; omega), ⟨by omega, by omega⟩, ?_⟩, ?_⟩
        . have hm := Int.emod_add_mul_ediv (x + y + c) 10
          generalize hq : (x + y + c) / 10 = q at hm
          generalize hr : (x + y + c) % 10 = r at hm
          simp only
          rw [z5z, h1, tx, ty, Int.pow_succ]
          simp only [valB, Int.mul_zero, Int.add_zero]
          generalize valB 10 ((z60 a).take i) = A at h4
          generalize valB 10 ((z60 b).take i) = B at h4
          generalize valB 10 out = C at h4
          generalize (10 : Int) ^ i = p at h4
          have e6 : p * (r + 10 * q) = p * (x + y + c) := by rw [hm]
          rw [Int.mul_add, Int.mul_add, Int.mul_add, <- Int.mul_assoc] at e6
          omega
        . simp only [Option.bind_some, e1, e2, e3, e4, e5, lt, List.length_cons, List.length_nil, kw1 hi (by omega)]
          rw [if_pos (by omega)]
      . left
        rw [decide_eq_false hc]
        refine ⟨out, by simp, ?_, by omega, h2, ?_⟩
        . intro e; rw [e] at h1; simp at h1; omega
        . rw [List.take_of_length_le (by omega), List.take_of_length_le (by omega)] at h4
          have : c = 0 := by omega
          rw [this] at h4
          unfold numT
          omega
    . rintro k ⟨out, c⟩ i rfl ⟨h1, h2, h3, h4⟩
      simp only at h1 h2 h3 h4
      rw [List.take_of_length_le (by omega), List.take_of_length_le (by omega)] at h4
      have p1 : (10 : Int) ^ (z60 a).length <= 10 ^ (max a.size b.size) := zi6 (by omega)
      have p2 : (10 : Int) ^ (z60 b).length <= 10 ^ (max a.size b.size) := zi6 (by omega)
      have p3 := z10 (B := 10) (by omega) _ h2
      have p4 := zk5 (max a.size b.size)
      have hc0 : c = 0 := by
        by_cases e : c = 0
        . exact e
        . have e1 : c = 1 := by omega
          rw [e1, Int.mul_one, Int.pow_succ] at h4
          omega
      subst hc0
      have hcond : (if (decide (((max a.size b.size + 1 : Nat) : Int) < (a.size : Int))) = true then some true else (if (decide (((max a.size b.size + 1 : Nat) : Int) < (b.size : Int))) = true then some true else some (decide ((0 : Int) > 0)))) = some false := by
        rw [decide_eq_false (by omega), decide_eq_false (by omega)]; rfl
      refine ⟨out, ?_, ?_, by omega, h2, by unfold numT; omega⟩
      . show z29 K a b (k + 1) out 0 _ = _
        rw [z29, hcond]; rfl
      . intro e; rw [e] at h1; simp at h1
  obtain ⟨r, h1, h2, h3, h4, h5⟩ := key
  obtain ⟨t, h6, h7, h8⟩ := zes (K := K) h3 h2 (by omega) h4
  refine ⟨t, ?_, h7, by rw [h8, h5]⟩
  unfold z8a
  rw [h1]
  simp only [Option.bind_some, tu1, h6]
theorem zi7 {a b : zAd} (ha : a.size <= 1000000) (hb : b.size <= a.size) (h0 : 0 < a.size) (hK : 1048580 < K) (da : (z05 a).all digT = true) (db : (z05 b).all digT = true) (hle : numT b <= numT a) : ∃ t, z79 K a b = some t /\ CanT t /\ numT t = numT a - numT b := by
  have dx := z7p da
  have dy := z7p db
  have lx := z5m a
  have ly := z5m b
  have key : ∃ r, z28 K a b K [] 0 0 = some r /\ r ≠ [] /\ r.length <= 1048575 /\ DigB 10 r /\ valB 10 r = numT a - numT b := by
    refine zep (S := List Int × Int) a.size (fun k s i => z28 K a b k s.1 s.2 i) (fun s i => s.1.length = i /\ DigB 10 s.1 /\ (0 <= s.2 /\ s.2 <= 1) /\ valB 10 s.1 + valB 10 ((z60 b).take i) = valB 10 ((z60 a).take i) + 10 ^ i * s.2) _ ?_ ?_ K ([], 0) (by omega) ⟨rfl, DigB.nil 10, ⟨by omega, by omega⟩, by simp [valB]⟩
    . rintro k ⟨out, c⟩ i hi ⟨h1, h2, h3, h4⟩
      simp only at h1 h2 h3 h4
      right
      have ex := zk4 (by omega) dx i
      have ey := zk4 (by omega) dy i
      show ∃ s', _ /\ z28 K a b (k + 1) out c i = _
      rw [z28, zjq hi, if_pos rfl, z8m (by omega) da i (by omega), z8m (by omega) db i (by omega)]
      have tx := zd7 10 (z60 a) i
      have ty := zd7 10 (z60 b) i
      generalize (z60 a).getD i 0 = x at ex tx
      generalize (z60 b).getD i 0 = y at ey ty
      have e1 : z02 .i64 (x - y) = x - y := kw (by omega) (by omega)
      have e2 : z02 .i64 (x - y - c) = x - y - c := kw (by omega) (by omega)
      have e3 : z02 .i64 (x - y - c + 10) = x - y - c + 10 := kw (by omega) (by omega)
      simp only [Option.bind_some, e1, e2, e3, lt, tu2, List.length_cons, List.length_nil, kw1 hi (by omega)]
      have h9 : out.length + (0 + 1) <= 16777216 := by omega
      by_cases hn : x - y - c < 0
      . refine ⟨(out ++ [x - y - c + 10], 1), ⟨by simp [h1], h2.app (fun d hd => by simp at hd; omega), ⟨by omega, by omega⟩, ?_⟩, ?_⟩
        . simp only
          rw [z5z, h1, tx, ty, Int.pow_succ]
          simp only [valB, Int.mul_zero, Int.add_zero, Int.mul_one]
          generalize valB 10 ((z60 a).take i) = A at h4
          generalize valB 10 ((z60 b).take i) = B at h4
          generalize valB 10 out = C at h4
          generalize (10 : Int) ^ i = p at h4
          rw [Int.mul_add, Int.mul_sub, Int.mul_sub]
          omega
        . rw [decide_eq_true hn]
          simp only [if_true, Option.bind_some, if_pos h9, tu2]
      . refine ⟨(out ++ [x - y - c], 0), ⟨by simp [h1], h2.app (fun d hd => by simp at hd; omega), ⟨by omega, by omega⟩, ?_⟩, ?_⟩
        . simp only
          rw [z5z, h1, tx, ty, Int.pow_succ]
          simp only [valB, Int.mul_zero, Int.add_zero]
          generalize valB 10 ((z60 a).take i) = A at h4
          generalize valB 10 ((z60 b).take i) = B at h4
          generalize valB 10 out = C at h4
          generalize (10 : Int) ^ i = p at h4
          rw [Int.mul_sub, Int.mul_sub]
          omega
        . rw [decide_eq_false hn]
          simp only [Bool.false_eq_true, if_false, Option.bind_some, if_pos h9, tu2]
    . rintro k ⟨out, c⟩ i rfl ⟨h1, h2, h3, h4⟩
      simp only at h1 h2 h3 h4
      rw [List.take_of_length_le (by omega), List.take_of_length_le (by omega)] at h4
      have p3 := z4z (B := 10) (by omega) _ h2
      rw [h1] at p3
      have hle' : valB 10 (z60 b) <= valB 10 (z60 a) := hle
      have hc0 : c = 0 := by
        by_cases e : c = 0
        . exact e
        . have e1 : c = 1 := by omega
          rw [e1, Int.mul_one] at h4
          omega
      subst hc0
      refine ⟨out, ?_, ?_, by omega, h2, by unfold numT; omega⟩
      . show z28 K a b (k + 1) out 0 _ = _
        rw [z28, zfe (Nat.le_refl _)]; simp
      . intro e; rw [e] at h1; simp at h1; omega
  obtain ⟨r, h1, h2, h3, h4, h5⟩ := key
  obtain ⟨t, h6, h7, h8⟩ := zes (K := K) h3 h2 (by omega) h4
  refine ⟨t, ?_, h7, by rw [h8, h5]⟩
  unfold z79
  rw [h1]
  simp only [Option.bind_some, tu1, h6]
end Go.Am.Tryz
/- Plain law: the reference's comparison, product, quotient and divisor of texts. -/
namespace Go.Am.Tryz
open Go Go.Am Go.Proofs
variable {K : Nat}
theorem z3h {s : zAd} (h : (z05 s).all digT = true) : 0 <= numT s := z6h h
theorem zbm {s : zAd} (h : (z05 s).all digT = true) : numT s < 10 ^ s.size := by
  have := zcg h
  rwa [z01] at this
theorem zch {s : zAd} (h : CanT s) (h2 : 2 <= s.size) : (10 : Int) ^ (s.size - 1) <= numT s := by
  have hh : (z05 s).head? ≠ some 48 := fun e => by have := h.2.2 e; omega
  have h3 := zhz (B := 10) (by omega) (zd5 h hh) (by intro e; have := z5m s; rw [e] at this; simp at this; omega)
  rwa [z5m] at h3
theorem zbn {a b : zAd} (ha : (z05 a).all digT = true) (hb : CanT b) (h0 : a.size ≠ 0) (h : a.size < b.size) : numT a < numT b := by
  have h1 := zbm ha
  have h2 := zch hb (by omega)
  have h3 : (10 : Int) ^ a.size <= 10 ^ (b.size - 1) := z7c (by omega) (by omega)
  omega
theorem z3z {a b : zAd} (ha : CanT a) (hb : CanT b) (h : numT b <= numT a) : b.size <= a.size := by
  refine Nat.not_lt.1 fun hl => ?_
  have := zbn ha.2.1 hb ha.1 hl
  omega
theorem z9u : CanT ⟨#[48]⟩ := ⟨by decide, rfl, fun _ => rfl⟩
theorem z67 : numT ⟨#[48]⟩ = 0 := rfl
theorem z98 : CanT ⟨#[49]⟩ := ⟨by decide, rfl, fun h => by simp [z05] at h⟩
theorem z8e : numT ⟨#[49]⟩ = 1 := rfl
theorem zd8 {s : zAd} (h : CanT s) : numT s = 0 ↔ s = ⟨#[48]⟩ := ⟨fun e => z96 h z9u (by rw [e, z67]), fun e => by rw [e, z67]⟩
theorem zaj : ∀ (x y : List UInt8), x.length = y.length -> (x.map fun b => (b.toNat : Int)).all digT = true -> (y.map fun b => (b.toNat : Int)).all digT = true -> (Op.bytesLess x y = true ↔ numB (x.map fun b => (b.toNat : Int)) < numB (y.map fun b => (b.toNat : Int)))
  | [], [], _, _, _ => by simp [Op.bytesLess]
  | [], _ :: _, h, _, _ => by simp at h
  | _ :: _, [], h, _, _ => by simp at h
  | a :: x, b :: y, h, hx, hy => by
    simp only [List.map_cons, List.all_cons, Bool.and_eq_true] at hx hy
    simp only [List.length_cons, Nat.add_right_cancel_iff] at h
    have ih := zaj x y h hx.2 hy.2
    have dx := digT_iff.1 hx.1
    have dy := digT_iff.1 hy.1
    simp only [Op.bytesLess, List.map_cons, zat, List.length_map, h]
    have lx0 := z6h hx.2
    have lx1 := zcg hx.2
    have ly0 := z6h hy.2
    have ly1 := zcg hy.2
    rw [List.length_map] at lx1 ly1
    rw [h] at lx1
    generalize numB (x.map fun b => (b.toNat : Int)) = X at *
    generalize numB (y.map fun b => (b.toNat : Int)) = Y at *
    have p0 : (0 : Int) < 10 ^ y.length := Int.pow_pos (by omega)
    generalize (10 : Int) ^ y.length = P at *
    rw [Bool.or_eq_true, Bool.and_eq_true, ih, decide_eq_true_eq, beq_iff_eq, UInt8.lt_iff_toNat_lt]
    rcases Nat.lt_trichotomy a.toNat b.toNat with h1 | h1 | h1
    . have := z3l (Int.le_of_lt p0) (show ((a.toNat : Int) - 48) + 1 <= (b.toNat : Int) - 48 by omega)
      rw [Int.mul_add, Int.mul_one] at this
      exact ⟨fun _ => by omega, fun _ => .inl h1⟩
    . have e : a = b := UInt8.toNat_inj.1 h1
      subst e
      exact ⟨fun h => by rcases h with h | h <;> omega, fun h => .inr ⟨rfl, by omega⟩⟩
    . have := z3l (Int.le_of_lt p0) (show ((b.toNat : Int) - 48) + 1 <= (a.toNat : Int) - 48 by omega)
      rw [Int.mul_add, Int.mul_one] at this
      refine ⟨fun h => ?_, fun h => by omega⟩
      rcases h with h | ⟨h, _⟩
      . omega
      . subst h; omega
theorem zmm {a b : zAd} (h : a.size = b.size) (ha : (z05 a).all digT = true) (hb : (z05 b).all digT = true) : sLt a b = decide (numT a < numT b) := by
  have := zaj a.data.toList b.data.toList (by simpa using h) ha hb
  unfold sLt
  rw [ByteArray.toList_eq, ByteArray.toList_eq]
  by_cases c : numT a < numT b
  . rw [decide_eq_true c]; exact this.2 c
  . rw [decide_eq_false c]
    cases e : Op.bytesLess a.data.toList b.data.toList with
    | false => rfl
    | true => exact absurd (this.1 e) c
theorem zkq {a b : zAd} (ha : CanT a) (hb : CanT b) : z78 K a b = some (if numT a < numT b then -1 else if numT a = numT b then 0 else 1) := by
  unfold z78
  by_cases h1 : a.size < b.size
  . have := zbn ha.2.1 hb ha.1 h1
    simp (discharger := omega) only [runL]
  . by_cases h2 : a.size > b.size
    . have := zbn hb.2.1 ha hb.1 h2
      simp (discharger := omega) only [runL]
    . have he : a.size = b.size := by omega
      rw [if_neg (by simp; omega), if_neg (by simp; omega), zmm he ha.2.1 hb.2.1]
      by_cases c : numT a < numT b
      . simp (discharger := omega) only [runL]
      . by_cases d : numT a = numT b
        . have : a = b := z96 ha hb d
          subst this
          have e : sEq a a = true := sEq_iff.2 rfl
          simp [e]
        . have e : sEq a b = false := by
            cases e : sEq a b with
            | false => rfl
            | true => rw [sEq_iff] at e; subst e; exact absurd rfl d
          simp [e, c, d]
theorem zmn {b : zAd} {out : List Int} {u : Int} {i : Nat} (hb : b.size <= 1000000) (hl : i + b.size < out.length) (ho : out.length <= 8000000) (hK : 2000000000 < K) (hu : 0 <= u /\ u <= 9) (db : (z05 b).all digT = true) (d0 : DigB 10 out) :
    ∃ r : List Int, z35 K b (i : Int) u K out 0 = some r /\ r.length = out.length /\ (∀ j, 0 <= r.getD j 0 /\ r.getD j 0 <= 90) /\ valB 10 r = valB 10 out + 10 ^ i * (u * numT b) := by
  have dx := z7p db
  have lx := z5m b
  refine zai (fun k (s : List Int × Int) => z35 K b (i : Int) u k s.1 s.2) (fun s => ∃ q : Nat, s.2 = q /\ q <= b.size /\ s.1.length = out.length /\ (∀ j, 0 <= s.1.getD j 0 /\ s.1.getD j 0 <= 90) /\ (∀ j, i + q <= j -> s.1.getD j 0 <= 9) /\ valB 10 s.1 = valB 10 out + 10 ^ i * (u * valB 10 ((z60 b).take q))) (fun s => (b.size - s.2 : Int).toNat) _ ?_ ((out, 0) : List Int × Int) (by simp; omega) ⟨0, rfl, by omega, rfl, fun j => by have := z1w (by omega) d0 j; dsimp only; omega, fun j _ => by have := z1w (by omega) d0 j; dsimp only; omega, by simp [valB]⟩
  rintro k ⟨o, _⟩ ⟨q, rfl, h0, h1, h2, h3, h4⟩
  dsimp only at h1 h2 h3 h4 ⊢
  by_cases hq : q < b.size
  . right
    have ey := z1w (by omega) dx q
    have eo := h2 (i + q)
    have eo9 := h3 (i + q) (Nat.le_refl _)
    have ty := z3f 10 (z60 b) q
    have hdg := z8m (K := K) (s := b) (by omega) db q (by omega)
    have hm : 0 <= u * (z60 b).getD q 0 /\ u * (z60 b).getD q 0 <= 81 := by
      have := z3l hu.1 (show (z60 b).getD q 0 <= 9 by omega)
      exact ⟨z8s hu.1 ey.1, by omega⟩
    have hset := fun d => z72 10 o (i + q) d (by omega)
    have hgs := fun d j => z7q (cs := o) (i := i + q) (j := j) (v := d) (by omega)
    have e1 : ((i : Int) + (q : Int)) = ((i + q : Nat) : Int) := by omega
    generalize hw : u * (z60 b).getD q 0 = w at hm
    generalize ho : o.getD (i + q) 0 = z at eo eo9 hset
    refine ⟨(o.set (i + q) (z + w), (q : Int) + 1), ?_, by dsimp only; omega, q + 1, rfl, by omega, by simp [h1], fun j => ?_, fun j hj => ?_, ?_⟩
    . rw [z35, hdg]
      simp (discharger := omega) only [runL, e1, hw, ho]
    . dsimp only; rw [hgs]; split
      . omega
      . exact h2 j
    . dsimp only; rw [hgs, if_neg (by omega)]; exact h3 j (by omega)
    . dsimp only
      rw [hset, h4, ty, <- hw, Int.pow_add]
      grind
  . left
    have : q = b.size := by omega
    subst this
    rw [List.take_of_length_le (by omega)] at h4
    exact ⟨o, by rw [z35]; simp (discharger := omega) only [runL], h1, h2, h4⟩
theorem zi8 {c v : List Int} (hv : v.length + 1 = c.length) (hl : c.length <= 8000000) (hK : 2000000000 < K) (hc : ∀ j, 0 <= c.getD j 0 /\ c.getD j 0 <= 90) :
    ∃ r : List Int, z2m K v K c 0 = some r /\ r.length = c.length /\ (∀ j, 0 <= r.getD j 0) /\ (∀ j < v.length, r.getD j 0 <= 9) /\ valB 10 r = valB 10 c := by
  refine zai (fun k (s : List Int × Int) => z2m K v k s.1 s.2) (fun s => ∃ i : Nat, s.2 = i /\ i <= v.length /\ s.1.length = c.length /\ (∀ j, 0 <= s.1.getD j 0 /\ s.1.getD j 0 <= 100) /\ (∀ j, i < j -> s.1.getD j 0 <= 90) /\ (∀ j < i, s.1.getD j 0 <= 9) /\ valB 10 s.1 = valB 10 c) (fun s => (v.length - s.2 : Int).toNat) _ ?_ ((c, 0) : List Int × Int) (by simp; omega) ⟨0, rfl, by omega, rfl, fun j => by have := hc j; dsimp only; omega, fun j _ => by have := hc j; dsimp only; omega, fun j hj => by omega, rfl⟩
  rintro k ⟨o, _⟩ ⟨i, rfl, h0, h1, h2, h3, h4, h5⟩
  dsimp only at h1 h2 h3 h4 h5 ⊢
  by_cases hi : i < v.length
  . right
    have e1 : ((i : Int) + 1).toNat = i + 1 := by omega
    have b1 := h2 i
    have b2 := h2 (i + 1)
    have b3 := h3 (i + 1) (by omega)
    by_cases h9 : o.getD i 0 > 9
    . generalize hz : o.getD i 0 = z at *
      generalize hz1 : o.getD (i + 1) 0 = z1 at *
      have hdm := Int.emod_add_mul_ediv z 10
      have hset := fun d => z72 10 o (i + 1) d (by omega)
      have hset2 := fun d e => z72 10 (o.set (i + 1) d) i e (by simp; omega)
      have hgs := fun d j => z7q (cs := o) (i := i + 1) (j := j) (v := d) (by omega)
      have hgs2 := fun d e j => z7q (cs := o.set (i + 1) d) (i := i) (j := j) (v := e) (by simp; omega)
      have hgi := fun d => hgs d i
      simp only [show ¬ i = i + 1 by omega, if_false, hz] at hgi
      have hsi : ∀ d, idx (o.set (i + 1) d) (i : Int) = some z := fun d => by rw [idxI (by omega) (by simp; omega), Int.toNat_natCast, hgi]
      refine ⟨((o.set (i + 1) (z1 + z / 10)).set i (z % 10), (i : Int) + 1), ?_, by dsimp only; omega, i + 1, rfl, by omega, by simp [h1], fun j => ?_, fun j hj => ?_, fun j hj => ?_, ?_⟩
      . rw [z2m]
        simp (discharger := omega) only [runL, e1, hz, hz1, hsi]
      . dsimp only; rw [hgs2, hgs]
        have := h2 j
        split
        . omega
        . split <;> omega
      . dsimp only; rw [hgs2, hgs, if_neg (by omega), if_neg (by omega)]; exact h3 j (by omega)
      . dsimp only; rw [hgs2]
        split
        . omega
        . rw [hgs, if_neg (by omega)]; exact h4 j (by omega)
      . dsimp only
        rw [hset2, hset, hgi, hz1, h5, Int.pow_succ]
        grind
    . refine ⟨(o, (i : Int) + 1), ?_, by dsimp only; omega, i + 1, rfl, by omega, h1, h2, fun j hj => h3 j (by omega), fun j hj => ?_, h5⟩
      . have e : decide (o.getD i 0 > 9) = false := decide_eq_false h9
        rw [z2m]
        simp (discharger := omega) only [runL, e, Bool.false_eq_true]
      . by_cases hj2 : j = i
        . subst hj2; dsimp only; omega
        . exact h4 j (by omega)
  . left
    have : i = v.length := by omega
    subst this
    exact ⟨o, by rw [z2m]; simp (discharger := omega) only [runL], h1, fun j => (h2 j).1, h4, h5⟩
theorem kr1 {A B p q X : Int} : A * B + p * (q * B) = (A + p * q) * B := by grind
theorem zk6 {a b : zAd} (ha : a.size <= 500000) (hb : b.size <= 500000) (hK : 2000000000 < K) (da : (z05 a).all digT = true) (db : (z05 b).all digT = true) :
    ∃ r : List Int, z36 K a b K (List.replicate (a.size + b.size + 1) 0) 0 = some r /\ r.length = a.size + b.size + 1 /\ DigB 10 r /\ valB 10 r = numT a * numT b := by
  have dx := z7p da
  have lx := z5m a
  refine zai (fun k (s : List Int × Int) => z36 K a b k s.1 s.2) (fun s => ∃ i : Nat, s.2 = i /\ i <= a.size /\ s.1.length = a.size + b.size + 1 /\ DigB 10 s.1 /\ valB 10 s.1 = valB 10 ((z60 a).take i) * numT b) (fun s => (a.size - s.2 : Int).toNat) _ ?_ ((List.replicate (a.size + b.size + 1) 0, 0) : List Int × Int) (by simp; omega) ⟨0, rfl, by omega, by simp, .zeros (by omega) _, by simp [valB, z9s]⟩
  rintro k ⟨o, _⟩ ⟨i, rfl, h0, h1, h2, h4⟩
  dsimp only at h1 h2 h4 ⊢
  by_cases hi : i < a.size
  . right
    have ex := z1w (by omega) dx i
    have tx := z3f 10 (z60 a) i
    have hdg := z8m (K := K) (s := a) (by omega) da i (by omega)
    obtain ⟨c, c1, c2, c3, c4⟩ := zmn (K := K) (b := b) (out := o) (u := (z60 a).getD i 0) (i := i) (by omega) (by omega) (by omega) hK ⟨ex.1, by omega⟩ db h2
    obtain ⟨v, hv⟩ : ∃ v, lsl c 0 ((c.length : Int) - 1) = some v := ⟨_, lslI (by omega) (by omega) (by omega)⟩
    have hvl : v.length + 1 = c.length := by
      rw [lslI (by omega) (by omega) (by omega)] at hv
      cases hv
      rw [List.length_take, List.length_drop]
      omega
    obtain ⟨r, r1, r2, r3, r4, r5⟩ := zi8 (K := K) (c := c) (v := v) hvl (by omega) hK c3
    have hval : valB 10 r = valB 10 ((z60 a).take (i + 1)) * numT b := by
      rw [r5, c4, h4, tx, kr1 (X := 0)]
    -- no digit is left over
    have htop : r.getD v.length 0 = 0 := by
      have s1 := z8d 10 r v.length (by omega)
      have dlow : DigB 10 (r.take v.length) := fun d hd => by
        obtain ⟨j, hj, rfl⟩ := List.mem_iff_getElem.1 hd
        rw [List.length_take] at hj
        have q1 := r3 j
        have q2 := r4 j (by omega)
        rw [List.getElem_take]
        rw [zAb, zAh (by omega)] at q1 q2
        simp at q1 q2
        omega
      have s2 := z10 (B := 10) (by omega) _ dlow
      have s3 : r.drop v.length = [r.getD v.length 0] := by
        rw [List.drop_eq_getElem_cons (by omega), List.drop_eq_nil_of_le (by omega), zAb, zAh (by omega)]; rfl
      rw [s3] at s1
      simp only [valB, Int.mul_zero, Int.add_zero] at s1
      have t1 := z4z (B := 10) (by omega) _ (dx.take (i + 1))
      have t2 := zbm db
      have t3 := z3h db
      have t4 := z10 (B := 10) (by omega) _ (dx.take (i + 1))
      have t5 : (10 : Int) ^ ((z60 a).take (i + 1)).length <= 10 ^ a.size := z7c (by omega) (by rw [List.length_take]; omega)
      have t6 : valB 10 r < 10 ^ v.length := by
        rw [hval, show v.length = a.size + b.size by omega, Int.pow_add]
        have p0 : (0 : Int) < 10 ^ b.size := Int.pow_pos (by omega)
        have m1 := z3l t4 (show numT b <= 10 ^ b.size by omega)
        have m2 := Int.mul_lt_mul_of_pos_right (show valB 10 ((z60 a).take (i + 1)) < 10 ^ a.size by omega) p0
        omega
      refine Int.le_antisymm (Int.not_lt.1 fun hlt => ?_) (r3 _)
      have p0 : (0 : Int) < 10 ^ v.length := Int.pow_pos (by omega)
      have := z3l (Int.le_of_lt p0) (show 1 <= r.getD v.length 0 by omega)
      omega
    have dr : DigB 10 r := fun d hd => by
      obtain ⟨j, hj, rfl⟩ := List.mem_iff_getElem.1 hd
      have q1 := r3 j
      have q2 : r.getD j 0 <= 9 := by
        by_cases hjv : j < v.length
        . exact r4 j hjv
        . have : j = v.length := by omega
          subst this; omega
      rw [zAb, zAh hj] at q1 q2
      simp at q1 q2
      omega
    refine ⟨(r, (i : Int) + 1), ?_, by dsimp only; omega, i + 1, rfl, by omega, by dsimp only; omega, dr, hval⟩
    have hcl : (c.length : Int) - 1 = c.length - 1 := rfl
    rw [z36, hdg, if_pos (decide_eq_true (by omega)), z0m, c1, z0m, tu1a, k64 (by omega) (by omega), hv, z0m, r1, z0m, tu1a, k64 (by omega) (by omega)]
  . left
    have : i = a.size := by omega
    subst this
    rw [List.take_of_length_le (by omega)] at h4
    exact ⟨o, by rw [z36]; simp (discharger := omega) only [runL], h1, h2, h4⟩
theorem ze6 {a b : zAd} (ha : a.size <= 500000) (hb : b.size <= 500000) (hK : 2000000000 < K) (da : (z05 a).all digT = true) (db : (z05 b).all digT = true) : ∃ t, z4x K a b = some t /\ CanT t /\ numT t = numT a * numT b := by
  obtain ⟨r, h1, h2, h3, h4⟩ := zk6 ha hb hK da db
  obtain ⟨t, t1, t2, t3⟩ := zes (K := K) (l := r) (by omega) (by intro e; rw [e] at h2; simp at h2) (by omega) h3
  refine ⟨t, ?_, t2, by rw [t3, h4]⟩
  unfold z4x
  have e1 : ((a.size : Int) + (b.size : Int) + 1) = ((a.size + b.size + 1 : Nat) : Int) := by omega
  simp (discharger := omega) only [runL, e1, h1, t1]
end Go.Am.Tryz
/- Plain law: long division of the program's numbers. -/
namespace Go.Am.Tryz
open Go Go.Am Go.Proofs
variable {K : Nat}
theorem zi9 (u : List Int) (i n : Nat) (h : i + n <= u.length) : valB 1000000000 u = valB 1000000000 (u.take i) + 1000000000 ^ i * (valB 1000000000 ((u.drop i).take n) + 1000000000 ^ n * valB 1000000000 (u.drop (i + n))) := by
  have h1 := z8d 1000000000 u i (by omega)
  have h2 := z8d 1000000000 (u.drop i) n (by rw [List.length_drop]; omega)
  rw [h1, h2, List.drop_drop]
theorem zkr {l : List Int} {i : Nat} (h : l.length <= i) : l.getD i 0 = 0 := by rw [zAb, List.getElem?_eq_none h]; rfl
theorem zlj {u v : List Int} {k : Nat} {q : Int} (hk : k + v.length + 1 <= u.length) (hl : u.length <= 8000000) (hK : 2000000000 < K) (hq : 0 <= q /\ q < 1000000000) (du : DigB 1000000000 u) (dv : DigB 1000000000 v) :
    ∃ (b : Int) (u' : List Int), z3n K u v k q = some (decide (b > 0), u') /\ (b = 0 \/ b = 1) /\ u'.length = u.length /\ DigB 1000000000 u' /\ u'.take k = u.take k /\ u'.drop (k + (v.length + 1)) = u.drop (k + (v.length + 1)) ∧
      valB 1000000000 u' = valB 1000000000 u - 1000000000 ^ k * (q * valB 1000000000 v) + 1000000000 ^ (k + (v.length + 1)) * b := by
  have key : ∃ r : List Int × Int, z1e K v k q K u 0 0 0 = some r /\ (r.2 = 0 \/ r.2 = 1) /\ r.1.length = u.length /\ DigB 1000000000 r.1 /\ r.1.take k = u.take k /\ r.1.drop (k + (v.length + 1)) = u.drop (k + (v.length + 1)) ∧
      valB 1000000000 r.1 = valB 1000000000 u - 1000000000 ^ k * (q * valB 1000000000 v) + 1000000000 ^ (k + (v.length + 1)) * r.2 := by
    refine zai (fun m (s : List Int × Int × Int × Int) => z1e K v k q m s.1 s.2.1 s.2.2.1 s.2.2.2) (fun s => ∃ i : Nat, s.2.2.2 = i /\ i <= v.length + 1 /\ s.1.length = u.length /\ DigB 1000000000 s.1 /\ (s.2.1 = 0 \/ s.2.1 = 1) /\ (0 <= s.2.2.1 /\ s.2.2.1 < 1000000000) /\ (i = v.length + 1 -> s.2.2.1 = 0) /\ s.1.take k = u.take k /\ s.1.drop (k + (v.length + 1)) = u.drop (k + (v.length + 1)) ∧
      valB 1000000000 s.1 = valB 1000000000 u - 1000000000 ^ k * (q * valB 1000000000 (v.take i)) + 1000000000 ^ (k + i) * (s.2.1 + s.2.2.1)) (fun s => (v.length + 1 - s.2.2.2 : Int).toNat) _ ?_ ((u, 0, 0, 0) : List Int × Int × Int × Int) (by simp; omega) ⟨0, rfl, by omega, rfl, du, .inl rfl, by simp, by simp, rfl, rfl, by simp [valB]⟩
    rintro m ⟨o, b, c, _⟩ ⟨i, rfl, h0, h1, h2, h3, h4, h5, h6, h7, h8⟩
    dsimp only at h1 h2 h3 h4 h5 h6 h7 h8 ⊢
    by_cases hi : i < v.length + 1
    . right
      have ev := z1w (by omega) dv i
      have eo := z1w (by omega) h2 (k + i)
      have hm := zkp hq ev
      have tv := z3f 1000000000 v i
      have e1 : ((k : Int) + (i : Int)) = ((k + i : Nat) : Int) := by omega
      have e2 : (1000000000 : Int) ^ (k + (i + 1)) = 1000000000 ^ k * 1000000000 ^ i * 1000000000 := by rw [<- Nat.add_assoc, Int.pow_succ, Int.pow_add]
      have hset := fun d => z72 1000000000 o (k + i) d (by omega)
      have hz : ¬ i < v.length -> q * v.getD i 0 = 0 := fun h => by rw [zkr (by omega)]; simp
      generalize hw : q * v.getD i 0 = w at hm hz
      generalize ho : o.getD (k + i) 0 = z at eo hset
      have hdm := Int.emod_add_mul_ediv (c + w) 1000000000
      have htk : ∀ d, (o.set (k + i) d).take k = u.take k := fun d => by rw [List.take_set_of_le (by omega), h6]
      have hdr : ∀ d, (o.set (k + i) d).drop (k + (v.length + 1)) = u.drop (k + (v.length + 1)) := fun d => by rw [List.drop_set_of_lt (by omega), h7]
      have hc0 : i + 1 = v.length + 1 -> (c + w) / 1000000000 = 0 := fun h => by rw [hz (by omega)]; omega
      have hb2 : 0 <= b /\ b <= 1 := by rcases h3 with rfl | rfl <;> omega
      by_cases hn : z - (c + w) % 1000000000 - b < 0
      . refine ⟨(o.set (k + i) (z - (c + w) % 1000000000 - b + 1000000000), 1, (c + w) / 1000000000, (i : Int) + 1), ?_, by dsimp only; omega, i + 1, rfl, by omega, by simp [h1], h2.set _ (by omega), .inr rfl, by dsimp only; omega, hc0, htk _, hdr _, ?_⟩
        . rw [z1e]
          by_cases h : i < v.length
          . simp (discharger := omega) only [runL, e1, hw, ho]
          . have e := hz h
            subst e
            simp only [Int.add_zero] at hn ⊢
            simp (discharger := omega) only [runL, e1, ho]
        . dsimp only
          rw [hset, tv, e2]
          rw [Int.pow_add] at h8 ⊢
          subst hw
          generalize (c + q * v.getD i 0) / 1000000000 = Q at *
          generalize (c + q * v.getD i 0) % 1000000000 = R at *
          grind
      . refine ⟨(o.set (k + i) (z - (c + w) % 1000000000 - b), 0, (c + w) / 1000000000, (i : Int) + 1), ?_, by dsimp only; omega, i + 1, rfl, by omega, by simp [h1], h2.set _ (by omega), .inl rfl, by dsimp only; omega, hc0, htk _, hdr _, ?_⟩
        . rw [z1e]
          by_cases h : i < v.length
          . simp (discharger := omega) only [runL, e1, hw, ho]
          . have e := hz h
            subst e
            simp only [Int.add_zero] at hn ⊢
            simp (discharger := omega) only [runL, e1, ho]
        . dsimp only
          rw [hset, tv, e2]
          rw [Int.pow_add] at h8 ⊢
          subst hw
          generalize (c + q * v.getD i 0) / 1000000000 = Q at *
          generalize (c + q * v.getD i 0) % 1000000000 = R at *
          grind
    . left
      have : i = v.length + 1 := by omega
      subst this
      have hc := h5 rfl
      subst hc
      rw [List.take_of_length_le (by omega), Int.add_zero] at h8
      exact ⟨(o, b), by rw [z1e]; simp (discharger := omega) only [runL], h3, h1, h2, h6, h7, h8⟩
  obtain ⟨⟨u', b⟩, h1, h2⟩ := key
  exact ⟨b, u', by unfold z3n; rw [h1]; rfl, h2⟩
theorem zmo {u v : List Int} {k : Nat} (hk : k + v.length + 1 <= u.length) (hl : u.length <= 8000000) (hK : 2000000000 < K) (du : DigB 1000000000 u) (dv : DigB 1000000000 v) :
    ∃ (u' : List Int) (b : Int), z4g K u v k = some u' /\ (b = 0 \/ b = 1) /\ u'.length = u.length /\ DigB 1000000000 u' /\ u'.take k = u.take k /\ u'.drop (k + (v.length + 1)) = u.drop (k + (v.length + 1)) ∧
      valB 1000000000 u' + 1000000000 ^ (k + (v.length + 1)) * b = valB 1000000000 u + 1000000000 ^ k * valB 1000000000 v := by
  have key : ∃ r : List Int, z25 K v k K u 0 0 = some r /\ ∃ b : Int, (b = 0 \/ b = 1) /\ r.length = u.length /\ DigB 1000000000 r /\ r.take k = u.take k /\ r.drop (k + (v.length + 1)) = u.drop (k + (v.length + 1)) ∧
      valB 1000000000 r + 1000000000 ^ (k + (v.length + 1)) * b = valB 1000000000 u + 1000000000 ^ k * valB 1000000000 v := by
    refine zai (fun m (s : List Int × Int × Int) => z25 K v k m s.1 s.2.1 s.2.2) (fun s => ∃ i : Nat, s.2.2 = i /\ i <= v.length + 1 /\ s.1.length = u.length /\ DigB 1000000000 s.1 /\ (s.2.1 = 0 \/ s.2.1 = 1) /\ s.1.take k = u.take k /\ s.1.drop (k + (v.length + 1)) = u.drop (k + (v.length + 1)) ∧
      valB 1000000000 s.1 + 1000000000 ^ (k + i) * s.2.1 = valB 1000000000 u + 1000000000 ^ k * valB 1000000000 (v.take i)) (fun s => (v.length + 1 - s.2.2 : Int).toNat) _ ?_ ((u, 0, 0) : List Int × Int × Int) (by simp; omega) ⟨0, rfl, by omega, rfl, du, .inl rfl, rfl, rfl, by simp [valB]⟩
    rintro m ⟨o, b, _⟩ ⟨i, rfl, h0, h1, h2, h3, h6, h7, h8⟩
    dsimp only at h1 h2 h3 h6 h7 h8 ⊢
    by_cases hi : i < v.length + 1
    . right
      have ev := z1w (by omega) dv i
      have eo := z1w (by omega) h2 (k + i)
      have tv := z3f 1000000000 v i
      have e1 : ((k : Int) + (i : Int)) = ((k + i : Nat) : Int) := by omega
      have e2 : (1000000000 : Int) ^ (k + (i + 1)) = 1000000000 ^ k * 1000000000 ^ i * 1000000000 := by rw [<- Nat.add_assoc, Int.pow_succ, Int.pow_add]
      have hset := fun d => z72 1000000000 o (k + i) d (by omega)
      have hz : ¬ i < v.length -> v.getD i 0 = 0 := fun h => zkr (by omega)
      generalize hw : v.getD i 0 = w at ev hz tv
      generalize ho : o.getD (k + i) 0 = z at eo hset
      have hdm := Int.emod_add_mul_ediv (z + b + w) 1000000000
      have htk : ∀ d, (o.set (k + i) d).take k = u.take k := fun d => by rw [List.take_set_of_le (by omega), h6]
      have hdr : ∀ d, (o.set (k + i) d).drop (k + (v.length + 1)) = u.drop (k + (v.length + 1)) := fun d => by rw [List.drop_set_of_lt (by omega), h7]
      have hb2 : 0 <= b /\ b <= 1 := by rcases h3 with rfl | rfl <;> omega
      refine ⟨(o.set (k + i) ((z + b + w) % 1000000000), (z + b + w) / 1000000000, (i : Int) + 1), ?_, by dsimp only; omega, i + 1, rfl, by omega, by simp [h1], h2.set _ (by omega), by dsimp only; omega, htk _, hdr _, ?_⟩
      . rw [z25]
        by_cases h : i < v.length
        . simp (discharger := omega) only [runL, e1, hw, ho]
        . have e := hz h
          subst e
          simp only [Int.add_zero] at hdm ⊢
          simp (discharger := omega) only [runL, e1, ho]
      . dsimp only
        rw [hset, tv, e2]
        rw [Int.pow_add] at h8
        generalize (z + b + w) / 1000000000 = Q at *
        generalize (z + b + w) % 1000000000 = R at *
        grind
    . left
      have : i = v.length + 1 := by omega
      subst this
      rw [List.take_of_length_le (by omega)] at h8
      exact ⟨o, by rw [z25]; simp (discharger := omega) only [runL], b, h3, h1, h2, h6, h7, h8⟩
  obtain ⟨u', h1, b, h2⟩ := key
  exact ⟨u', b, by unfold z4g; rw [h1]; rfl, h2⟩
theorem zlk {u v : List Int} {k : Nat} {P vl top ul q g r : Int} (hn : 2 <= v.length) (hk : k + v.length + 1 <= u.length) (hl : u.length <= 8000000) (hK : 2000000000 < K)
    (h : Kn 1000000000 P (v.getD (v.length - 1) 0) (v.getD (v.length - 2) 0) vl top (u.getD (k + v.length - 2) 0) ul q) (hv : v.getD (v.length - 1) 0 < 1000000000) (ht : top < 1000000000 * v.getD (v.length - 1) 0 + 1000000000) (hr : top = g * v.getD (v.length - 1) 0 + r) (hg : q <= g) (hg2 : g < 2000000000) (hr0 : 0 <= r /\ r < 1000000000) :
    ∃ g', z22 K v u k K g r = some g' /\ q <= g' /\ g' <= q + 1 /\ g' < 1000000000 := by
  generalize hv1 : v.getD (v.length - 1) 0 = v1 at *
  generalize hv2 : v.getD (v.length - 2) 0 = v2 at *
  generalize hu3 : u.getD (k + v.length - 2) 0 = u3 at *
  have a1 := h.v1p
  have a2 := h.v2p
  have a3 := h.v2b
  have a4 := h.u3p
  have a5 := h.u3b
  have a6 := h.q0
  have a7 := h.qB
  refine zai (fun m (s : Int × Int) => z22 K v u k m s.1 s.2) (fun s => top = s.1 * v1 + s.2 /\ q <= s.1 /\ s.1 < 2000000000 /\ 0 <= s.2 /\ s.2 < 1000000000) (fun s => (1000000000 - s.2).toNat) _ ?_ ((g, r) : Int × Int) ?_ ⟨hr, hg, hg2, hr0.1, hr0.2⟩
  . rintro m ⟨g, r⟩ ⟨b1, b2, b3, b4, b5⟩
    dsimp only at b1 b2 b3 b4 b5 ⊢
    have f1 : idx v (z02 .i64 ((v.length : Int) - 1)) = some v1 := by
      rw [k64 (by omega) (by omega), idxI (by omega) (by omega), <- hv1]; congr 2; omega
    have f2 : idx v (z02 .i64 ((v.length : Int) - 2)) = some v2 := by
      rw [k64 (by omega) (by omega), idxI (by omega) (by omega), <- hv2]; congr 2; omega
    have f3 : idx u (z02 .i64 (z02 .i64 ((k : Int) + (v.length : Int)) - 2)) = some u3 := by
      rw [k64 (a := (k : Int) + (v.length : Int)) (by omega) (by omega), k64 (by omega) (by omega), idxI (by omega) (by omega), <- hu3]; congr 2; omega
    have m1 : 0 <= g * v2 := z8s (by omega) a2
    have m2 := z3l (show 0 <= g by omega) (show v2 <= 999999999 by omega)
    rw [z22, f1, f2]
    generalize hw : g * v2 = w at m1 m2
    by_cases c : g >= 1000000000 \/ w > r * 1000000000 + u3
    . have hqg : q < g := by
        rcases c with c | c
        . omega
        . exact h.down b1 (by omega) (by omega)
      have hc : (if (decide (g >= 1000000000)) = true then some true else ((some v2).bind fun x235 => (lt (z02 .i64 ((z02 .i64 ((k : Int) + (v.length : Int))) - 2)) fun x239 => ((idx u x239).bind fun x242 => (lt (z02 .u64 ((z02 .u64 (r * 1000000000)) + (IntKind.wrap .u64 x242))) fun x246 => (lt (decide ((z02 .u64 (g * (IntKind.wrap .u64 x235))) > x246)) fun x249 => some x249)))))) = some true := by
        by_cases c1 : g >= 1000000000
        . rw [decide_eq_true c1]; rfl
        . rw [decide_eq_false c1]
          simp only [z0m, lta, Bool.false_eq_true, if_false, f3]
          rw [u64w (a := v2) (by omega) (by omega), hw, u64w (a := u3) (by omega) (by omega), ku64 (a := w) (by omega) (by omega), ku64 (a := r * 1000000000) (by omega) (by omega), ku64 (a := r * 1000000000 + u3) (by omega) (by omega), decide_eq_true (by omega)]
      rw [hc]
      by_cases c2 : r + v1 >= 1000000000
      . left
        have hgB : g <= 1000000000 := by
          refine Int.not_lt.1 fun hlt => ?_
          have := z3l (show 0 <= v1 by omega) (show 1000000001 <= g by omega)
          rw [Int.mul_comm v1 g] at this
          omega
        have hx := h.exitB (g := g - 1) (r := r + v1) (by rw [Int.sub_mul]; omega) (by omega) (by omega) c2
        refine ⟨g - 1, ?_, by omega, by omega, by omega⟩
        simp (discharger := omega) only [runL]
      . right
        refine ⟨(g - 1, r + v1), ?_, by dsimp only; omega, by dsimp only; rw [Int.sub_mul]; omega, by dsimp only; omega, by dsimp only; omega, by dsimp only; omega, by dsimp only; omega⟩
        have e : decide (r + v1 >= 1000000000) = false := decide_eq_false c2
        simp (discharger := omega) only [runL, e, Bool.false_eq_true]
    . left
      have c1 : ¬ g >= 1000000000 := fun x => c (.inl x)
      have c3 : ¬ w > r * 1000000000 + u3 := fun x => c (.inr x)
      have hx := h.exitA b1 (by omega) (by omega) (by omega)
      refine ⟨g, ?_, b2, hx, by omega⟩
      rw [decide_eq_false c1]
      simp only [z0m, lta, Bool.false_eq_true, if_false, f3]
      rw [u64w (a := v2) (by omega) (by omega), hw, u64w (a := u3) (by omega) (by omega), ku64 (a := w) (by omega) (by omega), ku64 (a := r * 1000000000) (by omega) (by omega), ku64 (a := r * 1000000000 + u3) (by omega) (by omega), decide_eq_false c3]
      simp only [z0m, tu1a, Bool.false_eq_true, if_false]
  . dsimp only; omega
end Go.Am.Tryz
