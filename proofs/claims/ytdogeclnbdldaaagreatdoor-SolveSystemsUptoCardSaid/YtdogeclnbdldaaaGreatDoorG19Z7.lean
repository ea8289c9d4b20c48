/- Typed functions with the same answers as the program's, and the walks that show it. -/
import Derived.Test.YtdogeclnbdldaaaGreatDoorG2Z7
import Derived.Test.YtdogeclnbdldaaaGreatDoorG18Z7
set_option maxRecDepth 100000
set_option maxHeartbeats 8000000
set_option linter.unusedVariables false
set_option linter.unusedSimpArgs false
namespace Go.Am.Tryz
open Go Go.Am Go.Proofs
variable (K : Nat) {G : GM} {H : AH} {L : List Pc}
def z30 (K : Nat) (p0 : List (List zAd)) (p1 : List zAd) : Option (List zAd × Int) := ((z4n K p0).bind fun x1 => (if (x1 != 0) = true then some ([], x1) else ((z2h K p1).bind fun x16 => (if (x16 != 0) = true then some ([], x16) else (if ((p0.length : Int) != (p1.length : Int)) = true then some ([], 3) else ((z6q K p0).bind fun x35 => ((z4w K p1).bind fun x48 => ((z4o K p0).bind fun x61 => ((z4p K x35 x48 x61).bind fun x80 => (if (x80.2 == 0) = true then some ([], 8) else (if (x80.2 == 2) = true then some ([], 10) else ((z63 K x80.1).bind fun x107 => some (x107.1, x107.2)))))))))))))
theorem zbg (v0 : Value) (p0 : List (List zAd)) (hp0 : (rSl (rSl rS)).rep G [v0] p0) (v1 : Value) (p1 : List zAd) (hp1 : (rSl rS).rep G [v1] p1) (O : Ow G H (L)) (r : List zAd × Int) (h : z30 K p0 p1 = some r) :
    CRF Tryz.prog 48 [v0, v1] G H (fun w0 => (eSl w0 22 rS r.1 :: L)) (fun w0 v G' => v = .tuple #[w0, .int .i64 r.2]) := by
 unfold z30 at h
 refine CRF.og (n := 44) (fn := Tryz.f48) (by kernel_rfl) rfl rfl fun R kr => (.seq (.region (W.p1 (.slice none 0 0) (W.p1 (.int .i64 0) (.nil (.seq ?_))))))
 refine .seq (.region (W.p2 v0 ?_))
 obtain ⟨x1, i2, h3⟩ := z00 h
 refine W.ln (Lo.cP rfl (fn := Tryz.f78) (by kernel_rfl) rfl (mc rfl mn) O (fun L' O' => zah K v0 p0 hp0 O' _ i2)) ?_
 rintro v10 H11 ⟨G4, O5, s6, sm9, rfl⟩
 refine W.p1 (.int .i64 x1) (.nil (.seq (.region (W.p2 (.int .i64 x1) (W.p3 (.bool (x1 != 0)) (.nil ?_))))))
 refine .cond (b := (x1 != 0)) rfl rfl (fun g12 => ?_) (fun g12 => ?_)
 .have h13 := z04 g12 h3
  refine .seq (.region (W.p2 (.int .i64 x1) (W.p1 (.slice none 0 0) (W.p1 (.int .i64 x1) (.nil (.ret ?_))))))
  have O14 := O5.nilSl 22 rS
  obtain rfl := zAa h13
  exact zb9 kr (.slice none 0 0) (v1 := (.slice none 0 0)) (v2 := (.int .i64 x1)) (by rfl) rt rt O14 s6 rfl
 have h15 := z0i g12 h3
 refine .skip (.seq (.seq (.region (W.p2 v1 ?_))))
 obtain ⟨x16, i17, h18⟩ := z00 h15
 refine W.ln (Lo.cP rfl (fn := Tryz.f79) (by kernel_rfl) rfl (mc rfl mn) O5 (fun L' O' => z61 K v1 p1 (RT.mono _ s6 hp1) O' _ i17)) ?_
 rintro v25 H26 ⟨G19, O20, s21, sm24, rfl⟩
 refine W.p1 (.int .i64 x16) (.nil (.seq (.region (W.p2 (.int .i64 x16) (W.p3 (.bool (x16 != 0)) (.nil ?_))))))
 refine .cond (b := (x16 != 0)) rfl rfl (fun g27 => ?_) (fun g27 => ?_)
 .have h28 := z04 g27 h18
  refine .seq (.region (W.p2 (.int .i64 x16) (W.p1 (.slice none 0 0) (W.p1 (.int .i64 x16) (.nil (.ret ?_))))))
  have O29 := O20.nilSl 22 rS
  obtain rfl := zAa h28
  exact zb9 kr (.slice none 0 0) (v1 := (.slice none 0 0)) (v2 := (.int .i64 x16)) (by rfl) rt rt O29 (zAe s6 s21) rfl
 have h30 := z0i g27 h18
 refine .skip (.seq (.seq (.region (W.p2 v0 (W.pv (.int .i64 (p0.length : Int)) (z0g ov (z0c (RT.mono _ (zAe s6 s21) hp0)) (z02 el44)) (W.p2 v1 ?_))))))
 refine W.pv (.int .i64 (p1.length : Int)) (z0g ov (z0c (RT.mono _ (zAe s6 s21) hp1)) (z02 el45)) (W.p3 (.bool ((p0.length : Int) != (p1.length : Int))) (.nil (.cond (b := ((p0.length : Int) != (p1.length : Int))) rfl rfl (fun g31 => ?_) (fun g31 => ?_))))
 .have h32 := z04 g31 h30
  refine .seq (.region (W.p1 (.slice none 0 0) (W.p1 (.int .i64 3) (.nil (.ret ?_)))))
  have O33 := O20.nilSl 22 rS
  obtain rfl := zAa h32
  exact zb9 kr (.slice none 0 0) (v1 := (.slice none 0 0)) (v2 := (.int .i64 3)) (by rfl) rt rt O33 (zAe s6 s21) rfl
 have h34 := z0i g31 h30
 refine .skip (.seq (.region (W.p2 v0 ?_)))
 obtain ⟨x35, i36, h37⟩ := z00 h34
 refine W.ln (Lo.callPF (ps := []) (pw := fun w => [z20 (hdT w) 111 (tlT w) [] 96 T_Q x35]) rfl (fn := Tryz.f82) (by kernel_rfl) rfl (mc rfl mn) O20 (fun L' O' => zcz K v0 p0 (RT.mono _ (zAe s6 s21) hp0) O' _ i36)) ?_
 rintro v46 H47 ⟨w43, G38, O39, s40, sm45, rfl⟩
 refine W.p2 v1 ?_
 obtain ⟨x48, i49, h50⟩ := z00 h37
 refine W.ln (Lo.callPF (ps := []) (pw := fun w => [eSl w 96 T_Q x48]) rfl (fn := Tryz.f85) (by kernel_rfl) rfl (mc rfl mn) O39 (fun L' O' => z8r K v1 p1 (RT.mono _ (zAe s6 (zAe s21 s40)) hp1) O' _ i49)) ?_
 rintro v59 H60 ⟨w56, G51, O52, s53, sm58, rfl⟩
 refine W.p2 v0 ?_
 obtain ⟨x61, i62, h63⟩ := z00 h50
 refine W.ln (Lo.cP rfl (fn := Tryz.f80) (by kernel_rfl) rfl (mc rfl mn) O52 (fun L' O' => zai K v0 p0 (RT.mono _ (zAe s6 (zAe s21 (zAe s40 s53))) hp0) O' _ i62)) ?_
 rintro v70 H71 ⟨G64, O65, s66, sm69, rfl⟩
 obtain ⟨G72, O73, s74, f75⟩ := O65.frzRows (j := 1) rfl
 obtain ⟨G76, O77, s78, f79⟩ := O73.frzSl (j := 0) rfl
 obtain ⟨x80, i81, h82⟩ := z00 h63
 refine W.ln (Lo.callPF (ps := []) (pw := fun w => [eSl w 96 T_Q x80.1]) rfl (fn := Tryz.f112) (by kernel_rfl) rfl (mc rfl (mc rfl (mc rfl mn))) O77 (fun L' O' => zaj K (hdT w43) x35 (RT.mono _ s78 f75) w56 x48 f79 x61 O' _ i81)) ?_
 rintro v91 H92 ⟨w88, G83, O84, s85, sm90, rfl⟩
 refine W.p2 (.tuple #[w88, (.int .i64 x80.2)]) (W.pv w88 (z0a ov rfl) (W.pv (.int .i64 x80.2) (z0a ov rfl) (W.p1 w88 (W.p1 (.int .i64 x80.2) (.nil (.seq ?_))))))
 refine .seq (.region (W.p2 (.int .i64 x80.2) (.nil (.block (.seq (.region ?_))))))
 refine W.p3 (.bool (x80.2 == 0)) (W.p1 (.bool (x80.2 == 0)) (.nil (.cond (b := (x80.2 == 0)) rfl rfl (fun g93 => ?_) (fun g93 => ?_))))
 .have h94 := z04 g93 h82
  refine .seq (.region (W.p1 (.slice none 0 0) (W.p1 (.int .i64 8) (.nil (.ret ?_)))))
  have O95 := O84.nilSl 22 rS
  have O96 := O95.drop 1
  obtain rfl := zAa h94
  exact zb9 kr (.slice none 0 0) (v1 := (.slice none 0 0)) (v2 := (.int .i64 8)) (by rfl) rt rt O96 (zAe s6 (zAe s21 (zAe s40 (zAe s53 (zAe s66 (zAe s74 (zAe s78 s85))))))) rfl
 have h97 := z0i g93 h82
 refine .seq (.region (W.p3 (.bool (x80.2 == 2)) (W.p1 (.bool (x80.2 == 2)) (.nil (.cond (b := (x80.2 == 2)) rfl rfl (fun g98 => ?_) (fun g98 => ?_))))))
 .have h99 := z04 g98 h97
  refine .seq (.region (W.p1 (.slice none 0 0) (W.p1 (.int .i64 10) (.nil (.ret ?_)))))
  have O100 := O84.nilSl 22 rS
  have O101 := O100.drop 1
  obtain rfl := zAa h99
  exact zb9 kr (.slice none 0 0) (v1 := (.slice none 0 0)) (v2 := (.int .i64 10)) (by rfl) rt rt O101 (zAe s6 (zAe s21 (zAe s40 (zAe s53 (zAe s66 (zAe s74 (zAe s78 s85))))))) rfl
 have h102 := z0i g98 h97
 refine .skip (.seq (.region (W.p2 w88 ?_)))
 obtain ⟨G103, O104, s105, f106⟩ := O84.frzSl (j := 0) rfl
 obtain ⟨x107, i108, h109⟩ := z00 h102
 refine W.ln (Lo.callPF (ps := []) (pw := fun w => [eSl w 22 rS x107.1]) rfl (fn := Tryz.f86) (by kernel_rfl) rfl (mc rfl mn) O104 (fun L' O' => zbx K w88 x80.1 f106 O' _ i108)) ?_
 rintro v118 H119 ⟨w115, G110, O111, s112, sm117, rfl⟩
 refine W.pv w115 (z0a ov rfl) (W.pv (.int .i64 x107.2) (z0a ov rfl) (W.p1 w115 (W.p1 (.int .i64 x107.2) (.nil (.ret ?_)))))
 obtain rfl := zAa h109
 exact zb9 kr w115 (v1 := w115) (v2 := (.int .i64 x107.2)) (by rfl) rt rt O111 (zAe s6 (zAe s21 (zAe s40 (zAe s53 (zAe s66 (zAe s74 (zAe s78 (zAe s85 (zAe s105 s112))))))))) rfl
def z11 (K : Nat) (p0 : zAd) : Nat -> Int -> Option (Int ⊕ Unit)
  | 0, _ => none
  | k + 1, x8 => (if (decide (x8 < (p0.size : Int))) = true then (Option.bind (((bidx p0 x8).bind fun x22 => (if (decide (x22 < 48)) = true then some true else ((bidx p0 x8).bind fun x29 => some (decide (x29 > 57)))))) (tu1 fun x32 => (if x32 = true then some (.inl 5) else z11 K p0 k (z03 .i64 (x8 + 1))))) else some (.inr ()))
def z4x (K : Nat) (p0 : zAd) : Option Int := (if ((p0.size : Int) == 0) = true then some 5 else (zb5 (z11 K p0 K 0) (tu1 fun a81 => some a81) (tu0 (Option.bind ((if (decide ((p0.size : Int) > 1)) = true then ((bidx p0 0).bind fun x61 => some (x61 == 48)) else some false)) (tu1 fun x65 => (if x65 = true then some 5 else (if (decide ((p0.size : Int) > 2000)) = true then some 2 else some 0)))))))
theorem z8s (p0 : zAd) (O : Ow G H (L)) (r : Int) (h : z4x K p0 = some r) :
    CR Tryz.prog 59 [(.string p0)] G H (L) (fun v G' _ => v = .int .i64 r) := by
 unfold z4x at h
 refine CR.og (n := 34) (fn := Tryz.f59) (by kernel_rfl) rfl rfl fun R kr => (.seq (.region (W.p1 (.int .i64 0) (.nil (.seq (.seq ?_))))))
 refine .region (W.p2 (.string p0) (W.pv (.int .i64 (p0.size : Int)) (z1f ov un9) (W.p3 (.bool ((p0.size : Int) == 0)) (.nil (.cond (b := ((p0.size : Int) == 0)) rfl rfl (fun g1 => ?_) (fun g1 => ?_))))))
 .have h2 := z04 g1 h
  refine .seq (.region (W.p1 (.int .i64 5) (.nil (.ret ?_))))
  obtain rfl := zAa h2
  exact z1e kr (v1 := (.int .i64 5)) (by rfl) rt O (zAf _) rfl
 have h3 := z0i g1 h
 refine .skip (.seq (.seq (.region (W.p1 (.int .i64 0) (.nil ?_)))))
 obtain ⟨q4, h5, h6⟩ := z2u h3
 refine AW.midT (fun σ' H' => ∃  (G' : GM), (.inr ()) = q4 /\ Ow G' H' (L) /\ GM.le G G') ?_ ?_
 rotate_left
 .rintro σ47 H48 fr49 ⟨G50, rfl, O51, s52⟩
  have h54 := z60 (z8m h6)
  refine .seq (.seq ?_)
  obtain ⟨q55, h56, h57⟩ := z00 h54
  refine AW.midT (fun σ' H' => ∃ (y1 : Bool) (G' : GM), y1 = q55 /\ Ow G' H' (L) /\ GM.le G50 G' /\ σ' 30 = .bool y1) ?_ ?_
  .refine .region (W.q2 (.string p0) ((fr49 0 rfl).trans rfl) (W.pv (.int .i64 (p0.size : Int)) (z1f ov un9) (W.p3 (.bool (decide ((p0.size : Int) > 1))) (W.p2 (.bool (decide ((p0.size : Int) > 1))) (W.splitAt (t := 26) (b := decide ((p0.size : Int) > 1)) rfl (fun g58 gv59 => ?_) (fun g58 gv59 => ?_))))))
   rotate_left
   .have h64 := z0i g58 h56
    refine W.q6 rfl gv59 (W.q6 rfl gv59 (W.q6 rfl gv59 (W.q5 (.bool false) gv59 rfl (.nil ?_))))
    obtain rfl := zAa h64
    exact ⟨false, _, rfl, O51, (zAf _), rfl⟩
   have h60 := z04 g58 h56
   refine W.q2 (hg := gk rfl rfl gv59 rfl) (.string p0) ((fr49 0 rfl).trans rfl) ?_
   obtain ⟨x61, i62, h63⟩ := z00 h60
   refine W.pure (v := (.int .u8 x61)) (gk rfl rfl gv59 rfl) rfl (z98 un9 ov ov i62) (W.q3 (hg := gk rfl rfl gv59 rfl) (.bool (x61 == 48)) rfl rfl (W.q4 (.bool (x61 == 48)) gv59 rfl (.nil ?_)))
   obtain rfl := zAa h63
   exact ⟨(x61 == 48), _, rfl, O51, (zAf _), rfl⟩
  rintro σ66 H67 fr68 ⟨x65, G69, rfl, O70, s71, t73⟩
  have h74 := z0b h57
  refine .cond (b := x65) rfl t73 (fun g75 => ?_) (fun g75 => ?_)
  .have h76 := z04 g75 h74
   refine .seq (.region (W.p1 (.int .i64 5) (.nil (.ret ?_))))
   obtain rfl := zAa h76
   exact z1e kr (v1 := (.int .i64 5)) (by rfl) rt O70 (zAe s52 s71) rfl
  have h77 := z0i g75 h74
  refine .skip (.seq (.seq (.region (W.q2 (.string p0) ((fr68 0 rfl).trans ((fr49 0 rfl).trans rfl)) (W.pv (.int .i64 (p0.size : Int)) (z1f ov un9) (W.p3 (.bool (decide ((p0.size : Int) > 2000))) ?_))))))
  refine .nil (.cond (b := decide ((p0.size : Int) > 2000)) rfl rfl (fun g78 => ?_) (fun g78 => ?_))
  .have h79 := z04 g78 h77
   refine .seq (.region (W.p1 (.int .i64 2) (.nil (.ret ?_))))
   obtain rfl := zAa h79
   exact z1e kr (v1 := (.int .i64 2)) (by rfl) rt O70 (zAe s52 s71) rfl
  have h80 := z0i g78 h77
  refine .skip (.seq (.region (W.p1 (.int .i64 0) (.nil (.ret ?_)))))
  obtain rfl := zAa h80
  exact z1e kr (v1 := (.int .i64 0)) (by rfl) rt O70 (zAe s52 s71) rfl
 refine .block (AW.loop (α := Nat) (fun k' σ' H' => ∃ (y1 : Int) (G' : GM), z11 K p0 k' y1 = some q4 /\ Ow G' H' (L) /\ GM.le G G' /\ σ' 3 = .int .i64 y1) (fun k' => k') K ⟨0, _, h5, O, (zAf _), rfl⟩ ?_)
 rintro k7
 rintro σ9 H10 fr11 ⟨x8, G12, h15, O13, s14, t16⟩
 rcases k7 with _ | k7
 .exact z07 h15
 rw [z11] at h15
 refine .seq (.seq (.region (W.q2 _ t16 (W.q2 (.string p0) ((fr11 0 rfl).trans rfl) (W.pv (.int .i64 (p0.size : Int)) (z1f ov un9) (W.p3 (.bool (decide (x8 < (p0.size : Int)))) ?_))))))
 refine .nil (.cond (b := decide (x8 < (p0.size : Int))) rfl rfl (fun g17 => ?_) (fun g17 => ?_))
 rotate_left
 .have h46 := z0i g17 h15
  refine .exit ?_
  obtain rfl := zAa h46
  exact ⟨_, rfl, O13, s14⟩
 have h18 := z04 g17 h15
 refine .skip (.seq (.block (.seq ?_)))
 obtain ⟨q19, h20, h21⟩ := z00 h18
 refine AW.midT (fun σ' H' => ∃ (y1 : Bool) (G' : GM), y1 = q19 /\ Ow G' H' (L) /\ GM.le G12 G' /\ σ' 22 = .bool y1) ?_ ?_
 rotate_left
 .rintro σ33 H34 fr35 ⟨x32, G36, rfl, O37, s38, t40⟩
  have h41 := z0b h21
  refine .cond (b := x32) rfl t40 (fun g42 => ?_) (fun g42 => ?_)
  .have h43 := z04 g42 h41
   refine .seq (.region (W.p1 (.int .i64 5) (.nil (.ret ?_))))
   obtain rfl := zAa h43
   have h44 := z0b (z6p h6)
   obtain rfl := zAa h44
   exact z1e kr (v1 := (.int .i64 5)) (by rfl) rt O37 (zAe s14 s38) rfl
  have h45 := z0i g42 h41
  refine .skip (.region (W.q2 _ ((fr35 3 rfl).trans t16) (W.p3 (.int .i64 (z03 .i64 (x8 + 1))) (W.p1 (.int .i64 (z03 .i64 (x8 + 1))) (.nil ?_)))))
  exact ⟨k7, zAg _, ⟨z03 .i64 (x8 + 1), _, h45, O37, (zAe s14 s38), rfl⟩⟩
 refine .region (W.q2 (.string p0) ((fr11 0 rfl).trans rfl) (W.q2 _ t16 ?_))
 obtain ⟨x22, i23, h24⟩ := z00 h20
 refine W.pv (.int .u8 x22) (z98 un9 ov ov i23) (W.p3 (.bool (decide (x22 < 48))) (W.p2 (.bool (decide (x22 < 48))) (W.splitAt (t := 17) (b := decide (x22 < 48)) rfl (fun g25 gv26 => ?_) (fun g25 gv26 => ?_))))
 .have h27 := z04 g25 h24
  refine W.q6 rfl gv26 (W.q6 rfl gv26 (W.q6 rfl gv26 (W.q6 rfl gv26 (W.q4 (.bool true) gv26 rfl (.nil ?_)))))
  obtain rfl := zAa h27
  exact ⟨true, _, rfl, O13, (zAf _), rfl⟩
 have h28 := z0i g25 h24
 refine W.q2 (hg := gk rfl rfl gv26 rfl) (.string p0) ((fr11 0 rfl).trans rfl) (W.q2 (hg := gk rfl rfl gv26 rfl) _ t16 ?_)
 obtain ⟨x29, i30, h31⟩ := z00 h28
 refine W.pure (v := (.int .u8 x29)) (gk rfl rfl gv26 rfl) rfl (z98 un9 ov ov i30) (W.q3 (hg := gk rfl rfl gv26 rfl) (.bool (decide (x29 > 57))) rfl rfl (W.q5 (.bool (decide (x29 > 57))) gv26 rfl (.nil ?_)))
 obtain rfl := zAa h31
 exact ⟨decide (x29 > 57), _, rfl, O13, (zAf _), rfl⟩
def z4y (K : Nat) : Nat -> zAd -> Option (zAd)
  | 0, _ => none
  | k + 1, x5 => (Option.bind ((if (decide ((x5.size : Int) > 1)) = true then ((bidx x5 0).bind fun x20 => some (x20 == 48)) else some false)) (tu1 fun x24 => (if x24 = true then ((ssl x5 1 (x5.size : Int)).bind fun x36 => z4y K k x36) else some x5)))
def z6b (K : Nat) (p0 : zAd) : Option zAd := (Option.bind (z4y K K p0) (tu1 fun x40 => some x40))
theorem z7b (p0 : zAd) (O : Ow G H (L)) (r : zAd) (h : z6b K p0 = some r) :
    CR Tryz.prog 162 [(.string p0)] G H (L) (fun v G' _ => v = .string r) := by
 unfold z6b at h
 refine CR.og (n := 14) (fn := Tryz.f162) (by kernel_rfl) rfl rfl fun R kr => (.seq (.region (W.p1 (.string (⟨#[]⟩ : zAd)) (.nil (.seq ?_)))))
 obtain ⟨q1, h2, h3⟩ := z00 h
 refine AW.midT (fun σ' H' => ∃ (y1 : zAd) (G' : GM), y1 = q1 /\ Ow G' H' (L) /\ GM.le G G' /\ σ' 0 = .string y1) ?_ ?_
 rotate_left
 .rintro σ41 H42 fr43 ⟨x40, G44, rfl, O45, s46, t48⟩
  have h49 := z0b h3
  refine .seq (.region (W.q2 _ t48 (W.p1 (.string x40) (.nil (.ret ?_)))))
  obtain rfl := zAa h49
  exact z1e kr (v1 := (.string x40)) (by rfl) rt O45 s46 rfl
 refine .block (AW.loop (α := Nat) (fun k' σ' H' => ∃ (y1 : zAd) (G' : GM), z4y K k' y1 = some q1 /\ Ow G' H' (L) /\ GM.le G G' /\ σ' 0 = .string y1) (fun k' => k') K ⟨p0, _, h2, O, (zAf _), rfl⟩ ?_)
 rintro k4
 rintro σ6 H7 fr8 ⟨x5, G9, h12, O10, s11, t13⟩
 rcases k4 with _ | k4
 .exact z07 h12
 rw [z4y] at h12
 refine .seq (.seq ?_)
 obtain ⟨q14, h15, h16⟩ := z00 h12
 refine AW.midT (fun σ' H' => ∃ (y1 : Bool) (G' : GM), y1 = q14 /\ Ow G' H' (L) /\ GM.le G9 G' /\ σ' 10 = .bool y1) ?_ ?_
 rotate_left
 .rintro σ25 H26 fr27 ⟨x24, G28, rfl, O29, s30, t32⟩
  have h33 := z0b h16
  refine .cond (b := x24) rfl t32 (fun g34 => ?_) (fun g34 => ?_)
  rotate_left
  .have h39 := z0i g34 h33
   refine .exit ?_
   obtain rfl := zAa h39
   exact ⟨x5, _, rfl, O29, (zAe s11 s30), ((fr27 0 rfl).trans t13)⟩
  have h35 := z04 g34 h33
  refine .skip (.block (.region (W.q2 _ ((fr27 0 rfl).trans t13) ?_)))
  obtain ⟨x36, i37, h38⟩ := z00 h35
  refine W.pv (.string x36) (zds un9 ov ov i37) (W.p1 (.string x36) (.nil ?_))
  exact ⟨k4, zAg _, ⟨x36, _, h38, O29, (zAe s11 s30), rfl⟩⟩
 refine .region (W.q2 _ t13 (W.pv (.int .i64 (x5.size : Int)) (z1f ov un9) (W.p3 (.bool (decide ((x5.size : Int) > 1))) (W.p2 (.bool (decide ((x5.size : Int) > 1))) (W.splitAt (t := 6) (b := decide ((x5.size : Int) > 1)) rfl (fun g17 gv18 => ?_) (fun g17 gv18 => ?_))))))
 rotate_left
 .have h23 := z0i g17 h15
  refine W.q6 rfl gv18 (W.q6 rfl gv18 (W.q6 rfl gv18 (W.q5 (.bool false) gv18 rfl (.nil ?_))))
  obtain rfl := zAa h23
  exact ⟨false, _, rfl, O10, (zAf _), rfl⟩
 have h19 := z04 g17 h15
 refine W.q2 (hg := gk rfl rfl gv18 rfl) _ t13 ?_
 obtain ⟨x20, i21, h22⟩ := z00 h19
 refine W.pure (v := (.int .u8 x20)) (gk rfl rfl gv18 rfl) rfl (z98 un9 ov ov i21) (W.q3 (hg := gk rfl rfl gv18 rfl) (.bool (x20 == 48)) rfl rfl (W.q4 (.bool (x20 == 48)) gv18 rfl (.nil ?_)))
 obtain rfl := zAa h22
 exact ⟨(x20 == 48), _, rfl, O10, (zAf _), rfl⟩
def z70 (K : Nat) (p0 : zAd) (p1 : zAd) : Option Int := (if (decide ((p0.size : Int) < (p1.size : Int))) = true then some (-1) else (if (decide ((p0.size : Int) > (p1.size : Int))) = true then some 1 else (if (sLt p0 p1) = true then some (-1) else (if (!(sLt p0 p1 || sEq p0 p1)) = true then some 1 else some 0))))
theorem za5 (p0 : zAd) (p1 : zAd) (O : Ow G H (L)) (r : Int) (h : z70 K p0 p1 = some r) :
    CR Tryz.prog 97 [(.string p0), (.string p1)] G H (L) (fun v G' _ => v = .int .i64 r) := by
 unfold z70 at h
 refine CR.og (n := 25) (fn := Tryz.f97) (by kernel_rfl) rfl rfl fun R kr => (.seq (.region (W.p1 (.int .i64 0) (.nil (.seq (.block ?_))))))
 refine .seq (.region (W.p2 (.string p0) (W.pv (.int .i64 (p0.size : Int)) (z1f ov un9) (W.p2 (.string p1) (W.pv (.int .i64 (p1.size : Int)) (z1f ov un9) (W.p3 (.bool (decide ((p0.size : Int) < (p1.size : Int)))) ?_))))))
 refine W.p1 (.bool (decide ((p0.size : Int) < (p1.size : Int)))) (.nil (.cond (b := decide ((p0.size : Int) < (p1.size : Int))) rfl rfl (fun g1 => ?_) (fun g1 => ?_)))
 .have h2 := z04 g1 h
  refine .seq (.region (W.p1 (.int .i64 (-1)) (.nil (.ret ?_))))
  obtain rfl := zAa h2
  exact z1e kr (v1 := (.int .i64 (-1))) (by rfl) rt O (zAf _) rfl
 have h3 := z0i g1 h
 refine .seq (.region (W.p2 (.string p0) (W.pv (.int .i64 (p0.size : Int)) (z1f ov un9) (W.p2 (.string p1) (W.pv (.int .i64 (p1.size : Int)) (z1f ov un9) (W.p3 (.bool (decide ((p0.size : Int) > (p1.size : Int)))) ?_))))))
 refine W.p1 (.bool (decide ((p0.size : Int) > (p1.size : Int)))) (.nil (.cond (b := decide ((p0.size : Int) > (p1.size : Int))) rfl rfl (fun g4 => ?_) (fun g4 => ?_)))
 .have h5 := z04 g4 h3
  refine .seq (.region (W.p1 (.int .i64 1) (.nil (.ret ?_))))
  obtain rfl := zAa h5
  exact z1e kr (v1 := (.int .i64 1)) (by rfl) rt O (zAf _) rfl
 have h6 := z0i g4 h3
 refine .seq (.region (W.p2 (.string p0) (W.p2 (.string p1) (W.pv (.bool (sLt p0 p1)) (zpx ov ov) (W.p1 (.bool (sLt p0 p1)) (.nil ?_))))))
 refine .cond (b := sLt p0 p1) rfl rfl (fun g7 => ?_) (fun g7 => ?_)
 .have h8 := z04 g7 h6
  refine .seq (.region (W.p1 (.int .i64 (-1)) (.nil (.ret ?_))))
  obtain rfl := zAa h8
  exact z1e kr (v1 := (.int .i64 (-1))) (by rfl) rt O (zAf _) rfl
 have h9 := z0i g7 h6
 refine .seq (.region (W.p2 (.string p0) (W.p2 (.string p1) (W.pv (.bool (!(sLt p0 p1 || sEq p0 p1))) (zpy ov ov) (W.p1 (.bool (!(sLt p0 p1 || sEq p0 p1))) (.nil ?_))))))
 refine .cond (b := (!(sLt p0 p1 || sEq p0 p1))) rfl rfl (fun g10 => ?_) (fun g10 => ?_)
 .have h11 := z04 g10 h9
  refine .seq (.region (W.p1 (.int .i64 1) (.nil (.ret ?_))))
  obtain rfl := zAa h11
  exact z1e kr (v1 := (.int .i64 1)) (by rfl) rt O (zAf _) rfl
 have h12 := z0i g10 h9
 refine .skip (.seq (.region (W.p1 (.int .i64 0) (.nil (.ret ?_)))))
 obtain rfl := zAa h12
 exact z1e kr (v1 := (.int .i64 0)) (by rfl) rt O (zAf _) rfl
def z54 (K : Nat) (p0 : zAd) (p1 : Int) : Option Int := (if (decide (p1 < (p0.size : Int))) = true then ((bidx p0 (z03 .i64 ((z03 .i64 ((p0.size : Int) - 1)) - p1))).bind fun x3 => some (IntKind.wrap .i64 (z03 .u8 (x3 - 48)))) else some 0)
theorem z4z (p0 : zAd) (p1 : Int) (O : Ow G H (L)) (r : Int) (h : z54 K p0 p1 = some r) :
    CR Tryz.prog 149 [(.string p0), (.int .i64 p1)] G H (L) (fun v G' _ => v = .int .i64 r) := by
 unfold z54 at h
 refine CR.og (n := 18) (fn := Tryz.f149) (by kernel_rfl) rfl rfl fun R kr => (.seq (.region (W.p1 (.int .i64 0) (.nil (.seq (.seq ?_))))))
 refine .region (W.p2 (.int .i64 p1) (W.p2 (.string p0) (W.pv (.int .i64 (p0.size : Int)) (z1f ov un9) (W.p3 (.bool (decide (p1 < (p0.size : Int)))) (.nil (.cond (b := decide (p1 < (p0.size : Int))) rfl rfl (fun g1 => ?_) (fun g1 => ?_)))))))
 rotate_left
 .have h6 := z0i g1 h
  refine .skip (.seq (.region (W.p1 (.int .i64 0) (.nil (.ret ?_)))))
  obtain rfl := zAa h6
  exact z1e kr (v1 := (.int .i64 0)) (by rfl) rt O (zAf _) rfl
 have h2 := z04 g1 h
 refine .seq (.region (W.p2 (.string p0) (W.p2 (.string p0) (W.pv (.int .i64 (p0.size : Int)) (z1f ov un9) (W.p3 (.int .i64 (z03 .i64 ((p0.size : Int) - 1))) (W.p2 (.int .i64 p1) ?_))))))
 refine W.p3 (.int .i64 (z03 .i64 ((z03 .i64 ((p0.size : Int) - 1)) - p1))) ?_
 obtain ⟨x3, i4, h5⟩ := z00 h2
 refine W.pv (.int .u8 x3) (z98 un9 ov ov i4) (W.p3 (.int .u8 (z03 .u8 (x3 - 48))) (W.pv (.int .i64 (IntKind.wrap .i64 (z03 .u8 (x3 - 48)))) (z3y in5 in3 ov) (W.p1 (.int .i64 (IntKind.wrap .i64 (z03 .u8 (x3 - 48)))) (.nil (.ret ?_)))))
 obtain rfl := zAa h5
 exact z1e kr (v1 := (.int .i64 (IntKind.wrap .i64 (z03 .u8 (x3 - 48))))) (by rfl) rt O (zAf _) rfl
def z2x (K : Nat) (p0 : List Int) : Nat -> List Int -> Int -> Option (List Int)
  | 0, _, _ => none
  | k + 1, x11, x12 => (if (decide (x12 < (p0.length : Int))) = true then ((idx p0 x12).bind fun x23 => ((idx x11 (z03 .i64 ((z03 .i64 ((p0.length : Int) - 1)) - x12))).bind fun x27 => z2x K p0 k (List.set x11 (Int.toNat (z03 .i64 ((z03 .i64 ((p0.length : Int) - 1)) - x12))) (IntKind.wrap .u8 (z03 .i64 ((48 : Int) + x23)))) (z03 .i64 (x12 + 1)))) else some x11)
def z8w (K : Nat) (p0 : List Int) : Option zAd := (if 0 <= (p0.length : Int) /\ (p0.length : Int) <= (p0.length : Int) /\ (p0.length : Int) <= 16777216 then (Option.bind (z2x K p0 K (List.replicate (Int.toNat (p0.length : Int)) 0) 0) (tu1 fun x36 => (if 0 < x36.length then (if ((⟨#[48]⟩ : zAd)).size + ((strOfNums x36)).size <= 4611686018427387904 then ((z6b K ((⟨#[48]⟩ : zAd) ++ (strOfNums x36))).bind fun x52 => some x52) else none) else none))) else none)
theorem z9x (v0 : Value) (p0 : List Int) (hp0 : (rSl (rI .i64)).rep G [v0] p0) (O : Ow G H (L)) (r : zAd) (h : z8w K p0 = some r) :
    CR Tryz.prog 150 [v0] G H (L) (fun v G' _ => v = .string r) := by
 unfold z8w at h
 refine CR.og (n := 31) (fn := Tryz.f150) (by kernel_rfl) rfl rfl fun R kr => (.seq (.region (W.p1 (.string (⟨#[]⟩ : zAd)) (.nil (.seq (.region ?_))))))
 refine W.p2 v0 (W.pv (.int .i64 (p0.length : Int)) (z0g ov (z0c hp0) (z02 za4)) ?_)
 obtain ⟨g2, h3⟩ := z1y h
 refine W.ln (Lo.makeSlice (r := (rI .u8)) (x0 := 0) (a := (p0.length : Int)) (c := (p0.length : Int)) rfl zgu ze5 sz5 (by kernel_rfl) rfl by5 (by decide) rfl rfl g2 (zI .u8) O) ?_
 rintro v5 H6 ⟨O1, sm4⟩
 refine W.p1 v5 (.nil (.seq (.seq (.region (W.p2 v0 (W.pv (.int .i64 (p0.length : Int)) (z0g ov (z0c hp0) (z02 za4)) ?_))))))
 refine W.p2 (.int .i64 0) (.nil ?_)
 obtain ⟨q7, h8, h9⟩ := z00 h3
 refine AW.midT (fun σ' H' => ∃ (y1 : List Int) (G' : GM), y1 = q7 /\ Ow G' H' (eSl v5 5 (rI .u8) y1 :: L) /\ GM.le G G') ?_ ?_
 rotate_left
 .rintro σ37 H38 fr39 ⟨x36, G40, rfl, O41, s42⟩
  have h44 := z0b h9
  refine .seq (.region (W.q2 v5 ((fr39 3 rfl).trans rfl) ?_))
  obtain ⟨es45, e46, e47⟩ := z3z (j := 0) rfl O41
  obtain ⟨g48, h49⟩ := z1y h44
  refine W.bytesStr rfl rfl zgu in5 un9 e46 e47 g48 ?_
  obtain ⟨g50, h51⟩ := z1y h49
  refine W.pv (.string ((⟨#[48]⟩ : zAd) ++ (strOfNums x36))) (zbv g50 ov ov) ?_
  obtain ⟨x52, i53, h54⟩ := z00 h51
  refine W.ln (Lo.cP rfl (fn := Tryz.f162) (by kernel_rfl) rfl (mc rfl mn) O41 (fun L' O' => z7b K ((⟨#[48]⟩ : zAd) ++ (strOfNums x36)) O' _ i53)) ?_
  rintro v61 H62 ⟨G55, O56, s57, sm60, rfl⟩
  refine W.p1 (.string x52) (.nil (.ret ?_))
  have O63 := O56.drop 0
  obtain rfl := zAa h54
  exact z1e kr (v1 := (.string x52)) (by rfl) rt O63 (zAe s42 s57) rfl
 refine .block (AW.loop (α := Nat) (fun k' σ' H' => ∃ (y1 : List Int) (y2 : Int) (G' : GM), z2x K p0 k' y1 y2 = some q7 /\ Ow G' H' (eSl v5 5 (rI .u8) y1 :: L) /\ GM.le G G' /\ σ' 11 = .int .i64 y2) (fun k' => k') K ⟨(List.replicate (Int.toNat (p0.length : Int)) 0), 0, _, h8, O1, (zAf _), rfl⟩ ?_)
 rintro k10
 rintro σ13 H14 fr15 ⟨x11, x12, G16, h19, O17, s18, t20⟩
 rcases k10 with _ | k10
 .exact z07 h19
 rw [z2x] at h19
 refine .seq (.region (W.q3 (.bool (decide (x12 < (p0.length : Int)))) t20 ((fr15 10 rfl).trans rfl) (.nil (.seq (.cond (b := decide (x12 < (p0.length : Int))) rfl rfl (fun g21 => ?_) (fun g21 => ?_))))))
 rotate_left
 .have h35 := z0i g21 h19
  refine .exit ?_
  obtain rfl := zAa h35
  exact ⟨x11, _, rfl, O17, s18⟩
 have h22 := z04 g21 h19
 refine .skip (.seq (.block (.seq (.region (W.q2 _ t20 ?_)))))
 obtain ⟨x23, i24, h25⟩ := z00 h22
 have j26 := z08 i24
 refine W.pv (z0x v0 (x12.toNat * 1)) (z1d za4 sz3 (ou ((fr15 9 rfl).trans rfl)) (ou t20) (z0c (RT.mono _ s18 hp0)) j26.1 j26.2.1) (W.load1 (v := (.int .i64 x23)) (r := []) rfl rfl ag3 (z0o rfl (At.int (At.le (At.le (z0t hp0 j26.2.2) s18 s18) (zAf _) O17.fro))) (W.p1 (.int .i64 x12) (W.p1 (.int .i64 x23) (.nil (.region (W.q2 v5 ((fr15 3 rfl).trans rfl) ?_))))))
 refine W.q2 v0 ((fr15 0 rfl).trans rfl) (W.pv (.int .i64 (p0.length : Int)) (z0g ov (z0c (RT.mono _ s18 hp0)) (z02 za4)) (W.p3 (.int .i64 (z03 .i64 ((p0.length : Int) - 1))) (W.p2 (.int .i64 x12) (W.p3 (.int .i64 (z03 .i64 ((z03 .i64 ((p0.length : Int) - 1)) - x12))) (W.p2 (.int .i64 x23) (W.p3 (.int .i64 (z03 .i64 ((48 : Int) + x23))) ?_))))))
 refine W.pv (.int .u8 (IntKind.wrap .u8 (z03 .i64 ((48 : Int) + x23)))) (z3y in3 in5 ov) ?_
 obtain ⟨x27, i28, h29⟩ := z00 h25
 have j30 := z08 i28
 refine W.pv (z0x v5 (Int.toNat (z03 .i64 ((z03 .i64 ((p0.length : Int) - 1)) - x12)) * 1)) (z1d zgu sz5 ov ov (O17.slLen (j := 0) rfl) j30.1 j30.2.1) (W.ln (Lo.storeSl0 (j := 0) (y0 := IntKind.wrap .u8 (z03 .i64 ((48 : Int) + x23))) (v := (.int .u8 (IntKind.wrap .u8 (z03 .i64 ((48 : Int) + x23))))) rfl j30.2.2  rfl sz5 rfl rfl rfl O17) ?_)
 rintro v33 H34 ⟨O31, sm32⟩
 refine .nil (.region (W.r3 (.int .i64 (z03 .i64 (x12 + 1))) t20 (W.p2 (.int .i64 (z03 .i64 (x12 + 1))) (.nil ?_))))
 exact ⟨k10, zAg _, ⟨(List.set x11 (Int.toNat (z03 .i64 ((z03 .i64 ((p0.length : Int) - 1)) - x12))) (IntKind.wrap .u8 (z03 .i64 ((48 : Int) + x23)))), z03 .i64 (x12 + 1), _, h29, O31, s18, rfl⟩⟩
def z2a (K : Nat) (p0 : zAd) (p1 : zAd) : Nat -> List Int -> Int -> Int -> Option (List Int)
  | 0, _, _, _ => none
  | k + 1, x6, x7, x8 => (if (decide (x8 < (p0.size : Int))) = true then ((z54 K p0 x8).bind fun x20 => ((z54 K p1 x8).bind fun x31 => (Option.bind ((if (decide ((z03 .i64 ((z03 .i64 (x20 - x31)) - x7)) < 0)) = true then (lt (z03 .i64 ((z03 .i64 ((z03 .i64 (x20 - x31)) - x7)) + 10)) fun x47 => some (1, x47)) else some (0, z03 .i64 ((z03 .i64 (x20 - x31)) - x7)))) (tu2 fun x51 x52 => (if x6.length + List.length [x52] <= 16777216 then z2a K p0 p1 k (x6 ++ [x52]) x51 (z03 .i64 (x8 + 1)) else none))))) else some x6)
def z71 (K : Nat) (p0 : zAd) (p1 : zAd) : Option zAd := (Option.bind (z2a K p0 p1 K [] 0 0) (tu1 fun x78 => ((z8w K x78).bind fun x87 => some x87)))
theorem za6 (p0 : zAd) (p1 : zAd) (O : Ow G H (L)) (r : zAd) (h : z71 K p0 p1 = some r) :
    CR Tryz.prog 98 [(.string p0), (.string p1)] G H (L) (fun v G' _ => v = .string r) := by
 unfold z71 at h
 refine CR.og (n := 34) (fn := Tryz.f98) (by kernel_rfl) rfl rfl fun R kr => (.seq (.region (W.p1 (.string (⟨#[]⟩ : zAd)) (.nil (.seq (.region ?_))))))
 refine W.p1 (.slice none 0 0) (.nil (.seq (.region (W.p1 (.int .i64 0) (.nil (.seq ?_))))))
 refine .seq (.region (W.p2 (.string p0) (W.pv (.int .i64 (p0.size : Int)) (z1f ov un9) (W.p2 (.int .i64 0) (.nil ?_)))))
 obtain ⟨q1, h2, h3⟩ := z00 h
 refine AW.midT (fun σ' H' => ∃ (y1 : List Int) (G' : GM), y1 = q1 /\ Ow G' H' (eSl (σ' 5) 3 (rI .i64) y1 :: L) /\ GM.le G G') ?_ ?_
 rotate_left
 .rintro σ79 H80 fr81 ⟨x78, G82, rfl, O83, s84⟩
  have h86 := z0b h3
  refine .seq (.region (W.p2 (σ79 5) ?_))
  obtain ⟨x87, i88, h89⟩ := z00 h86
  refine W.ln (Lo.callB (j := 0) rfl rfl (fn := Tryz.f150) (by kernel_rfl) rfl (mc rfl mn) O83 (fun G' L' hG O' hB => z9x K (σ79 5) x78 hB O' _ i88)) ?_
  rintro v96 H97 ⟨G90, O91, s92, sm95, rfl⟩
  refine W.p1 (.string x87) (.nil (.ret ?_))
  have O98 := O91.drop 0
  obtain rfl := zAa h89
  exact z1e kr (v1 := (.string x87)) (by rfl) rt O98 (zAe s84 s92) rfl
 refine .block ?_
 have O4 := O.nilSl 3 (rI .i64)
 refine AW.loop (α := Nat) (fun k' σ' H' => ∃ (y1 : List Int) (y2 : Int) (y3 : Int) (G' : GM), z2a K p0 p1 k' y1 y2 y3 = some q1 /\ Ow G' H' (eSl (σ' 5) 3 (rI .i64) y1 :: L) /\ GM.le G G' /\ σ' 6 = .int .i64 y2 /\ σ' 11 = .int .i64 y3) (fun k' => k') K ⟨[], 0, 0, _, h2, O4, (zAf _), rfl, rfl⟩ ?_
 rintro k5
 rintro σ9 H10 fr11 ⟨x6, x7, x8, G12, h15, O13, s14, t16, t17⟩
 rcases k5 with _ | k5
 .exact z07 h15
 rw [z2a] at h15
 refine .seq (.region (W.q3 (.bool (decide (x8 < (p0.size : Int)))) t17 ((fr11 10 rfl).trans rfl) (.nil (.seq (.cond (b := decide (x8 < (p0.size : Int))) rfl rfl (fun g18 => ?_) (fun g18 => ?_))))))
 rotate_left
 .have h77 := z0i g18 h15
  refine .exit ?_
  obtain rfl := zAa h77
  exact ⟨x6, _, rfl, O13, s14⟩
 have h19 := z04 g18 h15
 refine .skip (.seq (.block (.seq (.region (W.q2 _ t17 (W.p1 (.int .i64 x8) ?_))))))
 refine .nil (.seq (.region (W.q2 (.string p0) ((fr11 0 rfl).trans rfl) (W.p2 (.int .i64 x8) ?_))))
 obtain ⟨x20, i21, h22⟩ := z00 h19
 refine W.ln (Lo.cP rfl (fn := Tryz.f149) (by kernel_rfl) rfl (mc rfl (mc rfl mn)) O13 (fun L' O' => z4z K p0 x8 O' _ i21)) ?_
 rintro v29 H30 ⟨G23, O24, s25, sm28, rfl⟩
 refine W.q2 (.string p1) ((fr11 1 rfl).trans rfl) (W.p2 (.int .i64 x8) ?_)
 obtain ⟨x31, i32, h33⟩ := z00 h22
 refine W.ln (Lo.cP rfl (fn := Tryz.f149) (by kernel_rfl) rfl (mc rfl (mc rfl mn)) O24 (fun L' O' => z4z K p1 x8 O' _ i32)) ?_
 rintro v40 H41 ⟨G34, O35, s36, sm39, rfl⟩
 refine W.p3 (.int .i64 (z03 .i64 (x20 - x31))) (W.q2 _ t16 (W.p3 (.int .i64 (z03 .i64 ((z03 .i64 (x20 - x31)) - x7))) (W.p1 (.int .i64 (z03 .i64 ((z03 .i64 (x20 - x31)) - x7))) (.nil (.seq (.region ?_))))))
 refine W.p1 (.int .i64 0) (.nil (.seq (.seq (.region (W.p2 (.int .i64 (z03 .i64 ((z03 .i64 (x20 - x31)) - x7))) (W.p3 (.bool (decide ((z03 .i64 ((z03 .i64 (x20 - x31)) - x7)) < 0))) ?_))))))
 refine .nil ?_
 obtain ⟨q42, h43, h44⟩ := z00 h33
 refine AW.midT (fun σ' H' => ∃ (y1 : Int) (y2 : Int) (G' : GM), (y1, y2) = q42 /\ Ow G' H' (eSl (σ9 5) 3 (rI .i64) x6 :: L) /\ GM.le G34 G' /\ σ' 6 = .int .i64 y1 /\ σ' 8 = .int .i64 y2) ?_ ?_
 .refine .cond (b := decide ((z03 .i64 ((z03 .i64 (x20 - x31)) - x7)) < 0)) rfl rfl (fun g45 => ?_) (fun g45 => ?_)
  rotate_left
  .have h50 := z0i g45 h43
   refine .skip ?_
   obtain rfl := zAa h50
   exact ⟨0, z03 .i64 ((z03 .i64 (x20 - x31)) - x7), _, rfl, O35, (zAf _), rfl, rfl⟩
  have h46 := z04 g45 h43
  refine .region (W.p2 (.int .i64 (z03 .i64 ((z03 .i64 (x20 - x31)) - x7))) (W.p3 (.int .i64 (z03 .i64 ((z03 .i64 ((z03 .i64 (x20 - x31)) - x7)) + 10))) ?_))
  obtain ⟨x47, e48, h49⟩ := z68 h46
  refine W.q1 _ (congrArg (Value.int .i64) e48) (W.p1 (.int .i64 1) (.nil ?_))
  obtain rfl := zAa h49
  exact ⟨1, x47, _, rfl, O35, (zAf _), rfl, rfl⟩
 rintro σ53 H54 fr55 ⟨x51, x52, G56, rfl, O57, s58, t60, t61⟩
 have h62 := z40 h44
 refine .region (W.q2 (σ9 5) ((fr55 5 rfl).trans rfl) (W.q2 _ t61 (W.ln (Lo.buildSlice (r := (rI .i64)) (vs := [(.int .i64 x52)]) (xs := [x52]) za4 ze3 sz3 (by kernel_rfl) rfl (qc rfl qn) rfl (.cons rfl .nil) O57) ?_)))
 rintro v65 H66 ⟨O63, sm64⟩
 obtain ⟨es68, e69, e70⟩ := z3z (j := 0) rfl O63
 obtain ⟨g71, h72⟩ := z1y h62
 refine W.ln (Lo.append (j := 1) (v := (σ9 5)) rfl rfl za4 zq1 ze3 sz3 by3 (by decide) (by decide) rfl e69 e70 g71 O63) ?_
 rintro v74 H75 ⟨O67, sm73⟩
 refine W.p1 v74 (.nil (.region (W.q3 (.int .i64 (z03 .i64 (x8 + 1))) ((fr55 11 rfl).trans t17) rfl (W.p2 (.int .i64 (z03 .i64 (x8 + 1))) (.nil ?_)))))
 have O76 := O67.drop 0
 exact ⟨k5, zAg _, ⟨(x6 ++ [x52]), x51, z03 .i64 (x8 + 1), _, h72, O76, (zAe s14 (zAe s25 (zAe s36 s58))), t60, rfl⟩⟩
def z31 (K : Nat) (p1 : zAd) : Nat -> zAd -> Int -> Option (zAd × Int)
  | 0, _, _ => none
  | k + 1, x56, x57 => ((z70 K x56 p1).bind fun x67 => (if (decide (x67 >= 0)) = true then ((z71 K x56 p1).bind fun x80 => z31 K p1 k x80 (z03 .u8 (x57 + 1))) else some (x56, x57)))
def z32 (K : Nat) (p0 : zAd) (p1 : zAd) : Nat -> zAd -> zAd -> Int -> Option (zAd × zAd)
  | 0, _, _, _ => none
  | k + 1, x21, x22, x23 => (if (decide (x23 < (p0.size : Int))) = true then ((ssl p0 x23 (z03 .i64 (x23 + 1))).bind fun x36 => (if (x22).size + (x36).size <= 4611686018427387904 then ((z6b K (x22 ++ x36)).bind fun x41 => (Option.bind (z31 K p1 K x41 48) (tu2 fun x92 x93 => (if (x21).size + ((Utf8.encode x93)).size <= 4611686018427387904 then z32 K p0 p1 k (x21 ++ (Utf8.encode x93)) x92 (z03 .i64 (x23 + 1)) else none)))) else none)) else some (x21, x22))
def z64 (K : Nat) (p0 : zAd) (p1 : zAd) : Option (zAd × zAd) := ((ssl p0 0 (imin (p0.size : Int) (z03 .i64 ((p1.size : Int) - 1)))).bind fun x1 => (if ((⟨#[48]⟩ : zAd)).size + (x1).size <= 4611686018427387904 then ((z6b K ((⟨#[48]⟩ : zAd) ++ x1)).bind fun x6 => (Option.bind (z32 K p0 p1 K (⟨#[48]⟩ : zAd) x6 (imin (p0.size : Int) (z03 .i64 ((p1.size : Int) - 1)))) (tu2 fun x107 x108 => ((z6b K x107).bind fun x119 => some (x119, x108))))) else none))
theorem z80 (p0 : zAd) (p1 : zAd) (O : Ow G H (L)) (r : zAd × zAd) (h : z64 K p0 p1 = some r) :
    CR Tryz.prog 129 [(.string p0), (.string p1)] G H (L) (fun v G' _ => v = .tuple #[.string r.1, .string r.2]) := by
 unfold z64 at h
 refine CR.og (n := 53) (fn := Tryz.f129) (by kernel_rfl) rfl rfl fun R kr => (.seq (.region (W.p1 (.string (⟨#[]⟩ : zAd)) (W.p1 (.string (⟨#[]⟩ : zAd)) (.nil (.seq ?_))))))
 refine .region (W.p2 (.string p0) (W.pv (.int .i64 (p0.size : Int)) (z1f ov un9) (W.p2 (.string p1) (W.pv (.int .i64 (p1.size : Int)) (z1f ov un9) (W.p3 (.int .i64 (z03 .i64 ((p1.size : Int) - 1))) (W.pv (.int .i64 (imin (p0.size : Int) (z03 .i64 ((p1.size : Int) - 1)))) (zpw ov ov) ?_))))))
 refine W.p1 (.int .i64 (imin (p0.size : Int) (z03 .i64 ((p1.size : Int) - 1)))) (.nil (.seq (.region (W.p2 (.string p0) (W.p2 (.int .i64 (imin (p0.size : Int) (z03 .i64 ((p1.size : Int) - 1)))) ?_)))))
 obtain ⟨x1, i2, h3⟩ := z00 h
 refine W.pv (.string x1) (zi5 un9 ov ov i2) ?_
 obtain ⟨g4, h5⟩ := z1y h3
 refine W.pv (.string ((⟨#[48]⟩ : zAd) ++ x1)) (zbv g4 ov ov) ?_
 obtain ⟨x6, i7, h8⟩ := z00 h5
 refine W.ln (Lo.cP rfl (fn := Tryz.f162) (by kernel_rfl) rfl (mc rfl mn) O (fun L' O' => z7b K ((⟨#[48]⟩ : zAd) ++ x1) O' _ i7)) ?_
 rintro v15 H16 ⟨G9, O10, s11, sm14, rfl⟩
 refine W.p1 (.string (⟨#[48]⟩ : zAd)) (W.p1 (.string x6) (.nil (.seq (.seq (.region (W.p2 (.int .i64 (imin (p0.size : Int) (z03 .i64 ((p1.size : Int) - 1)))) ?_))))))
 refine W.p1 (.int .i64 (imin (p0.size : Int) (z03 .i64 ((p1.size : Int) - 1)))) (.nil ?_)
 obtain ⟨q17, h18, h19⟩ := z00 h8
 refine AW.midT (fun σ' H' => ∃ (y1 : zAd) (y2 : zAd) (G' : GM), (y1, y2) = q17 /\ Ow G' H' (L) /\ GM.le G9 G' /\ σ' 7 = .string y1 /\ σ' 8 = .string y2) ?_ ?_
 rotate_left
 .rintro σ109 H110 fr111 ⟨x107, x108, G112, rfl, O113, s114, t116, t117⟩
  have h118 := z40 h19
  refine .seq (.region (W.q2 _ t116 ?_))
  obtain ⟨x119, i120, h121⟩ := z00 h118
  refine W.ln (Lo.cP rfl (fn := Tryz.f162) (by kernel_rfl) rfl (mc rfl mn) O113 (fun L' O' => z7b K x107 O' _ i120)) ?_
  rintro v128 H129 ⟨G122, O123, s124, sm127, rfl⟩
  refine W.q2 _ t117 (W.p1 (.string x119) (W.p1 (.string x108) (.nil (.ret ?_))))
  obtain rfl := zAa h121
  exact zgi kr (v1 := (.string x119)) (v2 := (.string x108)) (by rfl) rt rt O123 (zAe s11 (zAe s114 s124)) rfl
 refine .block (AW.loop (α := Nat) (fun k' σ' H' => ∃ (y1 : zAd) (y2 : zAd) (y3 : Int) (G' : GM), z32 K p0 p1 k' y1 y2 y3 = some q17 /\ Ow G' H' (L) /\ GM.le G9 G' /\ σ' 7 = .string y1 /\ σ' 8 = .string y2 /\ σ' 9 = .int .i64 y3) (fun k' => k') K ⟨(⟨#[48]⟩ : zAd), x6, imin (p0.size : Int) (z03 .i64 ((p1.size : Int) - 1)), _, h18, O10, (zAf _), rfl, rfl, rfl⟩ ?_)
 rintro k20
 rintro σ24 H25 fr26 ⟨x21, x22, x23, G27, h30, O28, s29, t31, t32, t33⟩
 rcases k20 with _ | k20
 .exact z07 h30
 rw [z32] at h30
 refine .seq (.seq (.region (W.q2 _ t33 (W.q2 (.string p0) ((fr26 0 rfl).trans rfl) (W.pv (.int .i64 (p0.size : Int)) (z1f ov un9) (W.p3 (.bool (decide (x23 < (p0.size : Int)))) ?_))))))
 refine .nil (.cond (b := decide (x23 < (p0.size : Int))) rfl rfl (fun g34 => ?_) (fun g34 => ?_))
 rotate_left
 .have h106 := z0i g34 h30
  refine .exit ?_
  obtain rfl := zAa h106
  exact ⟨x21, x22, _, rfl, O28, s29, t31, t32⟩
 have h35 := z04 g34 h30
 refine .skip (.seq (.block (.seq (.region (W.q2 _ t32 (W.q2 (.string p0) ((fr26 0 rfl).trans rfl) ?_))))))
 refine W.q2 _ t33 (W.q2 _ t33 (W.p3 (.int .i64 (z03 .i64 (x23 + 1))) ?_))
 obtain ⟨x36, i37, h38⟩ := z00 h35
 refine W.pv (.string x36) (zlj un9 ov ov ov i37) ?_
 obtain ⟨g39, h40⟩ := z1y h38
 refine W.pv (.string (x22 ++ x36)) (zbv g39 ov ov) ?_
 obtain ⟨x41, i42, h43⟩ := z00 h40
 refine W.ln (Lo.cP rfl (fn := Tryz.f162) (by kernel_rfl) rfl (mc rfl mn) O28 (fun L' O' => z7b K (x22 ++ x36) O' _ i42)) ?_
 rintro v50 H51 ⟨G44, O45, s46, sm49, rfl⟩
 refine W.p1 (.string x41) (.nil (.seq (.region (W.p1 (.int .u8 48) (.nil (.seq ?_))))))
 obtain ⟨q52, h53, h54⟩ := z00 h43
 refine AW.midT (fun σ' H' => ∃ (y1 : zAd) (y2 : Int) (G' : GM), (y1, y2) = q52 /\ Ow G' H' (L) /\ GM.le G44 G' /\ σ' 8 = .string y1 /\ σ' 10 = .int .u8 y2) ?_ ?_
 rotate_left
 .rintro σ94 H95 fr96 ⟨x92, x93, G97, rfl, O98, s99, t101, t102⟩
  have h103 := z40 h54
  refine .region (W.q2 _ ((fr96 7 rfl).trans t31) (W.q2 _ t102 (W.pv (.string (Utf8.encode x93)) (zmk in5 un9 ov) ?_)))
  obtain ⟨g104, h105⟩ := z1y h103
  refine W.pv (.string (x21 ++ (Utf8.encode x93))) (zbv g104 ov ov) (W.p1 (.string (x21 ++ (Utf8.encode x93))) (.nil (.region (W.q2 _ ((fr96 9 rfl).trans t33) (W.p3 (.int .i64 (z03 .i64 (x23 + 1))) (W.p1 (.int .i64 (z03 .i64 (x23 + 1))) ?_))))))
  refine .nil ?_
  exact ⟨k20, zAg _, ⟨(x21 ++ (Utf8.encode x93)), x92, z03 .i64 (x23 + 1), _, h105, O98, (zAe s29 (zAe s46 s99)), rfl, t101, rfl⟩⟩
 refine .block (AW.loop (α := Nat) (fun k' σ' H' => ∃ (y1 : zAd) (y2 : Int) (G' : GM), z31 K p1 k' y1 y2 = some q52 /\ Ow G' H' (L) /\ GM.le G44 G' /\ σ' 8 = .string y1 /\ σ' 10 = .int .u8 y2) (fun k' => k') K ⟨x41, 48, _, h53, O45, (zAf _), rfl, rfl⟩ ?_)
 rintro k55
 rintro σ58 H59 fr60 ⟨x56, x57, G61, h64, O62, s63, t65, t66⟩
 rcases k55 with _ | k55
 .exact z07 h64
 rw [z31] at h64
 refine .seq (.seq (.region (W.q2 _ t65 (W.q2 (.string p1) ((fr60 1 rfl).trans ((fr26 1 rfl).trans rfl)) ?_))))
 obtain ⟨x67, i68, h69⟩ := z00 h64
 refine W.ln (Lo.cP rfl (fn := Tryz.f97) (by kernel_rfl) rfl (mc rfl (mc rfl mn)) O62 (fun L' O' => za5 K x56 p1 O' _ i68)) ?_
 rintro v76 H77 ⟨G70, O71, s72, sm75, rfl⟩
 refine W.p3 (.bool (decide (x67 >= 0))) (.nil (.cond (b := decide (x67 >= 0)) rfl rfl (fun g78 => ?_) (fun g78 => ?_)))
 rotate_left
 .have h91 := z0i g78 h69
  refine .exit ?_
  obtain rfl := zAa h91
  exact ⟨x56, x57, _, rfl, O71, (zAe s63 s72), t65, t66⟩
 have h79 := z04 g78 h69
 refine .skip (.block (.seq (.region (W.q2 _ t65 (W.q2 (.string p1) ((fr60 1 rfl).trans ((fr26 1 rfl).trans rfl)) ?_)))))
 obtain ⟨x80, i81, h82⟩ := z00 h79
 refine W.ln (Lo.cP rfl (fn := Tryz.f98) (by kernel_rfl) rfl (mc rfl (mc rfl mn)) O71 (fun L' O' => za6 K x56 p1 O' _ i81)) ?_
 rintro v89 H90 ⟨G83, O84, s85, sm88, rfl⟩
 refine W.p1 (.string x80) (.nil (.region (W.q2 _ t66 (W.p3 (.int .u8 (z03 .u8 (x57 + 1))) (W.p1 (.int .u8 (z03 .u8 (x57 + 1))) (.nil ?_))))))
 exact ⟨k55, zAg _, ⟨x80, z03 .u8 (x57 + 1), _, h82, O84, (zAe s63 (zAe s72 s85)), rfl, rfl⟩⟩
def z1h (K : Nat) : Nat -> zAd -> zAd -> Option (zAd)
  | 0, _, _ => none
  | k + 1, x5, x6 => (if (!(sEq x6 (⟨#[48]⟩ : zAd))) = true then ((z64 K x5 x6).bind fun x18 => z1h K k x6 x18.2) else some x5)
def z72 (K : Nat) (p0 : zAd) (p1 : zAd) : Option zAd := (Option.bind (z1h K K p0 p1) (tu1 fun x30 => some x30))
theorem za7 (p0 : zAd) (p1 : zAd) (O : Ow G H (L)) (r : zAd) (h : z72 K p0 p1 = some r) :
    CR Tryz.prog 60 [(.string p0), (.string p1)] G H (L) (fun v G' _ => v = .string r) := by
 unfold z72 at h
 refine CR.og (n := 18) (fn := Tryz.f60) (by kernel_rfl) rfl rfl fun R kr => (.seq (.region (W.p1 (.string (⟨#[]⟩ : zAd)) (.nil (.seq ?_)))))
 obtain ⟨q1, h2, h3⟩ := z00 h
 refine AW.midT (fun σ' H' => ∃ (y1 : zAd) (G' : GM), y1 = q1 /\ Ow G' H' (L) /\ GM.le G G' /\ σ' 0 = .string y1) ?_ ?_
 rotate_left
 .rintro σ31 H32 fr33 ⟨x30, G34, rfl, O35, s36, t38⟩
  have h39 := z0b h3
  refine .seq (.region (W.q2 _ t38 (W.p1 (.string x30) (.nil (.ret ?_)))))
  obtain rfl := zAa h39
  exact z1e kr (v1 := (.string x30)) (by rfl) rt O35 s36 rfl
 refine .block (AW.loop (α := Nat) (fun k' σ' H' => ∃ (y1 : zAd) (y2 : zAd) (G' : GM), z1h K k' y1 y2 = some q1 /\ Ow G' H' (L) /\ GM.le G G' /\ σ' 0 = .string y1 /\ σ' 1 = .string y2) (fun k' => k') K ⟨p0, p1, _, h2, O, (zAf _), rfl, rfl⟩ ?_)
 rintro k4
 rintro σ7 H8 fr9 ⟨x5, x6, G10, h13, O11, s12, t14, t15⟩
 rcases k4 with _ | k4
 .exact z07 h13
 rw [z1h] at h13
 refine .seq (.seq (.region (W.q2 _ t15 (W.pv (.bool (!(sEq x6 (⟨#[48]⟩ : zAd)))) (zgh ov ov) (.nil (.cond (b := (!(sEq x6 (⟨#[48]⟩ : zAd)))) rfl rfl (fun g16 => ?_) (fun g16 => ?_)))))))
 rotate_left
 .have h29 := z0i g16 h13
  refine .exit ?_
  obtain rfl := zAa h29
  exact ⟨x5, _, rfl, O11, s12, t14⟩
 have h17 := z04 g16 h13
 refine .skip (.block (.seq (.region (W.q2 _ t14 (W.q2 _ t15 ?_)))))
 obtain ⟨x18, i19, h20⟩ := z00 h17
 refine W.ln (Lo.cP rfl (fn := Tryz.f129) (by kernel_rfl) rfl (mc rfl (mc rfl mn)) O11 (fun L' O' => z80 K x5 x6 O' _ i19)) ?_
 rintro v27 H28 ⟨G21, O22, s23, sm26, rfl⟩
 refine W.p2 (.tuple #[(.string x18.1), (.string x18.2)]) (W.pv (.string x18.1) (z0a ov rfl) (W.pv (.string x18.2) (z0a ov rfl) (W.p1 (.string x18.1) (W.p1 (.string x18.2) (.nil (.region ?_))))))
 refine W.q2 _ t15 (W.p2 (.string x18.2) (W.p1 (.string x6) (W.p1 (.string x18.2) (.nil ?_))))
 exact ⟨k4, zAg _, ⟨x6, x18.2, _, h20, O22, (zAe s12 s23), rfl, rfl⟩⟩
def z16 (K : Nat) (x30 : zAd) : Nat -> Int -> zAd -> zAd -> Int -> Option (Int × zAd × zAd)
  | 0, _, _, _, _ => none
  | k + 1, x46, x47, x48, x49 => (if (decide (x49 < (x30.size : Int))) = true then (Option.bind ((Option.bind (((bidx x30 x49).bind fun x69 => (if (x69 == 47) = true then some (x46 == 1) else some false))) (tu1 fun x76 => (if x76 = true then ((ssl x30 0 x49).bind fun x93 => ((ssl x30 (z03 .i64 (x49 + 1)) (x30.size : Int)).bind fun x96 => some (2, x93, x96))) else some (x46, x47, x48))))) (tu3 fun x100 x101 x102 => z16 K x30 k x100 x101 x102 (z03 .i64 (x49 + 1)))) else some (x46, x47, x48))
def z50 (K : Nat) (p0 : zAd) : Option Int := (Option.bind ((if (decide ((p0.size : Int) > 0)) = true then ((bidx p0 0).bind fun x7 => some (x7 == 45)) else some false)) (tu1 fun x11 => (Option.bind ((if x11 = true then ((ssl p0 1 (p0.size : Int)).bind fun x26 => some (x26, true)) else some (p0, false))) (tu2 fun x30 x31 => (Option.bind (z16 K x30 K 1 x30 (⟨#[50]⟩ : zAd) 0) (tu3 fun x115 x116 x117 => ((z4x K x116).bind fun x129 => ((z4x K x117).bind fun x140 => (Option.bind ((if (x129 == 5) = true then some true else (if (x140 == 5) = true then some true else (if x31 = true then some (sEq x116 (⟨#[48]⟩ : zAd)) else some false)))) (tu1 fun x166 => (if x166 = true then some 5 else (Option.bind ((if (x129 != 0) = true then some true else some (x140 != 0))) (tu1 fun x186 => (if x186 = true then some 2 else (Option.bind ((if (x115 == 2) = true then (if (sEq x117 (⟨#[48]⟩ : zAd)) = true then some true else (if (sEq x117 (⟨#[49]⟩ : zAd)) = true then some true else ((z72 K x116 x117).bind fun x213 => some (!(sEq x213 (⟨#[49]⟩ : zAd)))))) else some false)) (tu1 fun x225 => (if x225 = true then some 3 else some 0)))))))))))))))))
theorem zby (p0 : zAd) (O : Ow G H (L)) (r : Int) (h : z50 K p0 = some r) :
    CR Tryz.prog 16 [(.string p0)] G H (L) (fun v G' _ => v = .int .i64 r) := by
 unfold z50 at h
 refine CR.og (n := 86) (fn := Tryz.f16) (by kernel_rfl) rfl rfl fun R kr => (.seq (.region (W.p1 (.int .i64 0) (.nil (.seq (.region ?_))))))
 refine W.p2 (.string p0) (W.p1 (.string p0) (W.p1 (.bool false) (W.p1 (.int .i64 1) (.nil (.seq (.seq ?_))))))
 obtain ⟨q1, h2, h3⟩ := z00 h
 refine AW.midT (fun σ' H' => ∃ (y1 : Bool) (G' : GM), y1 = q1 /\ Ow G' H' (L) /\ GM.le G G' /\ σ' 19 = .bool y1) ?_ ?_
 .refine .region (W.p2 (.string p0) (W.pv (.int .i64 (p0.size : Int)) (z1f ov un9) (W.p3 (.bool (decide ((p0.size : Int) > 0))) (W.p2 (.bool (decide ((p0.size : Int) > 0))) (W.splitAt (t := 15) (b := decide ((p0.size : Int) > 0)) rfl (fun g4 gv5 => ?_) (fun g4 gv5 => ?_))))))
  rotate_left
  .have h10 := z0i g4 h2
   refine W.q6 rfl gv5 (W.q6 rfl gv5 (W.q6 rfl gv5 (W.q5 (.bool false) gv5 rfl (.nil ?_))))
   obtain rfl := zAa h10
   exact ⟨false, _, rfl, O, (zAf _), rfl⟩
  have h6 := z04 g4 h2
  refine W.q2 (hg := gk rfl rfl gv5 rfl) (.string p0) rfl ?_
  obtain ⟨x7, i8, h9⟩ := z00 h6
  refine W.pure (v := (.int .u8 x7)) (gk rfl rfl gv5 rfl) rfl (z98 un9 ov ov i8) (W.q3 (hg := gk rfl rfl gv5 rfl) (.bool (x7 == 45)) rfl rfl (W.q4 (.bool (x7 == 45)) gv5 rfl (.nil ?_)))
  obtain rfl := zAa h9
  exact ⟨(x7 == 45), _, rfl, O, (zAf _), rfl⟩
 rintro σ12 H13 fr14 ⟨x11, G15, rfl, O16, s17, t19⟩
 have h20 := z0b h3
 obtain ⟨q21, h22, h23⟩ := z00 h20
 refine AW.midT (fun σ' H' => ∃ (y1 : zAd) (y2 : Bool) (G' : GM), (y1, y2) = q21 /\ Ow G' H' (L) /\ GM.le G15 G' /\ σ' 3 = .string y1 /\ σ' 4 = .bool y2) ?_ ?_
 .refine .cond (b := x11) rfl t19 (fun g24 => ?_) (fun g24 => ?_)
  rotate_left
  .have h29 := z0i g24 h22
   refine .skip ?_
   obtain rfl := zAa h29
   exact ⟨p0, false, _, rfl, O16, (zAf _), ((fr14 3 rfl).trans rfl), ((fr14 4 rfl).trans rfl)⟩
  have h25 := z04 g24 h22
  refine .region (W.q2 (.string p0) ((fr14 3 rfl).trans rfl) ?_)
  obtain ⟨x26, i27, h28⟩ := z00 h25
  refine W.pv (.string x26) (zds un9 ov ov i27) (W.p1 (.string x26) (W.p1 (.bool true) (.nil ?_)))
  obtain rfl := zAa h28
  exact ⟨x26, true, _, rfl, O16, (zAf _), rfl, rfl⟩
 rintro σ32 H33 fr34 ⟨x30, x31, G35, rfl, O36, s37, t39, t40⟩
 have h41 := z40 h23
 refine .seq (.region (W.q2 _ t39 (W.p1 (.string x30) (W.p1 (.string (⟨#[50]⟩ : zAd)) (.nil (.seq ?_))))))
 refine .seq (.region (W.q2 _ t39 (W.pv (.int .i64 (x30.size : Int)) (z1f ov un9) (W.p2 (.int .i64 0) (.nil ?_)))))
 obtain ⟨q42, h43, h44⟩ := z00 h41
 refine AW.midT (fun σ' H' => ∃ (y1 : Int) (y2 : zAd) (y3 : zAd) (G' : GM), (y1, y2, y3) = q42 /\ Ow G' H' (L) /\ GM.le G35 G' /\ σ' 5 = .int .i64 y1 /\ σ' 6 = .string y2 /\ σ' 7 = .string y3) ?_ ?_
 .refine .block (AW.loop (α := Nat) (fun k' σ' H' => ∃ (y1 : Int) (y2 : zAd) (y3 : zAd) (y4 : Int) (G' : GM), z16 K x30 k' y1 y2 y3 y4 = some q42 /\ Ow G' H' (L) /\ GM.le G35 G' /\ σ' 5 = .int .i64 y1 /\ σ' 6 = .string y2 /\ σ' 7 = .string y3 /\ σ' 25 = .int .i64 y4) (fun k' => k') K ⟨1, x30, (⟨#[50]⟩ : zAd), 0, _, h43, O36, (zAf _), ((fr34 5 rfl).trans ((fr14 5 rfl).trans rfl)), rfl, rfl, rfl⟩ ?_)
  rintro k45
  rintro σ50 H51 fr52 ⟨x46, x47, x48, x49, G53, h56, O54, s55, t57, t58, t59, t60⟩
  rcases k45 with _ | k45
  .exact z07 h56
  rw [z16] at h56
  refine .seq (.region (W.q3 (.bool (decide (x49 < (x30.size : Int)))) t60 ((fr52 24 rfl).trans rfl) (.nil (.seq (.cond (b := decide (x49 < (x30.size : Int))) rfl rfl (fun g61 => ?_) (fun g61 => ?_))))))
  rotate_left
  .have h114 := z0i g61 h56
   refine .exit ?_
   obtain rfl := zAa h114
   exact ⟨x46, x47, x48, _, rfl, O54, s55, t57, t58, t59⟩
  have h62 := z04 g61 h56
  refine .skip (.seq ?_)
  obtain ⟨q63, h64, h65⟩ := z00 h62
  refine AW.midT (fun σ' H' => ∃ (y1 : Int) (y2 : zAd) (y3 : zAd) (G' : GM), (y1, y2, y3) = q63 /\ Ow G' H' (L) /\ GM.le G53 G' /\ σ' 5 = .int .i64 y1 /\ σ' 6 = .string y2 /\ σ' 7 = .string y3) ?_ ?_
  rotate_left
  .rintro σ103 H104 fr105 ⟨x100, x101, x102, G106, rfl, O107, s108, t110, t111, t112⟩
   have h113 := zfg h65
   refine .region (W.q3 (.int .i64 (z03 .i64 (x49 + 1))) ((fr105 25 rfl).trans t60) rfl (W.p2 (.int .i64 (z03 .i64 (x49 + 1))) (.nil ?_)))
   exact ⟨k45, zAg _, ⟨x100, x101, x102, z03 .i64 (x49 + 1), _, h113, O107, (zAe s55 s108), t110, t111, t112, rfl⟩⟩
  refine .block (.seq (.region (W.q2 _ t60 (W.p1 (.int .i64 x49) (.nil (.seq ?_))))))
  obtain ⟨q66, h67, h68⟩ := z00 h64
  refine AW.midT (fun σ' H' => ∃ (y1 : Bool) (G' : GM), y1 = q66 /\ Ow G' H' (L) /\ GM.le G53 G' /\ σ' 35 = .bool y1) ?_ ?_
  .refine .region (W.q2 _ ((fr52 3 rfl).trans t39) (W.p2 (.int .i64 x49) ?_))
   obtain ⟨x69, i70, h71⟩ := z00 h67
   refine W.pv (.int .u8 x69) (z98 un9 ov ov i70) (W.p3 (.bool (x69 == 47)) (W.p2 (.bool (x69 == 47)) (W.splitAt (t := 32) (b := (x69 == 47)) rfl (fun g72 gv73 => ?_) (fun g72 gv73 => ?_))))
   rotate_left
   .have h75 := z0i g72 h71
    refine W.q6 rfl gv73 (W.q6 rfl gv73 (W.q5 (.bool false) gv73 rfl (.nil ?_)))
    obtain rfl := zAa h75
    exact ⟨false, _, rfl, O54, (zAf _), rfl⟩
   have h74 := z04 g72 h71
   refine W.q2 (hg := gk rfl rfl gv73 rfl) _ t57 (W.q3 (hg := gk rfl rfl gv73 rfl) (.bool (x46 == 1)) rfl rfl (W.q4 (.bool (x46 == 1)) gv73 rfl (.nil ?_)))
   obtain rfl := zAa h74
   exact ⟨(x46 == 1), _, rfl, O54, (zAf _), rfl⟩
  rintro σ77 H78 fr79 ⟨x76, G80, rfl, O81, s82, t84⟩
  have h85 := z0b h68
  refine .cond (b := x76) rfl t84 (fun g86 => ?_) (fun g86 => ?_)
  rotate_left
  .have h99 := z0i g86 h85
   refine .skip ?_
   obtain rfl := zAa h99
   exact ⟨x46, x47, x48, _, rfl, O81, s82, ((fr79 5 rfl).trans t57), ((fr79 6 rfl).trans t58), ((fr79 7 rfl).trans t59)⟩
  have h87 := z04 g86 h85
  refine .draw2 (M := [0, 0, 3, 0, 0, 16, 56, 7, 255, 511]) mixed (by kernel_rfl) (by kernel_rfl) fun H88 N92 x89 F91 => ?_
  have O90 := O81.ext x89
  refine D2.q2 _ ((fr79 3 rfl).trans ((fr52 3 rfl).trans t39)) (D2.q2 (.int .i64 x49) ((fr79 8 rfl).trans rfl) ?_)
  obtain ⟨x93, i94, h95⟩ := z00 h87
  refine D2.pv (.string x93) (zi5 un9 ov ov i94) (D2.q2 _ ((fr79 3 rfl).trans ((fr52 3 rfl).trans t39)) (D2.q2 (.int .i64 x49) ((fr79 8 rfl).trans rfl) (D2.p3 (.int .i64 (z03 .i64 (x49 + 1))) ?_)))
  obtain ⟨x96, i97, h98⟩ := z00 h95
  refine D2.pv (.string x96) (zds un9 ov ov i97) (D2.p1 (.string x93) (D2.p1 (.string x96) (D2.p1 (.int .i64 2) (.nil ?_))))
  obtain rfl := zAa h98
  exact ⟨2, x93, x96, _, rfl, O90, s82, rfl, rfl, rfl⟩
 rintro σ118 H119 fr120 ⟨x115, x116, x117, G121, rfl, O122, s123, t125, t126, t127⟩
 have h128 := zfg h44
 refine .seq (.region (W.q2 _ t126 ?_))
 obtain ⟨x129, i130, h131⟩ := z00 h128
 refine W.ln (Lo.cP rfl (fn := Tryz.f59) (by kernel_rfl) rfl (mc rfl mn) O122 (fun L' O' => z8s K x116 O' _ i130)) ?_
 rintro v138 H139 ⟨G132, O133, s134, sm137, rfl⟩
 refine W.q2 _ t127 ?_
 obtain ⟨x140, i141, h142⟩ := z00 h131
 refine W.ln (Lo.cP rfl (fn := Tryz.f59) (by kernel_rfl) rfl (mc rfl mn) O133 (fun L' O' => z8s K x117 O' _ i141)) ?_
 rintro v149 H150 ⟨G143, O144, s145, sm148, rfl⟩
 refine W.p1 (.int .i64 x129) (W.p1 (.int .i64 x140) (.nil (.seq (.block (.seq ?_)))))
 obtain ⟨q151, h152, h153⟩ := z00 h142
 refine AW.midT (fun σ' H' => ∃ (y1 : Bool) (G' : GM), y1 = q151 /\ Ow G' H' (L) /\ GM.le G143 G' /\ σ' 48 = .bool y1) ?_ ?_
 .refine .region (W.p2 (.int .i64 x129) (W.p3 (.bool (x129 == 5)) (W.p2 (.bool (x129 == 5)) (W.splitAt (t := 51) (b := (x129 == 5)) rfl (fun g154 gv155 => ?_) (fun g154 gv155 => ?_)))))
  .have h156 := z04 g154 h152
   refine W.q6 rfl gv155 (W.q6 rfl gv155 (W.q4 (.bool true) gv155 rfl (W.p2 (.bool true) (W.q6 rfl rfl (W.q6 rfl rfl (W.skipU rfl rfl rfl rfl ?_))))))
   refine W.skipU rfl rfl rfl rfl (W.q6 rfl rfl (W.q4 (.bool true) rfl rfl (W.p1 (.bool true) (.nil ?_))))
   obtain rfl := zAa h156
   exact ⟨true, _, rfl, O144, (zAf _), rfl⟩
  have h157 := z0i g154 h152
  refine W.q2 (hg := gk rfl rfl gv155 rfl) (.int .i64 x140) rfl (W.q3 (hg := gk rfl rfl gv155 rfl) (.bool (x140 == 5)) rfl rfl (W.q5 (.bool (x140 == 5)) gv155 rfl (W.p2 (.bool (x140 == 5)) (W.splitAt (t := 55) (b := (x140 == 5)) rfl (fun g158 gv159 => ?_) (fun g158 gv159 => ?_)))))
  .have h160 := z04 g158 h157
   refine W.q6 rfl gv159 (W.q6 rfl gv159 (W.skipU rfl rfl rfl rfl (W.skipU rfl rfl rfl rfl (W.q6 rfl gv159 (W.q4 (.bool true) gv159 rfl (W.p1 (.bool true) ?_))))))
   refine .nil ?_
   obtain rfl := zAa h160
   exact ⟨true, _, rfl, O144, (zAf _), rfl⟩
  have h161 := z0i g158 h157
  refine W.q2 (hg := gk rfl rfl gv159 rfl) _ ((fr120 4 rfl).trans t40) (W.q2 (hg := gk rfl rfl gv159 rfl) (.bool x31) rfl (W.splitAt (t := 57) (b := x31) rfl (fun g162 gv163 => ?_) (fun g162 gv163 => ?_)))
  rotate_left
  .have h165 := z0i g162 h161
   refine W.q6 rfl gv163 (W.q6 rfl gv163 (W.q5 (hg := gk rfl rfl gv159 rfl) (.bool false) gv163 rfl (W.q5 (.bool false) gv159 rfl (W.p1 (.bool false) (.nil ?_)))))
   obtain rfl := zAa h165
   exact ⟨false, _, rfl, O144, (zAf _), rfl⟩
  have h164 := z04 g162 h161
  refine W.q2 (hg := gk rfl rfl gv163 rfl) _ t126 (W.pure (v := (.bool (sEq x116 (⟨#[48]⟩ : zAd)))) (gk rfl rfl gv163 rfl) rfl (z9s ov ov) (W.q4 (hg := gk rfl rfl gv159 rfl) (.bool (sEq x116 (⟨#[48]⟩ : zAd))) gv163 rfl (W.q5 (.bool (sEq x116 (⟨#[48]⟩ : zAd))) gv159 rfl (W.p1 (.bool (sEq x116 (⟨#[48]⟩ : zAd))) (.nil ?_)))))
  obtain rfl := zAa h164
  exact ⟨sEq x116 (⟨#[48]⟩ : zAd), _, rfl, O144, (zAf _), rfl⟩
 rintro σ167 H168 fr169 ⟨x166, G170, rfl, O171, s172, t174⟩
 have h175 := z0b h153
 refine .cond (b := x166) rfl t174 (fun g176 => ?_) (fun g176 => ?_)
 .have h177 := z04 g176 h175
  refine .seq (.region (W.p1 (.int .i64 5) (.nil (.ret ?_))))
  obtain rfl := zAa h177
  exact z1e kr (v1 := (.int .i64 5)) (by rfl) rt O171 (zAe s17 (zAe s37 (zAe s123 (zAe s134 (zAe s145 s172))))) rfl
 have h178 := z0i g176 h175
 refine .seq ?_
 obtain ⟨q179, h180, h181⟩ := z00 h178
 refine AW.midT (fun σ' H' => ∃ (y1 : Bool) (G' : GM), y1 = q179 /\ Ow G' H' (L) /\ GM.le G170 G' /\ σ' 62 = .bool y1) ?_ ?_
 .refine .region (W.q2 (.int .i64 x129) ((fr169 9 rfl).trans rfl) (W.p3 (.bool (x129 != 0)) (W.p2 (.bool (x129 != 0)) (W.splitAt (t := 65) (b := (x129 != 0)) rfl (fun g182 gv183 => ?_) (fun g182 gv183 => ?_)))))
  .have h184 := z04 g182 h180
   refine W.q6 rfl gv183 (W.q6 rfl gv183 (W.q4 (.bool true) gv183 rfl (W.p1 (.bool true) (.nil ?_))))
   obtain rfl := zAa h184
   exact ⟨true, _, rfl, O171, (zAf _), rfl⟩
  have h185 := z0i g182 h180
  refine W.q2 (hg := gk rfl rfl gv183 rfl) (.int .i64 x140) ((fr169 10 rfl).trans rfl) (W.q3 (hg := gk rfl rfl gv183 rfl) (.bool (x140 != 0)) rfl rfl (W.q5 (.bool (x140 != 0)) gv183 rfl (W.p1 (.bool (x140 != 0)) (.nil ?_))))
  obtain rfl := zAa h185
  exact ⟨(x140 != 0), _, rfl, O171, (zAf _), rfl⟩
 rintro σ187 H188 fr189 ⟨x186, G190, rfl, O191, s192, t194⟩
 have h195 := z0b h181
 refine .cond (b := x186) rfl t194 (fun g196 => ?_) (fun g196 => ?_)
 .have h197 := z04 g196 h195
  refine .seq (.region (W.p1 (.int .i64 2) (.nil (.ret ?_))))
  obtain rfl := zAa h197
  exact z1e kr (v1 := (.int .i64 2)) (by rfl) rt O191 (zAe s17 (zAe s37 (zAe s123 (zAe s134 (zAe s145 (zAe s172 s192)))))) rfl
 have h198 := z0i g196 h195
 refine .seq ?_
 obtain ⟨q199, h200, h201⟩ := z00 h198
 refine AW.midT (fun σ' H' => ∃ (y1 : Bool) (G' : GM), y1 = q199 /\ Ow G' H' (L) /\ GM.le G190 G' /\ σ' 69 = .bool y1) ?_ ?_
 rotate_left
 .rintro σ226 H227 fr228 ⟨x225, G229, rfl, O230, s231, t233⟩
  have h234 := z0b h201
  refine .cond (b := x225) rfl t233 (fun g235 => ?_) (fun g235 => ?_)
  .have h236 := z04 g235 h234
   refine .seq (.region (W.p1 (.int .i64 3) (.nil (.ret ?_))))
   obtain rfl := zAa h236
   exact z1e kr (v1 := (.int .i64 3)) (by rfl) rt O230 (zAe s17 (zAe s37 (zAe s123 (zAe s134 (zAe s145 (zAe s172 (zAe s192 s231))))))) rfl
  have h237 := z0i g235 h234
  refine .skip (.seq (.region (W.p1 (.int .i64 0) (.nil (.ret ?_)))))
  obtain rfl := zAa h237
  exact z1e kr (v1 := (.int .i64 0)) (by rfl) rt O230 (zAe s17 (zAe s37 (zAe s123 (zAe s134 (zAe s145 (zAe s172 (zAe s192 s231))))))) rfl
 refine .region (W.q2 _ ((fr189 5 rfl).trans ((fr169 5 rfl).trans t125)) (W.p3 (.bool (x115 == 2)) (W.p2 (.bool (x115 == 2)) (W.splitAt (t := 72) (b := (x115 == 2)) rfl (fun g202 gv203 => ?_) (fun g202 gv203 => ?_)))))
 rotate_left
 .have h224 := z0i g202 h200
  refine W.q6 rfl gv203 (W.q6 rfl gv203 (W.q6 rfl gv203 (W.skipU rfl rfl rfl rfl (W.skipU rfl rfl rfl rfl (W.q6 rfl gv203 (W.q6 rfl gv203 ?_))))))
  refine W.skipU rfl rfl rfl rfl (W.skipU rfl rfl rfl rfl (W.skipU rfl rfl rfl rfl (W.skipU rfl rfl rfl rfl (W.q6 rfl gv203 (W.q5 (.bool false) gv203 rfl (W.p1 (.bool false) ?_))))))
  refine .nil ?_
  obtain rfl := zAa h224
  exact ⟨false, _, rfl, O191, (zAf _), rfl⟩
 have h204 := z04 g202 h200
 refine W.q2 (hg := gk rfl rfl gv203 rfl) _ ((fr189 7 rfl).trans ((fr169 7 rfl).trans t127)) (W.pure (v := (.bool (sEq x117 (⟨#[48]⟩ : zAd)))) (gk rfl rfl gv203 rfl) rfl (z9s ov ov) (W.q2 (hg := gk rfl rfl gv203 rfl) (.bool (sEq x117 (⟨#[48]⟩ : zAd))) rfl (W.splitAt (t := 75) (b := sEq x117 (⟨#[48]⟩ : zAd)) rfl (fun g205 gv206 => ?_) (fun g205 gv206 => ?_))))
 .have h207 := z04 g205 h204
  refine W.q6 rfl gv206 (W.q6 rfl gv206 (W.q4 (hg := gk rfl rfl gv203 rfl) (.bool true) gv206 rfl (W.q2 (hg := gk rfl rfl gv203 rfl) (.bool true) rfl (W.q6 rfl rfl (W.q6 rfl rfl (W.q6 rfl rfl ?_))))))
  refine W.q6 rfl rfl (W.q4 (hg := gk rfl rfl gv203 rfl) (.bool true) rfl rfl (W.q4 (.bool true) gv203 rfl (W.p1 (.bool true) (.nil ?_))))
  obtain rfl := zAa h207
  exact ⟨true, _, rfl, O191, (zAf _), rfl⟩
 have h208 := z0i g205 h204
 refine W.q2 (hg := gk rfl rfl gv206 rfl) _ ((fr189 7 rfl).trans ((fr169 7 rfl).trans t127)) (W.pure (v := (.bool (sEq x117 (⟨#[49]⟩ : zAd)))) (gk rfl rfl gv206 rfl) rfl (z9s ov ov) (W.q5 (hg := gk rfl rfl gv203 rfl) (.bool (sEq x117 (⟨#[49]⟩ : zAd))) gv206 rfl (W.q2 (hg := gk rfl rfl gv203 rfl) (.bool (sEq x117 (⟨#[49]⟩ : zAd))) rfl (W.splitAt (t := 79) (b := sEq x117 (⟨#[49]⟩ : zAd)) rfl (fun g209 gv210 => ?_) (fun g209 gv210 => ?_)))))
 .have h211 := z04 g209 h208
  refine W.q6 rfl gv210 (W.q6 rfl gv210 (W.q6 rfl gv210 (W.q6 rfl gv210 (W.q4 (hg := gk rfl rfl gv203 rfl) (.bool true) gv210 rfl (W.q4 (.bool true) gv203 rfl (W.p1 (.bool true) ?_))))))
  refine .nil ?_
  obtain rfl := zAa h211
  exact ⟨true, _, rfl, O191, (zAf _), rfl⟩
 have h212 := z0i g209 h208
 refine W.q2 (hg := gk rfl rfl gv210 rfl) _ ((fr189 6 rfl).trans ((fr169 6 rfl).trans t126)) (W.q2 (hg := gk rfl rfl gv210 rfl) _ ((fr189 7 rfl).trans ((fr169 7 rfl).trans t127)) ?_)
 obtain ⟨x213, i214, h215⟩ := z00 h212
 refine W.lo (gk rfl rfl gv210 rfl) rfl (Lo.cP rfl (fn := Tryz.f60) (by kernel_rfl) rfl (mc rfl (mc rfl mn)) O191 (fun L' O' => za7 K x116 x117 O' _ i214)) ?_
 rintro v222 H223 ⟨G216, O217, s218, sm221, rfl⟩
 refine W.pure (v := (.bool (!(sEq x213 (⟨#[49]⟩ : zAd))))) (gk rfl rfl gv210 rfl) rfl (zgh ov ov) (W.q5 (hg := gk rfl rfl gv203 rfl) (.bool (!(sEq x213 (⟨#[49]⟩ : zAd)))) gv210 rfl (W.q4 (.bool (!(sEq x213 (⟨#[49]⟩ : zAd)))) gv203 rfl (W.p1 (.bool (!(sEq x213 (⟨#[49]⟩ : zAd)))) (.nil ?_))))
 obtain rfl := zAa h215
 exact ⟨(!(sEq x213 (⟨#[49]⟩ : zAd))), _, rfl, O217, s218, rfl⟩
def z1c (K : Nat) (p0 : List zAd) : Nat -> Int -> Option (Int ⊕ Unit)
  | 0, _ => none
  | k + 1, x5 => (if (decide (x5 < (p0.length : Int))) = true then ((idx p0 x5).bind fun x16 => ((z50 K x16).bind fun x20 => (if (x20 != 0) = true then some (.inl x20) else z1c K p0 k (z03 .i64 (x5 + 1))))) else some (.inr ()))
def z5d (K : Nat) (p0 : List zAd) : Option Int := (zb5 (z1c K p0 K 0) (tu1 fun a44 => some a44) (tu0 (some 0)))
theorem zbh (v0 : Value) (p0 : List zAd) (hp0 : (rSl rS).rep G [v0] p0) (O : Ow G H (L)) (r : Int) (h : z5d K p0 = some r) :
    CR Tryz.prog 58 [v0] G H (L) (fun v G' _ => v = .int .i64 r) := by
 unfold z5d at h
 refine CR.og (n := 18) (fn := Tryz.f58) (by kernel_rfl) rfl rfl fun R kr => (.seq (.region (W.p1 (.int .i64 0) (.nil (.seq (.seq ?_))))))
 refine .region (W.p2 v0 (W.pv (.int .i64 (p0.length : Int)) (z0g ov (z0c hp0) (z02 el23)) (W.p2 (.int .i64 0) (.nil ?_))))
 obtain ⟨q1, h2, h3⟩ := z2u h
 refine AW.midT (fun σ' H' => ∃  (G' : GM), (.inr ()) = q1 /\ Ow G' H' (L) /\ GM.le G G') ?_ ?_
 rotate_left
 .rintro σ36 H37 fr38 ⟨G39, rfl, O40, s41⟩
  have h43 := z60 (z8m h3)
  refine .seq (.region (W.p1 (.int .i64 0) (.nil (.ret ?_))))
  obtain rfl := zAa h43
  exact z1e kr (v1 := (.int .i64 0)) (by rfl) rt O40 s41 rfl
 refine .block (AW.loop (α := Nat) (fun k' σ' H' => ∃ (y1 : Int) (G' : GM), z1c K p0 k' y1 = some q1 /\ Ow G' H' (L) /\ GM.le G G' /\ σ' 8 = .int .i64 y1) (fun k' => k') K ⟨0, _, h2, O, (zAf _), rfl⟩ ?_)
 rintro k4
 rintro σ6 H7 fr8 ⟨x5, G9, h12, O10, s11, t13⟩
 rcases k4 with _ | k4
 .exact z07 h12
 rw [z1c] at h12
 refine .seq (.region (W.q3 (.bool (decide (x5 < (p0.length : Int)))) t13 ((fr8 7 rfl).trans rfl) (.nil (.seq (.cond (b := decide (x5 < (p0.length : Int))) rfl rfl (fun g14 => ?_) (fun g14 => ?_))))))
 rotate_left
 .have h35 := z0i g14 h12
  refine .exit ?_
  obtain rfl := zAa h35
  exact ⟨_, rfl, O10, s11⟩
 have h15 := z04 g14 h12
 refine .skip (.seq (.block (.seq (.region ?_))))
 obtain ⟨x16, i17, h18⟩ := z00 h15
 have j19 := z08 i17
 refine W.pv (z0x v0 (x5.toNat * 1)) (z1d el23 sz22 (ou ((fr8 6 rfl).trans rfl)) (ou t13) (z0c (RT.mono _ s11 hp0)) j19.1 j19.2.1) (W.load1 (v := (.string x16)) (r := []) rfl rfl ag22 (z0o rfl (At.str (At.le (At.le (z0t hp0 j19.2.2) s11 s11) (zAf _) O10.fro))) (W.p1 (.string x16) (.nil (.seq (.region (W.p2 (.string x16) ?_))))))
 obtain ⟨x20, i21, h22⟩ := z00 h18
 refine W.ln (Lo.cP rfl (fn := Tryz.f16) (by kernel_rfl) rfl (mc rfl mn) O10 (fun L' O' => zby K x16 O' _ i21)) ?_
 rintro v29 H30 ⟨G23, O24, s25, sm28, rfl⟩
 refine W.p1 (.int .i64 x20) (.nil (.seq (.region (W.p2 (.int .i64 x20) (W.p3 (.bool (x20 != 0)) (.nil ?_))))))
 refine .cond (b := (x20 != 0)) rfl rfl (fun g31 => ?_) (fun g31 => ?_)
 rotate_left
 .have h34 := z0i g31 h22
  refine .skip (.region (W.r3 (.int .i64 (z03 .i64 (x5 + 1))) t13 (W.p2 (.int .i64 (z03 .i64 (x5 + 1))) (.nil ?_))))
  exact ⟨k4, zAg _, ⟨z03 .i64 (x5 + 1), _, h34, O24, (zAe s11 s25), rfl⟩⟩
 have h32 := z04 g31 h22
 refine .seq (.region (W.p2 (.int .i64 x20) (W.p1 (.int .i64 x20) (.nil (.ret ?_)))))
 obtain rfl := zAa h32
 have h33 := z0b (z6p h3)
 obtain rfl := zAa h33
 exact z1e kr (v1 := (.int .i64 x20)) (by rfl) rt O24 (zAe s11 s25) rfl
def z51 (K : Nat) (p0 : List zAd) : Option Int := (if (decide ((p0.length : Int) > 40)) = true then some 2 else ((z5d K p0).bind fun x4 => some x4))
theorem z8t (v0 : Value) (p0 : List zAd) (hp0 : (rSl rS).rep G [v0] p0) (O : Ow G H (L)) (r : Int) (h : z51 K p0 = some r) :
    CR Tryz.prog 33 [v0] G H (L) (fun v G' _ => v = .int .i64 r) := by
 unfold z51 at h
 refine CR.og (n := 8) (fn := Tryz.f33) (by kernel_rfl) rfl rfl fun R kr => (.seq (.region (W.p1 (.int .i64 0) (.nil (.seq (.seq ?_))))))
 refine .region (W.p2 v0 (W.pv (.int .i64 (p0.length : Int)) (z0g ov (z0c hp0) (z02 el45)) (W.p3 (.bool (decide ((p0.length : Int) > 40))) (.nil (.cond (b := decide ((p0.length : Int) > 40)) rfl rfl (fun g1 => ?_) (fun g1 => ?_))))))
 .have h2 := z04 g1 h
  refine .seq (.region (W.p1 (.int .i64 2) (.nil (.ret ?_))))
  obtain rfl := zAa h2
  exact z1e kr (v1 := (.int .i64 2)) (by rfl) rt O (zAf _) rfl
 have h3 := z0i g1 h
 refine .skip (.seq (.region (W.p2 v0 ?_)))
 obtain ⟨x4, i5, h6⟩ := z00 h3
 refine W.ln (Lo.cP rfl (fn := Tryz.f58) (by kernel_rfl) rfl (mc rfl mn) O (fun L' O' => zbh K v0 p0 hp0 O' _ i5)) ?_
 rintro v13 H14 ⟨G7, O8, s9, sm12, rfl⟩
 refine W.p1 (.int .i64 x4) (.nil (.ret ?_))
 obtain rfl := zAa h6
 exact z1e kr (v1 := (.int .i64 x4)) (by rfl) rt O8 s9 rfl
def z1m (K : Nat) (p0 : List (List zAd)) : Nat -> Int -> Option (Int ⊕ Unit)
  | 0, _ => none
  | k + 1, x8 => (if (decide (x8 < (p0.length : Int))) = true then ((idx p0 x8).bind fun x24 => ((idx p0 0).bind fun x31 => (if ((x24.length : Int) != (x31.length : Int)) = true then some (.inl 3) else ((idx p0 x8).bind fun x42 => ((z51 K x42).bind fun x49 => (if (x49 != 0) = true then some (.inl x49) else z1m K p0 k (z03 .i64 (x8 + 1)))))))) else some (.inr ()))
def z42 (K : Nat) (p0 : List (List zAd)) : Option Int := (if (decide ((p0.length : Int) > 40)) = true then some 2 else (zb5 (z1m K p0 K 0) (tu1 fun a73 => some a73) (tu0 (some 0))))
theorem z9y (v0 : Value) (p0 : List (List zAd)) (hp0 : (rSl (rSl rS)).rep G [v0] p0) (O : Ow G H (L)) (r : Int) (h : z42 K p0 = some r) :
    CR Tryz.prog 30 [v0] G H (L) (fun v G' _ => v = .int .i64 r) := by
 unfold z42 at h
 refine CR.og (n := 32) (fn := Tryz.f30) (by kernel_rfl) rfl rfl fun R kr => (.seq (.region (W.p1 (.int .i64 0) (.nil (.seq (.seq ?_))))))
 refine .region (W.p2 v0 (W.pv (.int .i64 (p0.length : Int)) (z0g ov (z0c hp0) (z02 el44)) (W.p3 (.bool (decide ((p0.length : Int) > 40))) (.nil (.cond (b := decide ((p0.length : Int) > 40)) rfl rfl (fun g1 => ?_) (fun g1 => ?_))))))
 .have h2 := z04 g1 h
  refine .seq (.region (W.p1 (.int .i64 2) (.nil (.ret ?_))))
  obtain rfl := zAa h2
  exact z1e kr (v1 := (.int .i64 2)) (by rfl) rt O (zAf _) rfl
 have h3 := z0i g1 h
 refine .skip (.seq (.seq (.region (W.p2 v0 (W.pv (.int .i64 (p0.length : Int)) (z0g ov (z0c hp0) (z02 el44)) (W.p2 (.int .i64 0) ?_))))))
 refine .nil ?_
 obtain ⟨q4, h5, h6⟩ := z2u h3
 refine AW.midT (fun σ' H' => ∃  (G' : GM), (.inr ()) = q4 /\ Ow G' H' (L) /\ GM.le G G') ?_ ?_
 rotate_left
 .rintro σ65 H66 fr67 ⟨G68, rfl, O69, s70⟩
  have h72 := z60 (z8m h6)
  refine .seq (.region (W.p1 (.int .i64 0) (.nil (.ret ?_))))
  obtain rfl := zAa h72
  exact z1e kr (v1 := (.int .i64 0)) (by rfl) rt O69 s70 rfl
 refine .block (AW.loop (α := Nat) (fun k' σ' H' => ∃ (y1 : Int) (G' : GM), z1m K p0 k' y1 = some q4 /\ Ow G' H' (L) /\ GM.le G G' /\ σ' 10 = .int .i64 y1) (fun k' => k') K ⟨0, _, h5, O, (zAf _), rfl⟩ ?_)
 rintro k7
 rintro σ9 H10 fr11 ⟨x8, G12, h15, O13, s14, t16⟩
 rcases k7 with _ | k7
 .exact z07 h15
 rw [z1m] at h15
 refine .seq (.region (W.q3 (.bool (decide (x8 < (p0.length : Int)))) t16 ((fr11 9 rfl).trans rfl) (.nil (.seq (.cond (b := decide (x8 < (p0.length : Int))) rfl rfl (fun g17 => ?_) (fun g17 => ?_))))))
 rotate_left
 .have h64 := z0i g17 h15
  refine .exit ?_
  obtain rfl := zAa h64
  exact ⟨_, rfl, O13, s14⟩
 have h18 := z04 g17 h15
 refine .skip (.seq (.block (.seq (.region (W.q2 _ t16 (W.p1 (.int .i64 x8) ?_))))))
 refine .nil (.seq (.seq (.draw2 (M := [0, 0, 3, 7, 15, 0, 32, 96, 224, 511]) mixed (by kernel_rfl) (by kernel_rfl) fun H19 N23 x20 F22 => ?_)))
 have O21 := O13.ext x20
 refine D2.q2 v0 ((fr11 0 rfl).trans rfl) (D2.p2 (.int .i64 x8) ?_)
 obtain ⟨x24, i25, h26⟩ := z00 h18
 have j27 := z08 i25
 refine D2.pv (z0x v0 (x8.toNat * 1)) (z1d el44 sz45 ov ov (z0c (RT.mono _ s14 hp0)) j27.1 j27.2.1) ?_
 obtain ⟨w28, p29, f30⟩ := At.sl (At.le (z0t hp0 j27.2.2) s14 s14)
 replace p29 := PtG.le p29 O21.fro
 refine D2.load1' (v := w28) (r := []) rfl rfl ag45 (z0o rfl p29) z06 (D2.pv (.int .i64 (x24.length : Int)) (z0g ov (z0c f30) (z02 el45)) (D2.q2 v0 ((fr11 0 rfl).trans rfl) ?_))
 obtain ⟨x31, i32, h33⟩ := z00 h26
 have j34 := z08 i32
 refine D2.pv (z0x v0 (Int.toNat 0 * 1)) (z1d el44 sz45 ov ov (z0c (RT.mono _ s14 hp0)) j34.1 j34.2.1) ?_
 obtain ⟨w35, p36, f37⟩ := At.sl (At.le (z0t hp0 j34.2.2) s14 s14)
 replace p36 := PtG.le p36 O21.fro
 refine D2.load1' (v := w35) (r := []) rfl rfl ag45 (z0o rfl p36) z06 (D2.pv (.int .i64 (x31.length : Int)) (z0g ov (z0c f37) (z02 el45)) (D2.p3 (.bool ((x24.length : Int) != (x31.length : Int))) (.nil (.cond (b := ((x24.length : Int) != (x31.length : Int))) rfl rfl (fun g38 => ?_) (fun g38 => ?_)))))
 .have h39 := z04 g38 h33
  refine .seq (.region (W.p1 (.int .i64 3) (.nil (.ret ?_))))
  obtain rfl := zAa h39
  have h40 := z0b (z6p h6)
  obtain rfl := zAa h40
  exact z1e kr (v1 := (.int .i64 3)) (by rfl) rt O21 s14 rfl
 have h41 := z0i g38 h33
 refine .skip (.seq (.region (W.q2 v0 ((fr11 0 rfl).trans rfl) (W.p2 (.int .i64 x8) ?_))))
 obtain ⟨x42, i43, h44⟩ := z00 h41
 have j45 := z08 i43
 refine W.pv (z0x v0 (x8.toNat * 1)) (z1d el44 sz45 ov ov (z0c (RT.mono _ s14 hp0)) j45.1 j45.2.1) ?_
 obtain ⟨w46, p47, f48⟩ := At.sl (At.le (z0t hp0 j45.2.2) s14 s14)
 replace p47 := PtG.le p47 O21.fro
 refine W.load1 (v := w46) (r := []) rfl rfl ag45 (z0o rfl p47) ?_
 obtain ⟨x49, i50, h51⟩ := z00 h44
 refine W.ln (Lo.cP rfl (fn := Tryz.f33) (by kernel_rfl) rfl (mc rfl mn) O21 (fun L' O' => z8t K w46 x42 f48 O' _ i50)) ?_
 rintro v58 H59 ⟨G52, O53, s54, sm57, rfl⟩
 refine W.p1 (.int .i64 x49) (.nil (.seq (.region (W.p2 (.int .i64 x49) (W.p3 (.bool (x49 != 0)) (.nil ?_))))))
 refine .cond (b := (x49 != 0)) rfl rfl (fun g60 => ?_) (fun g60 => ?_)
 rotate_left
 .have h63 := z0i g60 h51
  refine .skip (.region (W.r3 (.int .i64 (z03 .i64 (x8 + 1))) t16 (W.p2 (.int .i64 (z03 .i64 (x8 + 1))) (.nil ?_))))
  exact ⟨k7, zAg _, ⟨z03 .i64 (x8 + 1), _, h63, O53, (zAe s14 s54), rfl⟩⟩
 have h61 := z04 g60 h51
 refine .seq (.region (W.p2 (.int .i64 x49) (W.p1 (.int .i64 x49) (.nil (.ret ?_)))))
 obtain rfl := zAa h61
 have h62 := z0b (z6p h6)
 obtain rfl := zAa h62
 exact z1e kr (v1 := (.int .i64 x49)) (by rfl) rt O53 (zAe s14 s54) rfl
def z3b (K : Nat) (p0 : List Int) : Nat -> Int -> Option (Int ⊕ Unit)
  | 0, _ => none
  | k + 1, x5 => (if (decide (x5 < (p0.length : Int))) = true then ((idx p0 x5).bind fun x16 => (if (x16 != 0) = true then some (.inl x16) else z3b K p0 k (z03 .i64 (x5 + 1)))) else some (.inr ()))
def z52 (K : Nat) (p0 : List Int) : Option Int := (zb5 (z3b K p0 K 0) (tu1 fun a33 => some a33) (tu0 (some 0)))
theorem zd7 (v0 : Value) (p0 : List Int) (hp0 : (rSl (rI .i64)).rep G [v0] p0) (O : Ow G H (L)) (r : Int) (h : z52 K p0 = some r) :
    CR Tryz.prog 18 [v0] G H (L) (fun v G' _ => v = .int .i64 r) := by
 unfold z52 at h
 refine CR.og (n := 15) (fn := Tryz.f18) (by kernel_rfl) rfl rfl fun R kr => (.seq (.region (W.p1 (.int .i64 0) (.nil (.seq (.seq ?_))))))
 refine .region (W.p2 v0 (W.pv (.int .i64 (p0.length : Int)) (z0g ov (z0c hp0) (z02 el91)) (W.p2 (.int .i64 0) (.nil ?_))))
 obtain ⟨q1, h2, h3⟩ := z2u h
 refine AW.midT (fun σ' H' => ∃  (G' : GM), (.inr ()) = q1 /\ Ow G' H' (L) /\ GM.le G G') ?_ ?_
 rotate_left
 .rintro σ25 H26 fr27 ⟨G28, rfl, O29, s30⟩
  have h32 := z60 (z8m h3)
  refine .seq (.region (W.p1 (.int .i64 0) (.nil (.ret ?_))))
  obtain rfl := zAa h32
  exact z1e kr (v1 := (.int .i64 0)) (by rfl) rt O29 s30 rfl
 refine .block (AW.loop (α := Nat) (fun k' σ' H' => ∃ (y1 : Int) (G' : GM), z3b K p0 k' y1 = some q1 /\ Ow G' H' (L) /\ GM.le G G' /\ σ' 7 = .int .i64 y1) (fun k' => k') K ⟨0, _, h2, O, (zAf _), rfl⟩ ?_)
 rintro k4
 rintro σ6 H7 fr8 ⟨x5, G9, h12, O10, s11, t13⟩
 rcases k4 with _ | k4
 .exact z07 h12
 rw [z3b] at h12
 refine .seq (.region (W.q3 (.bool (decide (x5 < (p0.length : Int)))) t13 ((fr8 6 rfl).trans rfl) (.nil (.seq (.cond (b := decide (x5 < (p0.length : Int))) rfl rfl (fun g14 => ?_) (fun g14 => ?_))))))
 rotate_left
 .have h24 := z0i g14 h12
  refine .exit ?_
  obtain rfl := zAa h24
  exact ⟨_, rfl, O10, s11⟩
 have h15 := z04 g14 h12
 refine .skip (.seq (.block (.seq (.region ?_))))
 obtain ⟨x16, i17, h18⟩ := z00 h15
 have j19 := z08 i17
 refine W.pv (z0x v0 (x5.toNat * 1)) (z1d el91 sz28 (ou ((fr8 5 rfl).trans rfl)) (ou t13) (z0c (RT.mono _ s11 hp0)) j19.1 j19.2.1) (W.load1 (v := (.int .i64 x16)) (r := []) rfl rfl ag28 (z0o rfl (At.int (At.le (At.le (z0t hp0 j19.2.2) s11 s11) (zAf _) O10.fro))) (W.p1 (.int .i64 x16) (.nil (.seq (.region (W.p2 (.int .i64 x16) ?_))))))
 refine W.p3 (.bool (x16 != 0)) (.nil (.cond (b := (x16 != 0)) rfl rfl (fun g20 => ?_) (fun g20 => ?_)))
 rotate_left
 .have h23 := z0i g20 h18
  refine .skip (.region (W.r3 (.int .i64 (z03 .i64 (x5 + 1))) t13 (W.p2 (.int .i64 (z03 .i64 (x5 + 1))) (.nil ?_))))
  exact ⟨k4, zAg _, ⟨z03 .i64 (x5 + 1), _, h23, O10, s11, rfl⟩⟩
 have h21 := z04 g20 h18
 refine .seq (.region (W.p2 (.int .i64 x16) (W.p1 (.int .i64 x16) (.nil (.ret ?_)))))
 obtain rfl := zAa h21
 have h22 := z0b (z6p h3)
 obtain rfl := zAa h22
 exact z1e kr (v1 := (.int .i64 x16)) (by rfl) rt O10 s11 rfl
def z09 (K : Nat) (p0 : List zAd) (p1 : zAd -> Option Bool) : Nat -> Int -> Option (Int ⊕ Unit)
  | 0, _ => none
  | k + 1, x5 => (if (decide (x5 < (p0.length : Int))) = true then ((idx p0 x5).bind fun x16 => ((p1 x16).bind fun x20 => (if x20 = true then some (.inl x5) else z09 K p0 p1 k (z03 .i64 (x5 + 1))))) else some (.inr ()))
def z0q (K : Nat) (p0 : List zAd) (p1 : zAd -> Option Bool) : Option Int := (zb5 (z09 K p0 p1 K 0) (tu1 fun a42 => some a42) (tu0 (some (-1))))
theorem z43 (v0 : Value) (p0 : List zAd) (hp0 : (rSl rS).rep G [v0] p0) (v1 : Value) (p1 : zAd -> Option Bool) (hp1 : FnOk Tryz.prog G v1 (fun _ vs (x : (zAd)) => vs = [.string x]) (fun _ v (rr : (Bool)) => v = .bool rr) p1) (O : Ow G H (L)) (r : Int) (h : z0q K p0 p1 = some r) :
    CR Tryz.prog 143 [v0, v1] G H (L) (fun v G' _ => v = .int .i64 r) := by
 unfold z0q at h
 refine CR.og (n := 19) (fn := Tryz.f143) (by kernel_rfl) rfl rfl fun R kr => (.seq (.region (W.p1 (.int .i64 0) (.nil (.seq (.seq ?_))))))
 refine .region (W.p2 v0 (W.pv (.int .i64 (p0.length : Int)) (z0g ov (z0c hp0) (z02 el45)) (W.p2 (.int .i64 0) (.nil ?_))))
 obtain ⟨q1, h2, h3⟩ := z2u h
 refine AW.midT (fun σ' H' => ∃  (G' : GM), (.inr ()) = q1 /\ Ow G' H' (L) /\ GM.le G G') ?_ ?_
 rotate_left
 .rintro σ34 H35 fr36 ⟨G37, rfl, O38, s39⟩
  have h41 := z60 (z8m h3)
  refine .seq (.region (W.p1 (.int .i64 (-1)) (.nil (.ret ?_))))
  obtain rfl := zAa h41
  exact z1e kr (v1 := (.int .i64 (-1))) (by rfl) rt O38 s39 rfl
 refine .block (AW.loop (α := Nat) (fun k' σ' H' => ∃ (y1 : Int) (G' : GM), z09 K p0 p1 k' y1 = some q1 /\ Ow G' H' (L) /\ GM.le G G' /\ σ' 8 = .int .i64 y1) (fun k' => k') K ⟨0, _, h2, O, (zAf _), rfl⟩ ?_)
 rintro k4
 rintro σ6 H7 fr8 ⟨x5, G9, h12, O10, s11, t13⟩
 rcases k4 with _ | k4
 .exact z07 h12
 rw [z09] at h12
 refine .seq (.region (W.q3 (.bool (decide (x5 < (p0.length : Int)))) t13 ((fr8 7 rfl).trans rfl) (.nil (.seq (.cond (b := decide (x5 < (p0.length : Int))) rfl rfl (fun g14 => ?_) (fun g14 => ?_))))))
 rotate_left
 .have h33 := z0i g14 h12
  refine .exit ?_
  obtain rfl := zAa h33
  exact ⟨_, rfl, O10, s11⟩
 have h15 := z04 g14 h12
 refine .skip (.seq (.block (.seq (.region (W.q2 _ t13 (W.p1 (.int .i64 x5) ?_))))))
 refine .nil (.seq (.region (W.q2 v1 ((fr8 1 rfl).trans rfl) (W.q2 v0 ((fr8 0 rfl).trans rfl) (W.p2 (.int .i64 x5) ?_)))))
 obtain ⟨x16, i17, h18⟩ := z00 h15
 have j19 := z08 i17
 refine W.pv (z0x v0 (x5.toNat * 1)) (z1d el45 sz22 ov ov (z0c (RT.mono _ s11 hp0)) j19.1 j19.2.1) (W.load1 (v := (.string x16)) (r := []) rfl rfl ag22 (z0o rfl (At.str (At.le (At.le (z0t hp0 j19.2.2) s11 s11) (zAf _) O10.fro))) ?_)
 obtain ⟨x20, i21, h22⟩ := z00 h18
 refine W.ln (Lo.callF (x0 := x16) rfl rfl (FnOk.le hp1 s11) (mc rfl mn) rfl i21 O10) ?_
 rintro v27 H28 ⟨G23, O24, s25, sm26, rfl⟩
 refine .nil (.cond (b := x20) rfl rfl (fun g29 => ?_) (fun g29 => ?_))
 rotate_left
 .have h32 := z0i g29 h22
  refine .skip (.region (W.r3 (.int .i64 (z03 .i64 (x5 + 1))) t13 (W.p2 (.int .i64 (z03 .i64 (x5 + 1))) (.nil ?_))))
  exact ⟨k4, zAg _, ⟨z03 .i64 (x5 + 1), _, h32, O24, (zAe s11 s25), rfl⟩⟩
 have h30 := z04 g29 h22
 refine .seq (.region (W.p2 (.int .i64 x5) (W.p1 (.int .i64 x5) (.nil (.ret ?_)))))
 obtain rfl := zAa h30
 have h31 := z0b (z6p h3)
 obtain rfl := zAa h31
 exact z1e kr (v1 := (.int .i64 x5)) (by rfl) rt O24 (zAe s11 s25) rfl
def z0k (K : Nat) (p0 : List zAd) (p1 : zAd -> Option Bool) : Option Bool := ((z0q K p0 p1).bind fun x1 => some (decide (x1 >= 0)))
theorem z3m (v0 : Value) (p0 : List zAd) (hp0 : (rSl rS).rep G [v0] p0) (v1 : Value) (p1 : zAd -> Option Bool) (hp1 : FnOk Tryz.prog G v1 (fun _ vs (x : (zAd)) => vs = [.string x]) (fun _ v (rr : (Bool)) => v = .bool rr) p1) (O : Ow G H (L)) (r : Bool) (h : z0k K p0 p1 = some r) :
    CR Tryz.prog 87 [v0, v1] G H (L) (fun v G' _ => v = .bool r) := by
 unfold z0k at h
 refine CR.og (n := 9) (fn := Tryz.f87) (by kernel_rfl) rfl rfl fun R kr => (.seq (.region (W.p1 (.bool false) (.nil (.seq (.region ?_))))))
 refine W.p2 v0 (W.p2 v1 ?_)
 obtain ⟨x1, i2, h3⟩ := z00 h
 refine W.ln (Lo.cP rfl (fn := Tryz.f143) (by kernel_rfl) rfl (mc rfl (mc rfl mn)) O (fun L' O' => z43 K v0 p0 hp0 v1 p1 hp1 O' _ i2)) ?_
 rintro v10 H11 ⟨G4, O5, s6, sm9, rfl⟩
 refine W.p3 (.bool (decide (x1 >= 0))) (W.p1 (.bool (decide (x1 >= 0))) (.nil (.ret ?_)))
 obtain rfl := zAa h3
 exact z1e kr (v1 := (.bool (decide (x1 >= 0)))) (by rfl) rt O5 s6 rfl
def z65 (K : Nat) (p0 : zAd) : Option Bool := some (decide ((p0.size : Int) > 12))
theorem zbz (p0 : zAd) (O : Ow G H (L)) (r : Bool) (h : z65 K p0 = some r) :
    CR Tryz.prog 88 [(.string p0)] G H (L) (fun v G' _ => v = .bool r) := by
 unfold z65 at h
 refine CR.og (n := 6) (fn := Tryz.f88) (by kernel_rfl) rfl rfl fun R kr => (.seq (.region (W.p1 (.bool false) (.nil (.seq (.region ?_))))))
 refine W.p2 (.string p0) (W.pv (.int .i64 (p0.size : Int)) (z1f ov un22) (W.p3 (.bool (decide ((p0.size : Int) > 12))) (W.p1 (.bool (decide ((p0.size : Int) > 12))) (.nil (.ret ?_)))))
 obtain rfl := zAa h
 exact z1e kr (v1 := (.bool (decide ((p0.size : Int) > 12)))) (by rfl) rt O (zAf _) rfl
def z33 (K : Nat) (p0 : Int) (x16 : List (List zAd)) : Nat -> Int -> Option (Bool ⊕ Unit)
  | 0, _ => none
  | k + 1, x31 => (if (decide (x31 < (x16.length : Int))) = true then ((idx x16 x31).bind fun x42 => (Option.bind ((if (decide ((x42.length : Int) > p0)) = true then some true else ((z0k K x42 (fun x => z65 K x)).bind fun x56 => some x56))) (tu1 fun x67 => (if x67 = true then some (.inl true) else z33 K p0 x16 k (z03 .i64 (x31 + 1)))))) else some (.inr ()))
def z3n (K : Nat) (p0 : Int) (p1 : List (List (List zAd))) : Nat -> Int -> Option (Bool ⊕ Unit)
  | 0, _ => none
  | k + 1, x5 => (if (decide (x5 < (p1.length : Int))) = true then ((idx p1 x5).bind fun x16 => (if (decide ((x16.length : Int) > p0)) = true then some (.inl true) else (zb5 (z33 K p0 x16 K 0) (tu1 fun a91 => some (.inl a91)) (tu0 (z3n K p0 p1 k (z03 .i64 (x5 + 1))))))) else some (.inr ()))
def z73 (K : Nat) (p0 : Int) (p1 : List (List (List zAd))) : Option Bool := (zb5 (z3n K p0 p1 K 0) (tu1 fun a101 => some a101) (tu0 (some false)))
theorem zdv (p0 : Int) (v1 : Value) (p1 : List (List (List zAd))) (hp1 : (rSl (rSl (rSl rS))).rep G [v1] p1) (O : Ow G H (L)) (r : Bool) (h : z73 K p0 p1 = some r) :
    CR Tryz.prog 32 [(.int .i64 p0), v1] G H (L) (fun v G' _ => v = .bool r) := by
 unfold z73 at h
 refine CR.og (n := 35) (fn := Tryz.f32) (by kernel_rfl) rfl rfl fun R kr => (.seq (.region (W.p1 (.bool false) (.nil (.seq (.seq ?_))))))
 refine .region (W.p2 v1 (W.pv (.int .i64 (p1.length : Int)) (z0g ov (z0c hp1) (z02 zq0)) (W.p2 (.int .i64 0) (.nil ?_))))
 obtain ⟨q1, h2, h3⟩ := z2u h
 refine AW.midT (fun σ' H' => ∃  (G' : GM), (.inr ()) = q1 /\ Ow G' H' (L) /\ GM.le G G') ?_ ?_
 rotate_left
 .rintro σ93 H94 fr95 ⟨G96, rfl, O97, s98⟩
  have h100 := z60 (z8m h3)
  refine .seq (.region (W.p1 (.bool false) (.nil (.ret ?_))))
  obtain rfl := zAa h100
  exact z1e kr (v1 := (.bool false)) (by rfl) rt O97 s98 rfl
 refine .block (AW.loop (α := Nat) (fun k' σ' H' => ∃ (y1 : Int) (G' : GM), z3n K p0 p1 k' y1 = some q1 /\ Ow G' H' (L) /\ GM.le G G' /\ σ' 11 = .int .i64 y1) (fun k' => k') K ⟨0, _, h2, O, (zAf _), rfl⟩ ?_)
 rintro k4
 rintro σ6 H7 fr8 ⟨x5, G9, h12, O10, s11, t13⟩
 rcases k4 with _ | k4
 .exact z07 h12
 rw [z3n] at h12
 refine .seq (.region (W.q3 (.bool (decide (x5 < (p1.length : Int)))) t13 ((fr8 10 rfl).trans rfl) (.nil (.seq (.cond (b := decide (x5 < (p1.length : Int))) rfl rfl (fun g14 => ?_) (fun g14 => ?_))))))
 rotate_left
 .have h92 := z0i g14 h12
  refine .exit ?_
  obtain rfl := zAa h92
  exact ⟨_, rfl, O10, s11⟩
 have h15 := z04 g14 h12
 refine .skip (.seq (.block (.seq (.region ?_))))
 obtain ⟨x16, i17, h18⟩ := z00 h15
 have j19 := z08 i17
 refine W.pv (z0x v1 (x5.toNat * 1)) (z1d zq0 sz44 (ou ((fr8 9 rfl).trans rfl)) (ou t13) (z0c (RT.mono _ s11 hp1)) j19.1 j19.2.1) ?_
 obtain ⟨w20, p21, f22⟩ := At.sl (At.le (z0t hp1 j19.2.2) s11 s11)
 replace p21 := PtG.le p21 O10.fro
 refine W.load1 (v := w20) (r := []) rfl rfl ag44 (z0o rfl p21) (W.p1 w20 (.nil (.seq (.seq (.region (W.p2 w20 ?_))))))
 refine W.pv (.int .i64 (x16.length : Int)) (z0g ov (z0c f22) (z02 el44)) (W.q2 (.int .i64 p0) ((fr8 0 rfl).trans rfl) (W.p3 (.bool (decide ((x16.length : Int) > p0))) (.nil (.cond (b := decide ((x16.length : Int) > p0)) rfl rfl (fun g23 => ?_) (fun g23 => ?_)))))
 .have h24 := z04 g23 h18
  refine .seq (.region (W.p1 (.bool true) (.nil (.ret ?_))))
  obtain rfl := zAa h24
  have h25 := z0b (z6p h3)
  obtain rfl := zAa h25
  exact z1e kr (v1 := (.bool true)) (by rfl) rt O10 s11 rfl
 have h26 := z0i g23 h18
 refine .skip (.seq (.region (W.p2 w20 (W.pv (.int .i64 (x16.length : Int)) (z0g ov (z0c f22) (z02 el44)) (W.p2 (.int .i64 0) (.nil ?_))))))
 obtain ⟨q27, h28, h29⟩ := z2u h26
 refine AW.midT (fun σ' H' => ∃  (G' : GM), (.inr ()) = q27 /\ Ow G' H' (L) /\ GM.le G9 G') ?_ ?_
 rotate_left
 .rintro σ83 H84 fr85 ⟨G86, rfl, O87, s88⟩
  have h90 := z60 (z8m h29)
  refine .region (W.q3 (.int .i64 (z03 .i64 (x5 + 1))) ((fr85 11 rfl).trans t13) rfl (W.p2 (.int .i64 (z03 .i64 (x5 + 1))) (.nil ?_)))
  exact ⟨k4, zAg _, ⟨z03 .i64 (x5 + 1), _, h90, O87, (zAe s11 s88), rfl⟩⟩
 refine .block (AW.loop (α := Nat) (fun k' σ' H' => ∃ (y1 : Int) (G' : GM), z33 K p0 x16 k' y1 = some q27 /\ Ow G' H' (L) /\ GM.le G9 G' /\ σ' 21 = .int .i64 y1) (fun k' => k') K ⟨0, _, h28, O10, (zAf _), rfl⟩ ?_)
 rintro k30
 rintro σ32 H33 fr34 ⟨x31, G35, h38, O36, s37, t39⟩
 rcases k30 with _ | k30
 .exact z07 h38
 rw [z33] at h38
 refine .seq (.region (W.q3 (.bool (decide (x31 < (x16.length : Int)))) t39 ((fr34 20 rfl).trans rfl) (.nil (.seq (.cond (b := decide (x31 < (x16.length : Int))) rfl rfl (fun g40 => ?_) (fun g40 => ?_))))))
 rotate_left
 .have h82 := z0i g40 h38
  refine .exit ?_
  obtain rfl := zAa h82
  exact ⟨_, rfl, O36, s37⟩
 have h41 := z04 g40 h38
 refine .skip (.seq (.block (.seq (.region ?_))))
 obtain ⟨x42, i43, h44⟩ := z00 h41
 have j45 := z08 i43
 refine W.pv (z0x w20 (x31.toNat * 1)) (z1d el44 sz45 (ou ((fr34 19 rfl).trans rfl)) (ou t39) (z0c (RT.mono _ s37 f22)) j45.1 j45.2.1) ?_
 obtain ⟨w46, p47, f48⟩ := At.sl (At.le (z0t f22 j45.2.2) s37 s37)
 replace p47 := PtG.le p47 O36.fro
 refine W.load1 (v := w46) (r := []) rfl rfl ag45 (z0o rfl p47) (W.p1 w46 (.nil (.seq ?_)))
 obtain ⟨q49, h50, h51⟩ := z00 h44
 refine AW.midT (fun σ' H' => ∃ (y1 : Bool) (G' : GM), y1 = q49 /\ Ow G' H' (L) /\ GM.le G35 G' /\ σ' 32 = .bool y1) ?_ ?_
 rotate_left
 .rintro σ68 H69 fr70 ⟨x67, G71, rfl, O72, s73, t75⟩
  have h76 := z0b h51
  refine .cond (b := x67) rfl t75 (fun g77 => ?_) (fun g77 => ?_)
  rotate_left
  .have h81 := z0i g77 h76
   refine .skip (.region (W.q3 (.int .i64 (z03 .i64 (x31 + 1))) ((fr70 21 rfl).trans t39) rfl (W.p2 (.int .i64 (z03 .i64 (x31 + 1))) (.nil ?_))))
   exact ⟨k30, zAg _, ⟨z03 .i64 (x31 + 1), _, h81, O72, (zAe s37 s73), rfl⟩⟩
  have h78 := z04 g77 h76
  refine .seq (.region (W.p1 (.bool true) (.nil (.ret ?_))))
  obtain rfl := zAa h78
  have h79 := z0b (z6p h29)
  obtain rfl := zAa h79
  have h80 := z0b (z6p h3)
  obtain rfl := zAa h80
  exact z1e kr (v1 := (.bool true)) (by rfl) rt O72 (zAe s11 (zAe s37 s73)) rfl
 refine .region (W.p2 w46 (W.pv (.int .i64 (x42.length : Int)) (z0g ov (z0c f48) (z02 el45)) (W.q2 (.int .i64 p0) ((fr34 0 rfl).trans ((fr8 0 rfl).trans rfl)) (W.p3 (.bool (decide ((x42.length : Int) > p0))) (W.p2 (.bool (decide ((x42.length : Int) > p0))) (W.splitAt (t := 29) (b := decide ((x42.length : Int) > p0)) rfl (fun g52 gv53 => ?_) (fun g52 gv53 => ?_)))))))
 .have h54 := z04 g52 h50
  refine W.q6 rfl gv53 (W.q6 rfl gv53 (W.q4 (.bool true) gv53 rfl (.nil ?_)))
  obtain rfl := zAa h54
  exact ⟨true, _, rfl, O36, (zAf _), rfl⟩
 have h55 := z0i g52 h50
 refine W.q2 (hg := gk rfl rfl gv53 rfl) w46 rfl ?_
 obtain ⟨x56, i57, h58⟩ := z00 h55
 refine W.lo (gk rfl rfl gv53 rfl) rfl (Lo.cP rfl (fn := Tryz.f87) (by kernel_rfl) rfl (mc rfl (mc rfl mn)) O36 (fun L' O' => z3m K w46 x42 f48 (.func (.func 88) #[] #[]) (fun x => z65 K x) ⟨88, _, _, Tryz.f88, rfl, by kernel_rfl, rfl, fun G1 H L vs x r hG O hA hF => by obtain rfl := hA; exact zbz K x O _ hF⟩ O' _ i57)) ?_
 rintro v65 H66 ⟨G59, O60, s61, sm64, rfl⟩
 refine W.q5 (.bool x56) gv53 rfl (.nil ?_)
 obtain rfl := zAa h58
 exact ⟨x56, _, rfl, O60, s61, rfl⟩
def z9e (K : Nat) (p0 : List (List zAd)) : Option Int := (if (decide ((p0.length : Int) > 0)) = true then ((idx p0 0).bind fun x3 => some (x3.length : Int)) else some 0)
theorem zep (v0 : Value) (p0 : List (List zAd)) (hp0 : (rSl (rSl rS)).rep G [v0] p0) (O : Ow G H (L)) (r : Int) (h : z9e K p0 = some r) :
    CR Tryz.prog 31 [v0] G H (L) (fun v G' _ => v = .int .i64 r) := by
 unfold z9e at h
 refine CR.og (n := 10) (fn := Tryz.f31) (by kernel_rfl) rfl rfl fun R kr => (.seq (.region (W.p1 (.int .i64 0) (.nil (.seq (.seq ?_))))))
 refine .region (W.p2 v0 (W.pv (.int .i64 (p0.length : Int)) (z0g ov (z0c hp0) (z02 el44)) (W.p3 (.bool (decide ((p0.length : Int) > 0))) (.nil (.cond (b := decide ((p0.length : Int) > 0)) rfl rfl (fun g1 => ?_) (fun g1 => ?_))))))
 rotate_left
 .have h10 := z0i g1 h
  refine .skip (.seq (.region (W.p1 (.int .i64 0) (.nil (.ret ?_)))))
  obtain rfl := zAa h10
  exact z1e kr (v1 := (.int .i64 0)) (by rfl) rt O (zAf _) rfl
 have h2 := z04 g1 h
 refine .seq (.region (W.p2 v0 ?_))
 obtain ⟨x3, i4, h5⟩ := z00 h2
 have j6 := z08 i4
 refine W.pv (z0x v0 (Int.toNat 0 * 1)) (z1d el44 sz45 ov ov (z0c hp0) j6.1 j6.2.1) ?_
 obtain ⟨w7, p8, f9⟩ := At.sl (z0t hp0 j6.2.2)
 replace p8 := PtG.le p8 O.fro
 refine W.load1 (v := w7) (r := []) rfl rfl ag45 (z0o rfl p8) (W.pv (.int .i64 (x3.length : Int)) (z0g ov (z0c f9) (z02 el45)) (W.p1 (.int .i64 (x3.length : Int)) (.nil (.ret ?_))))
 obtain rfl := zAa h5
 exact z1e kr (v1 := (.int .i64 (x3.length : Int))) (by rfl) rt O (zAf _) rfl
def z3c (K : Nat) (x1 : Int) (x13 : zAd) : Nat -> Int -> Option ((Bool × zAd × zAd) ⊕ Unit)
  | 0, _ => none
  | k + 1, x27 => (if (decide (x27 < (x13.size : Int))) = true then ((bidx x13 x27).bind fun x38 => (if (x38 == 47) = true then ((ssl x13 0 x27).bind fun x48 => ((ssl x13 (z03 .i64 (x27 + 1)) (x13.size : Int)).bind fun x51 => some (.inl ((x1 == 45), x48, x51)))) else z3c K x1 x13 k (z03 .i64 (x27 + 1)))) else some (.inr ()))
def z45 (K : Nat) (p0 : zAd) : Option (Bool × zAd × zAd) := ((bidx p0 0).bind fun x1 => (Option.bind ((if (x1 == 45) = true then ((ssl p0 1 (p0.size : Int)).bind fun x9 => some x9) else some p0)) (tu1 fun x13 => (zb5 (z3c K x1 x13 K 0) (tu3 fun a65 a66 a67 => some (a65, a66, a67)) (tu0 (some ((x1 == 45), x13, (⟨#[49]⟩ : zAd))))))))
theorem z4a (p0 : zAd) (O : Ow G H (L)) (r : Bool × zAd × zAd) (h : z45 K p0 = some r) :
    CR Tryz.prog 61 [(.string p0)] G H (L) (fun v G' _ => v = .tuple #[.bool r.1, .string r.2.1, .string r.2.2]) := by
 unfold z45 at h
 refine CR.og (n := 35) (fn := Tryz.f61) (by kernel_rfl) rfl rfl fun R kr => (.seq (.region (W.p1 (.bool false) (W.p1 (.string (⟨#[]⟩ : zAd)) (W.p1 (.string (⟨#[]⟩ : zAd)) (.nil ?_))))))
 refine .seq (.region (W.p2 (.string p0) (W.p1 (.string p0) (.nil (.seq (.region ?_))))))
 refine W.p2 (.string p0) ?_
 obtain ⟨x1, i2, h3⟩ := z00 h
 refine W.pv (.int .u8 x1) (z98 un9 ov ov i2) (W.p3 (.bool (x1 == 45)) (W.p1 (.bool (x1 == 45)) (.nil (.seq (.seq (.region ?_))))))
 refine W.p2 (.bool (x1 == 45)) (.nil ?_)
 obtain ⟨q4, h5, h6⟩ := z00 h3
 refine AW.midT (fun σ' H' => ∃ (y1 : zAd) (G' : GM), y1 = q4 /\ Ow G' H' (L) /\ GM.le G G' /\ σ' 5 = .string y1) ?_ ?_
 .refine .cond (b := (x1 == 45)) rfl rfl (fun g7 => ?_) (fun g7 => ?_)
  rotate_left
  .have h12 := z0i g7 h5
   refine .skip ?_
   obtain rfl := zAa h12
   exact ⟨p0, _, rfl, O, (zAf _), rfl⟩
  have h8 := z04 g7 h5
  refine .region (W.p2 (.string p0) ?_)
  obtain ⟨x9, i10, h11⟩ := z00 h8
  refine W.pv (.string x9) (zds un9 ov ov i10) (W.p1 (.string x9) (.nil ?_))
  obtain rfl := zAa h11
  exact ⟨x9, _, rfl, O, (zAf _), rfl⟩
 rintro σ14 H15 fr16 ⟨x13, G17, rfl, O18, s19, t21⟩
 have h22 := z0b h6
 refine .seq (.seq (.region (W.q2 _ t21 (W.pv (.int .i64 (x13.size : Int)) (z1f ov un9) (W.p2 (.int .i64 0) (.nil ?_))))))
 obtain ⟨q23, h24, h25⟩ := z2u h22
 refine AW.midT (fun σ' H' => ∃  (G' : GM), (.inr ()) = q23 /\ Ow G' H' (L) /\ GM.le G17 G') ?_ ?_
 rotate_left
 .rintro σ57 H58 fr59 ⟨G60, rfl, O61, s62⟩
  have h64 := z60 (z8m h25)
  refine .seq (.region (W.q2 (.bool (x1 == 45)) ((fr59 6 rfl).trans ((fr16 6 rfl).trans rfl)) (W.q2 _ ((fr59 5 rfl).trans t21) (W.p1 (.bool (x1 == 45)) (W.p1 (.string x13) (W.p1 (.string (⟨#[49]⟩ : zAd)) ?_))))))
  refine .nil (.ret ?_)
  obtain rfl := zAa h64
  exact znz kr (v1 := (.bool (x1 == 45))) (v2 := (.string x13)) (v3 := (.string (⟨#[49]⟩ : zAd))) (by rfl) rt rt rt O61 (zAe s19 s62) rfl
 refine .block (AW.loop (α := Nat) (fun k' σ' H' => ∃ (y1 : Int) (G' : GM), z3c K x1 x13 k' y1 = some q23 /\ Ow G' H' (L) /\ GM.le G17 G' /\ σ' 17 = .int .i64 y1) (fun k' => k') K ⟨0, _, h24, O18, (zAf _), rfl⟩ ?_)
 rintro k26
 rintro σ28 H29 fr30 ⟨x27, G31, h34, O32, s33, t35⟩
 rcases k26 with _ | k26
 .exact z07 h34
 rw [z3c] at h34
 refine .seq (.region (W.q3 (.bool (decide (x27 < (x13.size : Int)))) t35 ((fr30 16 rfl).trans rfl) (.nil (.seq (.cond (b := decide (x27 < (x13.size : Int))) rfl rfl (fun g36 => ?_) (fun g36 => ?_))))))
 rotate_left
 .have h56 := z0i g36 h34
  refine .exit ?_
  obtain rfl := zAa h56
  exact ⟨_, rfl, O32, s33⟩
 have h37 := z04 g36 h34
 refine .skip (.seq (.block (.seq (.region (W.q2 _ t35 (W.p1 (.int .i64 x27) ?_))))))
 refine .nil (.seq (.region (W.q2 _ ((fr30 5 rfl).trans t21) (W.p2 (.int .i64 x27) ?_))))
 obtain ⟨x38, i39, h40⟩ := z00 h37
 refine W.pv (.int .u8 x38) (z98 un9 ov ov i39) (W.p3 (.bool (x38 == 47)) (.nil (.cond (b := (x38 == 47)) rfl rfl (fun g41 => ?_) (fun g41 => ?_))))
 rotate_left
 .have h55 := z0i g41 h40
  refine .skip (.region (W.r3 (.int .i64 (z03 .i64 (x27 + 1))) t35 (W.p2 (.int .i64 (z03 .i64 (x27 + 1))) (.nil ?_))))
  exact ⟨k26, zAg _, ⟨z03 .i64 (x27 + 1), _, h55, O32, s33, rfl⟩⟩
 have h42 := z04 g41 h40
 refine .seq (.draw2 (M := [0, 0, 0, 6, 0, 0, 32, 112, 1, 271, 1023]) mixed (by kernel_rfl) (by kernel_rfl) fun H43 N47 x44 F46 => ?_)
 have O45 := O32.ext x44
 refine D2.q2 (.bool (x1 == 45)) ((fr30 6 rfl).trans ((fr16 6 rfl).trans rfl)) (D2.q2 _ ((fr30 5 rfl).trans t21) (D2.p2 (.int .i64 x27) ?_))
 obtain ⟨x48, i49, h50⟩ := z00 h42
 refine D2.pv (.string x48) (zi5 un9 ov ov i49) (D2.q2 _ ((fr30 5 rfl).trans t21) (D2.p2 (.int .i64 x27) (D2.p3 (.int .i64 (z03 .i64 (x27 + 1))) ?_)))
 obtain ⟨x51, i52, h53⟩ := z00 h50
 refine D2.pv (.string x51) (zds un9 ov ov i52) (D2.p1 (.bool (x1 == 45)) (D2.p1 (.string x48) (D2.p1 (.string x51) (.nil (.ret ?_)))))
 obtain rfl := zAa h53
 have h54 := zfg (z6p h25)
 obtain rfl := zAa h54
 exact znz kr (v1 := (.bool (x1 == 45))) (v2 := (.string x48)) (v3 := (.string x51)) (by rfl) rt rt rt O45 (zAe s19 s33) rfl
def z34 (K : Nat) (p1 : zAd) (x15 : Int) (x26 : Int) : Nat -> List Int -> Int -> Option (List Int)
  | 0, _, _ => none
  | k + 1, x41, x42 => (if (decide (x42 < (p1.size : Int))) = true then ((idx x41 (z03 .i64 (x15 + x42))).bind fun x58 => ((z54 K p1 x42).bind fun x62 => ((idx x41 (z03 .i64 (x15 + x42))).bind fun x73 => z34 K p1 x15 x26 k (List.set x41 (Int.toNat (z03 .i64 (x15 + x42))) (z03 .i64 (x58 + (z03 .i64 (x26 * x62))))) (z03 .i64 (x42 + 1))))) else some x41)
def z2m (K : Nat) (x91 : List Int) : Nat -> List Int -> Int -> Option (List Int)
  | 0, _, _ => none
  | k + 1, x102, x103 => (if (decide (x103 < (x91.length : Int))) = true then (Option.bind (((idx x102 x103).bind fun x117 => (if (decide (x117 > 9)) = true then ((idx x102 (z03 .i64 (x103 + 1))).bind fun x128 => ((idx x102 x103).bind fun x132 => ((idx x102 (z03 .i64 (x103 + 1))).bind fun x136 => ((idx (List.set x102 (Int.toNat (z03 .i64 (x103 + 1))) (z03 .i64 (x128 + (z03 .i64 (Int.tdiv x132 10))))) x103).bind fun x144 => ((idx (List.set x102 (Int.toNat (z03 .i64 (x103 + 1))) (z03 .i64 (x128 + (z03 .i64 (Int.tdiv x132 10))))) x103).bind fun x148 => some (List.set (List.set x102 (Int.toNat (z03 .i64 (x103 + 1))) (z03 .i64 (x128 + (z03 .i64 (Int.tdiv x132 10))))) (x103.toNat) (Int.tmod x144 10))))))) else some x102))) (tu1 fun x157 => z2m K x91 k x157 (z03 .i64 (x103 + 1)))) else some x102)
def z35 (K : Nat) (p0 : zAd) (p1 : zAd) : Nat -> List Int -> Int -> Option (List Int)
  | 0, _, _ => none
  | k + 1, x14, x15 => (if (decide (x15 < (p0.size : Int))) = true then ((z54 K p0 x15).bind fun x26 => (Option.bind (z34 K p1 x15 x26 K x14 0) (tu1 fun x82 => ((lsl x82 0 (z03 .i64 ((x82.length : Int) - 1))).bind fun x91 => (Option.bind (z2m K x91 K x82 0) (tu1 fun x167 => z35 K p0 p1 k x167 (z03 .i64 (x15 + 1)))))))) else some x14)
def z3o (K : Nat) (p0 : zAd) (p1 : zAd) : Option zAd := (lt (z03 .i64 ((z03 .i64 ((p0.size : Int) + (p1.size : Int))) + 1)) fun x1 => (if 0 <= x1 /\ x1 <= x1 /\ x1 <= 16777216 then (Option.bind (z35 K p0 p1 K (List.replicate (x1.toNat) 0) 0) (tu1 fun x177 => ((z8w K x177).bind fun x186 => some x186))) else none))
theorem z3p (p0 : zAd) (p1 : zAd) (O : Ow G H (L)) (r : zAd) (h : z3o K p0 p1 = some r) :
    CR Tryz.prog 94 [(.string p0), (.string p1)] G H (L) (fun v G' _ => v = .string r) := by
 unfold z3o at h
 refine CR.og (n := 80) (fn := Tryz.f94) (by kernel_rfl) rfl rfl fun R kr => (.seq (.region (W.p1 (.string (⟨#[]⟩ : zAd)) (.nil (.seq (.region ?_))))))
 refine W.p2 (.string p0) (W.pv (.int .i64 (p0.size : Int)) (z1f ov un9) (W.p2 (.string p1) (W.pv (.int .i64 (p1.size : Int)) (z1f ov un9) (W.p3 (.int .i64 (z03 .i64 ((p0.size : Int) + (p1.size : Int)))) (W.p3 (.int .i64 (z03 .i64 ((z03 .i64 ((p0.size : Int) + (p1.size : Int))) + 1))) ?_)))))
 obtain ⟨x1, e2, h3⟩ := z68 h
 obtain ⟨g5, h6⟩ := z1y h3
 refine W.ln (Lo.makeSlice (r := (rI .i64)) (x0 := 0) (a := x1) (c := x1) rfl za4 ze3 sz3 (by kernel_rfl) rfl by3 (by decide) (congrArg (Value.int .i64) e2) (congrArg (Value.int .i64) e2) g5 (zI .i64) O) ?_
 rintro v8 H9 ⟨O4, sm7⟩
 refine W.p1 v8 (.nil (.seq (.seq (.region (W.p2 (.string p0) (W.pv (.int .i64 (p0.size : Int)) (z1f ov un9) ?_))))))
 refine W.p2 (.int .i64 0) (.nil ?_)
 obtain ⟨q10, h11, h12⟩ := z00 h6
 refine AW.midT (fun σ' H' => ∃ (y1 : List Int) (G' : GM), y1 = q10 /\ Ow G' H' (eSl v8 3 (rI .i64) y1 :: L) /\ GM.le G G') ?_ ?_
 rotate_left
 .rintro σ178 H179 fr180 ⟨x177, G181, rfl, O182, s183⟩
  have h185 := z0b h12
  refine .seq (.region (W.q2 v8 ((fr180 5 rfl).trans rfl) ?_))
  obtain ⟨x186, i187, h188⟩ := z00 h185
  refine W.ln (Lo.callB (j := 0) rfl rfl (fn := Tryz.f150) (by kernel_rfl) rfl (mc rfl mn) O182 (fun G' L' hG O' hB => z9x K v8 x177 hB O' _ i187)) ?_
  rintro v195 H196 ⟨G189, O190, s191, sm194, rfl⟩
  refine W.p1 (.string x186) (.nil (.ret ?_))
  have O197 := O190.drop 0
  obtain rfl := zAa h188
  exact z1e kr (v1 := (.string x186)) (by rfl) rt O197 (zAe s183 s191) rfl
 refine .block (AW.loop (α := Nat) (fun k' σ' H' => ∃ (y1 : List Int) (y2 : Int) (G' : GM), z35 K p0 p1 k' y1 y2 = some q10 /\ Ow G' H' (eSl v8 3 (rI .i64) y1 :: L) /\ GM.le G G' /\ σ' 19 = .int .i64 y2) (fun k' => k') K ⟨(List.replicate (x1.toNat) 0), 0, _, h11, O4, (zAf _), rfl⟩ ?_)
 rintro k13
 rintro σ16 H17 fr18 ⟨x14, x15, G19, h22, O20, s21, t23⟩
 rcases k13 with _ | k13
 .exact z07 h22
 rw [z35] at h22
 refine .seq (.region (W.q3 (.bool (decide (x15 < (p0.size : Int)))) t23 ((fr18 18 rfl).trans rfl) (.nil (.seq (.cond (b := decide (x15 < (p0.size : Int))) rfl rfl (fun g24 => ?_) (fun g24 => ?_))))))
 rotate_left
 .have h176 := z0i g24 h22
  refine .exit ?_
  obtain rfl := zAa h176
  exact ⟨x14, _, rfl, O20, s21⟩
 have h25 := z04 g24 h22
 refine .skip (.seq (.block (.seq (.region (W.q2 _ t23 (W.p1 (.int .i64 x15) ?_))))))
 refine .nil (.seq (.region (W.q2 (.string p0) ((fr18 0 rfl).trans rfl) (W.p2 (.int .i64 x15) ?_))))
 obtain ⟨x26, i27, h28⟩ := z00 h25
 refine W.ln (Lo.cP rfl (fn := Tryz.f149) (by kernel_rfl) rfl (mc rfl (mc rfl mn)) O20 (fun L' O' => z4z K p0 x15 O' _ i27)) ?_
 rintro v35 H36 ⟨G29, O30, s31, sm34, rfl⟩
 refine W.p1 (.int .i64 x26) (.nil (.seq (.seq (.region (W.q2 (.string p1) ((fr18 1 rfl).trans rfl) (W.pv (.int .i64 (p1.size : Int)) (z1f ov un9) ?_))))))
 refine W.p2 (.int .i64 0) (.nil ?_)
 obtain ⟨q37, h38, h39⟩ := z00 h28
 refine AW.midT (fun σ' H' => ∃ (y1 : List Int) (G' : GM), y1 = q37 /\ Ow G' H' (eSl v8 3 (rI .i64) y1 :: L) /\ GM.le G29 G') ?_ ?_
 .refine .block (AW.loop (α := Nat) (fun k' σ' H' => ∃ (y1 : List Int) (y2 : Int) (G' : GM), z34 K p1 x15 x26 k' y1 y2 = some q37 /\ Ow G' H' (eSl v8 3 (rI .i64) y1 :: L) /\ GM.le G29 G' /\ σ' 27 = .int .i64 y2) (fun k' => k') K ⟨x14, 0, _, h38, O30, (zAf _), rfl⟩ ?_)
  rintro k40
  rintro σ43 H44 fr45 ⟨x41, x42, G46, h49, O47, s48, t50⟩
  rcases k40 with _ | k40
  .exact z07 h49
  rw [z34] at h49
  refine .seq (.region (W.q3 (.bool (decide (x42 < (p1.size : Int)))) t50 ((fr45 26 rfl).trans rfl) (.nil (.seq (.cond (b := decide (x42 < (p1.size : Int))) rfl rfl (fun g51 => ?_) (fun g51 => ?_))))))
  rotate_left
  .have h81 := z0i g51 h49
   refine .exit ?_
   obtain rfl := zAa h81
   exact ⟨x41, _, rfl, O47, s48⟩
  have h52 := z04 g51 h49
  refine .skip (.seq (.block (.seq (.region (W.q2 _ t50 (W.p1 (.int .i64 x42) ?_))))))
  refine .nil (.draw2 (M := [0, 0, 0, 6, 15, 31, 0, 0, 0, 384, 960, 2047, 4095, 8191]) mixed (by kernel_rfl) (by kernel_rfl) fun H53 N57 x54 F56 => ?_)
  have O55 := O47.ext x54
  refine D2.q2 v8 ((fr45 5 rfl).trans ((fr18 5 rfl).trans rfl)) (D2.q2 (.int .i64 x15) ((fr45 6 rfl).trans rfl) (D2.p2 (.int .i64 x42) (D2.p3 (.int .i64 (z03 .i64 (x15 + x42))) ?_)))
  obtain ⟨x58, i59, h60⟩ := z00 h52
  have j61 := z08 i59
  refine D2.pv (z0x v8 (Int.toNat (z03 .i64 (x15 + x42)) * 1)) (z1d za4 sz3 ov ov (O55.slLen (j := 0) rfl) j61.1 j61.2.1) (D2.load1' (v := (.int .i64 x58)) (r := []) rfl rfl ag3 (z0o rfl (At.int (O55.atSl (j := 0) rfl j61.2.2))) z06 (D2.q2 (.int .i64 x26) ((fr45 7 rfl).trans rfl) (D2.q2 (.string p1) ((fr45 1 rfl).trans ((fr18 1 rfl).trans rfl)) (D2.p2 (.int .i64 x42) ?_))))
  obtain ⟨x62, i63, h64⟩ := z00 h60
  refine D2.lo rfl rfl (Lo.cP rfl (fn := Tryz.f149) (by kernel_rfl) rfl (mc rfl (mc rfl mn)) O55 (fun L' O' => z4z K p1 x42 O' _ i63)) ?_ z06 ?_ ?_
  .rintro v71 H72 ⟨G65, O66, s67, sm70, rfl⟩; exact (faR1 (.inr (sm70 _ (Or.inr ⟨0, _, rfl, (O55.footSl (j := 0) rfl j61.2.2)⟩))) z06)
  .rintro v71 H72 ⟨G65, O66, s67, sm70, rfl⟩; exact z06
  rintro v71 H72 ⟨G65, O66, s67, sm70, rfl⟩
  refine D2.p3 (.int .i64 (z03 .i64 (x26 * x62))) (D2.p3 (.int .i64 (z03 .i64 (x58 + (z03 .i64 (x26 * x62))))) ?_)
  obtain ⟨x73, i74, h75⟩ := z00 h64
  have j76 := z08 i74
  refine D2.pv (z0x v8 (Int.toNat (z03 .i64 (x15 + x42)) * 1)) (z1d za4 sz3 ov ov (O66.slLen (j := 0) rfl) j76.1 j76.2.1) (D2.lo rfl rfl (Lo.storeSl0 (j := 0) (y0 := z03 .i64 (x58 + (z03 .i64 (x26 * x62)))) (v := (.int .i64 (z03 .i64 (x58 + (z03 .i64 (x26 * x62)))))) rfl j76.2.2  rfl sz3 rfl rfl rfl O66) ?_ (z0h (by decide) z06) ?_ ?_)
  .rintro v79 H80 ⟨O77, sm78⟩; exact (faR1 (.inl (by decide)) z06)
  .rintro v79 H80 ⟨O77, sm78⟩; exact z06
  rintro v79 H80 ⟨O77, sm78⟩
  refine .nil (.region (W.r3 (.int .i64 (z03 .i64 (x42 + 1))) t50 (W.p2 (.int .i64 (z03 .i64 (x42 + 1))) (.nil ?_))))
  exact ⟨k40, zAg _, ⟨(List.set x41 (Int.toNat (z03 .i64 (x15 + x42))) (z03 .i64 (x58 + (z03 .i64 (x26 * x62))))), z03 .i64 (x42 + 1), _, h75, O77, (zAe s48 s67), rfl⟩⟩
 rintro σ83 H84 fr85 ⟨x82, G86, rfl, O87, s88⟩
 have h90 := z0b h39
 refine .seq (.region (W.q2 v8 ((fr85 5 rfl).trans ((fr18 5 rfl).trans rfl)) (W.q2 v8 ((fr85 5 rfl).trans ((fr18 5 rfl).trans rfl)) (W.pv (.int .i64 (x82.length : Int)) (z0g ov (O87.slLen (j := 0) rfl) (z02 za4)) (W.p3 (.int .i64 (z03 .i64 ((x82.length : Int) - 1))) ?_)))))
 obtain ⟨x91, i92, h93⟩ := z00 h90
 obtain ⟨w94, e96, f97⟩ := O87.view (j := 0) rfl za4 sz3 i92
 refine W.pv w94 (e96 ov ov) (W.pv (.int .i64 (x91.length : Int)) (z0g ov f97 (z02 za4)) (W.p2 (.int .i64 0) (.nil ?_)))
 obtain ⟨q98, h99, h100⟩ := z00 h93
 refine AW.midT (fun σ' H' => ∃ (y1 : List Int) (G' : GM), y1 = q98 /\ Ow G' H' (eSl v8 3 (rI .i64) y1 :: L) /\ GM.le G86 G') ?_ ?_
 rotate_left
 .rintro σ168 H169 fr170 ⟨x167, G171, rfl, O172, s173⟩
  have h175 := z0b h100
  refine .region (W.q3 (.int .i64 (z03 .i64 (x15 + 1))) ((fr170 19 rfl).trans ((fr85 19 rfl).trans t23)) rfl (W.p2 (.int .i64 (z03 .i64 (x15 + 1))) (.nil ?_)))
  exact ⟨k13, zAg _, ⟨x167, z03 .i64 (x15 + 1), _, h175, O172, (zAe s21 (zAe s31 (zAe s88 s173))), rfl⟩⟩
 refine .block (AW.loop (α := Nat) (fun k' σ' H' => ∃ (y1 : List Int) (y2 : Int) (G' : GM), z2m K x91 k' y1 y2 = some q98 /\ Ow G' H' (eSl v8 3 (rI .i64) y1 :: L) /\ GM.le G86 G' /\ σ' 50 = .int .i64 y2) (fun k' => k') K ⟨x82, 0, _, h99, O87, (zAf _), rfl⟩ ?_)
 rintro k101
 rintro σ104 H105 fr106 ⟨x102, x103, G107, h110, O108, s109, t111⟩
 rcases k101 with _ | k101
 .exact z07 h110
 rw [z2m] at h110
 refine .seq (.region (W.q3 (.bool (decide (x103 < (x91.length : Int)))) t111 ((fr106 49 rfl).trans rfl) (.nil (.seq (.cond (b := decide (x103 < (x91.length : Int))) rfl rfl (fun g112 => ?_) (fun g112 => ?_))))))
 rotate_left
 .have h166 := z0i g112 h110
  refine .exit ?_
  obtain rfl := zAa h166
  exact ⟨x102, _, rfl, O108, s109⟩
 have h113 := z04 g112 h110
 refine .skip (.seq ?_)
 obtain ⟨q114, h115, h116⟩ := z00 h113
 refine AW.midT (fun σ' H' => ∃ (y1 : List Int) (G' : GM), y1 = q114 /\ Ow G' H' (eSl v8 3 (rI .i64) y1 :: L) /\ GM.le G107 G') ?_ ?_
 rotate_left
 .rintro σ158 H159 fr160 ⟨x157, G161, rfl, O162, s163⟩
  have h165 := z0b h116
  refine .region (W.q3 (.int .i64 (z03 .i64 (x103 + 1))) ((fr160 50 rfl).trans t111) rfl (W.p2 (.int .i64 (z03 .i64 (x103 + 1))) (.nil ?_)))
  exact ⟨k101, zAg _, ⟨x157, z03 .i64 (x103 + 1), _, h165, O162, (zAe s109 s163), rfl⟩⟩
 refine .block (.seq (.region (W.q2 _ t111 (W.p1 (.int .i64 x103) (.nil (.seq ?_))))))
 refine .region (W.q2 v8 ((fr106 5 rfl).trans ((fr85 5 rfl).trans ((fr18 5 rfl).trans rfl))) (W.p2 (.int .i64 x103) ?_))
 obtain ⟨x117, i118, h119⟩ := z00 h115
 have j120 := z08 i118
 refine W.pv (z0x v8 (x103.toNat * 1)) (z1d za4 sz3 ov ov (O108.slLen (j := 0) rfl) j120.1 j120.2.1) (W.load1 (v := (.int .i64 x117)) (r := []) rfl rfl ag3 (z0o rfl (At.int (O108.atSl (j := 0) rfl j120.2.2))) (W.p3 (.bool (decide (x117 > 9))) (.nil (.cond (b := decide (x117 > 9)) rfl rfl (fun g121 => ?_) (fun g121 => ?_)))))
 rotate_left
 .have h156 := z0i g121 h119
  refine .skip ?_
  obtain rfl := zAa h156
  exact ⟨x102, _, rfl, O108, (zAf _)⟩
 have h122 := z04 g121 h119
 refine .seq (.draw2 (M := [0, 0, 2, 7, 15, 0, 0, 96, 224, 480, 1023, 2047, 4095]) mixed (by kernel_rfl) (by kernel_rfl) fun H123 N127 x124 F126 => ?_)
 have O125 := O108.ext x124
 refine D2.q2 v8 ((fr106 5 rfl).trans ((fr85 5 rfl).trans ((fr18 5 rfl).trans rfl))) (D2.p2 (.int .i64 x103) (D2.p3 (.int .i64 (z03 .i64 (x103 + 1))) ?_))
 obtain ⟨x128, i129, h130⟩ := z00 h122
 have j131 := z08 i129
 refine D2.pv (z0x v8 (Int.toNat (z03 .i64 (x103 + 1)) * 1)) (z1d za4 sz3 ov ov (O125.slLen (j := 0) rfl) j131.1 j131.2.1) (D2.load1' (v := (.int .i64 x128)) (r := []) rfl rfl ag3 (z0o rfl (At.int (O125.atSl (j := 0) rfl j131.2.2))) z06 (D2.q2 v8 ((fr106 5 rfl).trans ((fr85 5 rfl).trans ((fr18 5 rfl).trans rfl))) (D2.p2 (.int .i64 x103) ?_)))
 obtain ⟨x132, i133, h134⟩ := z00 h130
 have j135 := z08 i133
 refine D2.pv (z0x v8 (x103.toNat * 1)) (z1d za4 sz3 ov ov (O125.slLen (j := 0) rfl) j135.1 j135.2.1) (D2.load1' (v := (.int .i64 x132)) (r := []) rfl rfl ag3 (z0o rfl (At.int (O125.atSl (j := 0) rfl j135.2.2))) z06 (D2.pv (.int .i64 (z03 .i64 (Int.tdiv x132 10))) (zhw (by decide) ov ov) (D2.p3 (.int .i64 (z03 .i64 (x128 + (z03 .i64 (Int.tdiv x132 10))))) ?_)))
 obtain ⟨x136, i137, h138⟩ := z00 h134
 have j139 := z08 i137
 refine D2.pv (z0x v8 (Int.toNat (z03 .i64 (x103 + 1)) * 1)) (z1d za4 sz3 ov ov (O125.slLen (j := 0) rfl) j139.1 j139.2.1) (D2.lo rfl rfl (Lo.storeSl0 (j := 0) (y0 := z03 .i64 (x128 + (z03 .i64 (Int.tdiv x132 10)))) (v := (.int .i64 (z03 .i64 (x128 + (z03 .i64 (Int.tdiv x132 10)))))) rfl j139.2.2  rfl sz3 rfl rfl rfl O125) ?_ z06 ?_ ?_)
 .rintro v142 H143 ⟨O140, sm141⟩; exact (faR1 (.inl (by decide)) (faR1 (.inl (by decide)) z06))
 .rintro v142 H143 ⟨O140, sm141⟩; exact z06
 rintro v142 H143 ⟨O140, sm141⟩
 refine .nil (.region (W.q2 v8 ((fr106 5 rfl).trans ((fr85 5 rfl).trans ((fr18 5 rfl).trans rfl))) (W.p2 (.int .i64 x103) ?_)))
 obtain ⟨x144, i145, h146⟩ := z00 h138
 have j147 := z08 i145
 refine W.pv (z0x v8 (x103.toNat * 1)) (z1d za4 sz3 ov ov (O140.slLen (j := 0) rfl) j147.1 j147.2.1) (W.load1 (v := (.int .i64 x144)) (r := []) rfl rfl ag3 (z0o rfl (At.int (O140.atSl (j := 0) rfl j147.2.2))) (W.pv (.int .i64 (Int.tmod x144 10)) (zjq (by decide) ov ov) ?_))
 obtain ⟨x148, i149, h150⟩ := z00 h146
 have j151 := z08 i149
 refine W.pv (z0x v8 (x103.toNat * 1)) (z1d za4 sz3 ov ov (O140.slLen (j := 0) rfl) j151.1 j151.2.1) (W.ln (Lo.storeSl0 (j := 0) (y0 := Int.tmod x144 10) (v := (.int .i64 (Int.tmod x144 10))) rfl j151.2.2  rfl sz3 rfl rfl rfl O140) ?_)
 rintro v154 H155 ⟨O152, sm153⟩
 refine .nil ?_
 obtain rfl := zAa h150
 exact ⟨(List.set (List.set x102 (Int.toNat (z03 .i64 (x103 + 1))) (z03 .i64 (x128 + (z03 .i64 (Int.tdiv x132 10))))) (x103.toNat) (Int.tmod x144 10)), _, rfl, O152, (zAf _)⟩
def z5o (K : Nat) (p0 : Bool) (p1 : zAd) (p2 : zAd) : Option zAd := (if (sEq p1 (⟨#[48]⟩ : zAd)) = true then some (⟨#[48]⟩ : zAd) else ((z72 K p1 p2).bind fun x4 => ((z64 K p1 x4).bind fun x15 => ((z64 K p2 x4).bind fun x26 => (Option.bind ((if p0 = true then (if ((⟨#[45]⟩ : zAd)).size + (x15.1).size <= 4611686018427387904 then some ((⟨#[45]⟩ : zAd) ++ x15.1) else none) else some x15.1)) (tu1 fun x45 => (if (sEq x26.1 (⟨#[49]⟩ : zAd)) = true then some x45 else (if (x45).size + ((⟨#[47]⟩ : zAd)).size <= 4611686018427387904 then (if ((x45 ++ (⟨#[47]⟩ : zAd))).size + (x26.1).size <= 4611686018427387904 then some ((x45 ++ (⟨#[47]⟩ : zAd)) ++ x26.1) else none) else none))))))))
theorem z66 (p0 : Bool) (p1 : zAd) (p2 : zAd) (O : Ow G H (L)) (r : zAd) (h : z5o K p0 p1 p2 = some r) :
    CR Tryz.prog 95 [(.bool p0), (.string p1), (.string p2)] G H (L) (fun v G' _ => v = .string r) := by
 unfold z5o at h
 refine CR.og (n := 35) (fn := Tryz.f95) (by kernel_rfl) rfl rfl fun R kr => (.seq (.region (W.p1 (.string (⟨#[]⟩ : zAd)) (.nil (.seq (.seq ?_))))))
 refine .region (W.p2 (.string p1) (W.pv (.bool (sEq p1 (⟨#[48]⟩ : zAd))) (z9s ov ov) (.nil (.cond (b := sEq p1 (⟨#[48]⟩ : zAd)) rfl rfl (fun g1 => ?_) (fun g1 => ?_)))))
 .have h2 := z04 g1 h
  refine .seq (.region (W.p1 (.string (⟨#[48]⟩ : zAd)) (.nil (.ret ?_))))
  obtain rfl := zAa h2
  exact z1e kr (v1 := (.string (⟨#[48]⟩ : zAd))) (by rfl) rt O (zAf _) rfl
 have h3 := z0i g1 h
 refine .skip (.seq (.region (W.p2 (.string p1) (W.p2 (.string p2) ?_))))
 obtain ⟨x4, i5, h6⟩ := z00 h3
 refine W.ln (Lo.cP rfl (fn := Tryz.f60) (by kernel_rfl) rfl (mc rfl (mc rfl mn)) O (fun L' O' => za7 K p1 p2 O' _ i5)) ?_
 rintro v13 H14 ⟨G7, O8, s9, sm12, rfl⟩
 refine W.p1 (.string x4) (.nil (.seq (.region (W.p2 (.string p1) (W.p2 (.string x4) ?_)))))
 obtain ⟨x15, i16, h17⟩ := z00 h6
 refine W.ln (Lo.cP rfl (fn := Tryz.f129) (by kernel_rfl) rfl (mc rfl (mc rfl mn)) O8 (fun L' O' => z80 K p1 x4 O' _ i16)) ?_
 rintro v24 H25 ⟨G18, O19, s20, sm23, rfl⟩
 refine W.p2 (.tuple #[(.string x15.1), (.string x15.2)]) (W.pv (.string x15.1) (z0a ov rfl) (W.pv (.string x15.2) (z0a ov rfl) (W.p1 (.string x15.1) (.nil (.seq (.region ?_))))))
 refine W.p2 (.string p2) (W.p2 (.string x4) ?_)
 obtain ⟨x26, i27, h28⟩ := z00 h17
 refine W.ln (Lo.cP rfl (fn := Tryz.f129) (by kernel_rfl) rfl (mc rfl (mc rfl mn)) O19 (fun L' O' => z80 K p2 x4 O' _ i27)) ?_
 rintro v35 H36 ⟨G29, O30, s31, sm34, rfl⟩
 refine W.p2 (.tuple #[(.string x26.1), (.string x26.2)]) (W.pv (.string x26.1) (z0a ov rfl) (W.pv (.string x26.2) (z0a ov rfl) (W.p1 (.string x26.1) (.nil (.seq (.seq ?_))))))
 refine .region (W.p2 (.bool p0) (.nil ?_))
 obtain ⟨q37, h38, h39⟩ := z00 h28
 refine AW.midT (fun σ' H' => ∃ (y1 : zAd) (G' : GM), y1 = q37 /\ Ow G' H' (L) /\ GM.le G29 G' /\ σ' 1 = .string y1) ?_ ?_
 .refine .cond (b := p0) rfl rfl (fun g40 => ?_) (fun g40 => ?_)
  rotate_left
  .have h44 := z0i g40 h38
   refine .skip ?_
   obtain rfl := zAa h44
   exact ⟨x15.1, _, rfl, O30, (zAf _), rfl⟩
  have h41 := z04 g40 h38
  refine .region (W.p2 (.string x15.1) ?_)
  obtain ⟨g42, h43⟩ := z1y h41
  refine W.pv (.string ((⟨#[45]⟩ : zAd) ++ x15.1)) (zbv g42 ov ov) (W.p1 (.string ((⟨#[45]⟩ : zAd) ++ x15.1)) (.nil ?_))
  obtain rfl := zAa h43
  exact ⟨((⟨#[45]⟩ : zAd) ++ x15.1), _, rfl, O30, (zAf _), rfl⟩
 rintro σ46 H47 fr48 ⟨x45, G49, rfl, O50, s51, t53⟩
 have h54 := z0b h39
 refine .seq (.seq (.region (W.q2 (.string x26.1) ((fr48 2 rfl).trans rfl) (W.pv (.bool (sEq x26.1 (⟨#[49]⟩ : zAd))) (z9s ov ov) (.nil (.cond (b := sEq x26.1 (⟨#[49]⟩ : zAd)) rfl rfl (fun g55 => ?_) (fun g55 => ?_)))))))
 .have h56 := z04 g55 h54
  refine .seq (.region (W.q2 _ t53 (W.p1 (.string x45) (.nil (.ret ?_)))))
  obtain rfl := zAa h56
  exact z1e kr (v1 := (.string x45)) (by rfl) rt O50 (zAe s9 (zAe s20 (zAe s31 s51))) rfl
 have h57 := z0i g55 h54
 refine .skip (.seq (.region (W.q2 _ t53 ?_)))
 obtain ⟨g58, h59⟩ := z1y h57
 refine W.pv (.string (x45 ++ (⟨#[47]⟩ : zAd))) (zbv g58 ov ov) (W.q2 (.string x26.1) ((fr48 2 rfl).trans rfl) ?_)
 obtain ⟨g60, h61⟩ := z1y h59
 refine W.pv (.string ((x45 ++ (⟨#[47]⟩ : zAd)) ++ x26.1)) (zbv g60 ov ov) (W.p1 (.string ((x45 ++ (⟨#[47]⟩ : zAd)) ++ x26.1)) (.nil (.ret ?_)))
 obtain rfl := zAa h61
 exact z1e kr (v1 := (.string ((x45 ++ (⟨#[47]⟩ : zAd)) ++ x26.1))) (by rfl) rt O50 (zAe s9 (zAe s20 (zAe s31 s51))) rfl
def z74 (K : Nat) (p0 : zAd) (p1 : zAd) : Option zAd := ((z45 K p0).bind fun x1 => ((z45 K p1).bind fun x12 => ((z3o K x1.2.1 x12.2.2).bind fun x23 => ((z3o K x1.2.2 x12.2.1).bind fun x34 => ((z5o K (!(x1.1 == x12.1)) x23 x34).bind fun x45 => some x45)))))
theorem za8 (p0 : zAd) (p1 : zAd) (O : Ow G H (L)) (r : zAd) (h : z74 K p0 p1 = some r) :
    CR Tryz.prog 113 [(.string p0), (.string p1)] G H (L) (fun v G' _ => v = .string r) := by
 unfold z74 at h
 refine CR.og (n := 33) (fn := Tryz.f113) (by kernel_rfl) rfl rfl fun R kr => (.seq (.region (W.p1 (.string (⟨#[]⟩ : zAd)) (.nil (.seq (.region ?_))))))
 refine W.p2 (.string p0) ?_
 obtain ⟨x1, i2, h3⟩ := z00 h
 refine W.ln (Lo.cP rfl (fn := Tryz.f61) (by kernel_rfl) rfl (mc rfl mn) O (fun L' O' => z4a K p0 O' _ i2)) ?_
 rintro v10 H11 ⟨G4, O5, s6, sm9, rfl⟩
 refine W.p2 (.tuple #[(.bool x1.1), (.string x1.2.1), (.string x1.2.2)]) (W.pv (.bool x1.1) (z0a ov rfl) (W.pv (.string x1.2.1) (z0a ov rfl) (W.pv (.string x1.2.2) (z0a ov rfl) (W.p1 (.bool x1.1) (W.p1 (.string x1.2.1) (W.p1 (.string x1.2.2) ?_))))))
 refine .nil (.seq (.region (W.p2 (.string p1) ?_)))
 obtain ⟨x12, i13, h14⟩ := z00 h3
 refine W.ln (Lo.cP rfl (fn := Tryz.f61) (by kernel_rfl) rfl (mc rfl mn) O5 (fun L' O' => z4a K p1 O' _ i13)) ?_
 rintro v21 H22 ⟨G15, O16, s17, sm20, rfl⟩
 refine W.p2 (.tuple #[(.bool x12.1), (.string x12.2.1), (.string x12.2.2)]) (W.pv (.bool x12.1) (z0a ov rfl) (W.pv (.string x12.2.1) (z0a ov rfl) (W.pv (.string x12.2.2) (z0a ov rfl) (W.p1 (.bool x12.1) (W.p1 (.string x12.2.1) (W.p1 (.string x12.2.2) ?_))))))
 refine .nil (.seq (.region (W.p2 (.bool x1.1) (W.p2 (.bool x12.1) (W.pv (.bool (!(x1.1 == x12.1))) (zcu ov ov un4) (W.p2 (.string x1.2.1) ?_))))))
 refine W.p2 (.string x12.2.2) ?_
 obtain ⟨x23, i24, h25⟩ := z00 h14
 refine W.ln (Lo.cP rfl (fn := Tryz.f94) (by kernel_rfl) rfl (mc rfl (mc rfl mn)) O16 (fun L' O' => z3p K x1.2.1 x12.2.2 O' _ i24)) ?_
 rintro v32 H33 ⟨G26, O27, s28, sm31, rfl⟩
 refine W.p2 (.string x1.2.2) (W.p2 (.string x12.2.1) ?_)
 obtain ⟨x34, i35, h36⟩ := z00 h25
 refine W.ln (Lo.cP rfl (fn := Tryz.f94) (by kernel_rfl) rfl (mc rfl (mc rfl mn)) O27 (fun L' O' => z3p K x1.2.2 x12.2.1 O' _ i35)) ?_
 rintro v43 H44 ⟨G37, O38, s39, sm42, rfl⟩
 obtain ⟨x45, i46, h47⟩ := z00 h36
 refine W.ln (Lo.cP rfl (fn := Tryz.f95) (by kernel_rfl) rfl (mc rfl (mc rfl (mc rfl mn))) O38 (fun L' O' => z66 K (!(x1.1 == x12.1)) x23 x34 O' _ i46)) ?_
 rintro v54 H55 ⟨G48, O49, s50, sm53, rfl⟩
 refine W.p1 (.string x45) (.nil (.ret ?_))
 obtain rfl := zAa h47
 exact z1e kr (v1 := (.string x45)) (by rfl) rt O49 (zAe s6 (zAe s17 (zAe s28 (zAe s39 s50)))) rfl
def z5e (K : Nat) (p0 : zAd) (p1 : zAd) : Option zAd := ((z45 K p0).bind fun x1 => ((z45 K p1).bind fun x12 => ((z3o K x1.2.1 x12.2.1).bind fun x23 => ((z3o K x1.2.2 x12.2.2).bind fun x34 => ((z5o K (!(x1.1 == x12.1)) x23 x34).bind fun x45 => some x45)))))
theorem z81 (p0 : zAd) (p1 : zAd) (O : Ow G H (L)) (r : zAd) (h : z5e K p0 p1 = some r) :
    CR Tryz.prog 42 [(.string p0), (.string p1)] G H (L) (fun v G' _ => v = .string r) := by
 unfold z5e at h
 refine CR.og (n := 33) (fn := Tryz.f42) (by kernel_rfl) rfl rfl fun R kr => (.seq (.region (W.p1 (.string (⟨#[]⟩ : zAd)) (.nil (.seq (.region ?_))))))
 refine W.p2 (.string p0) ?_
 obtain ⟨x1, i2, h3⟩ := z00 h
 refine W.ln (Lo.cP rfl (fn := Tryz.f61) (by kernel_rfl) rfl (mc rfl mn) O (fun L' O' => z4a K p0 O' _ i2)) ?_
 rintro v10 H11 ⟨G4, O5, s6, sm9, rfl⟩
 refine W.p2 (.tuple #[(.bool x1.1), (.string x1.2.1), (.string x1.2.2)]) (W.pv (.bool x1.1) (z0a ov rfl) (W.pv (.string x1.2.1) (z0a ov rfl) (W.pv (.string x1.2.2) (z0a ov rfl) (W.p1 (.bool x1.1) (W.p1 (.string x1.2.1) (W.p1 (.string x1.2.2) ?_))))))
 refine .nil (.seq (.region (W.p2 (.string p1) ?_)))
 obtain ⟨x12, i13, h14⟩ := z00 h3
 refine W.ln (Lo.cP rfl (fn := Tryz.f61) (by kernel_rfl) rfl (mc rfl mn) O5 (fun L' O' => z4a K p1 O' _ i13)) ?_
 rintro v21 H22 ⟨G15, O16, s17, sm20, rfl⟩
 refine W.p2 (.tuple #[(.bool x12.1), (.string x12.2.1), (.string x12.2.2)]) (W.pv (.bool x12.1) (z0a ov rfl) (W.pv (.string x12.2.1) (z0a ov rfl) (W.pv (.string x12.2.2) (z0a ov rfl) (W.p1 (.bool x12.1) (W.p1 (.string x12.2.1) (W.p1 (.string x12.2.2) ?_))))))
 refine .nil (.seq (.region (W.p2 (.bool x1.1) (W.p2 (.bool x12.1) (W.pv (.bool (!(x1.1 == x12.1))) (zcu ov ov un4) (W.p2 (.string x1.2.1) ?_))))))
 refine W.p2 (.string x12.2.1) ?_
 obtain ⟨x23, i24, h25⟩ := z00 h14
 refine W.ln (Lo.cP rfl (fn := Tryz.f94) (by kernel_rfl) rfl (mc rfl (mc rfl mn)) O16 (fun L' O' => z3p K x1.2.1 x12.2.1 O' _ i24)) ?_
 rintro v32 H33 ⟨G26, O27, s28, sm31, rfl⟩
 refine W.p2 (.string x1.2.2) (W.p2 (.string x12.2.2) ?_)
 obtain ⟨x34, i35, h36⟩ := z00 h25
 refine W.ln (Lo.cP rfl (fn := Tryz.f94) (by kernel_rfl) rfl (mc rfl (mc rfl mn)) O27 (fun L' O' => z3p K x1.2.2 x12.2.2 O' _ i35)) ?_
 rintro v43 H44 ⟨G37, O38, s39, sm42, rfl⟩
 obtain ⟨x45, i46, h47⟩ := z00 h36
 refine W.ln (Lo.cP rfl (fn := Tryz.f95) (by kernel_rfl) rfl (mc rfl (mc rfl (mc rfl mn))) O38 (fun L' O' => z66 K (!(x1.1 == x12.1)) x23 x34 O' _ i46)) ?_
 rintro v54 H55 ⟨G48, O49, s50, sm53, rfl⟩
 refine W.p1 (.string x45) (.nil (.ret ?_))
 obtain rfl := zAa h47
 exact z1e kr (v1 := (.string x45)) (by rfl) rt O49 (zAe s6 (zAe s17 (zAe s28 (zAe s39 s50)))) rfl
def z82 (K : Nat) (p0 : zAd) : Option zAd := ((z45 K p0).bind fun x1 => ((z5o K (!x1.1) x1.2.1 x1.2.2).bind fun x12 => some x12))
theorem zdw (p0 : zAd) (O : Ow G H (L)) (r : zAd) (h : z82 K p0 = some r) :
    CR Tryz.prog 111 [(.string p0)] G H (L) (fun v G' _ => v = .string r) := by
 unfold z82 at h
 refine CR.og (n := 17) (fn := Tryz.f111) (by kernel_rfl) rfl rfl fun R kr => (.seq (.region (W.p1 (.string (⟨#[]⟩ : zAd)) (.nil (.seq (.region ?_))))))
 refine W.p2 (.string p0) ?_
 obtain ⟨x1, i2, h3⟩ := z00 h
 refine W.ln (Lo.cP rfl (fn := Tryz.f61) (by kernel_rfl) rfl (mc rfl mn) O (fun L' O' => z4a K p0 O' _ i2)) ?_
 rintro v10 H11 ⟨G4, O5, s6, sm9, rfl⟩
 refine W.p2 (.tuple #[(.bool x1.1), (.string x1.2.1), (.string x1.2.2)]) (W.pv (.bool x1.1) (z0a ov rfl) (W.pv (.string x1.2.1) (z0a ov rfl) (W.pv (.string x1.2.2) (z0a ov rfl) (W.p1 (.bool x1.1) (W.p1 (.string x1.2.1) (W.p1 (.string x1.2.2) ?_))))))
 refine .nil (.seq (.region (W.p2 (.bool x1.1) (W.pv (.bool (!x1.1)) (z9q (a := x1.1) ov) (W.p2 (.string x1.2.1) (W.p2 (.string x1.2.2) ?_))))))
 obtain ⟨x12, i13, h14⟩ := z00 h3
 refine W.ln (Lo.cP rfl (fn := Tryz.f95) (by kernel_rfl) rfl (mc rfl (mc rfl (mc rfl mn))) O5 (fun L' O' => z66 K (!x1.1) x1.2.1 x1.2.2 O' _ i13)) ?_
 rintro v21 H22 ⟨G15, O16, s17, sm20, rfl⟩
 refine W.p1 (.string x12) (.nil (.ret ?_))
 obtain rfl := zAa h14
 exact z1e kr (v1 := (.string x12)) (by rfl) rt O16 (zAe s6 s17) rfl
def z2b (K : Nat) (p0 : zAd) (p1 : zAd) : Nat -> List Int -> Int -> Int -> Option (List Int)
  | 0, _, _, _ => none
  | k + 1, x6, x7, x8 => (Option.bind ((if (decide (x8 < (p0.size : Int))) = true then some true else (if (decide (x8 < (p1.size : Int))) = true then some true else some (decide (x7 > 0))))) (tu1 fun x29 => (if x29 = true then ((z54 K p0 x8).bind fun x41 => ((z54 K p1 x8).bind fun x52 => (if x6.length + List.length [Int.tmod (z03 .i64 ((z03 .i64 (x41 + x52)) + x7)) 10] <= 16777216 then (lt (z03 .i64 (Int.tdiv (z03 .i64 ((z03 .i64 (x41 + x52)) + x7)) 10)) fun x76 => z2b K p0 p1 k (x6 ++ [Int.tmod (z03 .i64 ((z03 .i64 (x41 + x52)) + x7)) 10]) x76 (z03 .i64 (x8 + 1))) else none))) else some x6)))
def z83 (K : Nat) (p0 : zAd) (p1 : zAd) : Option zAd := (Option.bind (z2b K p0 p1 K [] 0 0) (tu1 fun x81 => ((z8w K x81).bind fun x90 => some x90)))
theorem zdx (p0 : zAd) (p1 : zAd) (O : Ow G H (L)) (r : zAd) (h : z83 K p0 p1 = some r) :
    CR Tryz.prog 96 [(.string p0), (.string p1)] G H (L) (fun v G' _ => v = .string r) := by
 unfold z83 at h
 refine CR.og (n := 43) (fn := Tryz.f96) (by kernel_rfl) rfl rfl fun R kr => (.seq (.region (W.p1 (.string (⟨#[]⟩ : zAd)) (.nil (.seq (.region ?_))))))
 refine W.p1 (.slice none 0 0) (.nil (.seq (.region (W.p1 (.int .i64 0) (.nil (.seq ?_))))))
 refine .seq (.region (W.p1 (.int .i64 0) (.nil ?_)))
 obtain ⟨q1, h2, h3⟩ := z00 h
 refine AW.midT (fun σ' H' => ∃ (y1 : List Int) (G' : GM), y1 = q1 /\ Ow G' H' (eSl (σ' 5) 3 (rI .i64) y1 :: L) /\ GM.le G G') ?_ ?_
 rotate_left
 .rintro σ82 H83 fr84 ⟨x81, G85, rfl, O86, s87⟩
  have h89 := z0b h3
  refine .seq (.region (W.p2 (σ82 5) ?_))
  obtain ⟨x90, i91, h92⟩ := z00 h89
  refine W.ln (Lo.callB (j := 0) rfl rfl (fn := Tryz.f150) (by kernel_rfl) rfl (mc rfl mn) O86 (fun G' L' hG O' hB => z9x K (σ82 5) x81 hB O' _ i91)) ?_
  rintro v99 H100 ⟨G93, O94, s95, sm98, rfl⟩
  refine W.p1 (.string x90) (.nil (.ret ?_))
  have O101 := O94.drop 0
  obtain rfl := zAa h92
  exact z1e kr (v1 := (.string x90)) (by rfl) rt O101 (zAe s87 s95) rfl
 refine .block ?_
 have O4 := O.nilSl 3 (rI .i64)
 refine AW.loop (α := Nat) (fun k' σ' H' => ∃ (y1 : List Int) (y2 : Int) (y3 : Int) (G' : GM), z2b K p0 p1 k' y1 y2 y3 = some q1 /\ Ow G' H' (eSl (σ' 5) 3 (rI .i64) y1 :: L) /\ GM.le G G' /\ σ' 6 = .int .i64 y2 /\ σ' 7 = .int .i64 y3) (fun k' => k') K ⟨[], 0, 0, _, h2, O4, (zAf _), rfl, rfl⟩ ?_
 rintro k5
 rintro σ9 H10 fr11 ⟨x6, x7, x8, G12, h15, O13, s14, t16, t17⟩
 rcases k5 with _ | k5
 .exact z07 h15
 rw [z2b] at h15
 refine .seq (.seq ?_)
 obtain ⟨q18, h19, h20⟩ := z00 h15
 refine AW.midT (fun σ' H' => ∃ (y1 : Bool) (G' : GM), y1 = q18 /\ Ow G' H' (eSl (σ9 5) 3 (rI .i64) x6 :: L) /\ GM.le G12 G' /\ σ' 22 = .bool y1) ?_ ?_
 .refine .region (W.q2 _ t17 (W.q2 (.string p0) ((fr11 0 rfl).trans rfl) (W.pv (.int .i64 (p0.size : Int)) (z1f ov un9) (W.p3 (.bool (decide (x8 < (p0.size : Int)))) (W.p2 (.bool (decide (x8 < (p0.size : Int)))) (W.splitAt (t := 13) (b := decide (x8 < (p0.size : Int))) rfl (fun g21 gv22 => ?_) (fun g21 gv22 => ?_)))))))
  .have h23 := z04 g21 h19
   refine W.q6 rfl gv22 (W.q6 rfl gv22 (W.q6 rfl gv22 (W.q6 rfl gv22 (W.q4 (.bool true) gv22 rfl (W.p2 (.bool true) (W.q6 rfl rfl ?_))))))
   refine W.q6 rfl rfl (W.q4 (.bool true) rfl rfl (.nil ?_))
   obtain rfl := zAa h23
   exact ⟨true, _, rfl, O13, (zAf _), rfl⟩
  have h24 := z0i g21 h19
  refine W.q2 (hg := gk rfl rfl gv22 rfl) _ t17 (W.q2 (hg := gk rfl rfl gv22 rfl) (.string p1) ((fr11 1 rfl).trans rfl) (W.pure (v := (.int .i64 (p1.size : Int))) (gk rfl rfl gv22 rfl) rfl (z1f ov un9) (W.q3 (hg := gk rfl rfl gv22 rfl) (.bool (decide (x8 < (p1.size : Int)))) rfl rfl (W.q5 (.bool (decide (x8 < (p1.size : Int)))) gv22 rfl (W.p2 (.bool (decide (x8 < (p1.size : Int)))) (W.splitAt (t := 19) (b := decide (x8 < (p1.size : Int))) rfl (fun g25 gv26 => ?_) (fun g25 gv26 => ?_)))))))
  .have h27 := z04 g25 h24
   refine W.q6 rfl gv26 (W.q6 rfl gv26 (W.q4 (.bool true) gv26 rfl (.nil ?_)))
   obtain rfl := zAa h27
   exact ⟨true, _, rfl, O13, (zAf _), rfl⟩
  have h28 := z0i g25 h24
  refine W.q2 (hg := gk rfl rfl gv26 rfl) _ t16 (W.q3 (hg := gk rfl rfl gv26 rfl) (.bool (decide (x7 > 0))) rfl rfl (W.q5 (.bool (decide (x7 > 0))) gv26 rfl (.nil ?_)))
  obtain rfl := zAa h28
  exact ⟨decide (x7 > 0), _, rfl, O13, (zAf _), rfl⟩
 rintro σ30 H31 fr32 ⟨x29, G33, rfl, O34, s35, t37⟩
 have h38 := z0b h20
 refine .cond (b := x29) rfl t37 (fun g39 => ?_) (fun g39 => ?_)
 rotate_left
 .have h80 := z0i g39 h38
  refine .exit ?_
  obtain rfl := zAa h80
  exact ⟨x6, _, rfl, (Ow.reval (j := 0) O34 rfl ((fr32 5 rfl).trans rfl)), (zAe s14 s35)⟩
 have h40 := z04 g39 h38
 refine .skip (.seq (.block (.seq (.region (W.q2 (.string p0) ((fr32 0 rfl).trans ((fr11 0 rfl).trans rfl)) (W.q2 _ ((fr32 7 rfl).trans t17) ?_))))))
 obtain ⟨x41, i42, h43⟩ := z00 h40
 refine W.ln (Lo.cP rfl (fn := Tryz.f149) (by kernel_rfl) rfl (mc rfl (mc rfl mn)) O34 (fun L' O' => z4z K p0 x8 O' _ i42)) ?_
 rintro v50 H51 ⟨G44, O45, s46, sm49, rfl⟩
 refine W.q2 (.string p1) ((fr32 1 rfl).trans ((fr11 1 rfl).trans rfl)) (W.q2 _ ((fr32 7 rfl).trans t17) ?_)
 obtain ⟨x52, i53, h54⟩ := z00 h43
 refine W.ln (Lo.cP rfl (fn := Tryz.f149) (by kernel_rfl) rfl (mc rfl (mc rfl mn)) O45 (fun L' O' => z4z K p1 x8 O' _ i53)) ?_
 rintro v61 H62 ⟨G55, O56, s57, sm60, rfl⟩
 refine W.p3 (.int .i64 (z03 .i64 (x41 + x52))) (W.q2 _ ((fr32 6 rfl).trans t16) (W.p3 (.int .i64 (z03 .i64 ((z03 .i64 (x41 + x52)) + x7))) (W.p1 (.int .i64 (z03 .i64 ((z03 .i64 (x41 + x52)) + x7))) (.nil (.seq (.region ?_))))))
 refine W.q2 (σ9 5) ((fr32 5 rfl).trans rfl) (W.p2 (.int .i64 (z03 .i64 ((z03 .i64 (x41 + x52)) + x7))) (W.pv (.int .i64 (Int.tmod (z03 .i64 ((z03 .i64 (x41 + x52)) + x7)) 10)) (zjq (by decide) ov ov) (W.ln (Lo.buildSlice (r := (rI .i64)) (vs := [(.int .i64 (Int.tmod (z03 .i64 ((z03 .i64 (x41 + x52)) + x7)) 10))]) (xs := [Int.tmod (z03 .i64 ((z03 .i64 (x41 + x52)) + x7)) 10]) za4 ze3 sz3 (by kernel_rfl) rfl (qc rfl qn) rfl (.cons rfl .nil) O56) ?_)))
 rintro v65 H66 ⟨O63, sm64⟩
 obtain ⟨es68, e69, e70⟩ := z3z (j := 0) rfl O63
 obtain ⟨g71, h72⟩ := z1y h54
 refine W.ln (Lo.append (j := 1) (v := (σ9 5)) rfl rfl za4 zq1 ze3 sz3 by3 (by decide) (by decide) rfl e69 e70 g71 O63) ?_
 rintro v74 H75 ⟨O67, sm73⟩
 refine W.p1 v74 (.nil (.region (W.p2 (.int .i64 (z03 .i64 ((z03 .i64 (x41 + x52)) + x7))) (W.pv (.int .i64 (z03 .i64 (Int.tdiv (z03 .i64 ((z03 .i64 (x41 + x52)) + x7)) 10))) (zhw (by decide) ov ov) ?_))))
 obtain ⟨x76, e77, h78⟩ := z68 h72
 refine W.q1 _ (congrArg (Value.int .i64) e77) (.nil (.region (W.q2 _ ((fr32 7 rfl).trans t17) (W.p3 (.int .i64 (z03 .i64 (x8 + 1))) (W.p1 (.int .i64 (z03 .i64 (x8 + 1))) (.nil ?_))))))
 have O79 := O67.drop 0
 exact ⟨k5, zAg _, ⟨(x6 ++ [Int.tmod (z03 .i64 ((z03 .i64 (x41 + x52)) + x7)) 10]), x76, z03 .i64 (x8 + 1), _, h78, O79, (zAe s14 (zAe s35 (zAe s46 s57))), rfl, rfl⟩⟩
def z84 (K : Nat) (p0 : zAd) (p1 : zAd) : Option zAd := ((z45 K p0).bind fun x1 => ((z45 K p1).bind fun x12 => ((z3o K x1.2.1 x12.2.2).bind fun x23 => ((z3o K x12.2.1 x1.2.2).bind fun x34 => ((z3o K x1.2.2 x12.2.2).bind fun x45 => (if (x1.1 == x12.1) = true then ((z83 K x23 x34).bind fun x58 => ((z5o K x1.1 x58 x45).bind fun x69 => some x69)) else ((z70 K x23 x34).bind fun x81 => (Option.bind ((if (decide (x81 < 0)) = true then some (x12.1, x34, x23) else some (x1.1, x23, x34))) (tu3 fun x98 x99 x100 => ((z71 K x99 x100).bind fun x112 => ((z5o K x98 x112 x45).bind fun x123 => some x123)))))))))))
theorem zdy (p0 : zAd) (p1 : zAd) (O : Ow G H (L)) (r : zAd) (h : z84 K p0 p1 = some r) :
    CR Tryz.prog 41 [(.string p0), (.string p1)] G H (L) (fun v G' _ => v = .string r) := by
 unfold z84 at h
 refine CR.og (n := 57) (fn := Tryz.f41) (by kernel_rfl) rfl rfl fun R kr => (.seq (.region (W.p1 (.string (⟨#[]⟩ : zAd)) (.nil (.seq (.region ?_))))))
 refine W.p2 (.string p0) ?_
 obtain ⟨x1, i2, h3⟩ := z00 h
 refine W.ln (Lo.cP rfl (fn := Tryz.f61) (by kernel_rfl) rfl (mc rfl mn) O (fun L' O' => z4a K p0 O' _ i2)) ?_
 rintro v10 H11 ⟨G4, O5, s6, sm9, rfl⟩
 refine W.p2 (.tuple #[(.bool x1.1), (.string x1.2.1), (.string x1.2.2)]) (W.pv (.bool x1.1) (z0a ov rfl) (W.pv (.string x1.2.1) (z0a ov rfl) (W.pv (.string x1.2.2) (z0a ov rfl) (W.p1 (.bool x1.1) (W.p1 (.string x1.2.1) (W.p1 (.string x1.2.2) ?_))))))
 refine .nil (.seq (.region (W.p2 (.string p1) ?_)))
 obtain ⟨x12, i13, h14⟩ := z00 h3
 refine W.ln (Lo.cP rfl (fn := Tryz.f61) (by kernel_rfl) rfl (mc rfl mn) O5 (fun L' O' => z4a K p1 O' _ i13)) ?_
 rintro v21 H22 ⟨G15, O16, s17, sm20, rfl⟩
 refine W.p2 (.tuple #[(.bool x12.1), (.string x12.2.1), (.string x12.2.2)]) (W.pv (.bool x12.1) (z0a ov rfl) (W.pv (.string x12.2.1) (z0a ov rfl) (W.pv (.string x12.2.2) (z0a ov rfl) (W.p1 (.bool x12.1) (W.p1 (.string x12.2.1) (W.p1 (.string x12.2.2) ?_))))))
 refine .nil (.seq (.region (W.p2 (.string x1.2.1) (W.p2 (.string x12.2.2) ?_))))
 obtain ⟨x23, i24, h25⟩ := z00 h14
 refine W.ln (Lo.cP rfl (fn := Tryz.f94) (by kernel_rfl) rfl (mc rfl (mc rfl mn)) O16 (fun L' O' => z3p K x1.2.1 x12.2.2 O' _ i24)) ?_
 rintro v32 H33 ⟨G26, O27, s28, sm31, rfl⟩
 refine W.p2 (.string x12.2.1) (W.p2 (.string x1.2.2) ?_)
 obtain ⟨x34, i35, h36⟩ := z00 h25
 refine W.ln (Lo.cP rfl (fn := Tryz.f94) (by kernel_rfl) rfl (mc rfl (mc rfl mn)) O27 (fun L' O' => z3p K x12.2.1 x1.2.2 O' _ i35)) ?_
 rintro v43 H44 ⟨G37, O38, s39, sm42, rfl⟩
 refine W.p2 (.string x1.2.2) (W.p2 (.string x12.2.2) ?_)
 obtain ⟨x45, i46, h47⟩ := z00 h36
 refine W.ln (Lo.cP rfl (fn := Tryz.f94) (by kernel_rfl) rfl (mc rfl (mc rfl mn)) O38 (fun L' O' => z3p K x1.2.2 x12.2.2 O' _ i46)) ?_
 rintro v54 H55 ⟨G48, O49, s50, sm53, rfl⟩
 refine W.p1 (.string x23) (W.p1 (.string x34) (W.p1 (.string x45) (.nil (.seq (.seq (.region ?_))))))
 refine W.p2 (.bool x1.1) (W.p2 (.bool x12.1) (W.pv (.bool (x1.1 == x12.1)) (zho ov ov un4) (.nil (.cond (b := (x1.1 == x12.1)) rfl rfl (fun g56 => ?_) (fun g56 => ?_)))))
 .have h57 := z04 g56 h47
  refine .seq (.region (W.p2 (.bool x1.1) (W.p2 (.string x23) (W.p2 (.string x34) ?_))))
  obtain ⟨x58, i59, h60⟩ := z00 h57
  refine W.ln (Lo.cP rfl (fn := Tryz.f96) (by kernel_rfl) rfl (mc rfl (mc rfl mn)) O49 (fun L' O' => zdx K x23 x34 O' _ i59)) ?_
  rintro v67 H68 ⟨G61, O62, s63, sm66, rfl⟩
  refine W.p2 (.string x45) ?_
  obtain ⟨x69, i70, h71⟩ := z00 h60
  refine W.ln (Lo.cP rfl (fn := Tryz.f95) (by kernel_rfl) rfl (mc rfl (mc rfl (mc rfl mn))) O62 (fun L' O' => z66 K x1.1 x58 x45 O' _ i70)) ?_
  rintro v78 H79 ⟨G72, O73, s74, sm77, rfl⟩
  refine W.p1 (.string x69) (.nil (.ret ?_))
  obtain rfl := zAa h71
  exact z1e kr (v1 := (.string x69)) (by rfl) rt O73 (zAe s6 (zAe s17 (zAe s28 (zAe s39 (zAe s50 (zAe s63 s74)))))) rfl
 have h80 := z0i g56 h47
 refine .skip (.seq (.seq (.region (W.p2 (.string x23) (W.p2 (.string x34) ?_)))))
 obtain ⟨x81, i82, h83⟩ := z00 h80
 refine W.ln (Lo.cP rfl (fn := Tryz.f97) (by kernel_rfl) rfl (mc rfl (mc rfl mn)) O49 (fun L' O' => za5 K x23 x34 O' _ i82)) ?_
 rintro v90 H91 ⟨G84, O85, s86, sm89, rfl⟩
 refine W.p3 (.bool (decide (x81 < 0))) (.nil ?_)
 obtain ⟨q92, h93, h94⟩ := z00 h83
 refine AW.midT (fun σ' H' => ∃ (y1 : Bool) (y2 : zAd) (y3 : zAd) (G' : GM), (y1, y2, y3) = q92 /\ Ow G' H' (L) /\ GM.le G84 G' /\ σ' 5 = .bool y1 /\ σ' 11 = .string y2 /\ σ' 12 = .string y3) ?_ ?_
 .refine .cond (b := decide (x81 < 0)) rfl rfl (fun g95 => ?_) (fun g95 => ?_)
  rotate_left
  .have h97 := z0i g95 h93
   refine .skip ?_
   obtain rfl := zAa h97
   exact ⟨x1.1, x23, x34, _, rfl, O85, (zAf _), rfl, rfl, rfl⟩
  have h96 := z04 g95 h93
  refine .region (W.p2 (.string x34) (W.p2 (.string x23) (W.p2 (.bool x12.1) (W.p1 (.string x34) (W.p1 (.string x23) (W.p1 (.bool x12.1) ?_))))))
  refine .nil ?_
  obtain rfl := zAa h96
  exact ⟨x12.1, x34, x23, _, rfl, O85, (zAf _), rfl, rfl, rfl⟩
 rintro σ101 H102 fr103 ⟨x98, x99, x100, G104, rfl, O105, s106, t108, t109, t110⟩
 have h111 := zfg h94
 refine .seq (.region (W.q2 _ t108 (W.q2 _ t109 (W.q2 _ t110 ?_))))
 obtain ⟨x112, i113, h114⟩ := z00 h111
 refine W.ln (Lo.cP rfl (fn := Tryz.f98) (by kernel_rfl) rfl (mc rfl (mc rfl mn)) O105 (fun L' O' => za6 K x99 x100 O' _ i113)) ?_
 rintro v121 H122 ⟨G115, O116, s117, sm120, rfl⟩
 refine W.q2 (.string x45) ((fr103 13 rfl).trans rfl) ?_
 obtain ⟨x123, i124, h125⟩ := z00 h114
 refine W.ln (Lo.cP rfl (fn := Tryz.f95) (by kernel_rfl) rfl (mc rfl (mc rfl (mc rfl mn))) O116 (fun L' O' => z66 K x98 x112 x45 O' _ i124)) ?_
 rintro v132 H133 ⟨G126, O127, s128, sm131, rfl⟩
 refine W.p1 (.string x123) (.nil (.ret ?_))
 obtain rfl := zAa h125
 exact z1e kr (v1 := (.string x123)) (by rfl) rt O127 (zAe s6 (zAe s17 (zAe s28 (zAe s39 (zAe s50 (zAe s86 (zAe s106 (zAe s117 s128)))))))) rfl
def z5f (K : Nat) (p0 : zAd) (p1 : zAd) : Option zAd := ((z82 K p1).bind fun x1 => ((z84 K p0 x1).bind fun x12 => some x12))
theorem z85 (p0 : zAd) (p1 : zAd) (O : Ow G H (L)) (r : zAd) (h : z5f K p0 p1 = some r) :
    CR Tryz.prog 74 [(.string p0), (.string p1)] G H (L) (fun v G' _ => v = .string r) := by
 unfold z5f at h
 refine CR.og (n := 9) (fn := Tryz.f74) (by kernel_rfl) rfl rfl fun R kr => (.seq (.region (W.p1 (.string (⟨#[]⟩ : zAd)) (.nil (.seq (.region ?_))))))
 refine W.p2 (.string p0) (W.p2 (.string p1) ?_)
 obtain ⟨x1, i2, h3⟩ := z00 h
 refine W.ln (Lo.cP rfl (fn := Tryz.f111) (by kernel_rfl) rfl (mc rfl mn) O (fun L' O' => zdw K p1 O' _ i2)) ?_
 rintro v10 H11 ⟨G4, O5, s6, sm9, rfl⟩
 obtain ⟨x12, i13, h14⟩ := z00 h3
 refine W.ln (Lo.cP rfl (fn := Tryz.f41) (by kernel_rfl) rfl (mc rfl (mc rfl mn)) O5 (fun L' O' => zdy K p0 x1 O' _ i13)) ?_
 rintro v21 H22 ⟨G15, O16, s17, sm20, rfl⟩
 refine W.p1 (.string x12) (.nil (.ret ?_))
 obtain rfl := zAa h14
 exact z1e kr (v1 := (.string x12)) (by rfl) rt O16 (zAe s6 s17) rfl
end Go.Am.Tryz
/- Typed functions with the same answers as the program's, and the walks that show it. -/
namespace Go.Am.Tryz
open Go Go.Am Go.Proofs
def z36 (K : Nat) (p0 : List (List zAd)) (p1 : List zAd) : Nat -> List (List zAd) -> Int -> Option (List (List zAd))
  | 0, _, _ => none
  | k + 1, x6, x7 => (if (decide (x7 < (p0.length : Int))) = true then ((idx p0 x7).bind fun x18 => (if List.length ([] : List zAd) + x18.length <= 16777216 then ((idx p1 x7).bind fun x47 => (if List.length (([] : List zAd) ++ x18) + List.length [x47] <= 16777216 then (if x6.length + List.length [((([] : List zAd) ++ x18) ++ [x47])] <= 16777216 then z36 K p0 p1 k (x6 ++ [((([] : List zAd) ++ x18) ++ [x47])]) (z03 .i64 (x7 + 1)) else none) else none)) else none)) else some x6)
def z2n (K : Nat) (x90 : List (List zAd)) : Nat -> Int -> Option ((List zAd × Bool) ⊕ Unit)
  | 0, _ => none
  | k + 1, x111 => (if (decide (x111 < (x90.length : Int))) = true then ((idx x90 x111).bind fun x122 => ((idx x122 0).bind fun x129 => (if (!(sEq x129 (⟨#[48]⟩ : zAd))) = true then some (.inl ([], false)) else z2n K x90 k (z03 .i64 (x111 + 1))))) else some (.inr ()))
def z1i (K : Nat) (p2 : Int) (x90 : List (List zAd)) : Nat -> Int -> Int -> Option (Int)
  | 0, _, _ => none
  | k + 1, x160, x161 => (if (decide (x161 < (x90.length : Int))) = true then (Option.bind (((idx x90 x161).bind fun x176 => (Option.bind (((idx x176 (z03 .i64 (p2 - 1))).bind fun x186 => (if (!(sEq x186 (⟨#[48]⟩ : zAd))) = true then some (decide (x160 < 0)) else some false))) (tu1 fun x194 => (if x194 = true then some x161 else some x160))))) (tu1 fun x207 => z1i K p2 x90 k x207 (z03 .i64 (x161 + 1)))) else some x160)
def z3q (K : Nat) (p2 : Int) (x90 : List (List zAd)) (x218 : Int) (x255 : List zAd) (x285 : zAd) : Nat -> List zAd -> Int -> Option (List zAd)
  | 0, _, _ => none
  | k + 1, x301, x302 => (if (decide (x302 < (z03 .i64 (p2 - 1)))) = true then ((idx x255 x302).bind fun x318 => ((idx x90 x218).bind fun x322 => ((idx x322 x302).bind fun x329 => ((z5e K x285 x329).bind fun x333 => ((z5f K x318 x333).bind fun x346 => (if x301.length + List.length [x346] <= 16777216 then z3q K p2 x90 x218 x255 x285 k (x301 ++ [x346]) (z03 .i64 (x302 + 1)) else none)))))) else some x301)
def z2c (K : Nat) (p2 : Int) (x90 : List (List zAd)) (x218 : Int) : Nat -> List zAd -> List (List zAd) -> Int -> Option (List zAd × List (List zAd))
  | 0, _, _, _ => none
  | k + 1, x239, x240, x241 => (if (decide (x241 < (x90.length : Int))) = true then (Option.bind (((idx x90 x241).bind fun x255 => (if (x241 == x218) = true then some (x239, x240) else ((idx x255 (z03 .i64 (p2 - 1))).bind fun x270 => ((idx x90 x218).bind fun x274 => ((idx x274 (z03 .i64 (p2 - 1))).bind fun x281 => ((z74 K x270 x281).bind fun x285 => (Option.bind (z3q K p2 x90 x218 x255 x285 K [] 0) (tu1 fun x381 => (if x240.length + List.length [x381] <= 16777216 then ((idx x255 p2).bind fun x416 => ((idx x90 x218).bind fun x420 => ((idx x420 p2).bind fun x427 => ((z5e K x285 x427).bind fun x431 => ((z5f K x416 x431).bind fun x444 => (if x239.length + List.length [x444] <= 16777216 then some ((x239 ++ [x444]), (x240 ++ [x381])) else none)))))) else none)))))))))) (tu2 fun x474 x475 => z2c K p2 x90 x218 k x474 x475 (z03 .i64 (x241 + 1)))) else some (x239, x240))
def z2o (K : Nat) (x90 : List (List zAd)) (x218 : Int) (x507 : List zAd × Bool) : Nat -> zAd -> Int -> Option (zAd)
  | 0, _, _ => none
  | k + 1, x549, x550 => (if (decide (x550 < (x507.1.length : Int))) = true then ((idx x507.1 x550).bind fun x562 => ((idx x90 x218).bind fun x566 => ((idx x566 x550).bind fun x573 => ((z5e K x573 x562).bind fun x577 => ((z5f K x549 x577).bind fun x588 => z2o K x90 x218 x507 k x588 (z03 .i64 (x550 + 1))))))) else some x549)
def z67 (K : Nat) : Nat -> List (List zAd) -> List zAd -> Int -> Option (List zAd × Bool)
  | 0, _, _, _ => none
  | D + 1, p0, p1, p2 => (Option.bind (z36 K p0 p1 K [] 0) (tu1 fun x90 => (if 0 <= p2 /\ p2 <= p2 /\ p2 <= 16777216 then (if (p2 == 0) = true then (zb5 (z2n K x90 K 0) (tu2 fun a153 a154 => some (a153, a154)) (tu0 (some ((List.replicate (p2.toNat) ByteArray.empty), true)))) else (Option.bind (z1i K p2 x90 K (-1) 0) (tu1 fun x218 => (if (decide (x218 < 0)) = true then some ([], false) else (Option.bind (z2c K p2 x90 x218 K [] [] 0) (tu2 fun x489 x490 => (((z67 K D) x490 x489 (z03 .i64 (p2 - 1))).bind fun x507 => (if (!x507.2) = true then some ([], false) else (if 0 < List.length (List.replicate (p2.toNat) ByteArray.empty) then ((idx x90 x218).bind fun x534 => ((idx x534 p2).bind fun x541 => (Option.bind (z2o K x90 x218 x507 K x541 0) (tu1 fun x600 => ((idx x90 x218).bind fun x610 => ((idx x610 (z03 .i64 (p2 - 1))).bind fun x617 => ((z74 K x600 x617).bind fun x621 => ((idx (cpy (List.replicate (p2.toNat) ByteArray.empty) x507.1) (z03 .i64 (p2 - 1))).bind fun x632 => some ((List.set (cpy (List.replicate (p2.toNat) ByteArray.empty) x507.1) (Int.toNat (z03 .i64 (p2 - 1))) x621), true))))))))) else none))))))))) else none)))
theorem zdz (K D : Nat) : ∀ {G : GM} {H : AH} {L : List Pc} (v0 : Value) (p0 : List (List zAd)) (hp0 : (rSl (rSl rS)).rep G [v0] p0) (v1 : Value) (p1 : List zAd) (hp1 : (rSl rS).rep G [v1] p1) (p2 : Int) (O : Ow G H (L)) (r : List zAd × Bool) (h : z67 K D p0 p1 p2 = some r),
    CR Tryz.prog 49 [v0, v1, (.int .i64 p2)] G H (L) (fun v G' _ => ∃ (w0 : Value), v = .tuple #[w0, .bool r.2] /\ (rSl rS).rep G' [w0] r.1) := by
 induction D with
 | zero => intro G H L v0 p0 hp0 v1 p1 hp1 p2 O r h; exact z07 h
 | succ D ih =>
 intro G H L v0 p0 hp0 v1 p1 hp1 p2 O r h
 rw [z67] at h
 refine CR.og (n := 209) (fn := Tryz.f49) (by kernel_rfl) rfl rfl fun R kr => (.seq (.region (W.p1 (.slice none 0 0) (W.p1 (.bool false) (.nil (.seq ?_))))))
 refine .region (W.p1 (.slice none 0 0) (.nil (.seq (.seq (.region (W.p2 v0 ?_))))))
 refine W.pv (.int .i64 (p0.length : Int)) (z0g ov (z0c hp0) (z02 el44)) (W.p2 (.int .i64 0) (.nil ?_))
 obtain ⟨q1, h2, h3⟩ := z00 h
 refine AW.midT (fun σ' H' => ∃ (y1 : List (List zAd)) (G' : GM), y1 = q1 /\ Ow G' H' (eSl (σ' 8) 45 (rSl rS) y1 :: L) /\ GM.le G G') ?_ ?_
 .refine .block ?_
  have O4 := O.nilSl 45 (rSl rS)
  refine AW.loop (α := Nat) (fun k' σ' H' => ∃ (y1 : List (List zAd)) (y2 : Int) (G' : GM), z36 K p0 p1 k' y1 y2 = some q1 /\ Ow G' H' (eSl (σ' 8) 45 (rSl rS) y1 :: L) /\ GM.le G G' /\ σ' 31 = .int .i64 y2) (fun k' => k') K ⟨[], 0, _, h2, O4, (zAf _), rfl⟩ ?_
  rintro k5
  rintro σ8 H9 fr10 ⟨x6, x7, G11, h14, O12, s13, t15⟩
  rcases k5 with _ | k5
  .exact z07 h14
  rw [z36] at h14
  refine .seq (.region (W.q3 (.bool (decide (x7 < (p0.length : Int)))) t15 ((fr10 30 rfl).trans rfl) (.nil (.seq (.cond (b := decide (x7 < (p0.length : Int))) rfl rfl (fun g16 => ?_) (fun g16 => ?_))))))
  rotate_left
  .have h89 := z0i g16 h14
   refine .exit ?_
   obtain rfl := zAa h89
   exact ⟨x6, _, rfl, O12, s13⟩
  have h17 := z04 g16 h14
  refine .skip (.seq (.block (.seq (.region (W.q2 _ t15 ?_)))))
  obtain ⟨x18, i19, h20⟩ := z00 h17
  have j21 := z08 i19
  refine W.pv (z0x v0 (x7.toNat * 1)) (z1d el44 sz45 (ou ((fr10 29 rfl).trans rfl)) (ou t15) (z0c (RT.mono _ s13 hp0)) j21.1 j21.2.1) ?_
  obtain ⟨w22, p23, f24⟩ := At.sl (At.le (z0t hp0 j21.2.2) s13 s13)
  replace p23 := PtG.le p23 O12.fro
  refine W.load1 (v := w22) (r := []) rfl rfl ag45 (z0o rfl p23) (W.p1 (.int .i64 x7) (W.p1 w22 (.nil (.draw2 (M := [0, 0, 0, 6, 0, 0, 48, 112, 240, 510, 1022, 2047, 4095]) mixed (by kernel_rfl) (by kernel_rfl) fun H25 N29 x26 F28 => ?_))))
  have O27 := O12.ext x26
  refine D2.p2 (σ8 8) (D2.alloc (m := 13) rfl rfl (Al.buildSlice (r := rS) (vs := []) (xs := ([] : List zAd)) el45 ze22 sz22 (by kernel_rfl) rfl qn rfl .nil) (Free.up (by decide) F28) (by decide) O27 ?_)
  rintro b31 H32 ⟨O33, sm34, F35⟩
  refine D2.p2 w22 ?_
  obtain ⟨es37, e38, e39⟩ := zff f24 O33
  obtain ⟨g40, h41⟩ := z1y h20
  refine D2.loN rfl rfl (Lo.append (j := 0) (v := (.slice (some ⟨b31, 0, some 0⟩) 0 0)) rfl rfl el45 ni45 ze22 sz22 by22 (by decide) (by decide) rfl e38 e39 g40 O33) ?_ z06 ?_ ?_
  .rintro v43 H44 ⟨O36, sm42⟩; exact z06
  .rintro v43 H44 ⟨O36, sm42⟩; exact (faR1 (.inl (by decide)) z06)
  rintro v43 H44 ⟨O36, sm42⟩ nx45
  have F46 := Free.nx F35 nx45
  refine D2.q2 v1 ((fr10 1 rfl).trans rfl) (D2.p2 (.int .i64 x7) ?_)
  obtain ⟨x47, i48, h49⟩ := z00 h41
  have j50 := z08 i48
  refine D2.pv (z0x v1 (x7.toNat * 1)) (z1d el45 sz22 ov ov (z0c (RT.mono _ s13 hp1)) j50.1 j50.2.1) (D2.load1' (v := (.string x47)) (r := []) rfl rfl ag22 (z0o rfl (At.str (At.le (At.le (z0t hp1 j50.2.2) s13 s13) (zAf _) O36.fro))) (z7l (sm42 _ (by obtain ⟨k, hk⟩ := O33.vis (zgg (M := G11) (L := (eSl (.slice (some ⟨b31, 0, some 0⟩) 0 0) 22 rS ([] : List zAd) :: eSl (σ8 8) 45 (rSl rS) x6 :: L)) (At.le (z0t hp1 j50.2.2) s13 s13) rfl); exact congrArg Option.isSome hk) (fun hc => O33.neG (j := 0) rfl hc (zfh (At.le (z0t hp1 j50.2.2) s13 s13)) rfl)) z06) (D2.alloc (m := 13) rfl rfl (Al.buildSlice (r := rS) (vs := [(.string x47)]) (xs := [x47]) el45 ze22 sz22 (by kernel_rfl) rfl (qc rfl qn) rfl (.cons rfl .nil)) (Free.up (by decide) F46) (by decide) O36 ?_))
  rintro b52 H53 ⟨O54, sm55, F56⟩
  obtain ⟨es58, e59, e60⟩ := z3z (j := 0) rfl O54
  obtain ⟨g61, h62⟩ := z1y h49
  refine D2.loN rfl rfl (Lo.append (j := 1) (v := v43) rfl rfl el45 ni45 ze22 sz22 by22 (by decide) (by decide) rfl e59 e60 g61 O54) ?_ (z0h (by decide) z06) ?_ ?_
  .rintro v64 H65 ⟨O57, sm63⟩; exact (faR1 (.inl (by decide)) z06)
  .rintro v64 H65 ⟨O57, sm63⟩; exact (faR1 (.inl (by decide)) (faR1 (.inl (by decide)) z06))
  rintro v64 H65 ⟨O57, sm63⟩ nx66
  have F67 := Free.nx F56 nx66
  obtain ⟨G69, O70, s71, f72⟩ := O57.frzSl (j := 1) rfl
  refine D2.alloc (m := 13) rfl rfl (Al.buildSlice (r := (rSl rS)) (vs := [v64]) (xs := [((([] : List zAd) ++ x18) ++ [x47])]) el43 ze45 sz45 (by kernel_rfl) rfl (qc rfl qn) rfl (.cons (z5i f72) .nil)) (Free.up (by decide) F67) (by decide) O70 ?_
  rintro b73 H74 ⟨O75, sm76, F77⟩
  obtain ⟨es79, e80, e81⟩ := z3z (j := 0) rfl O75
  obtain ⟨g82, h83⟩ := z1y h62
  refine D2.lo rfl rfl (Lo.append (j := 2) (v := (σ8 8)) rfl rfl el43 ni43 ze45 sz45 by45 (by decide) (by decide) rfl e80 e81 g82 O75) ?_ (z0h (by decide) (z0h (by decide) z06)) ?_ ?_
  .rintro v85 H86 ⟨O78, sm84⟩; exact (faR1 (.inl (by decide)) z06)
  .rintro v85 H86 ⟨O78, sm84⟩; exact (faR1 (.inl (by decide)) (faR1 (.inl (by decide)) (faR1 (.inl (by decide)) z06)))
  rintro v85 H86 ⟨O78, sm84⟩
  refine D2.p1 v85 (.nil (.region (W.r3 (.int .i64 (z03 .i64 (x7 + 1))) t15 (W.p2 (.int .i64 (z03 .i64 (x7 + 1))) (.nil ?_)))))
  have O88 := (O78.drop 0).drop 0
  exact ⟨k5, zAg _, ⟨(x6 ++ [((([] : List zAd) ++ x18) ++ [x47])]), z03 .i64 (x7 + 1), _, h83, O88, (zAe s13 s71), rfl⟩⟩
 rintro σ91 H92 fr93 ⟨x90, G94, rfl, O95, s96⟩
 have h98 := z0b h3
 refine .seq (.region (W.q2 (.int .i64 p2) ((fr93 2 rfl).trans rfl) ?_))
 obtain ⟨g100, h101⟩ := z1y h98
 refine W.ln (Lo.makeSlice (r := rS) (x0 := ByteArray.empty) (a := p2) (c := p2) rfl el45 ze22 sz22 (by kernel_rfl) rfl by22 (by decide) rfl rfl g100 zS O95) ?_
 rintro v103 H104 ⟨O99, sm102⟩
 refine W.p1 v103 (.nil (.seq (.seq (.region (W.q2 (.int .i64 p2) ((fr93 2 rfl).trans rfl) (W.p3 (.bool (p2 == 0)) ?_))))))
 refine .nil (.cond (b := (p2 == 0)) rfl rfl (fun g105 => ?_) (fun g105 => ?_))
 .have h106 := z04 g105 h101
  refine .seq (.seq (.region (W.p2 (σ91 8) (W.pv (.int .i64 (x90.length : Int)) (z0g ov (O99.slLen (j := 1) rfl) (z02 el43)) (W.p2 (.int .i64 0) (.nil ?_))))))
  obtain ⟨q107, h108, h109⟩ := z2u h106
  refine AW.midT (fun σ' H' => ∃  (G' : GM), (.inr ()) = q107 /\ Ow G' H' (eSl v103 22 rS (List.replicate (p2.toNat) ByteArray.empty) :: eSl (σ91 8) 45 (rSl rS) x90 :: L) /\ GM.le G94 G') ?_ ?_
  rotate_left
  .rintro σ140 H141 fr142 ⟨G143, rfl, O144, s145⟩
   have h147 := z60 (z8m h109)
   refine .seq (.region (W.q2 v103 ((fr142 11 rfl).trans rfl) (W.p1 v103 (W.p1 (.bool true) (.nil (.ret ?_))))))
   obtain ⟨G148, O149, s150, f151⟩ := O144.frzSl (j := 0) rfl
   have O152 := O149.drop 0
   obtain rfl := zAa h147
   exact zgi kr (v1 := v103) (v2 := (.bool true)) (by rfl) rt rt O152 (zAe s96 (zAe s145 s150)) ⟨v103, rfl, f151⟩
  refine .block (AW.loop (α := Nat) (fun k' σ' H' => ∃ (y1 : Int) (G' : GM), z2n K x90 k' y1 = some q107 /\ Ow G' H' (eSl v103 22 rS (List.replicate (p2.toNat) ByteArray.empty) :: eSl (σ91 8) 45 (rSl rS) x90 :: L) /\ GM.le G94 G' /\ σ' 55 = .int .i64 y1) (fun k' => k') K ⟨0, _, h108, O99, (zAf _), rfl⟩ ?_)
  rintro k110
  rintro σ112 H113 fr114 ⟨x111, G115, h118, O116, s117, t119⟩
  rcases k110 with _ | k110
  .exact z07 h118
  rw [z2n] at h118
  refine .seq (.region (W.q3 (.bool (decide (x111 < (x90.length : Int)))) t119 ((fr114 54 rfl).trans rfl) (.nil (.seq (.cond (b := decide (x111 < (x90.length : Int))) rfl rfl (fun g120 => ?_) (fun g120 => ?_))))))
  rotate_left
  .have h139 := z0i g120 h118
   refine .exit ?_
   obtain rfl := zAa h139
   exact ⟨_, rfl, O116, s117⟩
  have h121 := z04 g120 h118
  refine .skip (.seq (.block (.seq (.region ?_))))
  obtain ⟨x122, i123, h124⟩ := z00 h121
  have j125 := z08 i123
  refine W.pv (z0x (σ91 8) (x111.toNat * 1)) (z1d el43 sz45 (ou ((fr114 53 rfl).trans rfl)) (ou t119) (O116.slLen (j := 1) rfl) j125.1 j125.2.1) ?_
  obtain ⟨w126, p127, f128⟩ := At.sl (O116.atSl (j := 1) rfl j125.2.2)
  refine W.load1 (v := w126) (r := []) rfl rfl ag45 (z0o rfl p127) (W.p1 w126 (.nil (.seq (.region (W.p2 w126 ?_)))))
  obtain ⟨x129, i130, h131⟩ := z00 h124
  have j132 := z08 i130
  refine W.pv (z0x w126 (Int.toNat 0 * 1)) (z1d el45 sz22 ov ov (z0c f128) j132.1 j132.2.1) (W.load1 (v := (.string x129)) (r := []) rfl rfl ag22 (z0o rfl (At.str (At.le (z0t f128 j132.2.2) (zAf _) O116.fro))) (W.pv (.bool (!(sEq x129 (⟨#[48]⟩ : zAd)))) (zgh ov ov) (.nil (.cond (b := (!(sEq x129 (⟨#[48]⟩ : zAd)))) rfl rfl (fun g133 => ?_) (fun g133 => ?_)))))
  rotate_left
  .have h138 := z0i g133 h131
   refine .skip (.region (W.r3 (.int .i64 (z03 .i64 (x111 + 1))) t119 (W.p2 (.int .i64 (z03 .i64 (x111 + 1))) (.nil ?_))))
   exact ⟨k110, zAg _, ⟨z03 .i64 (x111 + 1), _, h138, O116, s117, rfl⟩⟩
  have h134 := z04 g133 h131
  refine .seq (.region (W.p1 (.slice none 0 0) (W.p1 (.bool false) (.nil (.ret ?_)))))
  have O136 := (O116.drop 0).drop 0
  obtain rfl := zAa h134
  have h137 := z40 (z6p h109)
  obtain rfl := zAa h137
  exact zgi kr (v1 := (.slice none 0 0)) (v2 := (.bool false)) (by rfl) rt rt O136 (zAe s96 s117) ⟨(.slice none 0 0), rfl, zem⟩
 have h155 := z0i g105 h101
 refine .skip (.seq (.region (W.p1 (.int .i64 (-1)) (.nil (.seq (.seq ?_))))))
 refine .region (W.p2 (σ91 8) (W.pv (.int .i64 (x90.length : Int)) (z0g ov (O99.slLen (j := 1) rfl) (z02 el43)) (W.p2 (.int .i64 0) (.nil ?_))))
 obtain ⟨q156, h157, h158⟩ := z00 h155
 refine AW.midT (fun σ' H' => ∃ (y1 : Int) (G' : GM), y1 = q156 /\ Ow G' H' (eSl v103 22 rS (List.replicate (p2.toNat) ByteArray.empty) :: eSl (σ91 8) 45 (rSl rS) x90 :: L) /\ GM.le G94 G' /\ σ' 14 = .int .i64 y1) ?_ ?_
 .refine .block (AW.loop (α := Nat) (fun k' σ' H' => ∃ (y1 : Int) (y2 : Int) (G' : GM), z1i K p2 x90 k' y1 y2 = some q156 /\ Ow G' H' (eSl v103 22 rS (List.replicate (p2.toNat) ByteArray.empty) :: eSl (σ91 8) 45 (rSl rS) x90 :: L) /\ GM.le G94 G' /\ σ' 14 = .int .i64 y1 /\ σ' 67 = .int .i64 y2) (fun k' => k') K ⟨(-1), 0, _, h157, O99, (zAf _), rfl, rfl⟩ ?_)
  rintro k159
  rintro σ162 H163 fr164 ⟨x160, x161, G165, h168, O166, s167, t169, t170⟩
  rcases k159 with _ | k159
  .exact z07 h168
  rw [z1i] at h168
  refine .seq (.region (W.q3 (.bool (decide (x161 < (x90.length : Int)))) t170 ((fr164 66 rfl).trans rfl) (.nil (.seq (.cond (b := decide (x161 < (x90.length : Int))) rfl rfl (fun g171 => ?_) (fun g171 => ?_))))))
  rotate_left
  .have h217 := z0i g171 h168
   refine .exit ?_
   obtain rfl := zAa h217
   exact ⟨x160, _, rfl, O166, s167, t169⟩
  have h172 := z04 g171 h168
  refine .skip (.seq ?_)
  obtain ⟨q173, h174, h175⟩ := z00 h172
  refine AW.midT (fun σ' H' => ∃ (y1 : Int) (G' : GM), y1 = q173 /\ Ow G' H' (eSl v103 22 rS (List.replicate (p2.toNat) ByteArray.empty) :: eSl (σ91 8) 45 (rSl rS) x90 :: L) /\ GM.le G165 G' /\ σ' 14 = .int .i64 y1) ?_ ?_
  rotate_left
  .rintro σ208 H209 fr210 ⟨x207, G211, rfl, O212, s213, t215⟩
   have h216 := z0b h175
   refine .region (W.q3 (.int .i64 (z03 .i64 (x161 + 1))) ((fr210 67 rfl).trans t170) rfl (W.p2 (.int .i64 (z03 .i64 (x161 + 1))) (.nil ?_)))
   exact ⟨k159, zAg _, ⟨x207, z03 .i64 (x161 + 1), _, h216, O212, (zAe s167 s213), t215, rfl⟩⟩
  refine .block (.seq (.region (W.q2 _ t170 ?_)))
  obtain ⟨x176, i177, h178⟩ := z00 h174
  have j179 := z08 i177
  refine W.pv (z0x (σ91 8) (x161.toNat * 1)) (z1d el43 sz45 (ou ((fr164 65 rfl).trans rfl)) (ou t170) (O166.slLen (j := 1) rfl) j179.1 j179.2.1) ?_
  obtain ⟨w180, p181, f182⟩ := At.sl (O166.atSl (j := 1) rfl j179.2.2)
  refine W.load1 (v := w180) (r := []) rfl rfl ag45 (z0o rfl p181) (W.p1 (.int .i64 x161) (W.p1 w180 (.nil (.seq ?_))))
  obtain ⟨q183, h184, h185⟩ := z00 h178
  refine AW.midT (fun σ' H' => ∃ (y1 : Bool) (G' : GM), y1 = q183 /\ Ow G' H' (eSl v103 22 rS (List.replicate (p2.toNat) ByteArray.empty) :: eSl (σ91 8) 45 (rSl rS) x90 :: L) /\ GM.le G165 G' /\ σ' 81 = .bool y1) ?_ ?_
  rotate_left
  .rintro σ195 H196 fr197 ⟨x194, G198, rfl, O199, s200, t202⟩
   have h203 := z0b h185
   refine .cond (b := x194) rfl t202 (fun g204 => ?_) (fun g204 => ?_)
   rotate_left
   .have h206 := z0i g204 h203
    refine .skip ?_
    obtain rfl := zAa h206
    exact ⟨x160, _, rfl, O199, s200, ((fr197 14 rfl).trans t169)⟩
   have h205 := z04 g204 h203
   refine .region (W.q2 (.int .i64 x161) ((fr197 15 rfl).trans rfl) (W.p1 (.int .i64 x161) (.nil ?_)))
   obtain rfl := zAa h205
   exact ⟨x161, _, rfl, O199, s200, rfl⟩
  refine .region (W.p2 w180 (W.q2 (.int .i64 p2) ((fr164 2 rfl).trans ((fr93 2 rfl).trans rfl)) (W.p3 (.int .i64 (z03 .i64 (p2 - 1))) ?_)))
  obtain ⟨x186, i187, h188⟩ := z00 h184
  have j189 := z08 i187
  refine W.pv (z0x w180 (Int.toNat (z03 .i64 (p2 - 1)) * 1)) (z1d el45 sz22 ov ov (z0c f182) j189.1 j189.2.1) (W.load1 (v := (.string x186)) (r := []) rfl rfl ag22 (z0o rfl (At.str (At.le (z0t f182 j189.2.2) (zAf _) O166.fro))) (W.pv (.bool (!(sEq x186 (⟨#[48]⟩ : zAd)))) (zgh ov ov) (W.p2 (.bool (!(sEq x186 (⟨#[48]⟩ : zAd)))) (W.splitAt (t := 78) (b := (!(sEq x186 (⟨#[48]⟩ : zAd)))) rfl (fun g190 gv191 => ?_) (fun g190 gv191 => ?_)))))
  rotate_left
  .have h193 := z0i g190 h188
   refine W.q6 rfl gv191 (W.q6 rfl gv191 (W.q5 (.bool false) gv191 rfl (.nil ?_)))
   obtain rfl := zAa h193
   exact ⟨false, _, rfl, O166, (zAf _), rfl⟩
  have h192 := z04 g190 h188
  refine W.q2 (hg := gk rfl rfl gv191 rfl) _ t169 (W.q3 (hg := gk rfl rfl gv191 rfl) (.bool (decide (x160 < 0))) rfl rfl (W.q4 (.bool (decide (x160 < 0))) gv191 rfl (.nil ?_)))
  obtain rfl := zAa h192
  exact ⟨decide (x160 < 0), _, rfl, O166, (zAf _), rfl⟩
 rintro σ219 H220 fr221 ⟨x218, G222, rfl, O223, s224, t226⟩
 have h227 := z0b h158
 refine .seq (.seq (.region (W.q2 _ t226 (W.p3 (.bool (decide (x218 < 0))) (.nil (.cond (b := decide (x218 < 0)) rfl rfl (fun g228 => ?_) (fun g228 => ?_)))))))
 .have h229 := z04 g228 h227
  refine .seq (.region (W.p1 (.slice none 0 0) (W.p1 (.bool false) (.nil (.ret ?_)))))
  have O231 := (O223.drop 0).drop 0
  obtain rfl := zAa h229
  exact zgi kr (v1 := (.slice none 0 0)) (v2 := (.bool false)) (by rfl) rt rt O231 (zAe s96 s224) ⟨(.slice none 0 0), rfl, zem⟩
 have h232 := z0i g228 h227
 refine .skip (.seq (.region (W.p1 (.slice none 0 0) (.nil (.seq (.region ?_))))))
 refine W.p1 (.slice none 0 0) (.nil (.seq (.seq (.region (W.q2 (σ91 8) ((fr221 8 rfl).trans rfl) (W.pv (.int .i64 (x90.length : Int)) (z0g ov (O223.slLen (j := 1) rfl) (z02 el43)) ?_))))))
 refine W.p2 (.int .i64 0) (.nil ?_)
 obtain ⟨q233, h234, h235⟩ := z00 h232
 refine AW.midT (fun σ' H' => ∃ (y1 : List zAd) (y2 : List (List zAd)) (G' : GM), (y1, y2) = q233 /\ Ow G' H' (eSl v103 22 rS (List.replicate (p2.toNat) ByteArray.empty) :: eSl (σ91 8) 45 (rSl rS) x90 :: eSl (σ' 18) 22 rS y1 :: eSl (σ' 17) 45 (rSl rS) y2 :: L) /\ GM.le G222 G') ?_ ?_
 rotate_left
 .rintro σ491 H492 fr493 ⟨x489, x490, G494, rfl, O495, s496⟩
  have h498 := z40 h235
  refine .seq (.region (W.p2 (σ491 17) (W.p2 (σ491 18) (W.q2 (.int .i64 p2) ((fr493 2 rfl).trans ((fr221 2 rfl).trans ((fr93 2 rfl).trans rfl))) (W.p3 (.int .i64 (z03 .i64 (p2 - 1))) ?_)))))
  obtain ⟨G499, O500, s501, f502⟩ := O495.frzSl (j := 3) rfl
  obtain ⟨G503, O504, s505, f506⟩ := O500.frzSl (j := 2) rfl
  obtain ⟨x507, i508, h509⟩ := z00 h498
  refine W.ln (Lo.cP rfl (fn := Tryz.f49) (by kernel_rfl) rfl (mc rfl (mc rfl (mc rfl mn))) O504 (fun L' O' => ih (σ491 17) x490 (RT.mono _ s505 f502) (σ491 18) x489 f506 (z03 .i64 (p2 - 1)) O' _ i508)) ?_
  rintro v518 H519 ⟨G510, O511, s512, sm517, ⟨w514, rfl, f515⟩⟩
  refine W.p2 (.tuple #[w514, (.bool x507.2)]) (W.pv w514 (z0a ov rfl) (W.pv (.bool x507.2) (z0a ov rfl) (W.p1 w514 (W.p1 (.bool x507.2) (.nil (.seq ?_))))))
  refine .seq (.region (W.p2 (.bool x507.2) (W.pv (.bool (!x507.2)) (z9q (a := x507.2) ov) (.nil (.cond (b := (!x507.2)) rfl rfl (fun g520 => ?_) (fun g520 => ?_))))))
  .have h521 := z04 g520 h509
   refine .seq (.region (W.p1 (.slice none 0 0) (W.p1 (.bool false) (.nil (.ret ?_)))))
   have O523 := (O511.drop 0).drop 0
   obtain rfl := zAa h521
   exact zgi kr (v1 := (.slice none 0 0)) (v2 := (.bool false)) (by rfl) rt rt O523 (zAe s96 (zAe s224 (zAe s496 (zAe s501 (zAe s505 s512))))) ⟨(.slice none 0 0), rfl, zem⟩
  have h524 := z0i g520 h509
  refine .skip (.seq (.region (W.q2 v103 ((fr493 11 rfl).trans ((fr221 11 rfl).trans rfl)) (W.p2 w514 ?_))))
  obtain ⟨es525, e526, e527⟩ := zff f515 O511
  obtain ⟨g529, h530⟩ := z1y h524
  refine W.ln (Lo.copySl (j := 0) (v := v103) rfl rfl el45 sz22 (by decide) rfl e526 e527 g529 O511) ?_
  rintro v532 H533 ⟨⟨O528, sm531⟩, rfl⟩
  refine .nil (.seq (.region (W.q2 (σ91 8) ((fr493 8 rfl).trans ((fr221 8 rfl).trans rfl)) (W.q2 _ ((fr493 14 rfl).trans t226) ?_))))
  obtain ⟨x534, i535, h536⟩ := z00 h530
  have j537 := z08 i535
  refine W.pv (z0x (σ91 8) (x218.toNat * 1)) (z1d el43 sz45 ov ov (O528.slLen (j := 1) rfl) j537.1 j537.2.1) ?_
  obtain ⟨w538, p539, f540⟩ := At.sl (O528.atSl (j := 1) rfl j537.2.2)
  refine W.load1 (v := w538) (r := []) rfl rfl ag45 (z0o rfl p539) (W.q2 (.int .i64 p2) ((fr493 2 rfl).trans ((fr221 2 rfl).trans ((fr93 2 rfl).trans rfl))) ?_)
  obtain ⟨x541, i542, h543⟩ := z00 h536
  have j544 := z08 i542
  refine W.pv (z0x w538 (p2.toNat * 1)) (z1d el45 sz22 ov ov (z0c f540) j544.1 j544.2.1) (W.load1 (v := (.string x541)) (r := []) rfl rfl ag22 (z0o rfl (At.str (At.le (z0t f540 j544.2.2) (zAf _) O528.fro))) (W.p1 (.string x541) (.nil (.seq (.seq (.region ?_))))))
  refine W.p2 w514 (W.pv (.int .i64 (x507.1.length : Int)) (z0g ov (z0c f515) (z02 el45)) (W.p2 (.int .i64 0) (.nil ?_)))
  obtain ⟨q545, h546, h547⟩ := z00 h543
  refine AW.midT (fun σ' H' => ∃ (y1 : zAd) (G' : GM), y1 = q545 /\ Ow G' H' (eSl v103 22 rS (cpy (List.replicate (p2.toNat) ByteArray.empty) x507.1) :: eSl (σ91 8) 45 (rSl rS) x90 :: L) /\ GM.le G510 G' /\ σ' 26 = .string y1) ?_ ?_
  rotate_left
  .rintro σ601 H602 fr603 ⟨x600, G604, rfl, O605, s606, t608⟩
   have h609 := z0b h547
   refine .seq (.region (W.q2 v103 ((fr603 11 rfl).trans ((fr493 11 rfl).trans ((fr221 11 rfl).trans rfl))) (W.q2 (.int .i64 p2) ((fr603 2 rfl).trans ((fr493 2 rfl).trans ((fr221 2 rfl).trans ((fr93 2 rfl).trans rfl)))) (W.p3 (.int .i64 (z03 .i64 (p2 - 1))) (W.q2 _ t608 (W.q2 (σ91 8) ((fr603 8 rfl).trans ((fr493 8 rfl).trans ((fr221 8 rfl).trans rfl))) ?_))))))
   refine W.q2 _ ((fr603 14 rfl).trans ((fr493 14 rfl).trans t226)) ?_
   obtain ⟨x610, i611, h612⟩ := z00 h609
   have j613 := z08 i611
   refine W.pv (z0x (σ91 8) (x218.toNat * 1)) (z1d el43 sz45 ov ov (O605.slLen (j := 1) rfl) j613.1 j613.2.1) ?_
   obtain ⟨w614, p615, f616⟩ := At.sl (O605.atSl (j := 1) rfl j613.2.2)
   refine W.load1 (v := w614) (r := []) rfl rfl ag45 (z0o rfl p615) (W.q2 (.int .i64 p2) ((fr603 2 rfl).trans ((fr493 2 rfl).trans ((fr221 2 rfl).trans ((fr93 2 rfl).trans rfl)))) (W.p3 (.int .i64 (z03 .i64 (p2 - 1))) ?_))
   obtain ⟨x617, i618, h619⟩ := z00 h612
   have j620 := z08 i618
   refine W.pv (z0x w614 (Int.toNat (z03 .i64 (p2 - 1)) * 1)) (z1d el45 sz22 ov ov (z0c f616) j620.1 j620.2.1) (W.load1 (v := (.string x617)) (r := []) rfl rfl ag22 (z0o rfl (At.str (At.le (z0t f616 j620.2.2) (zAf _) O605.fro))) ?_)
   obtain ⟨x621, i622, h623⟩ := z00 h619
   refine W.ln (Lo.cP rfl (fn := Tryz.f113) (by kernel_rfl) rfl (mc rfl (mc rfl mn)) O605 (fun L' O' => za8 K x600 x617 O' _ i622)) ?_
   rintro v630 H631 ⟨G624, O625, s626, sm629, rfl⟩
   obtain ⟨x632, i633, h634⟩ := z00 h623
   have j635 := z08 i633
   refine W.pv (z0x v103 (Int.toNat (z03 .i64 (p2 - 1)) * 1)) (z1d el45 sz22 ov ov (O625.slLen (j := 0) rfl) j635.1 j635.2.1) (W.ln (Lo.storeSl0 (j := 0) (y0 := x621) (v := (.string x621)) rfl j635.2.2  rfl sz22 rfl rfl rfl O625) ?_)
   rintro v638 H639 ⟨O636, sm637⟩
   refine .nil (.seq (.region (W.q2 v103 ((fr603 11 rfl).trans ((fr493 11 rfl).trans ((fr221 11 rfl).trans rfl))) (W.p1 v103 (W.p1 (.bool true) (.nil ?_))))))
   refine .ret ?_
   obtain ⟨G640, O641, s642, f643⟩ := O636.frzSl (j := 0) rfl
   have O644 := O641.drop 0
   obtain rfl := zAa h634
   exact zgi kr (v1 := v103) (v2 := (.bool true)) (by rfl) rt rt O644 (zAe s96 (zAe s224 (zAe s496 (zAe s501 (zAe s505 (zAe s512 (zAe s606 (zAe s626 s642)))))))) ⟨v103, rfl, f643⟩
  refine .block (AW.loop (α := Nat) (fun k' σ' H' => ∃ (y1 : zAd) (y2 : Int) (G' : GM), z2o K x90 x218 x507 k' y1 y2 = some q545 /\ Ow G' H' (eSl v103 22 rS (cpy (List.replicate (p2.toNat) ByteArray.empty) x507.1) :: eSl (σ91 8) 45 (rSl rS) x90 :: L) /\ GM.le G510 G' /\ σ' 26 = .string y1 /\ σ' 177 = .int .i64 y2) (fun k' => k') K ⟨x541, 0, _, h546, O528, (zAf _), rfl, rfl⟩ ?_)
  rintro k548
  rintro σ551 H552 fr553 ⟨x549, x550, G554, h557, O555, s556, t558, t559⟩
  rcases k548 with _ | k548
  .exact z07 h557
  rw [z2o] at h557
  refine .seq (.region (W.q3 (.bool (decide (x550 < (x507.1.length : Int)))) t559 ((fr553 176 rfl).trans rfl) (.nil (.seq (.cond (b := decide (x550 < (x507.1.length : Int))) rfl rfl (fun g560 => ?_) (fun g560 => ?_))))))
  rotate_left
  .have h599 := z0i g560 h557
   refine .exit ?_
   obtain rfl := zAa h599
   exact ⟨x549, _, rfl, O555, s556, t558⟩
  have h561 := z04 g560 h557
  refine .skip (.seq (.block (.seq (.region (W.q2 _ t559 ?_)))))
  obtain ⟨x562, i563, h564⟩ := z00 h561
  have j565 := z08 i563
  refine W.pv (z0x w514 (x550.toNat * 1)) (z1d el45 sz22 (ou ((fr553 175 rfl).trans rfl)) (ou t559) (z0c (RT.mono _ s556 f515)) j565.1 j565.2.1) (W.load1 (v := (.string x562)) (r := []) rfl rfl ag22 (z0o rfl (At.str (At.le (At.le (z0t f515 j565.2.2) s556 s556) (zAf _) O555.fro))) (W.p1 (.int .i64 x550) (W.p1 (.string x562) (.nil (.region (W.q2 _ t558 ?_))))))
  refine W.q2 (σ91 8) ((fr553 8 rfl).trans ((fr493 8 rfl).trans ((fr221 8 rfl).trans rfl))) (W.q2 _ ((fr553 14 rfl).trans ((fr493 14 rfl).trans t226)) ?_)
  obtain ⟨x566, i567, h568⟩ := z00 h564
  have j569 := z08 i567
  refine W.pv (z0x (σ91 8) (x218.toNat * 1)) (z1d el43 sz45 ov ov (O555.slLen (j := 1) rfl) j569.1 j569.2.1) ?_
  obtain ⟨w570, p571, f572⟩ := At.sl (O555.atSl (j := 1) rfl j569.2.2)
  refine W.load1 (v := w570) (r := []) rfl rfl ag45 (z0o rfl p571) (W.p2 (.int .i64 x550) ?_)
  obtain ⟨x573, i574, h575⟩ := z00 h568
  have j576 := z08 i574
  refine W.pv (z0x w570 (x550.toNat * 1)) (z1d el45 sz22 ov ov (z0c f572) j576.1 j576.2.1) (W.load1 (v := (.string x573)) (r := []) rfl rfl ag22 (z0o rfl (At.str (At.le (z0t f572 j576.2.2) (zAf _) O555.fro))) (W.p2 (.string x562) ?_))
  obtain ⟨x577, i578, h579⟩ := z00 h575
  refine W.ln (Lo.cP rfl (fn := Tryz.f42) (by kernel_rfl) rfl (mc rfl (mc rfl mn)) O555 (fun L' O' => z81 K x573 x562 O' _ i578)) ?_
  rintro v586 H587 ⟨G580, O581, s582, sm585, rfl⟩
  obtain ⟨x588, i589, h590⟩ := z00 h579
  refine W.ln (Lo.cP rfl (fn := Tryz.f74) (by kernel_rfl) rfl (mc rfl (mc rfl mn)) O581 (fun L' O' => z85 K x549 x577 O' _ i589)) ?_
  rintro v597 H598 ⟨G591, O592, s593, sm596, rfl⟩
  refine W.p1 (.string x588) (.nil (.region (W.r3 (.int .i64 (z03 .i64 (x550 + 1))) t559 (W.p2 (.int .i64 (z03 .i64 (x550 + 1))) (.nil ?_)))))
  exact ⟨k548, zAg _, ⟨x588, z03 .i64 (x550 + 1), _, h590, O592, (zAe s556 (zAe s582 s593)), rfl, rfl⟩⟩
 refine .block ?_
 have O236 := O223.nilSl 45 (rSl rS)
 have O237 := O236.nilSl 22 rS
 refine AW.loop (α := Nat) (fun k' σ' H' => ∃ (y1 : List zAd) (y2 : List (List zAd)) (y3 : Int) (G' : GM), z2c K p2 x90 x218 k' y1 y2 y3 = some q233 /\ Ow G' H' (eSl (σ' 18) 22 rS y1 :: eSl (σ' 17) 45 (rSl rS) y2 :: eSl v103 22 rS (List.replicate (p2.toNat) ByteArray.empty) :: eSl (σ91 8) 45 (rSl rS) x90 :: L) /\ GM.le G222 G' /\ σ' 88 = .int .i64 y3) (fun k' => k') K ⟨[], [], 0, _, h234, O237, (zAf _), rfl⟩ ?_
 rintro k238
 rintro σ242 H243 fr244 ⟨x239, x240, x241, G245, h248, O246, s247, t249⟩
 rcases k238 with _ | k238
 .exact z07 h248
 rw [z2c] at h248
 refine .seq (.region (W.q3 (.bool (decide (x241 < (x90.length : Int)))) t249 ((fr244 87 rfl).trans rfl) (.nil (.seq (.cond (b := decide (x241 < (x90.length : Int))) rfl rfl (fun g250 => ?_) (fun g250 => ?_))))))
 rotate_left
 .have h484 := z0i g250 h248
  refine .exit ?_
  have O485 : Ow G245 H243 (eSl (σ242 17) 45 (rSl rS) x240 :: eSl (σ242 18) 22 rS x239 :: eSl v103 22 rS (List.replicate (p2.toNat) ByteArray.empty) :: eSl (σ91 8) 45 (rSl rS) x90 :: L) := O246.front (j := 1) rfl
  have O486 : Ow G245 H243 (eSl (σ242 18) 22 rS x239 :: eSl (σ242 17) 45 (rSl rS) x240 :: eSl v103 22 rS (List.replicate (p2.toNat) ByteArray.empty) :: eSl (σ91 8) 45 (rSl rS) x90 :: L) := O485.front (j := 1) rfl
  have O487 : Ow G245 H243 (eSl (σ91 8) 45 (rSl rS) x90 :: eSl (σ242 18) 22 rS x239 :: eSl (σ242 17) 45 (rSl rS) x240 :: eSl v103 22 rS (List.replicate (p2.toNat) ByteArray.empty) :: L) := O486.front (j := 3) rfl
  have O488 : Ow G245 H243 (eSl v103 22 rS (List.replicate (p2.toNat) ByteArray.empty) :: eSl (σ91 8) 45 (rSl rS) x90 :: eSl (σ242 18) 22 rS x239 :: eSl (σ242 17) 45 (rSl rS) x240 :: L) := O487.front (j := 3) rfl
  obtain rfl := zAa h484
  exact ⟨x239, x240, _, rfl, O488, s247⟩
 have h251 := z04 g250 h248
 refine .skip (.seq ?_)
 obtain ⟨q252, h253, h254⟩ := z00 h251
 refine AW.midT (fun σ' H' => ∃ (y1 : List zAd) (y2 : List (List zAd)) (G' : GM), (y1, y2) = q252 /\ Ow G' H' (eSl (σ' 18) 22 rS y1 :: eSl (σ' 17) 45 (rSl rS) y2 :: eSl v103 22 rS (List.replicate (p2.toNat) ByteArray.empty) :: eSl (σ91 8) 45 (rSl rS) x90 :: L) /\ GM.le G245 G') ?_ ?_
 rotate_left
 .rintro σ476 H477 fr478 ⟨x474, x475, G479, rfl, O480, s481⟩
  have h483 := z40 h254
  refine .region (W.q3 (.int .i64 (z03 .i64 (x241 + 1))) ((fr478 88 rfl).trans t249) rfl (W.p2 (.int .i64 (z03 .i64 (x241 + 1))) (.nil ?_)))
  exact ⟨k238, zAg _, ⟨x474, x475, z03 .i64 (x241 + 1), _, h483, O480, (zAe s247 s481), rfl⟩⟩
 refine .block (.seq (.region (W.q2 _ t249 ?_)))
 obtain ⟨x255, i256, h257⟩ := z00 h253
 have j258 := z08 i256
 refine W.pv (z0x (σ91 8) (x241.toNat * 1)) (z1d el43 sz45 (ou ((fr244 86 rfl).trans rfl)) (ou t249) (O246.slLen (j := 3) rfl) j258.1 j258.2.1) ?_
 obtain ⟨w259, p260, f261⟩ := At.sl (O246.atSl (j := 3) rfl j258.2.2)
 refine W.load1 (v := w259) (r := []) rfl rfl ag45 (z0o rfl p260) (W.p1 (.int .i64 x241) (W.p1 w259 (.nil (.seq (.seq (.region ?_))))))
 refine W.p2 (.int .i64 x241) (W.q2 _ ((fr244 14 rfl).trans t226) (W.p3 (.bool (x241 == x218)) (.nil (.cond (b := (x241 == x218)) rfl rfl (fun g262 => ?_) (fun g262 => ?_)))))
 .have h263 := z04 g262 h257
  refine .exit ?_
  obtain rfl := zAa h263
  exact ⟨x239, x240, _, rfl, O246, (zAf _)⟩
 have h264 := z0i g262 h257
 refine .skip (.seq (.draw2 (M := [0, 0, 2, 7, 15, 0, 0, 96, 224, 0, 512, 2016, 4064, 8191, 16383]) mixed (by kernel_rfl) (by kernel_rfl) fun H265 N269 x266 F268 => ?_))
 have O267 := O246.ext x266
 refine D2.p2 w259 (D2.q2 (.int .i64 p2) ((fr244 2 rfl).trans ((fr221 2 rfl).trans ((fr93 2 rfl).trans rfl))) (D2.p3 (.int .i64 (z03 .i64 (p2 - 1))) ?_))
 obtain ⟨x270, i271, h272⟩ := z00 h264
 have j273 := z08 i271
 refine D2.pv (z0x w259 (Int.toNat (z03 .i64 (p2 - 1)) * 1)) (z1d el45 sz22 ov ov (z0c f261) j273.1 j273.2.1) (D2.load1' (v := (.string x270)) (r := []) rfl rfl ag22 (z0o rfl (At.str (At.le (z0t f261 j273.2.2) (zAf _) O267.fro))) z06 (D2.q2 (σ91 8) ((fr244 8 rfl).trans ((fr221 8 rfl).trans rfl)) (D2.q2 _ ((fr244 14 rfl).trans t226) ?_)))
 obtain ⟨x274, i275, h276⟩ := z00 h272
 have j277 := z08 i275
 refine D2.pv (z0x (σ91 8) (x218.toNat * 1)) (z1d el43 sz45 ov ov (O267.slLen (j := 3) rfl) j277.1 j277.2.1) ?_
 obtain ⟨w278, p279, f280⟩ := At.sl (O267.atSl (j := 3) rfl j277.2.2)
 refine D2.load1' (v := w278) (r := []) rfl rfl ag45 (z0o rfl p279) z06 (D2.q2 (.int .i64 p2) ((fr244 2 rfl).trans ((fr221 2 rfl).trans ((fr93 2 rfl).trans rfl))) (D2.p3 (.int .i64 (z03 .i64 (p2 - 1))) ?_))
 obtain ⟨x281, i282, h283⟩ := z00 h276
 have j284 := z08 i282
 refine D2.pv (z0x w278 (Int.toNat (z03 .i64 (p2 - 1)) * 1)) (z1d el45 sz22 ov ov (z0c f280) j284.1 j284.2.1) (D2.load1' (v := (.string x281)) (r := []) rfl rfl ag22 (z0o rfl (At.str (At.le (z0t f280 j284.2.2) (zAf _) O267.fro))) z06 ?_)
 obtain ⟨x285, i286, h287⟩ := z00 h283
 refine D2.lo rfl rfl (Lo.cP rfl (fn := Tryz.f113) (by kernel_rfl) rfl (mc rfl (mc rfl mn)) O267 (fun L' O' => za8 K x270 x281 O' _ i286)) ?_ z06 ?_ ?_
 .rintro v294 H295 ⟨G288, O289, s290, sm293, rfl⟩; exact (faR1 (.inl (by decide)) (faR1 (.inl (by decide)) (faR1 (.inl (by decide)) z06)))
 .rintro v294 H295 ⟨G288, O289, s290, sm293, rfl⟩; exact z06
 rintro v294 H295 ⟨G288, O289, s290, sm293, rfl⟩
 refine D2.p1 (.string x285) (.nil (.seq (.region (W.p1 (.slice none 0 0) (.nil (.seq ?_))))))
 refine .seq (.region (W.q2 (.int .i64 p2) ((fr244 2 rfl).trans ((fr221 2 rfl).trans ((fr93 2 rfl).trans rfl))) (W.p3 (.int .i64 (z03 .i64 (p2 - 1))) (W.p2 (.int .i64 0) (.nil ?_)))))
 obtain ⟨q296, h297, h298⟩ := z00 h287
 refine AW.midT (fun σ' H' => ∃ (y1 : List zAd) (G' : GM), y1 = q296 /\ Ow G' H' (eSl (σ242 18) 22 rS x239 :: eSl (σ242 17) 45 (rSl rS) x240 :: eSl v103 22 rS (List.replicate (p2.toNat) ByteArray.empty) :: eSl (σ91 8) 45 (rSl rS) x90 :: eSl (σ' 22) 22 rS y1 :: L) /\ GM.le G288 G') ?_ ?_
 .refine .block ?_
  have O299 := O289.nilSl 22 rS
  refine AW.loop (α := Nat) (fun k' σ' H' => ∃ (y1 : List zAd) (y2 : Int) (G' : GM), z3q K p2 x90 x218 x255 x285 k' y1 y2 = some q296 /\ Ow G' H' (eSl (σ' 22) 22 rS y1 :: eSl (σ242 18) 22 rS x239 :: eSl (σ242 17) 45 (rSl rS) x240 :: eSl v103 22 rS (List.replicate (p2.toNat) ByteArray.empty) :: eSl (σ91 8) 45 (rSl rS) x90 :: L) /\ GM.le G288 G' /\ σ' 112 = .int .i64 y2) (fun k' => k') K ⟨[], 0, _, h297, O299, (zAf _), rfl⟩ ?_
  rintro k300
  rintro σ303 H304 fr305 ⟨x301, x302, G306, h309, O307, s308, t310⟩
  rcases k300 with _ | k300
  .exact z07 h309
  rw [z3q] at h309
  refine .seq (.region (W.q3 (.bool (decide (x302 < (z03 .i64 (p2 - 1))))) t310 ((fr305 111 rfl).trans rfl) (.nil (.seq (.cond (b := decide (x302 < (z03 .i64 (p2 - 1)))) rfl rfl (fun g311 => ?_) (fun g311 => ?_))))))
  rotate_left
  .have h375 := z0i g311 h309
   refine .exit ?_
   have O376 : Ow G306 H304 (eSl (σ303 22) 22 rS x301 :: eSl (σ242 18) 22 rS x239 :: eSl (σ242 17) 45 (rSl rS) x240 :: eSl v103 22 rS (List.replicate (p2.toNat) ByteArray.empty) :: eSl (σ91 8) 45 (rSl rS) x90 :: L) := O307.front (j := 0) rfl
   have O377 : Ow G306 H304 (eSl (σ91 8) 45 (rSl rS) x90 :: eSl (σ303 22) 22 rS x301 :: eSl (σ242 18) 22 rS x239 :: eSl (σ242 17) 45 (rSl rS) x240 :: eSl v103 22 rS (List.replicate (p2.toNat) ByteArray.empty) :: L) := O376.front (j := 4) rfl
   have O378 : Ow G306 H304 (eSl v103 22 rS (List.replicate (p2.toNat) ByteArray.empty) :: eSl (σ91 8) 45 (rSl rS) x90 :: eSl (σ303 22) 22 rS x301 :: eSl (σ242 18) 22 rS x239 :: eSl (σ242 17) 45 (rSl rS) x240 :: L) := O377.front (j := 4) rfl
   have O379 : Ow G306 H304 (eSl (σ242 17) 45 (rSl rS) x240 :: eSl v103 22 rS (List.replicate (p2.toNat) ByteArray.empty) :: eSl (σ91 8) 45 (rSl rS) x90 :: eSl (σ303 22) 22 rS x301 :: eSl (σ242 18) 22 rS x239 :: L) := O378.front (j := 4) rfl
   have O380 : Ow G306 H304 (eSl (σ242 18) 22 rS x239 :: eSl (σ242 17) 45 (rSl rS) x240 :: eSl v103 22 rS (List.replicate (p2.toNat) ByteArray.empty) :: eSl (σ91 8) 45 (rSl rS) x90 :: eSl (σ303 22) 22 rS x301 :: L) := O379.front (j := 4) rfl
   obtain rfl := zAa h375
   exact ⟨x301, _, rfl, O380, s308⟩
  have h312 := z04 g311 h309
  refine .skip (.seq (.block (.seq (.region (W.q2 _ t310 (W.p1 (.int .i64 x302) ?_))))))
  refine .nil (.draw2 (M := [0, 0, 0, 6, 14, 0, 0, 0, 192, 448, 0, 1984, 4032, 8160, 16382, 32766, 65535, 131071]) mixed (by kernel_rfl) (by kernel_rfl) fun H313 N317 x314 F316 => ?_)
  have O315 := O307.ext x314
  refine D2.p2 (σ303 22) (D2.q2 w259 ((fr305 20 rfl).trans rfl) (D2.p2 (.int .i64 x302) ?_))
  obtain ⟨x318, i319, h320⟩ := z00 h312
  have j321 := z08 i319
  refine D2.pv (z0x w259 (x302.toNat * 1)) (z1d el45 sz22 ov ov (z0c (RT.mono _ (zAe s290 s308) f261)) j321.1 j321.2.1) (D2.load1' (v := (.string x318)) (r := []) rfl rfl ag22 (z0o rfl (At.str (At.le (At.le (z0t f261 j321.2.2) (zAe s290 s308) (zAe s290 s308)) (zAf _) O315.fro))) z06 (D2.q2 (.string x285) ((fr305 21 rfl).trans rfl) (D2.q2 (σ91 8) ((fr305 8 rfl).trans ((fr244 8 rfl).trans ((fr221 8 rfl).trans rfl))) (D2.q2 _ ((fr305 14 rfl).trans ((fr244 14 rfl).trans t226)) ?_))))
  obtain ⟨x322, i323, h324⟩ := z00 h320
  have j325 := z08 i323
  refine D2.pv (z0x (σ91 8) (x218.toNat * 1)) (z1d el43 sz45 ov ov (O315.slLen (j := 4) rfl) j325.1 j325.2.1) ?_
  obtain ⟨w326, p327, f328⟩ := At.sl (O315.atSl (j := 4) rfl j325.2.2)
  refine D2.load1' (v := w326) (r := []) rfl rfl ag45 (z0o rfl p327) z06 (D2.p2 (.int .i64 x302) ?_)
  obtain ⟨x329, i330, h331⟩ := z00 h324
  have j332 := z08 i330
  refine D2.pv (z0x w326 (x302.toNat * 1)) (z1d el45 sz22 ov ov (z0c f328) j332.1 j332.2.1) (D2.load1' (v := (.string x329)) (r := []) rfl rfl ag22 (z0o rfl (At.str (At.le (z0t f328 j332.2.2) (zAf _) O315.fro))) z06 ?_)
  obtain ⟨x333, i334, h335⟩ := z00 h331
  refine D2.loN rfl rfl (Lo.cP rfl (fn := Tryz.f42) (by kernel_rfl) rfl (mc rfl (mc rfl mn)) O315 (fun L' O' => z81 K x285 x329 O' _ i334)) ?_ z06 ?_ ?_
  .rintro v342 H343 ⟨G336, O337, s338, sm341, rfl⟩; exact (faR1 (.inl (by decide)) (faR1 (.inl (by decide)) (faR1 (.inr (sm341 _ (zgg (M := G306) (At.le (z0t f261 j321.2.2) (zAe s290 s308) (zAe s290 s308)) rfl))) z06)))
  .rintro v342 H343 ⟨G336, O337, s338, sm341, rfl⟩; exact z06
  rintro v342 H343 ⟨G336, O337, s338, sm341, rfl⟩ nx344
  have F345 := Free.nx F316 nx344
  obtain ⟨x346, i347, h348⟩ := z00 h335
  refine D2.loN rfl rfl (Lo.cP rfl (fn := Tryz.f74) (by kernel_rfl) rfl (mc rfl (mc rfl mn)) O337 (fun L' O' => z85 K x318 x333 O' _ i347)) ?_ (z0h (by decide) z06) ?_ ?_
  .rintro v355 H356 ⟨G349, O350, s351, sm354, rfl⟩; exact (faR1 (.inl (by decide)) (faR1 (.inl (by decide)) (faR1 (.inl (by decide)) z06)))
  .rintro v355 H356 ⟨G349, O350, s351, sm354, rfl⟩; exact z06
  rintro v355 H356 ⟨G349, O350, s351, sm354, rfl⟩ nx357
  have F358 := Free.nx F345 nx357
  refine D2.alloc (m := 18) rfl rfl (Al.buildSlice (r := rS) (vs := [(.string x346)]) (xs := [x346]) el45 ze22 sz22 (by kernel_rfl) rfl (qc rfl qn) rfl (.cons rfl .nil)) (Free.up (by decide) F358) (by decide) O350 ?_
  rintro b360 H361 ⟨O362, sm363, F364⟩
  obtain ⟨es366, e367, e368⟩ := z3z (j := 0) rfl O362
  obtain ⟨g369, h370⟩ := z1y h348
  refine D2.lo rfl rfl (Lo.append (j := 1) (v := (σ303 22)) rfl rfl el45 ni45 ze22 sz22 by22 (by decide) (by decide) rfl e367 e368 g369 O362) ?_ (z0h (by decide) (z0h (by decide) z06)) ?_ ?_
  .rintro v372 H373 ⟨O365, sm371⟩; exact (faR1 (.inl (by decide)) (faR1 (.inl (by decide)) (faR1 (.inl (by decide)) z06)))
  .rintro v372 H373 ⟨O365, sm371⟩; exact (faR1 (.inl (by decide)) z06)
  rintro v372 H373 ⟨O365, sm371⟩
  refine D2.p1 v372 (.nil (.region (W.r3 (.int .i64 (z03 .i64 (x302 + 1))) t310 (W.p2 (.int .i64 (z03 .i64 (x302 + 1))) (.nil ?_)))))
  have O374 := O365.drop 0
  exact ⟨k300, zAg _, ⟨(x301 ++ [x346]), z03 .i64 (x302 + 1), _, h370, O374, (zAe s308 (zAe s338 s351)), rfl⟩⟩
 rintro σ382 H383 fr384 ⟨x381, G385, rfl, O386, s387⟩
 have h389 := z0b h298
 refine .draw2 (M := [0, 0, 2, 7, 0, 0, 0, 96, 224, 0, 0, 0, 3072, 7168, 0, 31744, 64512, 130575, 262127, 524271, 1048575, 2097151, 4194303]) mixed (by kernel_rfl) (by kernel_rfl) fun H390 N394 x391 F393 => ?_
 have O392 := O386.ext x391
 refine D2.q2 (σ242 17) ((fr384 17 rfl).trans rfl) (D2.p2 (σ382 22) ?_)
 obtain ⟨G396, O397, s398, f399⟩ := O392.frzSl (j := 4) rfl
 refine D2.alloc (m := 23) rfl rfl (Al.buildSlice (r := (rSl rS)) (vs := [(σ382 22)]) (xs := [x381]) el44 ze45 sz45 (by kernel_rfl) rfl (qc rfl qn) rfl (.cons (z5i f399) .nil)) (Free.up (by decide) F393) (by decide) O397 ?_
 rintro b400 H401 ⟨O402, sm403, F404⟩
 obtain ⟨es406, e407, e408⟩ := z3z (j := 0) rfl O402
 obtain ⟨g409, h410⟩ := z1y h389
 refine D2.loN rfl rfl (Lo.append (j := 2) (v := (σ242 17)) rfl rfl el44 ni44 ze45 sz45 by45 (by decide) (by decide) rfl e407 e408 g409 O402) ?_ z06 ?_ ?_
 .rintro v412 H413 ⟨O405, sm411⟩; exact z06
 .rintro v412 H413 ⟨O405, sm411⟩; exact (faR1 (.inl (by decide)) z06)
 rintro v412 H413 ⟨O405, sm411⟩ nx414
 have F415 := Free.nx F404 nx414
 refine D2.q2 (σ242 18) ((fr384 18 rfl).trans rfl) (D2.q2 w259 ((fr384 20 rfl).trans rfl) (D2.q2 (.int .i64 p2) ((fr384 2 rfl).trans ((fr244 2 rfl).trans ((fr221 2 rfl).trans ((fr93 2 rfl).trans rfl)))) ?_))
 obtain ⟨x416, i417, h418⟩ := z00 h410
 have j419 := z08 i417
 refine D2.pv (z0x w259 (p2.toNat * 1)) (z1d el45 sz22 ov ov (z0c (RT.mono _ (zAe s290 (zAe s387 s398)) f261)) j419.1 j419.2.1) (D2.load1' (v := (.string x416)) (r := []) rfl rfl ag22 (z0o rfl (At.str (At.le (At.le (z0t f261 j419.2.2) (zAe s290 (zAe s387 s398)) (zAe s290 (zAe s387 s398))) (zAf _) O405.fro))) (z7l (sm411 _ (by obtain ⟨k, hk⟩ := O402.vis (zgg (M := G396) (L := (eSl (.slice (some ⟨b400, 0, some 0⟩) 1 1) 45 (rSl rS) [x381] :: eSl (σ242 18) 22 rS x239 :: eSl (σ242 17) 45 (rSl rS) x240 :: eSl v103 22 rS (List.replicate (p2.toNat) ByteArray.empty) :: eSl (σ91 8) 45 (rSl rS) x90 :: L)) (At.le (z0t f261 j419.2.2) (zAe s290 (zAe s387 s398)) (zAe s290 (zAe s387 s398))) rfl); exact congrArg Option.isSome hk) (fun hc => O402.neG (j := 2) rfl hc (zfh (At.le (z0t f261 j419.2.2) (zAe s290 (zAe s387 s398)) (zAe s290 (zAe s387 s398)))) rfl)) z06) (D2.q2 (.string x285) ((fr384 21 rfl).trans rfl) (D2.q2 (σ91 8) ((fr384 8 rfl).trans ((fr244 8 rfl).trans ((fr221 8 rfl).trans rfl))) (D2.q2 _ ((fr384 14 rfl).trans ((fr244 14 rfl).trans t226)) ?_))))
 obtain ⟨x420, i421, h422⟩ := z00 h418
 have j423 := z08 i421
 refine D2.pv (z0x (σ91 8) (x218.toNat * 1)) (z1d el43 sz45 ov ov (O405.slLen (j := 4) rfl) j423.1 j423.2.1) ?_
 obtain ⟨w424, p425, f426⟩ := At.sl (O405.atSl (j := 4) rfl j423.2.2)
 refine D2.load1' (v := w424) (r := []) rfl rfl ag45 (z0o rfl p425) (z7l (sm411 _ (by obtain ⟨k, hk⟩ := O402.vis (Or.inr ⟨4, _, rfl, (O402.footSl (j := 4) rfl j423.2.2)⟩); exact congrArg Option.isSome hk) (fun hc => O402.neP (i := 4) (j := 2) (by decide) rfl rfl (O402.footSl (j := 4) rfl j423.2.2) hc rfl)) z06) (D2.q2 (.int .i64 p2) ((fr384 2 rfl).trans ((fr244 2 rfl).trans ((fr221 2 rfl).trans ((fr93 2 rfl).trans rfl)))) ?_)
 obtain ⟨x427, i428, h429⟩ := z00 h422
 have j430 := z08 i428
 refine D2.pv (z0x w424 (p2.toNat * 1)) (z1d el45 sz22 ov ov (z0c f426) j430.1 j430.2.1) (D2.load1' (v := (.string x427)) (r := []) rfl rfl ag22 (z0o rfl (At.str (At.le (z0t f426 j430.2.2) (zAf _) O405.fro))) (z7l (sm411 _ (by obtain ⟨k, hk⟩ := O402.vis (zgg (M := G396) (L := (eSl (.slice (some ⟨b400, 0, some 0⟩) 1 1) 45 (rSl rS) [x381] :: eSl (σ242 18) 22 rS x239 :: eSl (σ242 17) 45 (rSl rS) x240 :: eSl v103 22 rS (List.replicate (p2.toNat) ByteArray.empty) :: eSl (σ91 8) 45 (rSl rS) x90 :: L)) (z0t f426 j430.2.2) rfl); exact congrArg Option.isSome hk) (fun hc => O402.neG (j := 2) rfl hc (zfh (z0t f426 j430.2.2)) rfl)) z06) ?_)
 obtain ⟨x431, i432, h433⟩ := z00 h429
 refine D2.loN rfl rfl (Lo.cP rfl (fn := Tryz.f42) (by kernel_rfl) rfl (mc rfl (mc rfl mn)) O405 (fun L' O' => z81 K x285 x427 O' _ i432)) ?_ (z0h (by decide) z06) ?_ ?_
 .rintro v440 H441 ⟨G434, O435, s436, sm439, rfl⟩; exact (faR1 (.inl (by decide)) (faR1 (.inl (by decide)) (faR1 (.inr (sm439 _ (zgg (M := G396) (At.le (z0t f261 j419.2.2) (zAe s290 (zAe s387 s398)) (zAe s290 (zAe s387 s398))) rfl))) z06)))
 .rintro v440 H441 ⟨G434, O435, s436, sm439, rfl⟩; exact (faR1 (.inl (by decide)) z06)
 rintro v440 H441 ⟨G434, O435, s436, sm439, rfl⟩ nx442
 have F443 := Free.nx F415 nx442
 obtain ⟨x444, i445, h446⟩ := z00 h433
 refine D2.loN rfl rfl (Lo.cP rfl (fn := Tryz.f74) (by kernel_rfl) rfl (mc rfl (mc rfl mn)) O435 (fun L' O' => z85 K x416 x431 O' _ i445)) ?_ (z0h (by decide) (z0h (by decide) z06)) ?_ ?_
 .rintro v453 H454 ⟨G447, O448, s449, sm452, rfl⟩; exact (faR1 (.inl (by decide)) (faR1 (.inl (by decide)) (faR1 (.inl (by decide)) z06)))
 .rintro v453 H454 ⟨G447, O448, s449, sm452, rfl⟩; exact (faR1 (.inl (by decide)) z06)
 rintro v453 H454 ⟨G447, O448, s449, sm452, rfl⟩ nx455
 have F456 := Free.nx F443 nx455
 refine D2.alloc (m := 23) rfl rfl (Al.buildSlice (r := rS) (vs := [(.string x444)]) (xs := [x444]) el45 ze22 sz22 (by kernel_rfl) rfl (qc rfl qn) rfl (.cons rfl .nil)) (Free.up (by decide) F456) (by decide) O448 ?_
 rintro b458 H459 ⟨O460, sm461, F462⟩
 obtain ⟨es464, e465, e466⟩ := z3z (j := 0) rfl O460
 obtain ⟨g467, h468⟩ := z1y h446
 refine D2.lo rfl rfl (Lo.append (j := 2) (v := (σ242 18)) rfl rfl el45 ni45 ze22 sz22 by22 (by decide) (by decide) rfl e465 e466 g467 O460) ?_ (z0h (by decide) (z0h (by decide) (z0h (by decide) z06))) ?_ ?_
 .rintro v470 H471 ⟨O463, sm469⟩; exact (faR1 (.inl (by decide)) (faR1 (.inl (by decide)) (faR1 (.inl (by decide)) z06)))
 .rintro v470 H471 ⟨O463, sm469⟩; exact (faR1 (.inl (by decide)) (faR1 (.inl (by decide)) z06))
 rintro v470 H471 ⟨O463, sm469⟩
 refine D2.p1 v412 (D2.p1 v470 (.nil ?_))
 have O473 := (O463.drop 0).drop 0
 obtain rfl := zAa h468
 exact ⟨(x239 ++ [x444]), (x240 ++ [x381]), _, rfl, O473, (zAe s290 (zAe s387 (zAe s398 (zAe s436 s449))))⟩
def z0f (K : Nat) (p0 : List zAd) (p1 : List zAd) : Nat -> Int -> Option (Bool ⊕ Unit)
  | 0, _ => none
  | k + 1, x8 => (if (decide (x8 < (p0.length : Int))) = true then ((idx p0 x8).bind fun x24 => ((idx p1 x8).bind fun x28 => (if (!(sEq x24 x28)) = true then some (.inl false) else z0f K p0 p1 k (z03 .i64 (x8 + 1))))) else some (.inr ()))
def z0n (K : Nat) (p0 : List zAd) (p1 : List zAd) : Option Bool := (if ((p0.length : Int) != (p1.length : Int)) = true then some false else (zb5 (z0f K p0 p1 K 0) (tu1 fun a45 => some a45) (tu0 (some true))))
theorem z4s (K : Nat) {G : GM} {H : AH} {L : List Pc} (v0 : Value) (p0 : List zAd) (hp0 : (rSl rS).rep G [v0] p0) (v1 : Value) (p1 : List zAd) (hp1 : (rSl rS).rep G [v1] p1) (O : Ow G H (L)) (r : Bool) (h : z0n K p0 p1 = some r) :
    CR Tryz.prog 34 [v0, v1] G H (L) (fun v G' _ => v = .bool r) := by
 unfold z0n at h
 refine CR.og (n := 26) (fn := Tryz.f34) (by kernel_rfl) rfl rfl fun R kr => (.seq (.region (W.p1 (.bool false) (.nil (.seq (.seq ?_))))))
 refine .region (W.p2 v0 (W.pv (.int .i64 (p0.length : Int)) (z0g ov (z0c hp0) (z02 el45)) (W.p2 v1 (W.pv (.int .i64 (p1.length : Int)) (z0g ov (z0c hp1) (z02 el45)) (W.p3 (.bool ((p0.length : Int) != (p1.length : Int))) (.nil ?_))))))
 refine .cond (b := ((p0.length : Int) != (p1.length : Int))) rfl rfl (fun g1 => ?_) (fun g1 => ?_)
 .have h2 := z04 g1 h
  refine .seq (.region (W.p1 (.bool false) (.nil (.ret ?_))))
  obtain rfl := zAa h2
  exact z1e kr (v1 := (.bool false)) (by rfl) rt O (zAf _) rfl
 have h3 := z0i g1 h
 refine .skip (.seq (.seq (.region (W.p2 v0 (W.pv (.int .i64 (p0.length : Int)) (z0g ov (z0c hp0) (z02 el45)) (W.p2 (.int .i64 0) ?_))))))
 refine .nil ?_
 obtain ⟨q4, h5, h6⟩ := z2u h3
 refine AW.midT (fun σ' H' => ∃  (G' : GM), (.inr ()) = q4 /\ Ow G' H' (L) /\ GM.le G G') ?_ ?_
 rotate_left
 .rintro σ37 H38 fr39 ⟨G40, rfl, O41, s42⟩
  have h44 := z60 (z8m h6)
  refine .seq (.region (W.p1 (.bool true) (.nil (.ret ?_))))
  obtain rfl := zAa h44
  exact z1e kr (v1 := (.bool true)) (by rfl) rt O41 s42 rfl
 refine .block (AW.loop (α := Nat) (fun k' σ' H' => ∃ (y1 : Int) (G' : GM), z0f K p0 p1 k' y1 = some q4 /\ Ow G' H' (L) /\ GM.le G G' /\ σ' 13 = .int .i64 y1) (fun k' => k') K ⟨0, _, h5, O, (zAf _), rfl⟩ ?_)
 rintro k7
 rintro σ9 H10 fr11 ⟨x8, G12, h15, O13, s14, t16⟩
 rcases k7 with _ | k7
 .exact z07 h15
 rw [z0f] at h15
 refine .seq (.region (W.q3 (.bool (decide (x8 < (p0.length : Int)))) t16 ((fr11 12 rfl).trans rfl) (.nil (.seq (.cond (b := decide (x8 < (p0.length : Int))) rfl rfl (fun g17 => ?_) (fun g17 => ?_))))))
 rotate_left
 .have h36 := z0i g17 h15
  refine .exit ?_
  obtain rfl := zAa h36
  exact ⟨_, rfl, O13, s14⟩
 have h18 := z04 g17 h15
 refine .skip (.seq (.block (.seq (.region (W.q2 _ t16 (W.p1 (.int .i64 x8) ?_))))))
 refine .nil (.seq (.draw2 (M := [0, 0, 3, 7, 0, 0, 48, 112, 255]) mixed (by kernel_rfl) (by kernel_rfl) fun H19 N23 x20 F22 => ?_))
 have O21 := O13.ext x20
 refine D2.q2 v0 ((fr11 0 rfl).trans rfl) (D2.p2 (.int .i64 x8) ?_)
 obtain ⟨x24, i25, h26⟩ := z00 h18
 have j27 := z08 i25
 refine D2.pv (z0x v0 (x8.toNat * 1)) (z1d el45 sz22 ov ov (z0c (RT.mono _ s14 hp0)) j27.1 j27.2.1) (D2.load1' (v := (.string x24)) (r := []) rfl rfl ag22 (z0o rfl (At.str (At.le (At.le (z0t hp0 j27.2.2) s14 s14) (zAf _) O21.fro))) z06 (D2.q2 v1 ((fr11 1 rfl).trans rfl) (D2.p2 (.int .i64 x8) ?_)))
 obtain ⟨x28, i29, h30⟩ := z00 h26
 have j31 := z08 i29
 refine D2.pv (z0x v1 (x8.toNat * 1)) (z1d el45 sz22 ov ov (z0c (RT.mono _ s14 hp1)) j31.1 j31.2.1) (D2.load1' (v := (.string x28)) (r := []) rfl rfl ag22 (z0o rfl (At.str (At.le (At.le (z0t hp1 j31.2.2) s14 s14) (zAf _) O21.fro))) z06 (D2.pv (.bool (!(sEq x24 x28))) (zgh ov ov) (.nil (.cond (b := (!(sEq x24 x28))) rfl rfl (fun g32 => ?_) (fun g32 => ?_)))))
 rotate_left
 .have h35 := z0i g32 h30
  refine .skip (.region (W.r3 (.int .i64 (z03 .i64 (x8 + 1))) t16 (W.p2 (.int .i64 (z03 .i64 (x8 + 1))) (.nil ?_))))
  exact ⟨k7, zAg _, ⟨z03 .i64 (x8 + 1), _, h35, O21, s14, rfl⟩⟩
 have h33 := z04 g32 h30
 refine .seq (.region (W.p1 (.bool false) (.nil (.ret ?_))))
 obtain rfl := zAa h33
 have h34 := z0b (z6p h6)
 obtain rfl := zAa h34
 exact z1e kr (v1 := (.bool false)) (by rfl) rt O21 s14 rfl
def z3s (K : Nat) (p0 : List (List zAd)) (p1 : List zAd) : Option Bool := ((z6h K ).bind fun x1 => (if (!x1) = true then some false else ((z30 K p0 p1).bind fun x15 => ((z42 K p0).bind fun x28 => ((z51 K p1).bind fun x39 => ((z52 K [x28, x39]).bind fun x54 => (Option.bind ((if (x54 == 0) = true then some ((p0.length : Int) != (p1.length : Int)) else some false)) (tu1 fun x72 => (Option.bind ((if x72 = true then some 3 else some x54)) (tu1 fun x88 => (if (x88 != 0) = true then (Option.bind ((if (x15.2 == x88) = true then some ((x15.1.length : Int) == 0) else some false)) (tu1 fun x107 => some x107)) else ((z73 K 5 [p0, [p1]]).bind fun x132 => (if x132 = true then some true else ((z9e K p0).bind fun x149 => ((z67 K K p0 p1 x149).bind fun x160 => (if (!x160.2) = true then (Option.bind ((if (x15.2 == 8) = true then some ((x15.1.length : Int) == 0) else (if (x15.2 == 10) = true then some ((x15.1.length : Int) == 0) else some false))) (tu1 fun x186 => some x186)) else (Option.bind ((if (x15.2 == 0) = true then ((z0n K x15.1 x160.1).bind fun x206 => some x206) else some false)) (tu1 fun x218 => some x218))))))))))))))))))
theorem z8o (K : Nat) {G : GM} {H : AH} {L : List Pc} (v0 : Value) (p0 : List (List zAd)) (hp0 : (rSl (rSl rS)).rep G [v0] p0) (v1 : Value) (p1 : List zAd) (hp1 : (rSl rS).rep G [v1] p1) (O : Ow G H (L)) (r : Bool) (h : z3s K p0 p1 = some r) :
    CR Tryz.prog 9 [v0, v1] G H (L) (fun v G' _ => v = .bool r) := by
 unfold z3s at h
 refine CR.og (n := 76) (fn := Tryz.f9) (by kernel_rfl) rfl rfl fun R kr => (.seq (.region (W.p1 (.bool false) (.nil (.seq (.seq ?_))))))
 refine .region ?_
 obtain ⟨x1, i2, h3⟩ := z00 h
 refine W.ln (Lo.cP rfl (fn := Tryz.f43) (by kernel_rfl) rfl mn O (fun L' O' => z9v K  O' _ i2)) ?_
 rintro v10 H11 ⟨G4, O5, s6, sm9, rfl⟩
 refine W.pv (.bool (!x1)) (z9q (a := x1) ov) (.nil (.cond (b := (!x1)) rfl rfl (fun g12 => ?_) (fun g12 => ?_)))
 .have h13 := z04 g12 h3
  refine .seq (.region (W.p1 (.bool false) (.nil (.ret ?_))))
  obtain rfl := zAa h13
  exact z1e kr (v1 := (.bool false)) (by rfl) rt O5 s6 rfl
 have h14 := z0i g12 h3
 refine .skip (.seq (.region (W.p2 v0 (W.p2 v1 ?_))))
 obtain ⟨x15, i16, h17⟩ := z00 h14
 refine W.ln (Lo.callPF (ps := []) (pw := fun w => [eSl w 22 rS x15.1]) rfl (fn := Tryz.f48) (by kernel_rfl) rfl (mc rfl (mc rfl mn)) O5 (fun L' O' => zbg K v0 p0 (RT.mono _ s6 hp0) v1 p1 (RT.mono _ s6 hp1) O' _ i16)) ?_
 rintro v26 H27 ⟨w23, G18, O19, s20, sm25, rfl⟩
 refine W.p2 (.tuple #[w23, (.int .i64 x15.2)]) (W.pv w23 (z0a ov rfl) (W.pv (.int .i64 x15.2) (z0a ov rfl) (W.p1 w23 (W.p1 (.int .i64 x15.2) (.nil (.seq ?_))))))
 refine .region (W.p2 v0 ?_)
 obtain ⟨x28, i29, h30⟩ := z00 h17
 refine W.ln (Lo.cP rfl (fn := Tryz.f30) (by kernel_rfl) rfl (mc rfl mn) O19 (fun L' O' => z9y K v0 p0 (RT.mono _ (zAe s6 s20) hp0) O' _ i29)) ?_
 rintro v37 H38 ⟨G31, O32, s33, sm36, rfl⟩
 refine W.p2 v1 ?_
 obtain ⟨x39, i40, h41⟩ := z00 h30
 refine W.ln (Lo.cP rfl (fn := Tryz.f33) (by kernel_rfl) rfl (mc rfl mn) O32 (fun L' O' => z8t K v1 p1 (RT.mono _ (zAe s6 (zAe s20 s33)) hp1) O' _ i40)) ?_
 rintro v48 H49 ⟨G42, O43, s44, sm47, rfl⟩
 refine W.ln (Lo.buildSlice (r := (rI .i64)) (vs := [(.int .i64 x28), (.int .i64 x39)]) (xs := [x28, x39]) el91 ze28 sz28 (by kernel_rfl) rfl (qc rfl (qc rfl qn)) rfl (.cons rfl (.cons rfl .nil)) O43) ?_
 rintro v52 H53 ⟨O50, sm51⟩
 obtain ⟨x54, i55, h56⟩ := z00 h41
 refine W.ln (Lo.callB (j := 0) rfl rfl (fn := Tryz.f18) (by kernel_rfl) rfl (mc rfl mn) O50 (fun G' L' hG O' hB => zd7 K v52 [x28, x39] hB O' _ i55)) ?_
 rintro v63 H64 ⟨G57, O58, s59, sm62, rfl⟩
 refine W.p1 (.int .i64 x54) (.nil (.seq (.seq ?_)))
 obtain ⟨q65, h66, h67⟩ := z00 h56
 refine AW.midT (fun σ' H' => ∃ (y1 : Bool) (G' : GM), y1 = q65 /\ Ow G' H' (eSl v52 28 (rI .i64) [x28, x39] :: eSl w23 22 rS x15.1 :: L) /\ GM.le G57 G' /\ σ' 32 = .bool y1) ?_ ?_
 .refine .region (W.p2 (.int .i64 x54) (W.p3 (.bool (x54 == 0)) (W.p2 (.bool (x54 == 0)) (W.splitAt (t := 26) (b := (x54 == 0)) rfl (fun g68 gv69 => ?_) (fun g68 gv69 => ?_)))))
  rotate_left
  .have h71 := z0i g68 h66
   refine W.q6 rfl gv69 (W.q6 rfl gv69 (W.q6 rfl gv69 (W.q6 rfl gv69 (W.q6 rfl gv69 (W.q5 (.bool false) gv69 rfl (.nil ?_))))))
   obtain rfl := zAa h71
   exact ⟨false, _, rfl, O58, (zAf _), rfl⟩
  have h70 := z04 g68 h66
  refine W.q2 (hg := gk rfl rfl gv69 rfl) v0 rfl (W.pure (v := (.int .i64 (p0.length : Int))) (gk rfl rfl gv69 rfl) rfl (z0g ov (z0c (RT.mono _ (zAe s6 (zAe s20 (zAe s33 (zAe s44 s59)))) hp0)) (z02 el44)) (W.q2 (hg := gk rfl rfl gv69 rfl) v1 rfl (W.pure (v := (.int .i64 (p1.length : Int))) (gk rfl rfl gv69 rfl) rfl (z0g ov (z0c (RT.mono _ (zAe s6 (zAe s20 (zAe s33 (zAe s44 s59)))) hp1)) (z02 el45)) (W.q3 (hg := gk rfl rfl gv69 rfl) (.bool ((p0.length : Int) != (p1.length : Int))) rfl rfl (W.q4 (.bool ((p0.length : Int) != (p1.length : Int))) gv69 rfl (.nil ?_))))))
  obtain rfl := zAa h70
  exact ⟨((p0.length : Int) != (p1.length : Int)), _, rfl, O58, (zAf _), rfl⟩
 rintro σ73 H74 fr75 ⟨x72, G76, rfl, O77, s78, t80⟩
 have h81 := z0b h67
 obtain ⟨q82, h83, h84⟩ := z00 h81
 refine AW.midT (fun σ' H' => ∃ (y1 : Int) (G' : GM), y1 = q82 /\ Ow G' H' (eSl v52 28 (rI .i64) [x28, x39] :: eSl w23 22 rS x15.1 :: L) /\ GM.le G76 G' /\ σ' 7 = .int .i64 y1) ?_ ?_
 .refine .cond (b := x72) rfl t80 (fun g85 => ?_) (fun g85 => ?_)
  rotate_left
  .have h87 := z0i g85 h83
   refine .skip ?_
   obtain rfl := zAa h87
   exact ⟨x54, _, rfl, O77, (zAf _), ((fr75 7 rfl).trans rfl)⟩
  have h86 := z04 g85 h83
  refine .region (W.p1 (.int .i64 3) (.nil ?_))
  obtain rfl := zAa h86
  exact ⟨3, _, rfl, O77, (zAf _), rfl⟩
 rintro σ89 H90 fr91 ⟨x88, G92, rfl, O93, s94, t96⟩
 have h97 := z0b h84
 refine .seq (.seq (.region (W.q2 _ t96 (W.p3 (.bool (x88 != 0)) (.nil (.cond (b := (x88 != 0)) rfl rfl (fun g98 => ?_) (fun g98 => ?_)))))))
 .have h99 := z04 g98 h97
  refine .seq ?_
  obtain ⟨q100, h101, h102⟩ := z00 h99
  refine AW.midT (fun σ' H' => ∃ (y1 : Bool) (G' : GM), y1 = q100 /\ Ow G' H' (eSl v52 28 (rI .i64) [x28, x39] :: eSl w23 22 rS x15.1 :: L) /\ GM.le G92 G' /\ σ' 4 = .bool y1) ?_ ?_
  rotate_left
  .rintro σ108 H109 fr110 ⟨x107, G111, rfl, O112, s113, t115⟩
   have h116 := z0b h102
   refine .ret ?_
   have O118 := (O112.drop 0).drop 0
   obtain rfl := zAa h116
   exact z1e kr (v1 := (.bool x107)) (by rfl) (zi2 (by rfl) (by exact t115)) O118 (zAe s6 (zAe s20 (zAe s33 (zAe s44 (zAe s59 (zAe s78 (zAe s94 s113))))))) rfl
  refine .region (W.q2 (.int .i64 x15.2) ((fr91 6 rfl).trans ((fr75 6 rfl).trans rfl)) (W.q2 _ t96 (W.p3 (.bool (x15.2 == x88)) (W.p2 (.bool (x15.2 == x88)) (W.splitAt (t := 38) (b := (x15.2 == x88)) rfl (fun g103 gv104 => ?_) (fun g103 gv104 => ?_))))))
  rotate_left
  .have h106 := z0i g103 h101
   refine W.q6 rfl gv104 (W.q6 rfl gv104 (W.q6 rfl gv104 (W.q5 (.bool false) gv104 rfl (W.p1 (.bool false) (.nil ?_)))))
   obtain rfl := zAa h106
   exact ⟨false, _, rfl, O93, (zAf _), rfl⟩
  have h105 := z04 g103 h101
  refine W.q2 (hg := gk rfl rfl gv104 rfl) w23 ((fr91 5 rfl).trans ((fr75 5 rfl).trans rfl)) (W.pure (v := (.int .i64 (x15.1.length : Int))) (gk rfl rfl gv104 rfl) rfl (z0g ov (O93.slLen (j := 1) rfl) (z02 el45)) (W.q3 (hg := gk rfl rfl gv104 rfl) (.bool ((x15.1.length : Int) == 0)) rfl rfl (W.q4 (.bool ((x15.1.length : Int) == 0)) gv104 rfl (W.p1 (.bool ((x15.1.length : Int) == 0)) (.nil ?_)))))
  obtain rfl := zAa h105
  exact ⟨((x15.1.length : Int) == 0), _, rfl, O93, (zAf _), rfl⟩
 have h119 := z0i g98 h97
 refine .skip (.seq (.seq (.region (W.q2 v0 ((fr91 0 rfl).trans ((fr75 0 rfl).trans rfl)) (W.q2 v1 ((fr91 1 rfl).trans ((fr75 1 rfl).trans rfl)) (W.ln (Lo.buildSlice (r := (rSl rS)) (vs := [v1]) (xs := [p1]) el44 ze45 sz45 (by kernel_rfl) rfl (qc rfl qn) rfl (.cons (z5i (RT.mono _ (zAe s6 (zAe s20 (zAe s33 (zAe s44 (zAe s59 (zAe s78 s94)))))) hp1)) .nil) O93) ?_))))))
 rintro v122 H123 ⟨O120, sm121⟩
 obtain ⟨G125, O126, s127, f128⟩ := O120.frzSl (j := 0) rfl
 refine W.ln (Lo.buildSlice (r := (rSl (rSl rS))) (vs := [v0, v122]) (xs := [p0, [p1]]) zq0 ze44 sz44 (by kernel_rfl) rfl (qc rfl (qc rfl qn)) rfl (.cons (z5i (RT.mono _ (zAe s6 (zAe s20 (zAe s33 (zAe s44 (zAe s59 (zAe s78 (zAe s94 s127))))))) hp0)) (.cons (z5i f128) .nil)) O126) ?_
 rintro v130 H131 ⟨O124, sm129⟩
 obtain ⟨x132, i133, h134⟩ := z00 h119
 refine W.ln (Lo.callB (j := 0) rfl rfl (fn := Tryz.f32) (by kernel_rfl) rfl (mc rfl (mc rfl mn)) O124 (fun G' L' hG O' hB => zdv K 5 v130 [p0, [p1]] hB O' _ i133)) ?_
 rintro v141 H142 ⟨G135, O136, s137, sm140, rfl⟩
 refine .nil (.cond (b := x132) rfl rfl (fun g143 => ?_) (fun g143 => ?_))
 .have h144 := z04 g143 h134
  refine .seq (.region (W.p1 (.bool true) (.nil (.ret ?_))))
  have O147 := ((O136.drop 0).drop 0).drop 0
  obtain rfl := zAa h144
  exact z1e kr (v1 := (.bool true)) (by rfl) rt O147 (zAe s6 (zAe s20 (zAe s33 (zAe s44 (zAe s59 (zAe s78 (zAe s94 (zAe s127 s137)))))))) rfl
 have h148 := z0i g143 h134
 refine .skip (.seq (.region (W.q2 v0 ((fr91 0 rfl).trans ((fr75 0 rfl).trans rfl)) (W.q2 v1 ((fr91 1 rfl).trans ((fr75 1 rfl).trans rfl)) (W.q2 v0 ((fr91 0 rfl).trans ((fr75 0 rfl).trans rfl)) ?_)))))
 obtain ⟨x149, i150, h151⟩ := z00 h148
 refine W.ln (Lo.cP rfl (fn := Tryz.f31) (by kernel_rfl) rfl (mc rfl mn) O136 (fun L' O' => zep K v0 p0 (RT.mono _ (zAe s6 (zAe s20 (zAe s33 (zAe s44 (zAe s59 (zAe s78 (zAe s94 (zAe s127 s137)))))))) hp0) O' _ i150)) ?_
 rintro v158 H159 ⟨G152, O153, s154, sm157, rfl⟩
 obtain ⟨x160, i161, h162⟩ := z00 h151
 refine W.ln (Lo.cP rfl (fn := Tryz.f49) (by kernel_rfl) rfl (mc rfl (mc rfl (mc rfl mn))) O153 (fun L' O' => zdz K K v0 p0 (RT.mono _ (zAe s6 (zAe s20 (zAe s33 (zAe s44 (zAe s59 (zAe s78 (zAe s94 (zAe s127 (zAe s137 s154))))))))) hp0) v1 p1 (RT.mono _ (zAe s6 (zAe s20 (zAe s33 (zAe s44 (zAe s59 (zAe s78 (zAe s94 (zAe s127 (zAe s137 s154))))))))) hp1) x149 O' _ i161)) ?_
 rintro v171 H172 ⟨G163, O164, s165, sm170, ⟨w167, rfl, f168⟩⟩
 refine W.p2 (.tuple #[w167, (.bool x160.2)]) (W.pv w167 (z0a ov rfl) (W.pv (.bool x160.2) (z0a ov rfl) (W.p1 w167 (W.p1 (.bool x160.2) (.nil (.seq ?_))))))
 refine .seq (.region (W.p2 (.bool x160.2) (W.pv (.bool (!x160.2)) (z9q (a := x160.2) ov) (.nil (.cond (b := (!x160.2)) rfl rfl (fun g173 => ?_) (fun g173 => ?_))))))
 rotate_left
 .have h199 := z0i g173 h162
  refine .skip (.seq ?_)
  obtain ⟨q200, h201, h202⟩ := z00 h199
  refine AW.midT (fun σ' H' => ∃ (y1 : Bool) (G' : GM), y1 = q200 /\ Ow G' H' (eSl v130 44 (rSl (rSl rS)) [p0, [p1]] :: eSl v52 28 (rI .i64) [x28, x39] :: eSl w23 22 rS x15.1 :: L) /\ GM.le G163 G' /\ σ' 4 = .bool y1) ?_ ?_
  rotate_left
  .rintro σ219 H220 fr221 ⟨x218, G222, rfl, O223, s224, t226⟩
   have h227 := z0b h202
   refine .ret ?_
   have O230 := ((O223.drop 0).drop 0).drop 0
   obtain rfl := zAa h227
   exact z1e kr (v1 := (.bool x218)) (by rfl) (zi2 (by rfl) (by exact t226)) O230 (zAe s6 (zAe s20 (zAe s33 (zAe s44 (zAe s59 (zAe s78 (zAe s94 (zAe s127 (zAe s137 (zAe s154 (zAe s165 s224))))))))))) rfl
  refine .region (W.q2 (.int .i64 x15.2) ((fr91 6 rfl).trans ((fr75 6 rfl).trans rfl)) (W.p3 (.bool (x15.2 == 0)) (W.p2 (.bool (x15.2 == 0)) (W.splitAt (t := 71) (b := (x15.2 == 0)) rfl (fun g203 gv204 => ?_) (fun g203 gv204 => ?_)))))
  rotate_left
  .have h217 := z0i g203 h201
   refine W.q6 rfl gv204 (W.q6 rfl gv204 (W.q6 rfl gv204 (W.q5 (.bool false) gv204 rfl (W.p1 (.bool false) (.nil ?_)))))
   obtain rfl := zAa h217
   exact ⟨false, _, rfl, O164, (zAf _), rfl⟩
  have h205 := z04 g203 h201
  refine W.q2 (hg := gk rfl rfl gv204 rfl) w23 ((fr91 5 rfl).trans ((fr75 5 rfl).trans rfl)) (W.q2 (hg := gk rfl rfl gv204 rfl) w167 rfl ?_)
  obtain ⟨x206, i207, h208⟩ := z00 h205
  refine W.lo (gk rfl rfl gv204 rfl) rfl (Lo.callB (j := 2) rfl rfl (fn := Tryz.f34) (by kernel_rfl) rfl (mc rfl (mc rfl mn)) O164 (fun G' L' hG O' hB => z4s K w23 x15.1 hB w167 x160.1 (RT.mono _ hG f168) O' _ i207)) ?_
  rintro v215 H216 ⟨G209, O210, s211, sm214, rfl⟩
  refine W.q4 (.bool x206) gv204 rfl (W.p1 (.bool x206) (.nil ?_))
  obtain rfl := zAa h208
  exact ⟨x206, _, rfl, O210, s211, rfl⟩
 have h174 := z04 g173 h162
 refine .seq ?_
 obtain ⟨q175, h176, h177⟩ := z00 h174
 refine AW.midT (fun σ' H' => ∃ (y1 : Bool) (G' : GM), y1 = q175 /\ Ow G' H' (eSl v130 44 (rSl (rSl rS)) [p0, [p1]] :: eSl v52 28 (rI .i64) [x28, x39] :: eSl w23 22 rS x15.1 :: L) /\ GM.le G163 G' /\ σ' 4 = .bool y1) ?_ ?_
 rotate_left
 .rintro σ187 H188 fr189 ⟨x186, G190, rfl, O191, s192, t194⟩
  have h195 := z0b h177
  refine .ret ?_
  have O198 := ((O191.drop 0).drop 0).drop 0
  obtain rfl := zAa h195
  exact z1e kr (v1 := (.bool x186)) (by rfl) (zi2 (by rfl) (by exact t194)) O198 (zAe s6 (zAe s20 (zAe s33 (zAe s44 (zAe s59 (zAe s78 (zAe s94 (zAe s127 (zAe s137 (zAe s154 (zAe s165 s192))))))))))) rfl
 refine .region (W.q2 (.int .i64 x15.2) ((fr91 6 rfl).trans ((fr75 6 rfl).trans rfl)) (W.p3 (.bool (x15.2 == 8)) (W.p2 (.bool (x15.2 == 8)) (W.splitAt (t := 60) (b := (x15.2 == 8)) rfl (fun g178 gv179 => ?_) (fun g178 gv179 => ?_)))))
 .have h180 := z04 g178 h176
  refine W.q6 rfl gv179 (W.q6 rfl gv179 (W.q4 (.bool true) gv179 rfl (W.p2 (.bool true) (W.q2 (hg := gk rfl rfl rfl rfl) w23 ((fr91 5 rfl).trans ((fr75 5 rfl).trans rfl)) (W.pure (v := (.int .i64 (x15.1.length : Int))) (gk rfl rfl rfl rfl) rfl (z0g ov (O164.slLen (j := 2) rfl) (z02 el45)) (W.q3 (hg := gk rfl rfl rfl rfl) (.bool ((x15.1.length : Int) == 0)) rfl rfl ?_))))))
  refine W.q4 (.bool ((x15.1.length : Int) == 0)) rfl rfl (W.p1 (.bool ((x15.1.length : Int) == 0)) (.nil ?_))
  obtain rfl := zAa h180
  exact ⟨((x15.1.length : Int) == 0), _, rfl, O164, (zAf _), rfl⟩
 have h181 := z0i g178 h176
 refine W.q2 (hg := gk rfl rfl gv179 rfl) (.int .i64 x15.2) ((fr91 6 rfl).trans ((fr75 6 rfl).trans rfl)) (W.q3 (hg := gk rfl rfl gv179 rfl) (.bool (x15.2 == 10)) rfl rfl (W.q5 (.bool (x15.2 == 10)) gv179 rfl (W.p2 (.bool (x15.2 == 10)) (W.splitAt (t := 64) (b := (x15.2 == 10)) rfl (fun g182 gv183 => ?_) (fun g182 gv183 => ?_)))))
 rotate_left
 .have h185 := z0i g182 h181
  refine W.q6 rfl gv183 (W.q6 rfl gv183 (W.q6 rfl gv183 (W.q5 (.bool false) gv183 rfl (W.p1 (.bool false) (.nil ?_)))))
  obtain rfl := zAa h185
  exact ⟨false, _, rfl, O164, (zAf _), rfl⟩
 have h184 := z04 g182 h181
 refine W.q2 (hg := gk rfl rfl gv183 rfl) w23 ((fr91 5 rfl).trans ((fr75 5 rfl).trans rfl)) (W.pure (v := (.int .i64 (x15.1.length : Int))) (gk rfl rfl gv183 rfl) rfl (z0g ov (O164.slLen (j := 2) rfl) (z02 el45)) (W.q3 (hg := gk rfl rfl gv183 rfl) (.bool ((x15.1.length : Int) == 0)) rfl rfl (W.q4 (.bool ((x15.1.length : Int) == 0)) gv183 rfl (W.p1 (.bool ((x15.1.length : Int) == 0)) (.nil ?_)))))
 obtain rfl := zAa h184
 exact ⟨((x15.1.length : Int) == 0), _, rfl, O164, (zAf _), rfl⟩
end Go.Am.Tryz
/- Numbers: digits in a base, the least one first; decimal texts. Plain, no program. -/
namespace Go.Am
open Go
def valB (B : Int) : List Int -> Int
 | [] => 0
 | d :: l => d + B * valB B l
def DigB (B : Int) (l : List Int) : Prop := ∀ d ∈ l, 0 <= d /\ d < B
theorem DigB.nil (B : Int) : DigB B [] := fun d h => by simp at h
theorem DigB.cons {B d : Int} {l : List Int} (h : DigB B (d :: l)) : (0 <= d /\ d < B) /\ DigB B l := ⟨h d (by simp), fun x hx => h x (by simp [hx])⟩
theorem DigB.app {B : Int} {l m : List Int} (h : DigB B l) (k : DigB B m) : DigB B (l ++ m) := fun d hd => by
 rcases List.mem_append.1 hd with hd | hd
 ·exact h d hd
 ·exact k d hd
theorem z5j (B : Int) : ∀ (l m : List Int), valB B (l ++ m) = valB B l + B ^ l.length * valB B m
 | [], m => by simp [valB]
 | d :: l, m => by
  simp only [List.cons_append, valB, z5j B l m, List.length_cons, Int.pow_succ]
  rw [Int.mul_add, <- Int.mul_assoc, Int.mul_comm B (B ^ l.length), Int.add_assoc]
theorem z0z {B : Int} (hB : 0 < B) : ∀ (l : List Int), DigB B l -> 0 <= valB B l
 | [], _ => Int.le_refl _
 | d :: l, h => by
  have h1 := (h.cons).1
  have h2 := z0z hB l h.cons.2
  have := Int.mul_nonneg (Int.le_of_lt hB) h2
  simp only [valB]; omega
theorem z4q {B : Int} (hB : 0 < B) : ∀ (l : List Int), DigB B l -> valB B l < B ^ l.length
 | [], _ => by simp [valB]
 | d :: l, h => by
  have h1 := (h.cons).1
  have h2 := z4q hB l h.cons.2
  have h3 : B * (valB B l + 1) <= B * B ^ l.length := Int.mul_le_mul_of_nonneg_left (by omega) (Int.le_of_lt hB)
  rw [Int.mul_add, Int.mul_one] at h3
  simp only [valB, List.length_cons, Int.pow_succ]
  rw [Int.mul_comm (B ^ l.length) B]
  omega
def CanB (B : Int) (l : List Int) : Prop := DigB B l /\ l.getLast? ≠ some 0
theorem CanB.tail {B d : Int} {l : List Int} (h : CanB B (d :: l)) : CanB B l := by
 refine ⟨h.1.cons.2, fun e => h.2 ?_⟩
 cases l with
 | nil => simp at e
 | cons x l => rw [List.getLast?_cons_cons]; exact e
theorem zbi {B : Int} (hB : 1 < B) : ∀ (l : List Int), CanB B l -> l ≠ [] -> 0 < valB B l
 | [], _, h => absurd rfl h
 | d :: l, h, _ => by
  have h1 := h.1.cons.1
  cases l with
  | nil =>
   have : d ≠ 0 := fun e => h.2 (by simp [e])
   simp only [valB]; omega
  | cons x l =>
   have h2 := zbi hB (x :: l) h.tail (by simp)
   have h3 : B * 1 <= B * valB B (x :: l) := Int.mul_le_mul_of_nonneg_left (by omega) (by omega)
   simp only [valB] at h2 h3 ⊢; omega
theorem zmq {B d e x y : Int} (hd : 0 <= d /\ d < B) (he : 0 <= e /\ e < B) (h : d + B * x = e + B * y) : d = e /\ x = y := by
 have h1 : x = y := by
  rcases Int.lt_trichotomy x y with h2 | h2 | h2
  ·have : B * (x + 1) <= B * y := Int.mul_le_mul_of_nonneg_left (by omega) (by omega)
   rw [Int.mul_add, Int.mul_one] at this; omega
  ·exact h2
  ·have : B * (y + 1) <= B * x := Int.mul_le_mul_of_nonneg_left (by omega) (by omega)
   rw [Int.mul_add, Int.mul_one] at this; omega
 subst h1
 exact ⟨by omega, rfl⟩
theorem zmr {B : Int} (hB : 1 < B) : ∀ (l m : List Int), CanB B l -> CanB B m -> valB B l = valB B m -> l = m
 | [], [], _, _, _ => rfl
 | [], e :: m, _, h2, h => by
  have := zbi hB (e :: m) h2 (by simp)
  rw [<- h] at this; simp [valB] at this
 | d :: l, [], h1, _, h => by
  have := zbi hB (d :: l) h1 (by simp)
  rw [h] at this; simp [valB] at this
 | d :: l, e :: m, h1, h2, h => by
  obtain ⟨rfl, h3⟩ := zmq h1.1.cons.1 h2.1.cons.1 h
  rw [zmr hB l m h1.tail h2.tail h3]
def digT (c : Int) : Bool := decide (48 <= c) && decide (c <= 57)
def z5k (s : zAd) : List Int := ((z05 s).map (· - 48)).reverse
def numT (s : zAd) : Int := valB 10 (z5k s)
def CanT (s : zAd) : Prop := s.size ≠ 0 /\ (z05 s).all digT = true /\ ((z05 s).head? = some 48 -> s.size = 1)
theorem z3t {a b : zAd} (h : z05 a = z05 b) : a = b := by
 unfold z05 at h
 have h1 : a.data.toList = b.data.toList := by
  have : Function.Injective fun b : UInt8 => (b.toNat : Int) := fun x y h => by
   have : x.toNat = y.toNat := by have h' : (x.toNat : Int) = (y.toNat : Int) := h; omega
   exact UInt8.toNat_inj.1 this
  exact List.map_inj_right (fun x y h => this h) |>.1 h
 cases a; cases b
 congr 1
 exact Array.toList_inj.1 h1
theorem z7c {s : zAd} (h : (z05 s).all digT = true) : DigB 10 (z5k s) := by
 intro d hd
 unfold z5k at hd
 rw [List.mem_reverse, List.mem_map] at hd
 obtain ⟨c, hc, rfl⟩ := hd
 have := List.all_eq_true.1 h c hc
 simp only [digT, Bool.and_eq_true, decide_eq_true_eq] at this
 omega
theorem z55 (s : zAd) : (z5k s).length = s.size := by
 unfold z5k
 rw [List.length_reverse, List.length_map, z01]
theorem zfo {a b : zAd} (h : z5k a = z5k b) : a = b := by
 unfold z5k at h
 have h1 := List.reverse_inj.1 h
 exact z3t (List.map_inj_right (fun x y h => by omega) |>.1 h1)
theorem z8e {s : zAd} (h : CanT s) (h0 : (z05 s).head? = some 48) : z5k s = [0] := by
 have h1 := h.2.2 h0
 have hl := z01 s
 rw [h1] at hl
 match hb : z05 s, hl with
 | [c], _ => rw [hb] at h0; simp at h0; subst h0; simp [z5k, hb]
theorem zd8 {s : zAd} (h : CanT s) (h0 : (z05 s).head? ≠ some 48) : CanB 10 (z5k s) := by
 refine ⟨z7c h.2.1, fun e => h0 ?_⟩
 unfold z5k at e
 rw [List.getLast?_reverse, List.head?_map] at e
 cases hb : (z05 s).head? with
 | none => rw [hb] at e; cases e
 | some c => rw [hb] at e; simp at e; congr 1; omega
theorem z8x {a b : zAd} (ha : CanT a) (hb : CanT b) (h : numT a = numT b) : a = b := by
 have pos : ∀ s : zAd, CanT s -> (z05 s).head? ≠ some 48 -> 0 < numT s := fun s hs h0 => zbi (by omega) _ (zd8 hs h0) (fun e => by
  have := z55 s
  rw [e] at this
  exact hs.1 this.symm)
 by_cases h1 : (z05 a).head? = some 48 <;> by_cases h2 : (z05 b).head? = some 48
 ·exact zfo (by rw [z8e ha h1, z8e hb h2])
 ·have := pos b hb h2
  unfold numT at h this
  rw [z8e ha h1] at h
  simp [valB] at h; omega
 ·have := pos a ha h1
  unfold numT at h this
  rw [z8e hb h2] at h
  simp [valB] at h; omega
 ·exact zfo (zmr (by omega) _ _ (zd8 ha h1) (zd8 hb h2) h)
theorem z2t (a : zAd) (i j : Nat) : z05 (a.extract i j) = ((z05 a).drop i).take (j - i) := by
 unfold z05
 rw [ByteArray.data_extract, Array.toList_extract]
 simp [List.extract, List.map_drop, List.map_take]
theorem z0r (a b : zAd) : z05 (a ++ b) = z05 a ++ z05 b := by
 unfold z05
 rw [ByteArray.data_append, Array.toList_append, List.map_append]
theorem zc7 (xs : List Int) (h : ∀ x ∈ xs, 0 <= x /\ x <= 255) : z05 (strOfNums xs) = xs := by
 unfold z05
 rw [strOfNums_data, List.map_map]
 conv => rhs; rw [<- List.map_id xs]
 apply List.map_congr_left
 intro x hx
 have := h x hx
 show ((UInt8.ofNat x.toNat).toNat : Int) = x
 rw [UInt8.toNat_ofNat']
 omega
theorem zbj {s : zAd} {c : Int} {l : List Int} (h : z05 s = c :: l) : ∃ t, ssl s 1 (s.size : Int) = some t /\ z05 t = l /\ t.size = l.length := by
 have hn := z01 s
 rw [h] at hn
 simp at hn
 refine ⟨s.extract 1 s.size, ?_, ?_, ?_⟩
 ·unfold ssl
  rw [if_pos (by omega)]
  simp
 ·rw [z2t, h]
  simp
  exact List.take_of_length_le (by omega)
 ·rw [<- z01, z2t, h]
  simp
  omega
theorem zkh {s t : zAd} {c : Int} (h : z05 s = c :: z05 t) : numT s = numT t + 10 ^ t.size * (c - 48) := by
 unfold numT z5k
 rw [h, List.map_cons, List.reverse_cons, z5j]
 simp [valB, z01]
end Go.Am
/- Graphs: connected parts, their numbers, closure of a matrix, ways. Plain, no program. -/
namespace Go.Am
open Go
def Edg (l : List (Int × Int)) (U : Nat -> Bool) (a b : Nat) : Prop := ∃ k, k < l.length /\ U k = true /\ (l.getD k (0, 0) = ((a : Int), (b : Int)) \/ l.getD k (0, 0) = ((b : Int), (a : Int)))
inductive Con (l : List (Int × Int)) (U : Nat -> Bool) : Nat -> Nat -> Prop
 | refl (a : Nat) : Con l U a a
 | tail {a b c : Nat} : Con l U a b -> Edg l U b c -> Con l U a c
structure Outer (l : List (Int × Int)) (U : Nat -> Bool) (n : Nat) (cs : List Int) (m s : Nat) : Prop where
 len : cs.length = n
 rng : ∀ i < n, -1 <= cs.getD i 0 /\ cs.getD i 0 < m
 done : ∀ i < s, i < n -> 0 <= cs.getD i 0
 cls : ∀ i j, i < n -> j < n -> 0 <= cs.getD i 0 -> (cs.getD i 0 = cs.getD j 0 ↔ Con l U i j)
 last : 0 < m -> ∃ j < s, j < n /\ cs.getD j 0 = (m : Int) - 1
 rgs : ∀ i < n, 0 < cs.getD i 0 -> ∃ j < i, cs.getD j 0 = cs.getD i 0 - 1
 few : m <= s
structure Mid (l : List (Int × Int)) (U : Nat -> Bool) (n : Nat) (base : List Int) (m s : Nat) (cs : List Int) : Prop where
 len : cs.length = n
 own : ∀ i < n, (cs.getD i 0 = m /\ base.getD i 0 = -1 /\ Con l U s i) \/ cs.getD i 0 = base.getD i 0
 start : cs.getD s 0 = m
theorem z7d {cs : List Int} {i j : Nat} {v : Int} (hi : i < cs.length) : (cs.set i v).getD j 0 = if j = i then v else cs.getD j 0 := by
 rw [zAb, List.getElem?_set]
 by_cases h : i = j
 ·subst h; simp [hi]
 ·rw [if_neg h, if_neg (fun e => h e.symm), zAb]
theorem Edg.symm {l : List (Int × Int)} {U : Nat -> Bool} {a b : Nat} (h : Edg l U a b) : Edg l U b a := by
 obtain ⟨k, h1, h2, h3⟩ := h
 exact ⟨k, h1, h2, h3.symm⟩
theorem Con.trans {l : List (Int × Int)} {U : Nat -> Bool} {a b c : Nat} (h : Con l U a b) (k : Con l U b c) : Con l U a c := by
 induction k with
 | refl => exact h
 | tail _ e ih => exact .tail ih e
theorem Con.symm {l : List (Int × Int)} {U : Nat -> Bool} {a b : Nat} (h : Con l U a b) : Con l U b a := by
 induction h with
 | refl => exact .refl _
 | tail _ e ih => exact (Con.tail (.refl _) e.symm).trans ih
structure EqvOn (M : Nat -> Nat -> Bool) (n : Nat) : Prop where
 refl : ∀ a < n, M a a = true
 symm : ∀ a b, a < n -> b < n -> M a b = true -> M b a = true
 trans : ∀ a b c, a < n -> b < n -> c < n -> M a b = true -> M b c = true -> M a c = true
structure NumOk (M : Nat -> Nat -> Bool) (cs : List Int) (m i : Nat) : Prop where
 len : cs.length = i
 rng : ∀ a < i, 0 <= cs.getD a 0 /\ cs.getD a 0 < m
 cls : ∀ a b, a < i -> b < i -> (cs.getD a 0 = cs.getD b 0 ↔ M a b = true)
 last : 0 < m -> ∃ a < i, cs.getD a 0 = (m : Int) - 1
 rgs : ∀ a < i, 0 < cs.getD a 0 -> ∃ b < a, cs.getD b 0 = cs.getD a 0 - 1
 few : m <= i
structure WOk (l : List (Int × Int)) (U : Nat -> Bool) (n : Nat) (M : Nat -> Nat -> Bool) (m : Nat) : Prop where
 sound : ∀ a b, a < n -> b < n -> M a b = true -> Con l U a b
 refl : ∀ a < n, M a a = true
 edge : ∀ a b, a < n -> b < n -> Edg l U a b -> M a b = true
 tr : ∀ c < m, ∀ a b, a < n -> b < n -> M a c = true -> M c b = true -> M a b = true
def Wk (l : List (Int × Int)) (U : Nat -> Bool) (to : Nat) : Nat -> Nat -> Prop
 | 0, v => v = to
 | k + 1, v => ∃ w, Edg l U v w /\ Wk l U to k w
structure FarOk (l : List (Int × Int)) (U : Nat -> Bool) (n to : Nat) (fs : List Int) (d : Nat) : Prop where
 len : fs.length = n
 rng : ∀ v < n, -1 <= fs.getD v 0
 fnd : ∀ v < n, ∀ k : Nat, fs.getD v 0 = k -> k <= d /\ Wk l U to k v /\ ∀ j < k, ¬ Wk l U to j v
 nof : ∀ v < n, fs.getD v 0 = -1 -> ∀ j ≤ d, ¬ Wk l U to j v
structure Rnd (l : List (Int × Int)) (U : Nat -> Bool) (n to : Nat) (fs gs : List Int) (d : Nat) : Prop where
 len : gs.length = n
 old : ∀ v < n, gs.getD v 0 = fs.getD v 0 \/ (fs.getD v 0 = -1 /\ gs.getD v 0 = (d : Int) + 1 /\ Wk l U to (d + 1) v)
def neg (n : Nat) (fs : List Int) : Nat := ((List.range n).filter fun v => fs.getD v 0 == -1).length
theorem zeq {S R : Type} (n : Nat) (l : Nat -> S -> Int -> Option R) (I : S -> Nat -> Prop) (Q : R -> Prop)
  (h : ∀ k s (i : Nat), i < n -> I s i -> (∃ r, l (k + 1) s (i : Int) = some r /\ Q r) \/ ∃ s', I s' (i + 1) /\ l (k + 1) s (i : Int) = l k s' ((i + 1 : Nat) : Int))
  (h0 : ∀ k s (i : Nat), i = n -> I s i -> ∃ r, l (k + 1) s (i : Int) = some r /\ Q r) : ∀ k s, n < k -> I s 0 -> ∃ r, l k s 0 = some r /\ Q r := by
 have key : ∀ d k s (i : Nat), n - i = d -> i <= n -> d < k -> I s i -> ∃ r, l k s (i : Int) = some r /\ Q r := by
  intro d
  induction d with
  | zero =>
   intro k s i hd hi hk hI
   obtain ⟨k, rfl⟩ : ∃ m, k = m + 1 := ⟨k - 1, by omega⟩
   exact h0 k s i (by omega) hI
  | succ d ih =>
   intro k s i hd hi hk hI
   obtain ⟨k, rfl⟩ : ∃ m, k = m + 1 := ⟨k - 1, by omega⟩
   rcases h k s i (by omega) hI with h1 | ⟨s', h1, h2⟩
   ·exact h1
   ·rw [h2]; exact ih k s' (i + 1) (by omega) (by omega) (by omega) h1
 intro k s hk hI
 exact key n k s 0 (by omega) (Nat.zero_le _) hk hI
theorem zo9 {S R : Type} (l : Nat -> S -> Option R) (I : S -> Prop) (mu : S -> Nat) (Q : R -> Prop)
  (h : ∀ k s, I s -> (∃ r, l (k + 1) s = some r /\ Q r) \/ ∃ s', I s' /\ mu s' < mu s /\ l (k + 1) s = l k s') : ∀ k s, mu s < k -> I s -> ∃ r, l k s = some r /\ Q r := by
 intro k
 induction k with
 | zero => intro s h1; omega
 | succ k ih =>
  intro s h1 hI
  rcases h k s hI with h2 | ⟨s', h2, h3, h4⟩
  ·exact h2
  ·rw [h4]; exact ih s' (by omega) h2
def two (p : Int × Int) : List Int := [p.1, p.2]
theorem zib {cs : List Int} {a : Nat} (h : a < cs.length) : idx cs (a : Int) = some (cs.getD a 0) := by
 apply z3v
 simp [h, zAb]
end Go.Am
/- Plain lemmas: rules for typed functions over whole numbers; digits set in place; the guess of a digit of a quotient. -/
namespace Go.Am
open Go
theorem z0d {α β : Type} (a : α) (f : α -> Option β) : Option.bind (some a) f = f a := (rfl)
theorem tu0a {β : Type} (g : Option β) (u : Unit) : tu0 g u = g := (rfl)
theorem tu1a {α β : Type} (g : α -> Option β) (a : α) : tu1 g a = g a := (rfl)
theorem tu2a {α1 α2 β : Type} (g : α1 -> α2 -> Option β) (p : α1 × α2) : tu2 g p = g p.1 p.2 := (rfl)
theorem tu3a {α1 α2 α3 β : Type} (g : α1 -> α2 -> α3 -> Option β) (p : α1 × α2 × α3) : tu3 g p = g p.1 p.2.1 p.2.2 := (rfl)
theorem tu4a {α1 α2 α3 α4 β : Type} (g : α1 -> α2 -> α3 -> α4 -> Option β) (p : α1 × α2 × α3 × α4) : tu4 g p = g p.1 p.2.1 p.2.2.1 p.2.2.2 := (rfl)
theorem tu5a {α1 α2 α3 α4 α5 β : Type} (g : α1 -> α2 -> α3 -> α4 -> α5 -> Option β) (p : α1 × α2 × α3 × α4 × α5) : tu5 g p = g p.1 p.2.1 p.2.2.1 p.2.2.2.1 p.2.2.2.2 := (rfl)
theorem lta {α β : Type} (x : α) (f : α -> Option β) : lt x f = f x := (rfl)
theorem zic {α β γ : Type} (a : α) (f : α -> Option γ) (g : β -> Option γ) : zb5 (some (.inl a)) f g = f a := (rfl)
theorem zid {α β γ : Type} (b : β) (f : α -> Option γ) (g : β -> Option γ) : zb5 (some (.inr b)) f g = g b := (rfl)
theorem zr4 {α β γ : Type} (a : α) (f : α -> Option γ) (g : β -> Option γ) : outS (.inl a) f g = f a := (rfl)
theorem zr5 {α β γ : Type} (b : β) (f : α -> Option γ) (g : β -> Option γ) : outS (.inr b) f g = g b := (rfl)
theorem zoa {α : Type} [BEq α] [LawfulBEq α] {a b : α} : ((a == b) = true) = (a = b) := propext beq_iff_eq
theorem zob {a b : Int} : ((a != b) = true) = (a ≠ b) := by simp
theorem k64 {a : Int} (h1 : -9223372036854775808 <= a) (h2 : a <= 9223372036854775807) : z03 .i64 a = a := kw h1 h2
theorem ku64 {a : Int} (h1 : 0 <= a) (h2 : a <= 18446744073709551615) : z03 .u64 a = a := z78 (by simp [z93]; omega)
theorem ku32 {a : Int} (h1 : 0 <= a) (h2 : a <= 4294967295) : z03 .u32 a = a := z78 (by simp [z93]; omega)
theorem ku8 {a : Int} (h1 : 0 <= a) (h2 : a <= 255) : z03 .u8 a = a := z78 (by simp [z93]; omega)
theorem i64w {a : Int} (h1 : -9223372036854775808 <= a) (h2 : a <= 9223372036854775807) : IntKind.wrap .i64 a = a := by rw [<- z7o]; exact k64 h1 h2
theorem u64w {a : Int} (h1 : 0 <= a) (h2 : a <= 18446744073709551615) : IntKind.wrap .u64 a = a := by rw [<- z7o]; exact ku64 h1 h2
theorem u32w {a : Int} (h1 : 0 <= a) (h2 : a <= 4294967295) : IntKind.wrap .u32 a = a := by rw [<- z7o]; exact ku32 h1 h2
theorem u8w {a : Int} (h1 : 0 <= a) (h2 : a <= 255) : IntKind.wrap .u8 a = a := by rw [<- z7o]; exact ku8 h1 h2
theorem idxI {xs : List Int} {j : Int} (h1 : 0 <= j) (h2 : j < (xs.length : Int)) : idx xs j = some (xs.getD j.toNat 0) := by
 unfold idx
 rw [if_neg (by omega), zAb, zAh (by omega)]
 rfl
theorem zpq {s : zAd} {j : Int} (h1 : 0 <= j) (h2 : j < (s.size : Int)) : bidx s j = some ((z05 s).getD j.toNat 0) := by
 rw [z9a]; exact idxI h1 (by rw [z01]; exact h2)
theorem lslI {α : Type} {xs : List α} {l h : Int} (h1 : 0 <= l) (h2 : l <= h) (h3 : h <= (xs.length : Int)) : lsl xs l h = some ((xs.drop l.toNat).take (h.toNat - l.toNat)) := by unfold lsl; rw [if_pos ⟨h1, h2, h3⟩]
theorem sslI {s : zAd} {l h : Int} (h1 : 0 <= l) (h2 : l <= h) (h3 : h <= (s.size : Int)) : ssl s l h = some (s.extract l.toNat h.toNat) := by unfold ssl; rw [if_pos ⟨h1, h2, h3⟩]
theorem zqu {a b : Int} (h : 0 <= a) : Int.tdiv a b = a / b := Int.tdiv_eq_ediv_of_nonneg h
theorem zr6 {a b : Int} (h : 0 <= a) : Int.tmod a b = a % b := Int.tmod_eq_emod_of_nonneg h
theorem z8f {S R : Type} (l : Nat -> S -> Option R) (I : S -> Prop) (mu : S -> Nat) (Q : R -> Prop)
  (h : ∀ k s, I s -> (∃ r, l (k + 1) s = some r /\ Q r) \/ ∃ s', l (k + 1) s = l k s' /\ mu s' < mu s /\ I s') {k : Nat} (s : S) (hk : mu s < k) (hI : I s) : ∃ r, l k s = some r /\ Q r :=
 zo9 l I mu Q (fun k s hs => (h k s hs).imp id fun ⟨s', a, b, c⟩ => ⟨s', c, b, a⟩) k s hk hI
theorem z1t {B : Int} (hB : 0 < B) {x : List Int} (h : DigB B x) (k : Nat) : 0 <= x.getD k 0 /\ x.getD k 0 < B := by
 by_cases hk : k < x.length
 ·rw [zAb, zAh hk]; exact h _ (List.getElem_mem hk)
 ·rw [zAb, List.getElem?_eq_none (by omega)]; exact ⟨Int.le_refl _, hB⟩
theorem z6k (B : Int) : ∀ (l : List Int) (p : Nat) (d : Int), p < l.length -> valB B (l.set p d) = valB B l + B ^ p * (d - l.getD p 0)
 | [], p, d, h => by simp at h
 | x :: l, 0, d, _ => by simp [valB]; omega
 | x :: l, p + 1, d, h => by
  have := z6k B l p d (by simpa using h)
  simp only [List.set_cons_succ, valB, this, List.getD_cons_succ, Int.pow_succ]
  grind
theorem DigB.set {B d : Int} {l : List Int} (h : DigB B l) (p : Nat) (hd : 0 <= d /\ d < B) : DigB B (l.set p d) := fun x hx => by
 rcases List.mem_or_eq_of_mem_set hx with h1 | h1
 ·exact h x h1
 ·subst h1; exact hd
theorem DigB.take {B : Int} {l : List Int} (h : DigB B l) (k : Nat) : DigB B (l.take k) := fun x hx => h x (List.mem_of_mem_take hx)
theorem DigB.drop {B : Int} {l : List Int} (h : DigB B l) (k : Nat) : DigB B (l.drop k) := fun x hx => h x (List.mem_of_mem_drop hx)
theorem DigB.snoc {B d : Int} {l : List Int} (h : DigB B l) (hd : 0 <= d /\ d < B) : DigB B (l ++ [d]) := h.app fun x hx => by simp at hx; omega
theorem z86 (B : Int) (l : List Int) (k : Nat) (hk : k <= l.length) : valB B l = valB B (l.take k) + B ^ k * valB B (l.drop k) := by
 conv => lhs; rw [<- List.take_append_drop k l]
 rw [z5j, List.length_take, Nat.min_eq_left hk]
theorem z9f (B : Int) (n : Nat) : valB B (List.replicate n 0) = 0 := by
 induction n with
 | zero => rfl
 | succ n ih => simp [List.replicate_succ, valB, ih]
theorem DigB.zeros {B : Int} (hB : 0 < B) (n : Nat) : DigB B (List.replicate n 0) := fun x hx => by
 rw [List.mem_replicate] at hx; omega
theorem z3d (B : Int) (x : List Int) (k : Nat) : valB B (x.take (k + 1)) = valB B (x.take k) + B ^ k * x.getD k 0 := by
 by_cases h : k < x.length
 ·have hx : x[k]? = some x[k] := zAh h
  rw [List.take_add_one, hx, z5j, List.length_take, Nat.min_eq_left (by omega), zAb, hx]
  simp [valB]
 ·rw [List.take_of_length_le (by omega), List.take_of_length_le (by omega), zAb, List.getElem?_eq_none (by omega)]
  simp
theorem z8g (B : Int) (x : List Int) (d : Int) : valB B (x ++ [d]) = valB B x + B ^ x.length * d := by rw [z5j]; simp [valB]
theorem z9g (l : List Int) (h : l ≠ []) : ∃ r d, l = r ++ [d] := by
 rcases List.eq_nil_or_concat l with rfl | ⟨r, d, rfl⟩
 ·exact absurd rfl h
 ·exact ⟨r, d, by simp⟩
theorem zie {B : Int} (hB : 1 < B) {l : List Int} (h : CanB B l) (h0 : l ≠ []) : B ^ (l.length - 1) <= valB B l := by
 obtain ⟨r, d, rfl⟩ := z9g l h0
 have hd : d ≠ 0 := fun e => h.2 (by simp [e])
 have hd2 := h.1 d (by simp)
 have hr := z0z (B := B) (by omega) r (fun x hx => h.1 x (by simp [hx]))
 have e : (r ++ [d]).length - 1 = r.length := by simp
 rw [z8g, e]
 have h1 : B ^ r.length * 1 <= B ^ r.length * d := Int.mul_le_mul_of_nonneg_left (by omega) (Int.le_of_lt (Int.pow_pos (by omega)))
 omega
theorem zq7 {B : Int} (hB : 1 < B) {l : List Int} (h : DigB B l) (h0 : l ≠ []) (hv : B ^ (l.length - 1) <= valB B l) : CanB B l := by
 refine ⟨h, fun e => ?_⟩
 obtain ⟨r, d, rfl⟩ := z9g l h0
 have hd : d = 0 := by simpa using e
 have hr := z4q (B := B) (by omega) r (fun x hx => h x (by simp [hx]))
 have e : (r ++ [(0 : Int)]).length - 1 = r.length := by simp
 rw [z8g, hd, e] at hv
 omega
theorem z7j {B : Int} (hB : 0 < B) {i j : Nat} (h : i <= j) : B ^ i <= B ^ j := by
 obtain ⟨m, rfl⟩ : ∃ m, j = i + m := ⟨j - i, by omega⟩
 rw [Int.pow_add]
 have p1 : 0 < B ^ m := Int.pow_pos hB
 have p2 : 0 < B ^ i := Int.pow_pos hB
 have := Int.mul_le_mul_of_nonneg_left (show 1 <= B ^ m by omega) (Int.le_of_lt p2)
 omega
theorem zif {B : Int} (hB : 1 < B) {l m : List Int} (h : DigB B l) (hm : CanB B m) (hl : l.length < m.length) : valB B l < valB B m := by
 have h1 := z4q (B := B) (by omega) l h
 have h2 := zie hB hm (by intro e; subst e; simp at hl)
 have h3 : B ^ l.length <= B ^ (m.length - 1) := by
  obtain ⟨j, hj⟩ : ∃ j, m.length - 1 = l.length + j := ⟨m.length - 1 - l.length, by omega⟩
  rw [hj, Int.pow_add]
  have p1 : 0 < B ^ j := Int.pow_pos (by omega)
  have p2 : 0 < B ^ l.length := Int.pow_pos (by omega)
  have := Int.mul_le_mul_of_nonneg_left (show 1 <= B ^ j by omega) (Int.le_of_lt p2)
  omega
 omega
theorem ze0 {B : Int} (hB : 1 < B) {l m : List Int} (h : CanB B l) (hm : DigB B m) (hv : valB B l <= valB B m) : l.length <= m.length := by
 refine Nat.not_lt.1 fun hl => ?_
 have := zif hB hm h hl
 omega
theorem z3g {a b c : Int} (hc : 0 <= c) (h : a <= b) : c * a <= c * b := Int.mul_le_mul_of_nonneg_left h hc
theorem z8p {a b : Int} (ha : 0 <= a) (hb : 0 <= b) : 0 <= a * b := Int.mul_nonneg ha hb
structure Kn (B P v1 v2 vl top u3 ul q : Int) : Prop where
 B1 : 1 < B
 P0 : 0 < P
 v1p : 1 <= v1
 v2p : 0 <= v2
 v2b : v2 < B
 vlp : 0 <= vl
 vlb : vl < P
 tp : 0 <= top
 u3p : 0 <= u3
 u3b : u3 < B
 ulp : 0 <= ul
 ulb : ul < P
 q0 : 0 <= q
 qB : q < B
 lo : q * (P * (B * v1 + v2) + vl) <= P * (B * top + u3) + ul
 hi : P * (B * top + u3) + ul < (q + 1) * (P * (B * v1 + v2) + vl)
section
variable {B P v1 v2 vl top u3 ul q g r : Int}
theorem Kn.first (h : Kn B P v1 v2 vl top u3 ul q) : q <= top / v1 := by
 obtain ⟨B1, P0, v1p, v2p, v2b, vlp, vlb, tp, u3p, u3b, ulp, ulb, q0, qB, lo, hi⟩ := h
 rw [Int.le_ediv_iff_mul_le (by omega)]
 refine Int.le_of_lt_add_one (Int.not_le.1 fun hc => ?_)
 have a1 := z3g (Int.le_of_lt (Int.mul_pos P0 (show 0 < B by omega))) hc
 have a2 := z8p (Int.le_of_lt P0) (z8p q0 v2p)
 have a3 := z8p q0 vlp
 have a4 := z3g (Int.le_of_lt P0) (show u3 <= B - 1 by omega)
 grind
theorem Kn.down (h : Kn B P v1 v2 vl top u3 ul q) (hr : top = g * v1 + r) (hg : 0 <= g) (hc : g * v2 > r * B + u3) : q < g := by
 obtain ⟨B1, P0, v1p, v2p, v2b, vlp, vlb, tp, u3p, u3b, ulp, ulb, q0, qB, lo, hi⟩ := h
 refine Int.not_le.1 fun hq => ?_
 have hV : 0 <= P * (B * v1 + v2) + vl := by
  have := z8p (Int.le_of_lt P0) (show 0 <= B * v1 + v2 from by have := z8p (show 0 <= B by omega) (show 0 <= v1 by omega); omega)
  omega
 have a1 := z3g hV hq
 have a2 := z3g (Int.le_of_lt P0) (show r * B + u3 + 1 <= g * v2 by omega)
 have a3 := z8p hg vlp
 subst hr
 grind
theorem Kn.exitA (h : Kn B P v1 v2 vl top u3 ul q) (hr : top = g * v1 + r) (hg : 0 <= g) (hB : g < B) (hc : g * v2 <= r * B + u3) : g <= q + 1 := by
 obtain ⟨B1, P0, v1p, v2p, v2b, vlp, vlb, tp, u3p, u3b, ulp, ulb, q0, qB, lo, hi⟩ := h
 refine Int.not_lt.1 fun hq => ?_
 have hV : 0 <= P * (B * v1 + v2) + vl := by
  have := z8p (Int.le_of_lt P0) (show 0 <= B * v1 + v2 from by have := z8p (show 0 <= B by omega) (show 0 <= v1 by omega); omega)
  omega
 have a1 := z3g hV (show q + 1 <= g - 1 by omega)
 have a2 := z3g (Int.le_of_lt P0) hc
 have a3 := z3g hg (show vl <= P - 1 by omega)
 have a4 := z3g (Int.le_of_lt P0) (show g <= B - 1 by omega)
 have a5 := z3g (Int.le_of_lt (Int.mul_pos P0 (show 0 < B by omega))) v1p
 have a6 := z8p (Int.le_of_lt P0) v2p
 subst hr
 grind
theorem Kn.exitB (h : Kn B P v1 v2 vl top u3 ul q) (hr : top = g * v1 + r) (hg : 0 <= g) (hB : g <= B) (hc : B <= r) : g <= q := by
 obtain ⟨B1, P0, v1p, v2p, v2b, vlp, vlb, tp, u3p, u3b, ulp, ulb, q0, qB, lo, hi⟩ := h
 refine Int.not_lt.1 fun hq => ?_
 have hV : 0 <= P * (B * v1 + v2) + vl := by
  have := z8p (Int.le_of_lt P0) (show 0 <= B * v1 + v2 from by have := z8p (show 0 <= B by omega) (show 0 <= v1 by omega); omega)
  omega
 have a1 := z3g hV (show q + 1 <= g by omega)
 have hPg := z8p (Int.le_of_lt P0) hg
 have a2 := z3g hPg (show v2 <= B - 1 by omega)
 have a3 := z3g hg (show vl <= P - 1 by omega)
 have a4 := z3g (Int.le_of_lt (Int.mul_pos P0 (show 0 < B by omega))) (show g <= r by omega)
 have a6 := z8p (Int.le_of_lt P0) u3p
 subst hr
 grind
end
set_option linter.defProp false in
def runL := And.intro @decide_eq_true_eq (And.intro @if_pos.{1} (And.intro @if_neg.{1} (And.intro @if_true.{1} (And.intro @if_false.{1} (And.intro @z0d (And.intro @zoa (And.intro @zob (And.intro @idxI (And.intro @zpq (And.intro @sslI (And.intro @lslI (And.intro @k64 (And.intro @ku64 (And.intro @ku32 (And.intro @ku8 (And.intro @i64w (And.intro @u64w (And.intro @u32w (And.intro @u8w (And.intro @zqu (And.intro @zr6 (And.intro @tu0a (And.intro @tu1a (And.intro @tu2a (And.intro @tu3a (And.intro @tu4a (And.intro @tu5a (And.intro @lta (And.intro @zic (And.intro @zid (And.intro @zr4 (And.intro @zr5 (And.intro @Int.toNat_natCast (And.intro @List.length_cons.{0} (And.intro @List.length_nil.{0} (And.intro @List.length_set.{0} (And.intro @Int.toNat_zero (@List.replicate_zero.{0}))))))))))))))))))))))))))))))))))))))
end Go.Am
