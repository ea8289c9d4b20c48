/- Typed functions with the same answers as the program's, and the walks that show it. -/
import Derived.Test.YtdogeclnbdldaaaDoorG2Z5
import Derived.Test.YtdogeclnbdldaaaDoorG3Z5
import Derived.Test.YtdogeclnbdldaaaDoorG4Z5
import Derived.Test.YtdogeclnbdldaaaDoorG6Z5
set_option maxRecDepth 100000
set_option maxHeartbeats 8000000
set_option linter.unusedVariables false
set_option linter.unusedSimpArgs false
namespace Go.Am.Tryd
open Go Go.Am Go.Proofs
variable (K : Nat) {G : GM} {H : AH} {L : List Pc}
def z0h (K : Nat) (p0 : zAd) : Nat -> Int -> Option (Int ⊕ Unit)
  | 0, _ => none
  | k + 1, x8 => (if (decide (x8 < (p0.size : Int))) = true then (Option.bind (((bidx p0 x8).bind fun x22 => (if (decide (x22 < 48)) = true then some true else ((bidx p0 x8).bind fun x29 => some (decide (x29 > 57)))))) (tu1 fun x32 => (if x32 = true then some (.inl 5) else z0h K p0 k (z03 .i64 (x8 + 1))))) else some (.inr ()))
def z30 (K : Nat) (p0 : zAd) : Option Int := (if ((p0.size : Int) == 0) = true then some 5 else (zap (z0h K p0 K 0) (tu1 fun a81 => some a81) (tu0 (Option.bind ((if (decide ((p0.size : Int) > 1)) = true then ((bidx p0 0).bind fun x61 => some (x61 == 48)) else some false)) (tu1 fun x65 => (if x65 = true then some 5 else (if (decide ((p0.size : Int) > 2000)) = true then some 2 else some 0)))))))
theorem z58 (p0 : zAd) (O : Ow G H (L)) (r : Int) (h : z30 K p0 = some r) :
    CR Tryd.prog 124 [(.string p0)] G H (L) (fun v G' _ => v = .int .i64 r) := by
 unfold z30 at h
 refine CR.og (n := 34) (fn := Tryd.f124) (by kernel_rfl) rfl rfl fun R kr => (.seq (.region (W.q1 (.int .i64 0) rfl (.nil (.seq (.seq ?_))))))
 refine .region (W.q2 (.string p0) rfl (W.pure (v := (.int .i64 (p0.size : Int))) rfl rfl (z1q (oo rfl rfl) un9) (W.q3 (.bool ((p0.size : Int) == 0)) rfl rfl (.nil (.cond (b := ((p0.size : Int) == 0)) rfl rfl (fun g1 => ?_) (fun g1 => ?_))))))
 .have h2 := z04 g1 h
  refine .seq (.region (W.q1 (.int .i64 5) rfl (.nil (.ret ?_))))
  obtain rfl := zAa h2
  exact z1y kr (v1 := (.int .i64 5)) (by rfl) (z06 (by rfl) (by exact rfl)) O (zAf _) rfl
 have h3 := z0m g1 h
 refine .skip (.seq (.seq (.region (W.q1 (.int .i64 0) rfl (.nil ?_)))))
 obtain ⟨q4, h5, h6⟩ := z3y h3
 refine AW.midT (fun σ' H' => ∃  (G' : GM), (.inr ()) = q4 /\ Ow G' H' (L) /\ GM.le G G') ?_ ?_
 rotate_left
 .rintro σ47 H48 fr49 ⟨G50, rfl, O51, s52⟩
  have h54 := z6d (z9j h6)
  refine .seq (.seq ?_)
  obtain ⟨q55, h56, h57⟩ := z05 h54
  refine AW.midT (fun σ' H' => ∃ (y1 : Bool) (G' : GM), y1 = q55 /\ Ow G' H' (L) /\ GM.le G50 G' /\ σ' 30 = .bool y1) ?_ ?_
  .refine .region (W.q2 (.string p0) ((fr49 0 rfl).trans rfl) (W.pure (v := (.int .i64 (p0.size : Int))) rfl rfl (z1q (oo rfl rfl) un9) (W.q3 (.bool (decide ((p0.size : Int) > 1))) rfl rfl (W.q2 (.bool (decide ((p0.size : Int) > 1))) rfl (W.splitAt (t := 26) (b := decide ((p0.size : Int) > 1)) rfl (fun g58 gv59 => ?_) (fun g58 gv59 => ?_))))))
   rotate_left
   .have h64 := z0m g58 h56
    refine W.q6 rfl gv59 (W.q6 rfl gv59 (W.q6 rfl gv59 (W.q5 (.bool false) gv59 rfl (.nil ?_))))
    obtain rfl := zAa h64
    exact ⟨false, _, rfl, O51, (zAf _), rfl⟩
   have h60 := z04 g58 h56
   refine W.q2 (hg := gk rfl rfl gv59 rfl) (.string p0) ((fr49 0 rfl).trans rfl) ?_
   obtain ⟨x61, i62, h63⟩ := z05 h60
   refine W.pure (v := (.int .u8 x61)) (gk rfl rfl gv59 rfl) rfl (z8v un9 (oo rfl rfl) (oo rfl rfl) i62) (W.q3 (hg := gk rfl rfl gv59 rfl) (.bool (x61 == 48)) rfl rfl (W.q4 (.bool (x61 == 48)) gv59 rfl (.nil ?_)))
   obtain rfl := zAa h63
   exact ⟨(x61 == 48), _, rfl, O51, (zAf _), rfl⟩
  rintro σ66 H67 fr68 ⟨x65, G69, rfl, O70, s71, t73⟩
  have h74 := z0c h57
  refine .cond (b := x65) rfl t73 (fun g75 => ?_) (fun g75 => ?_)
  .have h76 := z04 g75 h74
   refine .seq (.region (W.q1 (.int .i64 5) rfl (.nil (.ret ?_))))
   obtain rfl := zAa h76
   exact z1y kr (v1 := (.int .i64 5)) (by rfl) (z06 (by rfl) (by exact rfl)) O70 (zAe s52 s71) rfl
  have h77 := z0m g75 h74
  refine .skip (.seq (.seq (.region (W.q2 (.string p0) ((fr68 0 rfl).trans ((fr49 0 rfl).trans rfl)) (W.pure (v := (.int .i64 (p0.size : Int))) rfl rfl (z1q (oo rfl rfl) un9) (W.q3 (.bool (decide ((p0.size : Int) > 2000))) rfl rfl ?_))))))
  refine .nil (.cond (b := decide ((p0.size : Int) > 2000)) rfl rfl (fun g78 => ?_) (fun g78 => ?_))
  .have h79 := z04 g78 h77
   refine .seq (.region (W.q1 (.int .i64 2) rfl (.nil (.ret ?_))))
   obtain rfl := zAa h79
   exact z1y kr (v1 := (.int .i64 2)) (by rfl) (z06 (by rfl) (by exact rfl)) O70 (zAe s52 s71) rfl
  have h80 := z0m g78 h77
  refine .skip (.seq (.region (W.q1 (.int .i64 0) rfl (.nil (.ret ?_)))))
  obtain rfl := zAa h80
  exact z1y kr (v1 := (.int .i64 0)) (by rfl) (z06 (by rfl) (by exact rfl)) O70 (zAe s52 s71) rfl
 refine .block (AW.loop (α := Nat) (fun k' σ' H' => ∃ (y1 : Int) (G' : GM), z0h K p0 k' y1 = some q4 /\ Ow G' H' (L) /\ GM.le G G' /\ σ' 3 = .int .i64 y1) (fun k' => k') K ⟨0, _, h5, O, (zAf _), rfl⟩ ?_)
 rintro k7
 rintro σ9 H10 fr11 ⟨x8, G12, h15, O13, s14, t16⟩
 rcases k7 with _ | k7
 .exact z08 h15
 rw [z0h] at h15
 refine .seq (.seq (.region (W.q2 _ t16 (W.q2 (.string p0) ((fr11 0 rfl).trans rfl) (W.pure (v := (.int .i64 (p0.size : Int))) rfl rfl (z1q (oo rfl rfl) un9) (W.q3 (.bool (decide (x8 < (p0.size : Int)))) rfl rfl ?_))))))
 refine .nil (.cond (b := decide (x8 < (p0.size : Int))) rfl rfl (fun g17 => ?_) (fun g17 => ?_))
 rotate_left
 .have h46 := z0m g17 h15
  refine .exit ?_
  obtain rfl := zAa h46
  exact ⟨_, rfl, O13, s14⟩
 have h18 := z04 g17 h15
 refine .skip (.seq (.block (.seq ?_)))
 obtain ⟨q19, h20, h21⟩ := z05 h18
 refine AW.midT (fun σ' H' => ∃ (y1 : Bool) (G' : GM), y1 = q19 /\ Ow G' H' (L) /\ GM.le G12 G' /\ σ' 22 = .bool y1) ?_ ?_
 rotate_left
 .rintro σ33 H34 fr35 ⟨x32, G36, rfl, O37, s38, t40⟩
  have h41 := z0c h21
  refine .cond (b := x32) rfl t40 (fun g42 => ?_) (fun g42 => ?_)
  .have h43 := z04 g42 h41
   refine .seq (.region (W.q1 (.int .i64 5) rfl (.nil (.ret ?_))))
   obtain rfl := zAa h43
   have h44 := z0c (z75 h6)
   obtain rfl := zAa h44
   exact z1y kr (v1 := (.int .i64 5)) (by rfl) (z06 (by rfl) (by exact rfl)) O37 (zAe s14 s38) rfl
  have h45 := z0m g42 h41
  refine .skip (.region (W.q2 _ ((fr35 3 rfl).trans t16) (W.q3 (.int .i64 (z03 .i64 (x8 + 1))) rfl rfl (W.q1 (.int .i64 (z03 .i64 (x8 + 1))) rfl (.nil ?_)))))
  exact ⟨k7, zAg _, ⟨z03 .i64 (x8 + 1), _, h45, O37, (zAe s14 s38), rfl⟩⟩
 refine .region (W.q2 (.string p0) ((fr11 0 rfl).trans rfl) (W.q2 _ t16 ?_))
 obtain ⟨x22, i23, h24⟩ := z05 h20
 refine W.pure (v := (.int .u8 x22)) rfl rfl (z8v un9 (oo rfl rfl) (oo rfl rfl) i23) (W.q3 (.bool (decide (x22 < 48))) rfl rfl (W.q2 (.bool (decide (x22 < 48))) rfl (W.splitAt (t := 17) (b := decide (x22 < 48)) rfl (fun g25 gv26 => ?_) (fun g25 gv26 => ?_))))
 .have h27 := z04 g25 h24
  refine W.q6 rfl gv26 (W.q6 rfl gv26 (W.q6 rfl gv26 (W.q6 rfl gv26 (W.q4 (.bool true) gv26 rfl (.nil ?_)))))
  obtain rfl := zAa h27
  exact ⟨true, _, rfl, O13, (zAf _), rfl⟩
 have h28 := z0m g25 h24
 refine W.q2 (hg := gk rfl rfl gv26 rfl) (.string p0) ((fr11 0 rfl).trans rfl) (W.q2 (hg := gk rfl rfl gv26 rfl) _ t16 ?_)
 obtain ⟨x29, i30, h31⟩ := z05 h28
 refine W.pure (v := (.int .u8 x29)) (gk rfl rfl gv26 rfl) rfl (z8v un9 (oo rfl rfl) (oo rfl rfl) i30) (W.q3 (hg := gk rfl rfl gv26 rfl) (.bool (decide (x29 > 57))) rfl rfl (W.q5 (.bool (decide (x29 > 57))) gv26 rfl (.nil ?_)))
 obtain rfl := zAa h31
 exact ⟨decide (x29 > 57), _, rfl, O13, (zAf _), rfl⟩
def z31 (K : Nat) : Nat -> zAd -> Option (zAd)
  | 0, _ => none
  | k + 1, x5 => (Option.bind ((if (decide ((x5.size : Int) > 1)) = true then ((bidx x5 0).bind fun x20 => some (x20 == 48)) else some false)) (tu1 fun x24 => (if x24 = true then ((ssl x5 1 (x5.size : Int)).bind fun x36 => z31 K k x36) else some x5)))
def z3z (K : Nat) (p0 : zAd) : Option zAd := (Option.bind (z31 K K p0) (tu1 fun x40 => some x40))
theorem z4h (p0 : zAd) (O : Ow G H (L)) (r : zAd) (h : z3z K p0 = some r) :
    CR Tryd.prog 125 [(.string p0)] G H (L) (fun v G' _ => v = .string r) := by
 unfold z3z at h
 refine CR.og (n := 14) (fn := Tryd.f125) (by kernel_rfl) rfl rfl fun R kr => (.seq (.region (W.q1 (.string (⟨#[]⟩ : zAd)) rfl (.nil (.seq ?_)))))
 obtain ⟨q1, h2, h3⟩ := z05 h
 refine AW.midT (fun σ' H' => ∃ (y1 : zAd) (G' : GM), y1 = q1 /\ Ow G' H' (L) /\ GM.le G G' /\ σ' 0 = .string y1) ?_ ?_
 rotate_left
 .rintro σ41 H42 fr43 ⟨x40, G44, rfl, O45, s46, t48⟩
  have h49 := z0c h3
  refine .seq (.region (W.q2 _ t48 (W.q1 (.string x40) rfl (.nil (.ret ?_)))))
  obtain rfl := zAa h49
  exact z1y kr (v1 := (.string x40)) (by rfl) (z06 (by rfl) (by exact rfl)) O45 s46 rfl
 refine .block (AW.loop (α := Nat) (fun k' σ' H' => ∃ (y1 : zAd) (G' : GM), z31 K k' y1 = some q1 /\ Ow G' H' (L) /\ GM.le G G' /\ σ' 0 = .string y1) (fun k' => k') K ⟨p0, _, h2, O, (zAf _), rfl⟩ ?_)
 rintro k4
 rintro σ6 H7 fr8 ⟨x5, G9, h12, O10, s11, t13⟩
 rcases k4 with _ | k4
 .exact z08 h12
 rw [z31] at h12
 refine .seq (.seq ?_)
 obtain ⟨q14, h15, h16⟩ := z05 h12
 refine AW.midT (fun σ' H' => ∃ (y1 : Bool) (G' : GM), y1 = q14 /\ Ow G' H' (L) /\ GM.le G9 G' /\ σ' 10 = .bool y1) ?_ ?_
 rotate_left
 .rintro σ25 H26 fr27 ⟨x24, G28, rfl, O29, s30, t32⟩
  have h33 := z0c h16
  refine .cond (b := x24) rfl t32 (fun g34 => ?_) (fun g34 => ?_)
  rotate_left
  .have h39 := z0m g34 h33
   refine .exit ?_
   obtain rfl := zAa h39
   exact ⟨x5, _, rfl, O29, (zAe s11 s30), ((fr27 0 rfl).trans t13)⟩
  have h35 := z04 g34 h33
  refine .skip (.block (.region (W.q2 _ ((fr27 0 rfl).trans t13) ?_)))
  obtain ⟨x36, i37, h38⟩ := z05 h35
  refine W.pure (v := (.string x36)) rfl rfl (zcz un9 (oo rfl rfl) (oo rfl rfl) i37) (W.q1 (.string x36) rfl (.nil ?_))
  exact ⟨k4, zAg _, ⟨x36, _, h38, O29, (zAe s11 s30), rfl⟩⟩
 refine .region (W.q2 _ t13 (W.pure (v := (.int .i64 (x5.size : Int))) rfl rfl (z1q (oo rfl rfl) un9) (W.q3 (.bool (decide ((x5.size : Int) > 1))) rfl rfl (W.q2 (.bool (decide ((x5.size : Int) > 1))) rfl (W.splitAt (t := 6) (b := decide ((x5.size : Int) > 1)) rfl (fun g17 gv18 => ?_) (fun g17 gv18 => ?_))))))
 rotate_left
 .have h23 := z0m g17 h15
  refine W.q6 rfl gv18 (W.q6 rfl gv18 (W.q6 rfl gv18 (W.q5 (.bool false) gv18 rfl (.nil ?_))))
  obtain rfl := zAa h23
  exact ⟨false, _, rfl, O10, (zAf _), rfl⟩
 have h19 := z04 g17 h15
 refine W.q2 (hg := gk rfl rfl gv18 rfl) _ t13 ?_
 obtain ⟨x20, i21, h22⟩ := z05 h19
 refine W.pure (v := (.int .u8 x20)) (gk rfl rfl gv18 rfl) rfl (z8v un9 (oo rfl rfl) (oo rfl rfl) i21) (W.q3 (hg := gk rfl rfl gv18 rfl) (.bool (x20 == 48)) rfl rfl (W.q4 (.bool (x20 == 48)) gv18 rfl (.nil ?_)))
 obtain rfl := zAa h22
 exact ⟨(x20 == 48), _, rfl, O10, (zAf _), rfl⟩
def z4p (K : Nat) (p0 : zAd) (p1 : zAd) : Option Int := (if (decide ((p0.size : Int) < (p1.size : Int))) = true then some (-1) else (if (decide ((p0.size : Int) > (p1.size : Int))) = true then some 1 else (if (sLt p0 p1) = true then some (-1) else (if (!(sLt p0 p1 || sEq p0 p1)) = true then some 1 else some 0))))
theorem z9k (p0 : zAd) (p1 : zAd) (O : Ow G H (L)) (r : Int) (h : z4p K p0 p1 = some r) :
    CR Tryd.prog 46 [(.string p0), (.string p1)] G H (L) (fun v G' _ => v = .int .i64 r) := by
 unfold z4p at h
 refine CR.og (n := 25) (fn := Tryd.f46) (by kernel_rfl) rfl rfl fun R kr => (.seq (.region (W.q1 (.int .i64 0) rfl (.nil (.seq (.block ?_))))))
 refine .seq (.region (W.q2 (.string p0) rfl (W.pure (v := (.int .i64 (p0.size : Int))) rfl rfl (z1q (oo rfl rfl) un9) (W.q2 (.string p1) rfl (W.pure (v := (.int .i64 (p1.size : Int))) rfl rfl (z1q (oo rfl rfl) un9) (W.q3 (.bool (decide ((p0.size : Int) < (p1.size : Int)))) rfl rfl ?_))))))
 refine W.q1 (.bool (decide ((p0.size : Int) < (p1.size : Int)))) rfl (.nil (.cond (b := decide ((p0.size : Int) < (p1.size : Int))) rfl rfl (fun g1 => ?_) (fun g1 => ?_)))
 .have h2 := z04 g1 h
  refine .seq (.region (W.q1 (.int .i64 (-1)) rfl (.nil (.ret ?_))))
  obtain rfl := zAa h2
  exact z1y kr (v1 := (.int .i64 (-1))) (by rfl) (z06 (by rfl) (by exact rfl)) O (zAf _) rfl
 have h3 := z0m g1 h
 refine .seq (.region (W.q2 (.string p0) rfl (W.pure (v := (.int .i64 (p0.size : Int))) rfl rfl (z1q (oo rfl rfl) un9) (W.q2 (.string p1) rfl (W.pure (v := (.int .i64 (p1.size : Int))) rfl rfl (z1q (oo rfl rfl) un9) (W.q3 (.bool (decide ((p0.size : Int) > (p1.size : Int)))) rfl rfl ?_))))))
 refine W.q1 (.bool (decide ((p0.size : Int) > (p1.size : Int)))) rfl (.nil (.cond (b := decide ((p0.size : Int) > (p1.size : Int))) rfl rfl (fun g4 => ?_) (fun g4 => ?_)))
 .have h5 := z04 g4 h3
  refine .seq (.region (W.q1 (.int .i64 1) rfl (.nil (.ret ?_))))
  obtain rfl := zAa h5
  exact z1y kr (v1 := (.int .i64 1)) (by rfl) (z06 (by rfl) (by exact rfl)) O (zAf _) rfl
 have h6 := z0m g4 h3
 refine .seq (.region (W.q2 (.string p0) rfl (W.q2 (.string p1) rfl (W.pure (v := (.bool (sLt p0 p1))) rfl rfl (zi8 (oo rfl rfl) (oo rfl rfl)) (W.q1 (.bool (sLt p0 p1)) rfl (.nil ?_))))))
 refine .cond (b := sLt p0 p1) rfl rfl (fun g7 => ?_) (fun g7 => ?_)
 .have h8 := z04 g7 h6
  refine .seq (.region (W.q1 (.int .i64 (-1)) rfl (.nil (.ret ?_))))
  obtain rfl := zAa h8
  exact z1y kr (v1 := (.int .i64 (-1))) (by rfl) (z06 (by rfl) (by exact rfl)) O (zAf _) rfl
 have h9 := z0m g7 h6
 refine .seq (.region (W.q2 (.string p0) rfl (W.q2 (.string p1) rfl (W.pure (v := (.bool (!(sLt p0 p1 || sEq p0 p1)))) rfl rfl (zi9 (oo rfl rfl) (oo rfl rfl)) (W.q1 (.bool (!(sLt p0 p1 || sEq p0 p1))) rfl (.nil ?_))))))
 refine .cond (b := (!(sLt p0 p1 || sEq p0 p1))) rfl rfl (fun g10 => ?_) (fun g10 => ?_)
 .have h11 := z04 g10 h9
  refine .seq (.region (W.q1 (.int .i64 1) rfl (.nil (.ret ?_))))
  obtain rfl := zAa h11
  exact z1y kr (v1 := (.int .i64 1)) (by rfl) (z06 (by rfl) (by exact rfl)) O (zAf _) rfl
 have h12 := z0m g10 h9
 refine .skip (.seq (.region (W.q1 (.int .i64 0) rfl (.nil (.ret ?_)))))
 obtain rfl := zAa h12
 exact z1y kr (v1 := (.int .i64 0)) (by rfl) (z06 (by rfl) (by exact rfl)) O (zAf _) rfl
def z50 (K : Nat) (p0 : zAd) (p1 : Int) : Option Int := (if (decide (p1 < (p0.size : Int))) = true then ((bidx p0 (z03 .i64 ((z03 .i64 ((p0.size : Int) - 1)) - p1))).bind fun x3 => some (IntKind.wrap .i64 (z03 .u8 (x3 - 48)))) else some 0)
theorem z77 (p0 : zAd) (p1 : Int) (O : Ow G H (L)) (r : Int) (h : z50 K p0 p1 = some r) :
    CR Tryd.prog 105 [(.string p0), (.int .i64 p1)] G H (L) (fun v G' _ => v = .int .i64 r) := by
 unfold z50 at h
 refine CR.og (n := 18) (fn := Tryd.f105) (by kernel_rfl) rfl rfl fun R kr => (.seq (.region (W.q1 (.int .i64 0) rfl (.nil (.seq (.seq ?_))))))
 refine .region (W.q2 (.int .i64 p1) rfl (W.q2 (.string p0) rfl (W.pure (v := (.int .i64 (p0.size : Int))) rfl rfl (z1q (oo rfl rfl) un9) (W.q3 (.bool (decide (p1 < (p0.size : Int)))) rfl rfl (.nil (.cond (b := decide (p1 < (p0.size : Int))) rfl rfl (fun g1 => ?_) (fun g1 => ?_)))))))
 rotate_left
 .have h6 := z0m g1 h
  refine .skip (.seq (.region (W.q1 (.int .i64 0) rfl (.nil (.ret ?_)))))
  obtain rfl := zAa h6
  exact z1y kr (v1 := (.int .i64 0)) (by rfl) (z06 (by rfl) (by exact rfl)) O (zAf _) rfl
 have h2 := z04 g1 h
 refine .seq (.region (W.q2 (.string p0) rfl (W.q2 (.string p0) rfl (W.pure (v := (.int .i64 (p0.size : Int))) rfl rfl (z1q (oo rfl rfl) un9) (W.q3 (.int .i64 (z03 .i64 ((p0.size : Int) - 1))) rfl rfl (W.q2 (.int .i64 p1) rfl ?_))))))
 refine W.q3 (.int .i64 (z03 .i64 ((z03 .i64 ((p0.size : Int) - 1)) - p1))) rfl rfl ?_
 obtain ⟨x3, i4, h5⟩ := z05 h2
 refine W.pure (v := (.int .u8 x3)) rfl rfl (z8v un9 (oo rfl rfl) (oo rfl rfl) i4) (W.q3 (.int .u8 (z03 .u8 (x3 - 48))) rfl rfl (W.pure (v := (.int .i64 (IntKind.wrap .i64 (z03 .u8 (x3 - 48))))) rfl rfl (z2w in5 in3 (oo rfl rfl)) (W.q1 (.int .i64 (IntKind.wrap .i64 (z03 .u8 (x3 - 48)))) rfl (.nil (.ret ?_)))))
 obtain rfl := zAa h5
 exact z1y kr (v1 := (.int .i64 (IntKind.wrap .i64 (z03 .u8 (x3 - 48))))) (by rfl) (z06 (by rfl) (by exact rfl)) O (zAf _) rfl
def z1r (K : Nat) (p0 : List Int) : Nat -> List Int -> Int -> Option (List Int)
  | 0, _, _ => none
  | k + 1, x11, x12 => (if (decide (x12 < (List.length p0 : Int))) = true then ((idx p0 x12).bind fun x23 => ((idx x11 (z03 .i64 ((z03 .i64 ((List.length p0 : Int) - 1)) - x12))).bind fun x27 => z1r K p0 k (List.set x11 (Int.toNat (z03 .i64 ((z03 .i64 ((List.length p0 : Int) - 1)) - x12))) (IntKind.wrap .u8 (z03 .i64 ((48 : Int) + x23)))) (z03 .i64 (x12 + 1)))) else some x11)
def z78 (K : Nat) (p0 : List Int) : Option zAd := (if 0 <= (List.length p0 : Int) /\ (List.length p0 : Int) <= (List.length p0 : Int) /\ (List.length p0 : Int) <= 16777216 then (Option.bind (z1r K p0 K (List.replicate (Int.toNat (List.length p0 : Int)) 0) 0) (tu1 fun x36 => (if 0 < List.length x36 then (if ((⟨#[48]⟩ : zAd)).size + ((strOfNums x36)).size <= 4611686018427387904 then ((z3z K ((⟨#[48]⟩ : zAd) ++ (strOfNums x36))).bind fun x52 => some x52) else none) else none))) else none)
theorem zbg (v0 : Value) (p0 : List Int) (hp0 : (rSl (rI .i64)).rep G [v0] p0) (O : Ow G H (L)) (r : zAd) (h : z78 K p0 = some r) :
    CR Tryd.prog 106 [v0] G H (L) (fun v G' _ => v = .string r) := by
 unfold z78 at h
 refine CR.og (n := 31) (fn := Tryd.f106) (by kernel_rfl) rfl rfl fun R kr => (.seq (.region (W.q1 (.string (⟨#[]⟩ : zAd)) rfl (.nil (.seq (.region ?_))))))
 refine W.q2 v0 rfl (W.pure (v := (.int .i64 (List.length p0 : Int))) rfl rfl (z0i (oo rfl rfl) (z0a hp0) (z02 el96)) ?_)
 obtain ⟨g2, h3⟩ := z4g h
 refine W.lo rfl rfl (Lo.makeSlice (r := (rI .u8)) (x0 := 0) (a := (List.length p0 : Int)) (c := (List.length p0 : Int)) rfl zef ze5 sz5 (by kernel_rfl) rfl by5 (by decide) rfl rfl g2 (zI .u8) O) ?_
 rintro v5 H6 ⟨O1, sm4⟩
 refine W.q1 v5 rfl (.nil (.seq (.seq (.region (W.q2 v0 rfl (W.pure (v := (.int .i64 (List.length p0 : Int))) rfl rfl (z0i (oo rfl rfl) (z0a hp0) (z02 el96)) ?_))))))
 refine W.q2 (.int .i64 0) rfl (.nil ?_)
 obtain ⟨q7, h8, h9⟩ := z05 h3
 refine AW.midT (fun σ' H' => ∃ (y1 : List Int) (G' : GM), y1 = q7 /\ Ow G' H' (eSl v5 5 (rI .u8) y1 :: L) /\ GM.le G G') ?_ ?_
 rotate_left
 .rintro σ37 H38 fr39 ⟨x36, G40, rfl, O41, s42⟩
  have h44 := z0c h9
  refine .seq (.region (W.q2 v5 ((fr39 3 rfl).trans rfl) ?_))
  obtain ⟨es45, e46, e47⟩ := z85 (j := 0) rfl O41
  obtain ⟨g48, h49⟩ := z4g h44
  refine W.bytesStr rfl rfl zef in5 un9 e46 e47 g48 ?_
  obtain ⟨g50, h51⟩ := z4g h49
  refine W.pure (v := (.string ((⟨#[48]⟩ : zAd) ++ (strOfNums x36)))) rfl rfl (zeb g50 (oo rfl rfl) (oo rfl rfl)) ?_
  obtain ⟨x52, i53, h54⟩ := z05 h51
  refine W.lo rfl rfl (Lo.cP rfl (fn := Tryd.f125) (by kernel_rfl) rfl (mc rfl mn) O41 (fun L' O' => z4h K ((⟨#[48]⟩ : zAd) ++ (strOfNums x36)) O' _ i53)) ?_
  rintro v61 H62 ⟨G55, O56, s57, sm60, rfl⟩
  refine W.q1 (.string x52) rfl (.nil (.ret ?_))
  have O63 : Ow G55 H62 (L) := O56.drop 0
  obtain rfl := zAa h54
  exact z1y kr (v1 := (.string x52)) (by rfl) (z06 (by rfl) (by exact rfl)) O63 (zAe s42 s57) rfl
 refine .block (AW.loop (α := Nat) (fun k' σ' H' => ∃ (y1 : List Int) (y2 : Int) (G' : GM), z1r K p0 k' y1 y2 = some q7 /\ Ow G' H' (eSl v5 5 (rI .u8) y1 :: L) /\ GM.le G G' /\ σ' 11 = .int .i64 y2) (fun k' => k') K ⟨(List.replicate (Int.toNat (List.length p0 : Int)) 0), 0, _, h8, O1, (zAf _), rfl⟩ ?_)
 rintro k10
 rintro σ13 H14 fr15 ⟨x11, x12, G16, h19, O17, s18, t20⟩
 rcases k10 with _ | k10
 .exact z08 h19
 rw [z1r] at h19
 refine .seq (.region (W.q3 (.bool (decide (x12 < (List.length p0 : Int)))) t20 ((fr15 10 rfl).trans rfl) (.nil (.seq (.cond (b := decide (x12 < (List.length p0 : Int))) rfl rfl (fun g21 => ?_) (fun g21 => ?_))))))
 rotate_left
 .have h35 := z0m g21 h19
  refine .exit ?_
  obtain rfl := zAa h35
  exact ⟨x11, _, rfl, O17, s18⟩
 have h22 := z04 g21 h19
 refine .skip (.seq (.block (.seq (.region (W.q2 _ t20 ?_)))))
 obtain ⟨x23, i24, h25⟩ := z05 h22
 have j26 := z0l i24
 refine W.pure (v := (z3f v0 (Int.toNat x12 * 1))) rfl rfl (z46 el96 sz3 (oo rfl ((fr15 9 rfl).trans rfl)) (oo rfl t20) (z0a (RT.mono _ s18 hp0)) j26.1 j26.2.1) (W.load1 (v := (.int .i64 x23)) (r := []) rfl rfl ag3 (z26 rfl (At.int (At.le (At.le (z2x hp0 j26.2.2) s18 s18) (zAf _) O17.fro))) (W.q1 (.int .i64 x12) rfl (W.q1 (.int .i64 x23) rfl (.nil (.region (W.q2 v5 ((fr15 3 rfl).trans rfl) ?_))))))
 refine W.q2 v0 ((fr15 0 rfl).trans rfl) (W.pure (v := (.int .i64 (List.length p0 : Int))) rfl rfl (z0i (oo rfl rfl) (z0a (RT.mono _ s18 hp0)) (z02 el96)) (W.q3 (.int .i64 (z03 .i64 ((List.length p0 : Int) - 1))) rfl rfl (W.q2 (.int .i64 x12) rfl (W.q3 (.int .i64 (z03 .i64 ((z03 .i64 ((List.length p0 : Int) - 1)) - x12))) rfl rfl (W.q2 (.int .i64 x23) rfl (W.q3 (.int .i64 (z03 .i64 ((48 : Int) + x23))) rfl rfl ?_))))))
 refine W.pure (v := (.int .u8 (IntKind.wrap .u8 (z03 .i64 ((48 : Int) + x23))))) rfl rfl (z2w in3 in5 (oo rfl rfl)) ?_
 obtain ⟨x27, i28, h29⟩ := z05 h25
 have j30 := z0l i28
 refine W.pure (v := (z3f v5 (Int.toNat (z03 .i64 ((z03 .i64 ((List.length p0 : Int) - 1)) - x12)) * 1))) rfl rfl (z46 zef sz5 (oo rfl rfl) (oo rfl rfl) (O17.slLen (j := 0) rfl) j30.1 j30.2.1) (W.lo rfl rfl (Lo.storeSl0 (j := 0) (y0 := IntKind.wrap .u8 (z03 .i64 ((48 : Int) + x23))) (v := (.int .u8 (IntKind.wrap .u8 (z03 .i64 ((48 : Int) + x23))))) rfl j30.2.2  rfl sz5 rfl rfl rfl O17) ?_)
 rintro v33 H34 ⟨O31, sm32⟩
 refine .nil (.region (W.q3 (.int .i64 (z03 .i64 (x12 + 1))) t20 rfl (W.q2 (.int .i64 (z03 .i64 (x12 + 1))) rfl (.nil ?_))))
 exact ⟨k10, zAg _, ⟨(List.set x11 (Int.toNat (z03 .i64 ((z03 .i64 ((List.length p0 : Int) - 1)) - x12))) (IntKind.wrap .u8 (z03 .i64 ((48 : Int) + x23)))), z03 .i64 (x12 + 1), _, h29, O31, s18, rfl⟩⟩
def z1a (K : Nat) (p0 : zAd) (p1 : zAd) : Nat -> List Int -> Int -> Int -> Option (List Int)
  | 0, _, _, _ => none
  | k + 1, x6, x7, x8 => (if (decide (x8 < (p0.size : Int))) = true then ((z50 K p0 x8).bind fun x20 => ((z50 K p1 x8).bind fun x31 => (Option.bind ((if (decide ((z03 .i64 ((z03 .i64 (x20 - x31)) - x7)) < 0)) = true then (lt (z03 .i64 ((z03 .i64 ((z03 .i64 (x20 - x31)) - x7)) + 10)) fun x47 => some (1, x47)) else some (0, z03 .i64 ((z03 .i64 (x20 - x31)) - x7)))) (tu2 fun x51 x52 => (if List.length x6 + List.length [x52] <= 16777216 then z1a K p0 p1 k (x6 ++ [x52]) x51 (z03 .i64 (x8 + 1)) else none))))) else some x6)
def z4q (K : Nat) (p0 : zAd) (p1 : zAd) : Option zAd := (Option.bind (z1a K p0 p1 K [] 0 0) (tu1 fun x78 => ((z78 K x78).bind fun x87 => some x87)))
theorem z9l (p0 : zAd) (p1 : zAd) (O : Ow G H (L)) (r : zAd) (h : z4q K p0 p1 = some r) :
    CR Tryd.prog 47 [(.string p0), (.string p1)] G H (L) (fun v G' _ => v = .string r) := by
 unfold z4q at h
 refine CR.og (n := 34) (fn := Tryd.f47) (by kernel_rfl) rfl rfl fun R kr => (.seq (.region (W.q1 (.string (⟨#[]⟩ : zAd)) rfl (.nil (.seq (.region ?_))))))
 refine W.q1 (.slice none 0 0) rfl (.nil (.seq (.region (W.q1 (.int .i64 0) rfl (.nil (.seq ?_))))))
 refine .seq (.region (W.q2 (.string p0) rfl (W.pure (v := (.int .i64 (p0.size : Int))) rfl rfl (z1q (oo rfl rfl) un9) (W.q2 (.int .i64 0) rfl (.nil ?_)))))
 obtain ⟨q1, h2, h3⟩ := z05 h
 refine AW.midT (fun σ' H' => ∃ (y1 : List Int) (G' : GM), y1 = q1 /\ Ow G' H' (eSl (σ' 5) 3 (rI .i64) y1 :: L) /\ GM.le G G') ?_ ?_
 rotate_left
 .rintro σ79 H80 fr81 ⟨x78, G82, rfl, O83, s84⟩
  have h86 := z0c h3
  refine .seq (.region (W.q2 (σ79 5) rfl ?_))
  obtain ⟨x87, i88, h89⟩ := z05 h86
  refine W.lo rfl rfl (Lo.callB (j := 0) rfl rfl (fn := Tryd.f106) (by kernel_rfl) rfl (mc rfl mn) O83 (fun G' L' hG O' hB => zbg K (σ79 5) x78 hB O' _ i88)) ?_
  rintro v96 H97 ⟨G90, O91, s92, sm95, rfl⟩
  refine W.q1 (.string x87) rfl (.nil (.ret ?_))
  have O98 : Ow G90 H97 (L) := O91.drop 0
  obtain rfl := zAa h89
  exact z1y kr (v1 := (.string x87)) (by rfl) (z06 (by rfl) (by exact rfl)) O98 (zAe s84 s92) rfl
 refine .block ?_
 have O4 := O.nilSl 3 (rI .i64)
 refine AW.loop (α := Nat) (fun k' σ' H' => ∃ (y1 : List Int) (y2 : Int) (y3 : Int) (G' : GM), z1a K p0 p1 k' y1 y2 y3 = some q1 /\ Ow G' H' (eSl (σ' 5) 3 (rI .i64) y1 :: L) /\ GM.le G G' /\ σ' 6 = .int .i64 y2 /\ σ' 11 = .int .i64 y3) (fun k' => k') K ⟨[], 0, 0, _, h2, O4, (zAf _), rfl, rfl⟩ ?_
 rintro k5
 rintro σ9 H10 fr11 ⟨x6, x7, x8, G12, h15, O13, s14, t16, t17⟩
 rcases k5 with _ | k5
 .exact z08 h15
 rw [z1a] at h15
 refine .seq (.region (W.q3 (.bool (decide (x8 < (p0.size : Int)))) t17 ((fr11 10 rfl).trans rfl) (.nil (.seq (.cond (b := decide (x8 < (p0.size : Int))) rfl rfl (fun g18 => ?_) (fun g18 => ?_))))))
 rotate_left
 .have h77 := z0m g18 h15
  refine .exit ?_
  obtain rfl := zAa h77
  exact ⟨x6, _, rfl, O13, s14⟩
 have h19 := z04 g18 h15
 refine .skip (.seq (.block (.seq (.region (W.q2 _ t17 (W.q1 (.int .i64 x8) rfl ?_))))))
 refine .nil (.seq (.region (W.q2 (.string p0) ((fr11 0 rfl).trans rfl) (W.q2 (.int .i64 x8) rfl ?_))))
 obtain ⟨x20, i21, h22⟩ := z05 h19
 refine W.lo rfl rfl (Lo.cP rfl (fn := Tryd.f105) (by kernel_rfl) rfl (mc rfl (mc rfl mn)) O13 (fun L' O' => z77 K p0 x8 O' _ i21)) ?_
 rintro v29 H30 ⟨G23, O24, s25, sm28, rfl⟩
 refine W.q2 (.string p1) ((fr11 1 rfl).trans rfl) (W.q2 (.int .i64 x8) rfl ?_)
 obtain ⟨x31, i32, h33⟩ := z05 h22
 refine W.lo rfl rfl (Lo.cP rfl (fn := Tryd.f105) (by kernel_rfl) rfl (mc rfl (mc rfl mn)) O24 (fun L' O' => z77 K p1 x8 O' _ i32)) ?_
 rintro v40 H41 ⟨G34, O35, s36, sm39, rfl⟩
 refine W.q3 (.int .i64 (z03 .i64 (x20 - x31))) rfl rfl (W.q2 _ t16 (W.q3 (.int .i64 (z03 .i64 ((z03 .i64 (x20 - x31)) - x7))) rfl rfl (W.q1 (.int .i64 (z03 .i64 ((z03 .i64 (x20 - x31)) - x7))) rfl (.nil (.seq (.region ?_))))))
 refine W.q1 (.int .i64 0) rfl (.nil (.seq (.seq (.region (W.q2 (.int .i64 (z03 .i64 ((z03 .i64 (x20 - x31)) - x7))) rfl (W.q3 (.bool (decide ((z03 .i64 ((z03 .i64 (x20 - x31)) - x7)) < 0))) rfl rfl ?_))))))
 refine .nil ?_
 obtain ⟨q42, h43, h44⟩ := z05 h33
 refine AW.midT (fun σ' H' => ∃ (y1 : Int) (y2 : Int) (G' : GM), (y1, y2) = q42 /\ Ow G' H' (eSl (σ9 5) 3 (rI .i64) x6 :: L) /\ GM.le G34 G' /\ σ' 6 = .int .i64 y1 /\ σ' 8 = .int .i64 y2) ?_ ?_
 .refine .cond (b := decide ((z03 .i64 ((z03 .i64 (x20 - x31)) - x7)) < 0)) rfl rfl (fun g45 => ?_) (fun g45 => ?_)
  rotate_left
  .have h50 := z0m g45 h43
   refine .skip ?_
   obtain rfl := zAa h50
   exact ⟨0, z03 .i64 ((z03 .i64 (x20 - x31)) - x7), _, rfl, O35, (zAf _), rfl, rfl⟩
  have h46 := z04 g45 h43
  refine .region (W.q2 (.int .i64 (z03 .i64 ((z03 .i64 (x20 - x31)) - x7))) rfl (W.q3 (.int .i64 (z03 .i64 ((z03 .i64 ((z03 .i64 (x20 - x31)) - x7)) + 10))) rfl rfl ?_))
  obtain ⟨x47, e48, h49⟩ := z4j h46
  refine W.q1 _ (congrArg (Value.int .i64) e48) (W.q1 (.int .i64 1) rfl (.nil ?_))
  obtain rfl := zAa h49
  exact ⟨1, x47, _, rfl, O35, (zAf _), rfl, rfl⟩
 rintro σ53 H54 fr55 ⟨x51, x52, G56, rfl, O57, s58, t60, t61⟩
 have h62 := z57 h44
 refine .region (W.q2 (σ9 5) ((fr55 5 rfl).trans rfl) (W.q2 _ t61 (W.lo rfl rfl (Lo.buildSlice (r := (rI .i64)) (vs := [(.int .i64 x52)]) (xs := [x52]) el96 ze3 sz3 (by kernel_rfl) rfl (qc rfl qn) rfl (.cons rfl .nil) O57) ?_)))
 rintro v65 H66 ⟨O63, sm64⟩
 obtain ⟨es68, e69, e70⟩ := z85 (j := 0) rfl O63
 obtain ⟨g71, h72⟩ := z4g h62
 refine W.lo rfl rfl (Lo.append (j := 1) (v := (σ9 5)) rfl rfl el96 ni96 ze3 sz3 by3 (by decide) (by decide) rfl e69 e70 g71 O63) ?_
 rintro v74 H75 ⟨O67, sm73⟩
 refine W.q1 v74 rfl (.nil (.region (W.q3 (.int .i64 (z03 .i64 (x8 + 1))) ((fr55 11 rfl).trans t17) rfl (W.q2 (.int .i64 (z03 .i64 (x8 + 1))) rfl (.nil ?_)))))
 have O76 : Ow G56 H75 (eSl v74 3 (rI .i64) (x6 ++ [x52]) :: L) := O67.drop 0
 exact ⟨k5, zAg _, ⟨(x6 ++ [x52]), x51, z03 .i64 (x8 + 1), _, h72, O76, (zAe s14 (zAe s25 (zAe s36 s58))), t60, rfl⟩⟩
def z1t (K : Nat) (p1 : zAd) : Nat -> zAd -> Int -> Option (zAd × Int)
  | 0, _, _ => none
  | k + 1, x56, x57 => ((z4p K x56 p1).bind fun x67 => (if (decide (x67 >= 0)) = true then ((z4q K x56 p1).bind fun x80 => z1t K p1 k x80 (z03 .u8 (x57 + 1))) else some (x56, x57)))
def z1u (K : Nat) (p0 : zAd) (p1 : zAd) : Nat -> zAd -> zAd -> Int -> Option (zAd × zAd)
  | 0, _, _, _ => none
  | k + 1, x21, x22, x23 => (if (decide (x23 < (p0.size : Int))) = true then ((ssl p0 x23 (z03 .i64 (x23 + 1))).bind fun x36 => (if (x22).size + (x36).size <= 4611686018427387904 then ((z3z K (x22 ++ x36)).bind fun x41 => (Option.bind (z1t K p1 K x41 48) (tu2 fun x92 x93 => (if (x21).size + ((Utf8.encode x93)).size <= 4611686018427387904 then z1u K p0 p1 k (x21 ++ (Utf8.encode x93)) x92 (z03 .i64 (x23 + 1)) else none)))) else none)) else some (x21, x22))
def z4r (K : Nat) (p0 : zAd) (p1 : zAd) : Option (zAd × zAd) := ((ssl p0 0 (imin (p0.size : Int) (z03 .i64 ((p1.size : Int) - 1)))).bind fun x1 => (if ((⟨#[48]⟩ : zAd)).size + (x1).size <= 4611686018427387904 then ((z3z K ((⟨#[48]⟩ : zAd) ++ x1)).bind fun x6 => (Option.bind (z1u K p0 p1 K (⟨#[48]⟩ : zAd) x6 (imin (p0.size : Int) (z03 .i64 ((p1.size : Int) - 1)))) (tu2 fun x107 x108 => ((z3z K x107).bind fun x119 => some (x119, x108))))) else none))
theorem z9m (p0 : zAd) (p1 : zAd) (O : Ow G H (L)) (r : zAd × zAd) (h : z4r K p0 p1 = some r) :
    CR Tryd.prog 104 [(.string p0), (.string p1)] G H (L) (fun v G' _ => v = .tuple #[.string r.1, .string r.2]) := by
 unfold z4r at h
 refine CR.og (n := 53) (fn := Tryd.f104) (by kernel_rfl) rfl rfl fun R kr => (.seq (.region (W.q1 (.string (⟨#[]⟩ : zAd)) rfl (W.q1 (.string (⟨#[]⟩ : zAd)) rfl (.nil (.seq ?_))))))
 refine .region (W.q2 (.string p0) rfl (W.pure (v := (.int .i64 (p0.size : Int))) rfl rfl (z1q (oo rfl rfl) un9) (W.q2 (.string p1) rfl (W.pure (v := (.int .i64 (p1.size : Int))) rfl rfl (z1q (oo rfl rfl) un9) (W.q3 (.int .i64 (z03 .i64 ((p1.size : Int) - 1))) rfl rfl (W.pure (v := (.int .i64 (imin (p0.size : Int) (z03 .i64 ((p1.size : Int) - 1))))) rfl rfl (zi7 (oo rfl rfl) (oo rfl rfl)) ?_))))))
 refine W.q1 (.int .i64 (imin (p0.size : Int) (z03 .i64 ((p1.size : Int) - 1)))) rfl (.nil (.seq (.region (W.q2 (.string p0) rfl (W.q2 (.int .i64 (imin (p0.size : Int) (z03 .i64 ((p1.size : Int) - 1)))) rfl ?_)))))
 obtain ⟨x1, i2, h3⟩ := z05 h
 refine W.pure (v := (.string x1)) rfl rfl (zed un9 (oo rfl rfl) (oo rfl rfl) i2) ?_
 obtain ⟨g4, h5⟩ := z4g h3
 refine W.pure (v := (.string ((⟨#[48]⟩ : zAd) ++ x1))) rfl rfl (zeb g4 (oo rfl rfl) (oo rfl rfl)) ?_
 obtain ⟨x6, i7, h8⟩ := z05 h5
 refine W.lo rfl rfl (Lo.cP rfl (fn := Tryd.f125) (by kernel_rfl) rfl (mc rfl mn) O (fun L' O' => z4h K ((⟨#[48]⟩ : zAd) ++ x1) O' _ i7)) ?_
 rintro v15 H16 ⟨G9, O10, s11, sm14, rfl⟩
 refine W.q1 (.string (⟨#[48]⟩ : zAd)) rfl (W.q1 (.string x6) rfl (.nil (.seq (.seq (.region (W.q2 (.int .i64 (imin (p0.size : Int) (z03 .i64 ((p1.size : Int) - 1)))) rfl ?_))))))
 refine W.q1 (.int .i64 (imin (p0.size : Int) (z03 .i64 ((p1.size : Int) - 1)))) rfl (.nil ?_)
 obtain ⟨q17, h18, h19⟩ := z05 h8
 refine AW.midT (fun σ' H' => ∃ (y1 : zAd) (y2 : zAd) (G' : GM), (y1, y2) = q17 /\ Ow G' H' (L) /\ GM.le G9 G' /\ σ' 7 = .string y1 /\ σ' 8 = .string y2) ?_ ?_
 rotate_left
 .rintro σ109 H110 fr111 ⟨x107, x108, G112, rfl, O113, s114, t116, t117⟩
  have h118 := z57 h19
  refine .seq (.region (W.q2 _ t116 ?_))
  obtain ⟨x119, i120, h121⟩ := z05 h118
  refine W.lo rfl rfl (Lo.cP rfl (fn := Tryd.f125) (by kernel_rfl) rfl (mc rfl mn) O113 (fun L' O' => z4h K x107 O' _ i120)) ?_
  rintro v128 H129 ⟨G122, O123, s124, sm127, rfl⟩
  refine W.q2 _ t117 (W.q1 (.string x119) rfl (W.q1 (.string x108) rfl (.nil (.ret ?_))))
  obtain rfl := zAa h121
  exact zeh kr (v1 := (.string x119)) (v2 := (.string x108)) (by rfl) (z06 (by rfl) (by exact rfl)) (z06 (by rfl) (by exact rfl)) O123 (zAe s11 (zAe s114 s124)) rfl
 refine .block (AW.loop (α := Nat) (fun k' σ' H' => ∃ (y1 : zAd) (y2 : zAd) (y3 : Int) (G' : GM), z1u K p0 p1 k' y1 y2 y3 = some q17 /\ Ow G' H' (L) /\ GM.le G9 G' /\ σ' 7 = .string y1 /\ σ' 8 = .string y2 /\ σ' 9 = .int .i64 y3) (fun k' => k') K ⟨(⟨#[48]⟩ : zAd), x6, imin (p0.size : Int) (z03 .i64 ((p1.size : Int) - 1)), _, h18, O10, (zAf _), rfl, rfl, rfl⟩ ?_)
 rintro k20
 rintro σ24 H25 fr26 ⟨x21, x22, x23, G27, h30, O28, s29, t31, t32, t33⟩
 rcases k20 with _ | k20
 .exact z08 h30
 rw [z1u] at h30
 refine .seq (.seq (.region (W.q2 _ t33 (W.q2 (.string p0) ((fr26 0 rfl).trans rfl) (W.pure (v := (.int .i64 (p0.size : Int))) rfl rfl (z1q (oo rfl rfl) un9) (W.q3 (.bool (decide (x23 < (p0.size : Int)))) rfl rfl ?_))))))
 refine .nil (.cond (b := decide (x23 < (p0.size : Int))) rfl rfl (fun g34 => ?_) (fun g34 => ?_))
 rotate_left
 .have h106 := z0m g34 h30
  refine .exit ?_
  obtain rfl := zAa h106
  exact ⟨x21, x22, _, rfl, O28, s29, t31, t32⟩
 have h35 := z04 g34 h30
 refine .skip (.seq (.block (.seq (.region (W.q2 _ t32 (W.q2 (.string p0) ((fr26 0 rfl).trans rfl) ?_))))))
 refine W.q2 _ t33 (W.q2 _ t33 (W.q3 (.int .i64 (z03 .i64 (x23 + 1))) rfl rfl ?_))
 obtain ⟨x36, i37, h38⟩ := z05 h35
 refine W.pure (v := (.string x36)) rfl rfl (zfa un9 (oo rfl rfl) (oo rfl rfl) (oo rfl rfl) i37) ?_
 obtain ⟨g39, h40⟩ := z4g h38
 refine W.pure (v := (.string (x22 ++ x36))) rfl rfl (zeb g39 (oo rfl rfl) (oo rfl rfl)) ?_
 obtain ⟨x41, i42, h43⟩ := z05 h40
 refine W.lo rfl rfl (Lo.cP rfl (fn := Tryd.f125) (by kernel_rfl) rfl (mc rfl mn) O28 (fun L' O' => z4h K (x22 ++ x36) O' _ i42)) ?_
 rintro v50 H51 ⟨G44, O45, s46, sm49, rfl⟩
 refine W.q1 (.string x41) rfl (.nil (.seq (.region (W.q1 (.int .u8 48) rfl (.nil (.seq ?_))))))
 obtain ⟨q52, h53, h54⟩ := z05 h43
 refine AW.midT (fun σ' H' => ∃ (y1 : zAd) (y2 : Int) (G' : GM), (y1, y2) = q52 /\ Ow G' H' (L) /\ GM.le G44 G' /\ σ' 8 = .string y1 /\ σ' 10 = .int .u8 y2) ?_ ?_
 rotate_left
 .rintro σ94 H95 fr96 ⟨x92, x93, G97, rfl, O98, s99, t101, t102⟩
  have h103 := z57 h54
  refine .region (W.q2 _ ((fr96 7 rfl).trans t31) (W.q2 _ t102 (W.pure (v := (.string (Utf8.encode x93))) rfl rfl (zg3 in5 un9 (oo rfl rfl)) ?_)))
  obtain ⟨g104, h105⟩ := z4g h103
  refine W.pure (v := (.string (x21 ++ (Utf8.encode x93)))) rfl rfl (zeb g104 (oo rfl rfl) (oo rfl rfl)) (W.q1 (.string (x21 ++ (Utf8.encode x93))) rfl (.nil (.region (W.q2 _ ((fr96 9 rfl).trans t33) (W.q3 (.int .i64 (z03 .i64 (x23 + 1))) rfl rfl (W.q1 (.int .i64 (z03 .i64 (x23 + 1))) rfl ?_))))))
  refine .nil ?_
  exact ⟨k20, zAg _, ⟨(x21 ++ (Utf8.encode x93)), x92, z03 .i64 (x23 + 1), _, h105, O98, (zAe s29 (zAe s46 s99)), rfl, t101, rfl⟩⟩
 refine .block (AW.loop (α := Nat) (fun k' σ' H' => ∃ (y1 : zAd) (y2 : Int) (G' : GM), z1t K p1 k' y1 y2 = some q52 /\ Ow G' H' (L) /\ GM.le G44 G' /\ σ' 8 = .string y1 /\ σ' 10 = .int .u8 y2) (fun k' => k') K ⟨x41, 48, _, h53, O45, (zAf _), rfl, rfl⟩ ?_)
 rintro k55
 rintro σ58 H59 fr60 ⟨x56, x57, G61, h64, O62, s63, t65, t66⟩
 rcases k55 with _ | k55
 .exact z08 h64
 rw [z1t] at h64
 refine .seq (.seq (.region (W.q2 _ t65 (W.q2 (.string p1) ((fr60 1 rfl).trans ((fr26 1 rfl).trans rfl)) ?_))))
 obtain ⟨x67, i68, h69⟩ := z05 h64
 refine W.lo rfl rfl (Lo.cP rfl (fn := Tryd.f46) (by kernel_rfl) rfl (mc rfl (mc rfl mn)) O62 (fun L' O' => z9k K x56 p1 O' _ i68)) ?_
 rintro v76 H77 ⟨G70, O71, s72, sm75, rfl⟩
 refine W.q3 (.bool (decide (x67 >= 0))) rfl rfl (.nil (.cond (b := decide (x67 >= 0)) rfl rfl (fun g78 => ?_) (fun g78 => ?_)))
 rotate_left
 .have h91 := z0m g78 h69
  refine .exit ?_
  obtain rfl := zAa h91
  exact ⟨x56, x57, _, rfl, O71, (zAe s63 s72), t65, t66⟩
 have h79 := z04 g78 h69
 refine .skip (.block (.seq (.region (W.q2 _ t65 (W.q2 (.string p1) ((fr60 1 rfl).trans ((fr26 1 rfl).trans rfl)) ?_)))))
 obtain ⟨x80, i81, h82⟩ := z05 h79
 refine W.lo rfl rfl (Lo.cP rfl (fn := Tryd.f47) (by kernel_rfl) rfl (mc rfl (mc rfl mn)) O71 (fun L' O' => z9l K x56 p1 O' _ i81)) ?_
 rintro v89 H90 ⟨G83, O84, s85, sm88, rfl⟩
 refine W.q1 (.string x80) rfl (.nil (.region (W.q2 _ t66 (W.q3 (.int .u8 (z03 .u8 (x57 + 1))) rfl rfl (W.q1 (.int .u8 (z03 .u8 (x57 + 1))) rfl (.nil ?_))))))
 exact ⟨k55, zAg _, ⟨x80, z03 .u8 (x57 + 1), _, h82, O84, (zAe s63 (zAe s72 s85)), rfl, rfl⟩⟩
def z0t (K : Nat) : Nat -> zAd -> zAd -> Option (zAd)
  | 0, _, _ => none
  | k + 1, x5, x6 => (if (!(sEq x6 (⟨#[48]⟩ : zAd))) = true then ((z4r K x5 x6).bind fun x18 => z0t K k x6 x18.2) else some x5)
def z4s (K : Nat) (p0 : zAd) (p1 : zAd) : Option zAd := (Option.bind (z0t K K p0 p1) (tu1 fun x30 => some x30))
theorem z9n (p0 : zAd) (p1 : zAd) (O : Ow G H (L)) (r : zAd) (h : z4s K p0 p1 = some r) :
    CR Tryd.prog 103 [(.string p0), (.string p1)] G H (L) (fun v G' _ => v = .string r) := by
 unfold z4s at h
 refine CR.og (n := 18) (fn := Tryd.f103) (by kernel_rfl) rfl rfl fun R kr => (.seq (.region (W.q1 (.string (⟨#[]⟩ : zAd)) rfl (.nil (.seq ?_)))))
 obtain ⟨q1, h2, h3⟩ := z05 h
 refine AW.midT (fun σ' H' => ∃ (y1 : zAd) (G' : GM), y1 = q1 /\ Ow G' H' (L) /\ GM.le G G' /\ σ' 0 = .string y1) ?_ ?_
 rotate_left
 .rintro σ31 H32 fr33 ⟨x30, G34, rfl, O35, s36, t38⟩
  have h39 := z0c h3
  refine .seq (.region (W.q2 _ t38 (W.q1 (.string x30) rfl (.nil (.ret ?_)))))
  obtain rfl := zAa h39
  exact z1y kr (v1 := (.string x30)) (by rfl) (z06 (by rfl) (by exact rfl)) O35 s36 rfl
 refine .block (AW.loop (α := Nat) (fun k' σ' H' => ∃ (y1 : zAd) (y2 : zAd) (G' : GM), z0t K k' y1 y2 = some q1 /\ Ow G' H' (L) /\ GM.le G G' /\ σ' 0 = .string y1 /\ σ' 1 = .string y2) (fun k' => k') K ⟨p0, p1, _, h2, O, (zAf _), rfl, rfl⟩ ?_)
 rintro k4
 rintro σ7 H8 fr9 ⟨x5, x6, G10, h13, O11, s12, t14, t15⟩
 rcases k4 with _ | k4
 .exact z08 h13
 rw [z0t] at h13
 refine .seq (.seq (.region (W.q2 _ t15 (W.pure (v := (.bool (!(sEq x6 (⟨#[48]⟩ : zAd))))) rfl rfl (zh8 (oo rfl rfl) (oo rfl rfl)) (.nil (.cond (b := (!(sEq x6 (⟨#[48]⟩ : zAd)))) rfl rfl (fun g16 => ?_) (fun g16 => ?_)))))))
 rotate_left
 .have h29 := z0m g16 h13
  refine .exit ?_
  obtain rfl := zAa h29
  exact ⟨x5, _, rfl, O11, s12, t14⟩
 have h17 := z04 g16 h13
 refine .skip (.block (.seq (.region (W.q2 _ t14 (W.q2 _ t15 ?_)))))
 obtain ⟨x18, i19, h20⟩ := z05 h17
 refine W.lo rfl rfl (Lo.cP rfl (fn := Tryd.f104) (by kernel_rfl) rfl (mc rfl (mc rfl mn)) O11 (fun L' O' => z9m K x5 x6 O' _ i19)) ?_
 rintro v27 H28 ⟨G21, O22, s23, sm26, rfl⟩
 refine W.q2 (.tuple #[(.string x18.1), (.string x18.2)]) rfl (W.pure (v := (.string x18.1)) rfl rfl (z14 (oo rfl rfl) rfl) (W.pure (v := (.string x18.2)) rfl rfl (z14 (oo rfl rfl) rfl) (W.q1 (.string x18.1) rfl (W.q1 (.string x18.2) rfl (.nil (.region ?_))))))
 refine W.q2 _ t15 (W.q2 (.string x18.2) rfl (W.q1 (.string x6) rfl (W.q1 (.string x18.2) rfl (.nil ?_))))
 exact ⟨k4, zAg _, ⟨x6, x18.2, _, h20, O22, (zAe s12 s23), rfl, rfl⟩⟩
def z0o (K : Nat) (x30 : zAd) : Nat -> Int -> zAd -> zAd -> Int -> Option (Int × zAd × zAd)
  | 0, _, _, _, _ => none
  | k + 1, x46, x47, x48, x49 => (if (decide (x49 < (x30.size : Int))) = true then (Option.bind ((Option.bind (((bidx x30 x49).bind fun x69 => (if (x69 == 47) = true then some (x46 == 1) else some false))) (tu1 fun x76 => (if x76 = true then ((ssl x30 0 x49).bind fun x93 => ((ssl x30 (z03 .i64 (x49 + 1)) (x30.size : Int)).bind fun x96 => some (2, x93, x96))) else some (x46, x47, x48))))) (tu3 fun x100 x101 x102 => z0o K x30 k x100 x101 x102 (z03 .i64 (x49 + 1)))) else some (x46, x47, x48))
def z32 (K : Nat) (p0 : zAd) : Option Int := (Option.bind ((if (decide ((p0.size : Int) > 0)) = true then ((bidx p0 0).bind fun x7 => some (x7 == 45)) else some false)) (tu1 fun x11 => (Option.bind ((if x11 = true then ((ssl p0 1 (p0.size : Int)).bind fun x26 => some (x26, true)) else some (p0, false))) (tu2 fun x30 x31 => (Option.bind (z0o K x30 K 1 x30 (⟨#[50]⟩ : zAd) 0) (tu3 fun x115 x116 x117 => ((z30 K x116).bind fun x129 => ((z30 K x117).bind fun x140 => (Option.bind ((if (x129 == 5) = true then some true else (if (x140 == 5) = true then some true else (if x31 = true then some (sEq x116 (⟨#[48]⟩ : zAd)) else some false)))) (tu1 fun x166 => (if x166 = true then some 5 else (Option.bind ((if (x129 != 0) = true then some true else some (x140 != 0))) (tu1 fun x186 => (if x186 = true then some 2 else (Option.bind ((if (x115 == 2) = true then (if (sEq x117 (⟨#[48]⟩ : zAd)) = true then some true else (if (sEq x117 (⟨#[49]⟩ : zAd)) = true then some true else ((z4s K x116 x117).bind fun x213 => some (!(sEq x213 (⟨#[49]⟩ : zAd)))))) else some false)) (tu1 fun x225 => (if x225 = true then some 3 else some 0)))))))))))))))))
theorem z7u (p0 : zAd) (O : Ow G H (L)) (r : Int) (h : z32 K p0 = some r) :
    CR Tryd.prog 100 [(.string p0)] G H (L) (fun v G' _ => v = .int .i64 r) := by
 unfold z32 at h
 refine CR.og (n := 86) (fn := Tryd.f100) (by kernel_rfl) rfl rfl fun R kr => (.seq (.region (W.q1 (.int .i64 0) rfl (.nil (.seq (.region ?_))))))
 refine W.q2 (.string p0) rfl (W.q1 (.string p0) rfl (W.q1 (.bool false) rfl (W.q1 (.int .i64 1) rfl (.nil (.seq (.seq ?_))))))
 obtain ⟨q1, h2, h3⟩ := z05 h
 refine AW.midT (fun σ' H' => ∃ (y1 : Bool) (G' : GM), y1 = q1 /\ Ow G' H' (L) /\ GM.le G G' /\ σ' 19 = .bool y1) ?_ ?_
 .refine .region (W.q2 (.string p0) rfl (W.pure (v := (.int .i64 (p0.size : Int))) rfl rfl (z1q (oo rfl rfl) un9) (W.q3 (.bool (decide ((p0.size : Int) > 0))) rfl rfl (W.q2 (.bool (decide ((p0.size : Int) > 0))) rfl (W.splitAt (t := 15) (b := decide ((p0.size : Int) > 0)) rfl (fun g4 gv5 => ?_) (fun g4 gv5 => ?_))))))
  rotate_left
  .have h10 := z0m g4 h2
   refine W.q6 rfl gv5 (W.q6 rfl gv5 (W.q6 rfl gv5 (W.q5 (.bool false) gv5 rfl (.nil ?_))))
   obtain rfl := zAa h10
   exact ⟨false, _, rfl, O, (zAf _), rfl⟩
  have h6 := z04 g4 h2
  refine W.q2 (hg := gk rfl rfl gv5 rfl) (.string p0) rfl ?_
  obtain ⟨x7, i8, h9⟩ := z05 h6
  refine W.pure (v := (.int .u8 x7)) (gk rfl rfl gv5 rfl) rfl (z8v un9 (oo rfl rfl) (oo rfl rfl) i8) (W.q3 (hg := gk rfl rfl gv5 rfl) (.bool (x7 == 45)) rfl rfl (W.q4 (.bool (x7 == 45)) gv5 rfl (.nil ?_)))
  obtain rfl := zAa h9
  exact ⟨(x7 == 45), _, rfl, O, (zAf _), rfl⟩
 rintro σ12 H13 fr14 ⟨x11, G15, rfl, O16, s17, t19⟩
 have h20 := z0c h3
 obtain ⟨q21, h22, h23⟩ := z05 h20
 refine AW.midT (fun σ' H' => ∃ (y1 : zAd) (y2 : Bool) (G' : GM), (y1, y2) = q21 /\ Ow G' H' (L) /\ GM.le G15 G' /\ σ' 3 = .string y1 /\ σ' 4 = .bool y2) ?_ ?_
 .refine .cond (b := x11) rfl t19 (fun g24 => ?_) (fun g24 => ?_)
  rotate_left
  .have h29 := z0m g24 h22
   refine .skip ?_
   obtain rfl := zAa h29
   exact ⟨p0, false, _, rfl, O16, (zAf _), ((fr14 3 rfl).trans rfl), ((fr14 4 rfl).trans rfl)⟩
  have h25 := z04 g24 h22
  refine .region (W.q2 (.string p0) ((fr14 3 rfl).trans rfl) ?_)
  obtain ⟨x26, i27, h28⟩ := z05 h25
  refine W.pure (v := (.string x26)) rfl rfl (zcz un9 (oo rfl rfl) (oo rfl rfl) i27) (W.q1 (.string x26) rfl (W.q1 (.bool true) rfl (.nil ?_)))
  obtain rfl := zAa h28
  exact ⟨x26, true, _, rfl, O16, (zAf _), rfl, rfl⟩
 rintro σ32 H33 fr34 ⟨x30, x31, G35, rfl, O36, s37, t39, t40⟩
 have h41 := z57 h23
 refine .seq (.region (W.q2 _ t39 (W.q1 (.string x30) rfl (W.q1 (.string (⟨#[50]⟩ : zAd)) rfl (.nil (.seq ?_))))))
 refine .seq (.region (W.q2 _ t39 (W.pure (v := (.int .i64 (x30.size : Int))) rfl rfl (z1q (oo rfl rfl) un9) (W.q2 (.int .i64 0) rfl (.nil ?_)))))
 obtain ⟨q42, h43, h44⟩ := z05 h41
 refine AW.midT (fun σ' H' => ∃ (y1 : Int) (y2 : zAd) (y3 : zAd) (G' : GM), (y1, y2, y3) = q42 /\ Ow G' H' (L) /\ GM.le G35 G' /\ σ' 5 = .int .i64 y1 /\ σ' 6 = .string y2 /\ σ' 7 = .string y3) ?_ ?_
 .refine .block (AW.loop (α := Nat) (fun k' σ' H' => ∃ (y1 : Int) (y2 : zAd) (y3 : zAd) (y4 : Int) (G' : GM), z0o K x30 k' y1 y2 y3 y4 = some q42 /\ Ow G' H' (L) /\ GM.le G35 G' /\ σ' 5 = .int .i64 y1 /\ σ' 6 = .string y2 /\ σ' 7 = .string y3 /\ σ' 25 = .int .i64 y4) (fun k' => k') K ⟨1, x30, (⟨#[50]⟩ : zAd), 0, _, h43, O36, (zAf _), ((fr34 5 rfl).trans ((fr14 5 rfl).trans rfl)), rfl, rfl, rfl⟩ ?_)
  rintro k45
  rintro σ50 H51 fr52 ⟨x46, x47, x48, x49, G53, h56, O54, s55, t57, t58, t59, t60⟩
  rcases k45 with _ | k45
  .exact z08 h56
  rw [z0o] at h56
  refine .seq (.region (W.q3 (.bool (decide (x49 < (x30.size : Int)))) t60 ((fr52 24 rfl).trans rfl) (.nil (.seq (.cond (b := decide (x49 < (x30.size : Int))) rfl rfl (fun g61 => ?_) (fun g61 => ?_))))))
  rotate_left
  .have h114 := z0m g61 h56
   refine .exit ?_
   obtain rfl := zAa h114
   exact ⟨x46, x47, x48, _, rfl, O54, s55, t57, t58, t59⟩
  have h62 := z04 g61 h56
  refine .skip (.seq ?_)
  obtain ⟨q63, h64, h65⟩ := z05 h62
  refine AW.midT (fun σ' H' => ∃ (y1 : Int) (y2 : zAd) (y3 : zAd) (G' : GM), (y1, y2, y3) = q63 /\ Ow G' H' (L) /\ GM.le G53 G' /\ σ' 5 = .int .i64 y1 /\ σ' 6 = .string y2 /\ σ' 7 = .string y3) ?_ ?_
  rotate_left
  .rintro σ103 H104 fr105 ⟨x100, x101, x102, G106, rfl, O107, s108, t110, t111, t112⟩
   have h113 := zf9 h65
   refine .region (W.q3 (.int .i64 (z03 .i64 (x49 + 1))) ((fr105 25 rfl).trans t60) rfl (W.q2 (.int .i64 (z03 .i64 (x49 + 1))) rfl (.nil ?_)))
   exact ⟨k45, zAg _, ⟨x100, x101, x102, z03 .i64 (x49 + 1), _, h113, O107, (zAe s55 s108), t110, t111, t112, rfl⟩⟩
  refine .block (.seq (.region (W.q2 _ t60 (W.q1 (.int .i64 x49) rfl (.nil (.seq ?_))))))
  obtain ⟨q66, h67, h68⟩ := z05 h64
  refine AW.midT (fun σ' H' => ∃ (y1 : Bool) (G' : GM), y1 = q66 /\ Ow G' H' (L) /\ GM.le G53 G' /\ σ' 35 = .bool y1) ?_ ?_
  .refine .region (W.q2 _ ((fr52 3 rfl).trans t39) (W.q2 (.int .i64 x49) rfl ?_))
   obtain ⟨x69, i70, h71⟩ := z05 h67
   refine W.pure (v := (.int .u8 x69)) rfl rfl (z8v un9 (oo rfl rfl) (oo rfl rfl) i70) (W.q3 (.bool (x69 == 47)) rfl rfl (W.q2 (.bool (x69 == 47)) rfl (W.splitAt (t := 32) (b := (x69 == 47)) rfl (fun g72 gv73 => ?_) (fun g72 gv73 => ?_))))
   rotate_left
   .have h75 := z0m g72 h71
    refine W.q6 rfl gv73 (W.q6 rfl gv73 (W.q5 (.bool false) gv73 rfl (.nil ?_)))
    obtain rfl := zAa h75
    exact ⟨false, _, rfl, O54, (zAf _), rfl⟩
   have h74 := z04 g72 h71
   refine W.q2 (hg := gk rfl rfl gv73 rfl) _ t57 (W.q3 (hg := gk rfl rfl gv73 rfl) (.bool (x46 == 1)) rfl rfl (W.q4 (.bool (x46 == 1)) gv73 rfl (.nil ?_)))
   obtain rfl := zAa h74
   exact ⟨(x46 == 1), _, rfl, O54, (zAf _), rfl⟩
  rintro σ77 H78 fr79 ⟨x76, G80, rfl, O81, s82, t84⟩
  have h85 := z0c h68
  refine .cond (b := x76) rfl t84 (fun g86 => ?_) (fun g86 => ?_)
  rotate_left
  .have h99 := z0m g86 h85
   refine .skip ?_
   obtain rfl := zAa h99
   exact ⟨x46, x47, x48, _, rfl, O81, s82, ((fr79 5 rfl).trans t57), ((fr79 6 rfl).trans t58), ((fr79 7 rfl).trans t59)⟩
  have h87 := z04 g86 h85
  refine .draw2 (M := [0, 0, 3, 0, 0, 16, 56, 7, 255, 511]) mixed (by kernel_rfl) (by kernel_rfl) fun H88 N92 x89 F91 => ?_
  have O90 := O81.ext x89
  refine D2.q2 _ ((fr79 3 rfl).trans ((fr52 3 rfl).trans t39)) (D2.q2 (.int .i64 x49) ((fr79 8 rfl).trans rfl) ?_)
  obtain ⟨x93, i94, h95⟩ := z05 h87
  refine D2.pure (v := (.string x93)) rfl rfl (zed un9 (oo rfl rfl) (oo rfl rfl) i94) (D2.q2 _ ((fr79 3 rfl).trans ((fr52 3 rfl).trans t39)) (D2.q2 (.int .i64 x49) ((fr79 8 rfl).trans rfl) (D2.q3 (.int .i64 (z03 .i64 (x49 + 1))) rfl rfl ?_)))
  obtain ⟨x96, i97, h98⟩ := z05 h95
  refine D2.pure (v := (.string x96)) rfl rfl (zcz un9 (oo rfl rfl) (oo rfl rfl) i97) (D2.q1 (.string x93) rfl (D2.q1 (.string x96) rfl (D2.q1 (.int .i64 2) rfl (.nil ?_))))
  obtain rfl := zAa h98
  exact ⟨2, x93, x96, _, rfl, O90, s82, rfl, rfl, rfl⟩
 rintro σ118 H119 fr120 ⟨x115, x116, x117, G121, rfl, O122, s123, t125, t126, t127⟩
 have h128 := zf9 h44
 refine .seq (.region (W.q2 _ t126 ?_))
 obtain ⟨x129, i130, h131⟩ := z05 h128
 refine W.lo rfl rfl (Lo.cP rfl (fn := Tryd.f124) (by kernel_rfl) rfl (mc rfl mn) O122 (fun L' O' => z58 K x116 O' _ i130)) ?_
 rintro v138 H139 ⟨G132, O133, s134, sm137, rfl⟩
 refine W.q2 _ t127 ?_
 obtain ⟨x140, i141, h142⟩ := z05 h131
 refine W.lo rfl rfl (Lo.cP rfl (fn := Tryd.f124) (by kernel_rfl) rfl (mc rfl mn) O133 (fun L' O' => z58 K x117 O' _ i141)) ?_
 rintro v149 H150 ⟨G143, O144, s145, sm148, rfl⟩
 refine W.q1 (.int .i64 x129) rfl (W.q1 (.int .i64 x140) rfl (.nil (.seq (.block (.seq ?_)))))
 obtain ⟨q151, h152, h153⟩ := z05 h142
 refine AW.midT (fun σ' H' => ∃ (y1 : Bool) (G' : GM), y1 = q151 /\ Ow G' H' (L) /\ GM.le G143 G' /\ σ' 48 = .bool y1) ?_ ?_
 .refine .region (W.q2 (.int .i64 x129) rfl (W.q3 (.bool (x129 == 5)) rfl rfl (W.q2 (.bool (x129 == 5)) rfl (W.splitAt (t := 51) (b := (x129 == 5)) rfl (fun g154 gv155 => ?_) (fun g154 gv155 => ?_)))))
  .have h156 := z04 g154 h152
   refine W.q6 rfl gv155 (W.q6 rfl gv155 (W.q4 (.bool true) gv155 rfl (W.q2 (.bool true) rfl (W.q6 rfl rfl (W.q6 rfl rfl (W.skipU rfl rfl rfl rfl ?_))))))
   refine W.skipU rfl rfl rfl rfl (W.q6 rfl rfl (W.q4 (.bool true) rfl rfl (W.q1 (.bool true) rfl (.nil ?_))))
   obtain rfl := zAa h156
   exact ⟨true, _, rfl, O144, (zAf _), rfl⟩
  have h157 := z0m g154 h152
  refine W.q2 (hg := gk rfl rfl gv155 rfl) (.int .i64 x140) rfl (W.q3 (hg := gk rfl rfl gv155 rfl) (.bool (x140 == 5)) rfl rfl (W.q5 (.bool (x140 == 5)) gv155 rfl (W.q2 (.bool (x140 == 5)) rfl (W.splitAt (t := 55) (b := (x140 == 5)) rfl (fun g158 gv159 => ?_) (fun g158 gv159 => ?_)))))
  .have h160 := z04 g158 h157
   refine W.q6 rfl gv159 (W.q6 rfl gv159 (W.skipU rfl rfl rfl rfl (W.skipU rfl rfl rfl rfl (W.q6 rfl gv159 (W.q4 (.bool true) gv159 rfl (W.q1 (.bool true) rfl ?_))))))
   refine .nil ?_
   obtain rfl := zAa h160
   exact ⟨true, _, rfl, O144, (zAf _), rfl⟩
  have h161 := z0m g158 h157
  refine W.q2 (hg := gk rfl rfl gv159 rfl) _ ((fr120 4 rfl).trans t40) (W.q2 (hg := gk rfl rfl gv159 rfl) (.bool x31) rfl (W.splitAt (t := 57) (b := x31) rfl (fun g162 gv163 => ?_) (fun g162 gv163 => ?_)))
  rotate_left
  .have h165 := z0m g162 h161
   refine W.q6 rfl gv163 (W.q6 rfl gv163 (W.q5 (hg := gk rfl rfl gv159 rfl) (.bool false) gv163 rfl (W.q5 (.bool false) gv159 rfl (W.q1 (.bool false) rfl (.nil ?_)))))
   obtain rfl := zAa h165
   exact ⟨false, _, rfl, O144, (zAf _), rfl⟩
  have h164 := z04 g162 h161
  refine W.q2 (hg := gk rfl rfl gv163 rfl) _ t126 (W.pure (v := (.bool (sEq x116 (⟨#[48]⟩ : zAd)))) (gk rfl rfl gv163 rfl) rfl (z7r (oo rfl rfl) (oo rfl rfl)) (W.q4 (hg := gk rfl rfl gv159 rfl) (.bool (sEq x116 (⟨#[48]⟩ : zAd))) gv163 rfl (W.q5 (.bool (sEq x116 (⟨#[48]⟩ : zAd))) gv159 rfl (W.q1 (.bool (sEq x116 (⟨#[48]⟩ : zAd))) rfl (.nil ?_)))))
  obtain rfl := zAa h164
  exact ⟨sEq x116 (⟨#[48]⟩ : zAd), _, rfl, O144, (zAf _), rfl⟩
 rintro σ167 H168 fr169 ⟨x166, G170, rfl, O171, s172, t174⟩
 have h175 := z0c h153
 refine .cond (b := x166) rfl t174 (fun g176 => ?_) (fun g176 => ?_)
 .have h177 := z04 g176 h175
  refine .seq (.region (W.q1 (.int .i64 5) rfl (.nil (.ret ?_))))
  obtain rfl := zAa h177
  exact z1y kr (v1 := (.int .i64 5)) (by rfl) (z06 (by rfl) (by exact rfl)) O171 (zAe s17 (zAe s37 (zAe s123 (zAe s134 (zAe s145 s172))))) rfl
 have h178 := z0m g176 h175
 refine .seq ?_
 obtain ⟨q179, h180, h181⟩ := z05 h178
 refine AW.midT (fun σ' H' => ∃ (y1 : Bool) (G' : GM), y1 = q179 /\ Ow G' H' (L) /\ GM.le G170 G' /\ σ' 62 = .bool y1) ?_ ?_
 .refine .region (W.q2 (.int .i64 x129) ((fr169 9 rfl).trans rfl) (W.q3 (.bool (x129 != 0)) rfl rfl (W.q2 (.bool (x129 != 0)) rfl (W.splitAt (t := 65) (b := (x129 != 0)) rfl (fun g182 gv183 => ?_) (fun g182 gv183 => ?_)))))
  .have h184 := z04 g182 h180
   refine W.q6 rfl gv183 (W.q6 rfl gv183 (W.q4 (.bool true) gv183 rfl (W.q1 (.bool true) rfl (.nil ?_))))
   obtain rfl := zAa h184
   exact ⟨true, _, rfl, O171, (zAf _), rfl⟩
  have h185 := z0m g182 h180
  refine W.q2 (hg := gk rfl rfl gv183 rfl) (.int .i64 x140) ((fr169 10 rfl).trans rfl) (W.q3 (hg := gk rfl rfl gv183 rfl) (.bool (x140 != 0)) rfl rfl (W.q5 (.bool (x140 != 0)) gv183 rfl (W.q1 (.bool (x140 != 0)) rfl (.nil ?_))))
  obtain rfl := zAa h185
  exact ⟨(x140 != 0), _, rfl, O171, (zAf _), rfl⟩
 rintro σ187 H188 fr189 ⟨x186, G190, rfl, O191, s192, t194⟩
 have h195 := z0c h181
 refine .cond (b := x186) rfl t194 (fun g196 => ?_) (fun g196 => ?_)
 .have h197 := z04 g196 h195
  refine .seq (.region (W.q1 (.int .i64 2) rfl (.nil (.ret ?_))))
  obtain rfl := zAa h197
  exact z1y kr (v1 := (.int .i64 2)) (by rfl) (z06 (by rfl) (by exact rfl)) O191 (zAe s17 (zAe s37 (zAe s123 (zAe s134 (zAe s145 (zAe s172 s192)))))) rfl
 have h198 := z0m g196 h195
 refine .seq ?_
 obtain ⟨q199, h200, h201⟩ := z05 h198
 refine AW.midT (fun σ' H' => ∃ (y1 : Bool) (G' : GM), y1 = q199 /\ Ow G' H' (L) /\ GM.le G190 G' /\ σ' 69 = .bool y1) ?_ ?_
 rotate_left
 .rintro σ226 H227 fr228 ⟨x225, G229, rfl, O230, s231, t233⟩
  have h234 := z0c h201
  refine .cond (b := x225) rfl t233 (fun g235 => ?_) (fun g235 => ?_)
  .have h236 := z04 g235 h234
   refine .seq (.region (W.q1 (.int .i64 3) rfl (.nil (.ret ?_))))
   obtain rfl := zAa h236
   exact z1y kr (v1 := (.int .i64 3)) (by rfl) (z06 (by rfl) (by exact rfl)) O230 (zAe s17 (zAe s37 (zAe s123 (zAe s134 (zAe s145 (zAe s172 (zAe s192 s231))))))) rfl
  have h237 := z0m g235 h234
  refine .skip (.seq (.region (W.q1 (.int .i64 0) rfl (.nil (.ret ?_)))))
  obtain rfl := zAa h237
  exact z1y kr (v1 := (.int .i64 0)) (by rfl) (z06 (by rfl) (by exact rfl)) O230 (zAe s17 (zAe s37 (zAe s123 (zAe s134 (zAe s145 (zAe s172 (zAe s192 s231))))))) rfl
 refine .region (W.q2 _ ((fr189 5 rfl).trans ((fr169 5 rfl).trans t125)) (W.q3 (.bool (x115 == 2)) rfl rfl (W.q2 (.bool (x115 == 2)) rfl (W.splitAt (t := 72) (b := (x115 == 2)) rfl (fun g202 gv203 => ?_) (fun g202 gv203 => ?_)))))
 rotate_left
 .have h224 := z0m g202 h200
  refine W.q6 rfl gv203 (W.q6 rfl gv203 (W.q6 rfl gv203 (W.skipU rfl rfl rfl rfl (W.skipU rfl rfl rfl rfl (W.q6 rfl gv203 (W.q6 rfl gv203 ?_))))))
  refine W.skipU rfl rfl rfl rfl (W.skipU rfl rfl rfl rfl (W.skipU rfl rfl rfl rfl (W.skipU rfl rfl rfl rfl (W.q6 rfl gv203 (W.q5 (.bool false) gv203 rfl (W.q1 (.bool false) rfl ?_))))))
  refine .nil ?_
  obtain rfl := zAa h224
  exact ⟨false, _, rfl, O191, (zAf _), rfl⟩
 have h204 := z04 g202 h200
 refine W.q2 (hg := gk rfl rfl gv203 rfl) _ ((fr189 7 rfl).trans ((fr169 7 rfl).trans t127)) (W.pure (v := (.bool (sEq x117 (⟨#[48]⟩ : zAd)))) (gk rfl rfl gv203 rfl) rfl (z7r (oo rfl rfl) (oo rfl rfl)) (W.q2 (hg := gk rfl rfl gv203 rfl) (.bool (sEq x117 (⟨#[48]⟩ : zAd))) rfl (W.splitAt (t := 75) (b := sEq x117 (⟨#[48]⟩ : zAd)) rfl (fun g205 gv206 => ?_) (fun g205 gv206 => ?_))))
 .have h207 := z04 g205 h204
  refine W.q6 rfl gv206 (W.q6 rfl gv206 (W.q4 (hg := gk rfl rfl gv203 rfl) (.bool true) gv206 rfl (W.q2 (hg := gk rfl rfl gv203 rfl) (.bool true) rfl (W.q6 rfl rfl (W.q6 rfl rfl (W.q6 rfl rfl ?_))))))
  refine W.q6 rfl rfl (W.q4 (hg := gk rfl rfl gv203 rfl) (.bool true) rfl rfl (W.q4 (.bool true) gv203 rfl (W.q1 (.bool true) rfl (.nil ?_))))
  obtain rfl := zAa h207
  exact ⟨true, _, rfl, O191, (zAf _), rfl⟩
 have h208 := z0m g205 h204
 refine W.q2 (hg := gk rfl rfl gv206 rfl) _ ((fr189 7 rfl).trans ((fr169 7 rfl).trans t127)) (W.pure (v := (.bool (sEq x117 (⟨#[49]⟩ : zAd)))) (gk rfl rfl gv206 rfl) rfl (z7r (oo rfl rfl) (oo rfl rfl)) (W.q5 (hg := gk rfl rfl gv203 rfl) (.bool (sEq x117 (⟨#[49]⟩ : zAd))) gv206 rfl (W.q2 (hg := gk rfl rfl gv203 rfl) (.bool (sEq x117 (⟨#[49]⟩ : zAd))) rfl (W.splitAt (t := 79) (b := sEq x117 (⟨#[49]⟩ : zAd)) rfl (fun g209 gv210 => ?_) (fun g209 gv210 => ?_)))))
 .have h211 := z04 g209 h208
  refine W.q6 rfl gv210 (W.q6 rfl gv210 (W.q6 rfl gv210 (W.q6 rfl gv210 (W.q4 (hg := gk rfl rfl gv203 rfl) (.bool true) gv210 rfl (W.q4 (.bool true) gv203 rfl (W.q1 (.bool true) rfl ?_))))))
  refine .nil ?_
  obtain rfl := zAa h211
  exact ⟨true, _, rfl, O191, (zAf _), rfl⟩
 have h212 := z0m g209 h208
 refine W.q2 (hg := gk rfl rfl gv210 rfl) _ ((fr189 6 rfl).trans ((fr169 6 rfl).trans t126)) (W.q2 (hg := gk rfl rfl gv210 rfl) _ ((fr189 7 rfl).trans ((fr169 7 rfl).trans t127)) ?_)
 obtain ⟨x213, i214, h215⟩ := z05 h212
 refine W.lo (gk rfl rfl gv210 rfl) rfl (Lo.cP rfl (fn := Tryd.f103) (by kernel_rfl) rfl (mc rfl (mc rfl mn)) O191 (fun L' O' => z9n K x116 x117 O' _ i214)) ?_
 rintro v222 H223 ⟨G216, O217, s218, sm221, rfl⟩
 refine W.pure (v := (.bool (!(sEq x213 (⟨#[49]⟩ : zAd))))) (gk rfl rfl gv210 rfl) rfl (zh8 (oo rfl rfl) (oo rfl rfl)) (W.q5 (hg := gk rfl rfl gv203 rfl) (.bool (!(sEq x213 (⟨#[49]⟩ : zAd)))) gv210 rfl (W.q4 (.bool (!(sEq x213 (⟨#[49]⟩ : zAd)))) gv203 rfl (W.q1 (.bool (!(sEq x213 (⟨#[49]⟩ : zAd)))) rfl (.nil ?_))))
 obtain rfl := zAa h215
 exact ⟨(!(sEq x213 (⟨#[49]⟩ : zAd))), _, rfl, O217, s218, rfl⟩
def z0q (K : Nat) (p0 : List zAd) : Nat -> Int -> Option (Int ⊕ Unit)
  | 0, _ => none
  | k + 1, x5 => (if (decide (x5 < (List.length p0 : Int))) = true then ((idx p0 x5).bind fun x16 => ((z32 K x16).bind fun x20 => (if (x20 != 0) = true then some (.inl x20) else z0q K p0 k (z03 .i64 (x5 + 1))))) else some (.inr ()))
def z38 (K : Nat) (p0 : List zAd) : Option Int := (zap (z0q K p0 K 0) (tu1 fun a44 => some a44) (tu0 (some 0)))
theorem z79 (v0 : Value) (p0 : List zAd) (hp0 : (rSl rS).rep G [v0] p0) (O : Ow G H (L)) (r : Int) (h : z38 K p0 = some r) :
    CR Tryd.prog 38 [v0] G H (L) (fun v G' _ => v = .int .i64 r) := by
 unfold z38 at h
 refine CR.og (n := 18) (fn := Tryd.f38) (by kernel_rfl) rfl rfl fun R kr => (.seq (.region (W.q1 (.int .i64 0) rfl (.nil (.seq (.seq ?_))))))
 refine .region (W.q2 v0 rfl (W.pure (v := (.int .i64 (List.length p0 : Int))) rfl rfl (z0i (oo rfl rfl) (z0a hp0) (z02 el22)) (W.q2 (.int .i64 0) rfl (.nil ?_))))
 obtain ⟨q1, h2, h3⟩ := z3y h
 refine AW.midT (fun σ' H' => ∃  (G' : GM), (.inr ()) = q1 /\ Ow G' H' (L) /\ GM.le G G') ?_ ?_
 rotate_left
 .rintro σ36 H37 fr38 ⟨G39, rfl, O40, s41⟩
  have h43 := z6d (z9j h3)
  refine .seq (.region (W.q1 (.int .i64 0) rfl (.nil (.ret ?_))))
  obtain rfl := zAa h43
  exact z1y kr (v1 := (.int .i64 0)) (by rfl) (z06 (by rfl) (by exact rfl)) O40 s41 rfl
 refine .block (AW.loop (α := Nat) (fun k' σ' H' => ∃ (y1 : Int) (G' : GM), z0q K p0 k' y1 = some q1 /\ Ow G' H' (L) /\ GM.le G G' /\ σ' 8 = .int .i64 y1) (fun k' => k') K ⟨0, _, h2, O, (zAf _), rfl⟩ ?_)
 rintro k4
 rintro σ6 H7 fr8 ⟨x5, G9, h12, O10, s11, t13⟩
 rcases k4 with _ | k4
 .exact z08 h12
 rw [z0q] at h12
 refine .seq (.region (W.q3 (.bool (decide (x5 < (List.length p0 : Int)))) t13 ((fr8 7 rfl).trans rfl) (.nil (.seq (.cond (b := decide (x5 < (List.length p0 : Int))) rfl rfl (fun g14 => ?_) (fun g14 => ?_))))))
 rotate_left
 .have h35 := z0m g14 h12
  refine .exit ?_
  obtain rfl := zAa h35
  exact ⟨_, rfl, O10, s11⟩
 have h15 := z04 g14 h12
 refine .skip (.seq (.block (.seq (.region ?_))))
 obtain ⟨x16, i17, h18⟩ := z05 h15
 have j19 := z0l i17
 refine W.pure (v := (z3f v0 (Int.toNat x5 * 1))) rfl rfl (z46 el22 sz25 (oo rfl ((fr8 6 rfl).trans rfl)) (oo rfl t13) (z0a (RT.mono _ s11 hp0)) j19.1 j19.2.1) (W.load1 (v := (.string x16)) (r := []) rfl rfl ag25 (z26 rfl (At.str (At.le (At.le (z2x hp0 j19.2.2) s11 s11) (zAf _) O10.fro))) (W.q1 (.string x16) rfl (.nil (.seq (.region (W.q2 (.string x16) rfl ?_))))))
 obtain ⟨x20, i21, h22⟩ := z05 h18
 refine W.lo rfl rfl (Lo.cP rfl (fn := Tryd.f100) (by kernel_rfl) rfl (mc rfl mn) O10 (fun L' O' => z7u K x16 O' _ i21)) ?_
 rintro v29 H30 ⟨G23, O24, s25, sm28, rfl⟩
 refine W.q1 (.int .i64 x20) rfl (.nil (.seq (.region (W.q2 (.int .i64 x20) rfl (W.q3 (.bool (x20 != 0)) rfl rfl (.nil ?_))))))
 refine .cond (b := (x20 != 0)) rfl rfl (fun g31 => ?_) (fun g31 => ?_)
 rotate_left
 .have h34 := z0m g31 h22
  refine .skip (.region (W.q3 (.int .i64 (z03 .i64 (x5 + 1))) t13 rfl (W.q2 (.int .i64 (z03 .i64 (x5 + 1))) rfl (.nil ?_))))
  exact ⟨k4, zAg _, ⟨z03 .i64 (x5 + 1), _, h34, O24, (zAe s11 s25), rfl⟩⟩
 have h32 := z04 g31 h22
 refine .seq (.region (W.q2 (.int .i64 x20) rfl (W.q1 (.int .i64 x20) rfl (.nil (.ret ?_)))))
 obtain rfl := zAa h32
 have h33 := z0c (z75 h3)
 obtain rfl := zAa h33
 exact z1y kr (v1 := (.int .i64 x20)) (by rfl) (z06 (by rfl) (by exact rfl)) O24 (zAe s11 s25) rfl
def z2e (K : Nat) (p0 : List zAd) : Option Int := (if (decide ((List.length p0 : Int) > 40)) = true then some 2 else ((z38 K p0).bind fun x4 => some x4))
theorem z44 (v0 : Value) (p0 : List zAd) (hp0 : (rSl rS).rep G [v0] p0) (O : Ow G H (L)) (r : Int) (h : z2e K p0 = some r) :
    CR Tryd.prog 9 [v0] G H (L) (fun v G' _ => v = .int .i64 r) := by
 unfold z2e at h
 refine CR.og (n := 8) (fn := Tryd.f9) (by kernel_rfl) rfl rfl fun R kr => (.seq (.region (W.q1 (.int .i64 0) rfl (.nil (.seq (.seq ?_))))))
 refine .region (W.q2 v0 rfl (W.pure (v := (.int .i64 (List.length p0 : Int))) rfl rfl (z0i (oo rfl rfl) (z0a hp0) (z02 el23)) (W.q3 (.bool (decide ((List.length p0 : Int) > 40))) rfl rfl (.nil (.cond (b := decide ((List.length p0 : Int) > 40)) rfl rfl (fun g1 => ?_) (fun g1 => ?_))))))
 .have h2 := z04 g1 h
  refine .seq (.region (W.q1 (.int .i64 2) rfl (.nil (.ret ?_))))
  obtain rfl := zAa h2
  exact z1y kr (v1 := (.int .i64 2)) (by rfl) (z06 (by rfl) (by exact rfl)) O (zAf _) rfl
 have h3 := z0m g1 h
 refine .skip (.seq (.region (W.q2 v0 rfl ?_)))
 obtain ⟨x4, i5, h6⟩ := z05 h3
 refine W.lo rfl rfl (Lo.cP rfl (fn := Tryd.f38) (by kernel_rfl) rfl (mc rfl mn) O (fun L' O' => z79 K v0 p0 hp0 O' _ i5)) ?_
 rintro v13 H14 ⟨G7, O8, s9, sm12, rfl⟩
 refine W.q1 (.int .i64 x4) rfl (.nil (.ret ?_))
 obtain rfl := zAa h6
 exact z1y kr (v1 := (.int .i64 x4)) (by rfl) (z06 (by rfl) (by exact rfl)) O8 s9 rfl
def z0x (K : Nat) (p0 : List (List zAd)) : Nat -> Int -> Option (Int ⊕ Unit)
  | 0, _ => none
  | k + 1, x8 => (if (decide (x8 < (List.length p0 : Int))) = true then ((idx p0 x8).bind fun x24 => ((idx p0 0).bind fun x31 => (if ((List.length x24 : Int) != (List.length x31 : Int)) = true then some (.inl 3) else ((idx p0 x8).bind fun x42 => ((z2e K x42).bind fun x49 => (if (x49 != 0) = true then some (.inl x49) else z0x K p0 k (z03 .i64 (x8 + 1)))))))) else some (.inr ()))
def z2c (K : Nat) (p0 : List (List zAd)) : Option Int := (if (decide ((List.length p0 : Int) > 40)) = true then some 2 else (zap (z0x K p0 K 0) (tu1 fun a73 => some a73) (tu0 (some 0))))
theorem z64 (v0 : Value) (p0 : List (List zAd)) (hp0 : (rSl (rSl rS)).rep G [v0] p0) (O : Ow G H (L)) (r : Int) (h : z2c K p0 = some r) :
    CR Tryd.prog 19 [v0] G H (L) (fun v G' _ => v = .int .i64 r) := by
 unfold z2c at h
 refine CR.og (n := 32) (fn := Tryd.f19) (by kernel_rfl) rfl rfl fun R kr => (.seq (.region (W.q1 (.int .i64 0) rfl (.nil (.seq (.seq ?_))))))
 refine .region (W.q2 v0 rfl (W.pure (v := (.int .i64 (List.length p0 : Int))) rfl rfl (z0i (oo rfl rfl) (z0a hp0) (z02 el36)) (W.q3 (.bool (decide ((List.length p0 : Int) > 40))) rfl rfl (.nil (.cond (b := decide ((List.length p0 : Int) > 40)) rfl rfl (fun g1 => ?_) (fun g1 => ?_))))))
 .have h2 := z04 g1 h
  refine .seq (.region (W.q1 (.int .i64 2) rfl (.nil (.ret ?_))))
  obtain rfl := zAa h2
  exact z1y kr (v1 := (.int .i64 2)) (by rfl) (z06 (by rfl) (by exact rfl)) O (zAf _) rfl
 have h3 := z0m g1 h
 refine .skip (.seq (.seq (.region (W.q2 v0 rfl (W.pure (v := (.int .i64 (List.length p0 : Int))) rfl rfl (z0i (oo rfl rfl) (z0a hp0) (z02 el36)) (W.q2 (.int .i64 0) rfl ?_))))))
 refine .nil ?_
 obtain ⟨q4, h5, h6⟩ := z3y h3
 refine AW.midT (fun σ' H' => ∃  (G' : GM), (.inr ()) = q4 /\ Ow G' H' (L) /\ GM.le G G') ?_ ?_
 rotate_left
 .rintro σ65 H66 fr67 ⟨G68, rfl, O69, s70⟩
  have h72 := z6d (z9j h6)
  refine .seq (.region (W.q1 (.int .i64 0) rfl (.nil (.ret ?_))))
  obtain rfl := zAa h72
  exact z1y kr (v1 := (.int .i64 0)) (by rfl) (z06 (by rfl) (by exact rfl)) O69 s70 rfl
 refine .block (AW.loop (α := Nat) (fun k' σ' H' => ∃ (y1 : Int) (G' : GM), z0x K p0 k' y1 = some q4 /\ Ow G' H' (L) /\ GM.le G G' /\ σ' 10 = .int .i64 y1) (fun k' => k') K ⟨0, _, h5, O, (zAf _), rfl⟩ ?_)
 rintro k7
 rintro σ9 H10 fr11 ⟨x8, G12, h15, O13, s14, t16⟩
 rcases k7 with _ | k7
 .exact z08 h15
 rw [z0x] at h15
 refine .seq (.region (W.q3 (.bool (decide (x8 < (List.length p0 : Int)))) t16 ((fr11 9 rfl).trans rfl) (.nil (.seq (.cond (b := decide (x8 < (List.length p0 : Int))) rfl rfl (fun g17 => ?_) (fun g17 => ?_))))))
 rotate_left
 .have h64 := z0m g17 h15
  refine .exit ?_
  obtain rfl := zAa h64
  exact ⟨_, rfl, O13, s14⟩
 have h18 := z04 g17 h15
 refine .skip (.seq (.block (.seq (.region (W.q2 _ t16 (W.q1 (.int .i64 x8) rfl ?_))))))
 refine .nil (.seq (.seq (.draw2 (M := [0, 0, 3, 7, 15, 0, 32, 96, 224, 511]) mixed (by kernel_rfl) (by kernel_rfl) fun H19 N23 x20 F22 => ?_)))
 have O21 := O13.ext x20
 refine D2.q2 v0 ((fr11 0 rfl).trans rfl) (D2.q2 (.int .i64 x8) rfl ?_)
 obtain ⟨x24, i25, h26⟩ := z05 h18
 have j27 := z0l i25
 refine D2.pure (v := (z3f v0 (Int.toNat x8 * 1))) rfl rfl (z46 el36 sz23 (oo rfl rfl) (oo rfl rfl) (z0a (RT.mono _ s14 hp0)) j27.1 j27.2.1) ?_
 obtain ⟨w28, p29, f30⟩ := At.sl (At.le (z2x hp0 j27.2.2) s14 s14)
 replace p29 := PtG.le p29 O21.fro
 refine D2.load1' (v := w28) (r := []) rfl rfl ag23 (z26 rfl p29) z1k (D2.pure (v := (.int .i64 (List.length x24 : Int))) rfl rfl (z0i (oo rfl rfl) (z0a f30) (z02 el23)) (D2.q2 v0 ((fr11 0 rfl).trans rfl) ?_))
 obtain ⟨x31, i32, h33⟩ := z05 h26
 have j34 := z0l i32
 refine D2.pure (v := (z3f v0 (Int.toNat 0 * 1))) rfl rfl (z46 el36 sz23 (oo rfl rfl) (oo rfl rfl) (z0a (RT.mono _ s14 hp0)) j34.1 j34.2.1) ?_
 obtain ⟨w35, p36, f37⟩ := At.sl (At.le (z2x hp0 j34.2.2) s14 s14)
 replace p36 := PtG.le p36 O21.fro
 refine D2.load1' (v := w35) (r := []) rfl rfl ag23 (z26 rfl p36) z1k (D2.pure (v := (.int .i64 (List.length x31 : Int))) rfl rfl (z0i (oo rfl rfl) (z0a f37) (z02 el23)) (D2.q3 (.bool ((List.length x24 : Int) != (List.length x31 : Int))) rfl rfl (.nil (.cond (b := ((List.length x24 : Int) != (List.length x31 : Int))) rfl rfl (fun g38 => ?_) (fun g38 => ?_)))))
 .have h39 := z04 g38 h33
  refine .seq (.region (W.q1 (.int .i64 3) rfl (.nil (.ret ?_))))
  obtain rfl := zAa h39
  have h40 := z0c (z75 h6)
  obtain rfl := zAa h40
  exact z1y kr (v1 := (.int .i64 3)) (by rfl) (z06 (by rfl) (by exact rfl)) O21 s14 rfl
 have h41 := z0m g38 h33
 refine .skip (.seq (.region (W.q2 v0 ((fr11 0 rfl).trans rfl) (W.q2 (.int .i64 x8) rfl ?_))))
 obtain ⟨x42, i43, h44⟩ := z05 h41
 have j45 := z0l i43
 refine W.pure (v := (z3f v0 (Int.toNat x8 * 1))) rfl rfl (z46 el36 sz23 (oo rfl rfl) (oo rfl rfl) (z0a (RT.mono _ s14 hp0)) j45.1 j45.2.1) ?_
 obtain ⟨w46, p47, f48⟩ := At.sl (At.le (z2x hp0 j45.2.2) s14 s14)
 replace p47 := PtG.le p47 O21.fro
 refine W.load1 (v := w46) (r := []) rfl rfl ag23 (z26 rfl p47) ?_
 obtain ⟨x49, i50, h51⟩ := z05 h44
 refine W.lo rfl rfl (Lo.cP rfl (fn := Tryd.f9) (by kernel_rfl) rfl (mc rfl mn) O21 (fun L' O' => z44 K w46 x42 f48 O' _ i50)) ?_
 rintro v58 H59 ⟨G52, O53, s54, sm57, rfl⟩
 refine W.q1 (.int .i64 x49) rfl (.nil (.seq (.region (W.q2 (.int .i64 x49) rfl (W.q3 (.bool (x49 != 0)) rfl rfl (.nil ?_))))))
 refine .cond (b := (x49 != 0)) rfl rfl (fun g60 => ?_) (fun g60 => ?_)
 rotate_left
 .have h63 := z0m g60 h51
  refine .skip (.region (W.q3 (.int .i64 (z03 .i64 (x8 + 1))) t16 rfl (W.q2 (.int .i64 (z03 .i64 (x8 + 1))) rfl (.nil ?_))))
  exact ⟨k7, zAg _, ⟨z03 .i64 (x8 + 1), _, h63, O53, (zAe s14 s54), rfl⟩⟩
 have h61 := z04 g60 h51
 refine .seq (.region (W.q2 (.int .i64 x49) rfl (W.q1 (.int .i64 x49) rfl (.nil (.ret ?_)))))
 obtain rfl := zAa h61
 have h62 := z0c (z75 h6)
 obtain rfl := zAa h62
 exact z1y kr (v1 := (.int .i64 x49)) (by rfl) (z06 (by rfl) (by exact rfl)) O53 (zAe s14 s54) rfl
def z1x (K : Nat) (p0 : List Int) : Nat -> Int -> Option (Int ⊕ Unit)
  | 0, _ => none
  | k + 1, x5 => (if (decide (x5 < (List.length p0 : Int))) = true then ((idx p0 x5).bind fun x16 => (if (x16 != 0) = true then some (.inl x16) else z1x K p0 k (z03 .i64 (x5 + 1)))) else some (.inr ()))
def z3l (K : Nat) (p0 : List Int) : Option Int := (zap (z1x K p0 K 0) (tu1 fun a33 => some a33) (tu0 (some 0)))
theorem z8x (v0 : Value) (p0 : List Int) (hp0 : (rSl (rI .i64)).rep G [v0] p0) (O : Ow G H (L)) (r : Int) (h : z3l K p0 = some r) :
    CR Tryd.prog 8 [v0] G H (L) (fun v G' _ => v = .int .i64 r) := by
 unfold z3l at h
 refine CR.og (n := 15) (fn := Tryd.f8) (by kernel_rfl) rfl rfl fun R kr => (.seq (.region (W.q1 (.int .i64 0) rfl (.nil (.seq (.seq ?_))))))
 refine .region (W.q2 v0 rfl (W.pure (v := (.int .i64 (List.length p0 : Int))) rfl rfl (z0i (oo rfl rfl) (z0a hp0) (z02 el71)) (W.q2 (.int .i64 0) rfl (.nil ?_))))
 obtain ⟨q1, h2, h3⟩ := z3y h
 refine AW.midT (fun σ' H' => ∃  (G' : GM), (.inr ()) = q1 /\ Ow G' H' (L) /\ GM.le G G') ?_ ?_
 rotate_left
 .rintro σ25 H26 fr27 ⟨G28, rfl, O29, s30⟩
  have h32 := z6d (z9j h3)
  refine .seq (.region (W.q1 (.int .i64 0) rfl (.nil (.ret ?_))))
  obtain rfl := zAa h32
  exact z1y kr (v1 := (.int .i64 0)) (by rfl) (z06 (by rfl) (by exact rfl)) O29 s30 rfl
 refine .block (AW.loop (α := Nat) (fun k' σ' H' => ∃ (y1 : Int) (G' : GM), z1x K p0 k' y1 = some q1 /\ Ow G' H' (L) /\ GM.le G G' /\ σ' 7 = .int .i64 y1) (fun k' => k') K ⟨0, _, h2, O, (zAf _), rfl⟩ ?_)
 rintro k4
 rintro σ6 H7 fr8 ⟨x5, G9, h12, O10, s11, t13⟩
 rcases k4 with _ | k4
 .exact z08 h12
 rw [z1x] at h12
 refine .seq (.region (W.q3 (.bool (decide (x5 < (List.length p0 : Int)))) t13 ((fr8 6 rfl).trans rfl) (.nil (.seq (.cond (b := decide (x5 < (List.length p0 : Int))) rfl rfl (fun g14 => ?_) (fun g14 => ?_))))))
 rotate_left
 .have h24 := z0m g14 h12
  refine .exit ?_
  obtain rfl := zAa h24
  exact ⟨_, rfl, O10, s11⟩
 have h15 := z04 g14 h12
 refine .skip (.seq (.block (.seq (.region ?_))))
 obtain ⟨x16, i17, h18⟩ := z05 h15
 have j19 := z0l i17
 refine W.pure (v := (z3f v0 (Int.toNat x5 * 1))) rfl rfl (z46 el71 sz26 (oo rfl ((fr8 5 rfl).trans rfl)) (oo rfl t13) (z0a (RT.mono _ s11 hp0)) j19.1 j19.2.1) (W.load1 (v := (.int .i64 x16)) (r := []) rfl rfl ag26 (z26 rfl (At.int (At.le (At.le (z2x hp0 j19.2.2) s11 s11) (zAf _) O10.fro))) (W.q1 (.int .i64 x16) rfl (.nil (.seq (.region (W.q2 (.int .i64 x16) rfl ?_))))))
 refine W.q3 (.bool (x16 != 0)) rfl rfl (.nil (.cond (b := (x16 != 0)) rfl rfl (fun g20 => ?_) (fun g20 => ?_)))
 rotate_left
 .have h23 := z0m g20 h18
  refine .skip (.region (W.q3 (.int .i64 (z03 .i64 (x5 + 1))) t13 rfl (W.q2 (.int .i64 (z03 .i64 (x5 + 1))) rfl (.nil ?_))))
  exact ⟨k4, zAg _, ⟨z03 .i64 (x5 + 1), _, h23, O10, s11, rfl⟩⟩
 have h21 := z04 g20 h18
 refine .seq (.region (W.q2 (.int .i64 x16) rfl (W.q1 (.int .i64 x16) rfl (.nil (.ret ?_)))))
 obtain rfl := zAa h21
 have h22 := z0c (z75 h3)
 obtain rfl := zAa h22
 exact z1y kr (v1 := (.int .i64 x16)) (by rfl) (z06 (by rfl) (by exact rfl)) O10 s11 rfl
def z5p (K : Nat) (p0 : List (List zAd)) : Option Int := (if (decide ((List.length p0 : Int) > 0)) = true then ((idx p0 0).bind fun x3 => some (List.length x3 : Int)) else some 0)
theorem za6 (v0 : Value) (p0 : List (List zAd)) (hp0 : (rSl (rSl rS)).rep G [v0] p0) (O : Ow G H (L)) (r : Int) (h : z5p K p0 = some r) :
    CR Tryd.prog 60 [v0] G H (L) (fun v G' _ => v = .int .i64 r) := by
 unfold z5p at h
 refine CR.og (n := 10) (fn := Tryd.f60) (by kernel_rfl) rfl rfl fun R kr => (.seq (.region (W.q1 (.int .i64 0) rfl (.nil (.seq (.seq ?_))))))
 refine .region (W.q2 v0 rfl (W.pure (v := (.int .i64 (List.length p0 : Int))) rfl rfl (z0i (oo rfl rfl) (z0a hp0) (z02 el36)) (W.q3 (.bool (decide ((List.length p0 : Int) > 0))) rfl rfl (.nil (.cond (b := decide ((List.length p0 : Int) > 0)) rfl rfl (fun g1 => ?_) (fun g1 => ?_))))))
 rotate_left
 .have h10 := z0m g1 h
  refine .skip (.seq (.region (W.q1 (.int .i64 0) rfl (.nil (.ret ?_)))))
  obtain rfl := zAa h10
  exact z1y kr (v1 := (.int .i64 0)) (by rfl) (z06 (by rfl) (by exact rfl)) O (zAf _) rfl
 have h2 := z04 g1 h
 refine .seq (.region (W.q2 v0 rfl ?_))
 obtain ⟨x3, i4, h5⟩ := z05 h2
 have j6 := z0l i4
 refine W.pure (v := (z3f v0 (Int.toNat 0 * 1))) rfl rfl (z46 el36 sz23 (oo rfl rfl) (oo rfl rfl) (z0a hp0) j6.1 j6.2.1) ?_
 obtain ⟨w7, p8, f9⟩ := At.sl (z2x hp0 j6.2.2)
 replace p8 := PtG.le p8 O.fro
 refine W.load1 (v := w7) (r := []) rfl rfl ag23 (z26 rfl p8) (W.pure (v := (.int .i64 (List.length x3 : Int))) rfl rfl (z0i (oo rfl rfl) (z0a f9) (z02 el23)) (W.q1 (.int .i64 (List.length x3 : Int)) rfl (.nil (.ret ?_))))
 obtain rfl := zAa h5
 exact z1y kr (v1 := (.int .i64 (List.length x3 : Int))) (by rfl) (z06 (by rfl) (by exact rfl)) O (zAf _) rfl
structure SimplexProblem where
  A : List (List zAd)
  B : List zAd
  C : List zAd
  deriving DecidableEq, Inhabited
def T_SimplexProblem : RT SimplexProblem := rIso (rP (rSl (rSl rS)) (rP (rSl rS) (rSl rS))) (fun s : SimplexProblem => (s.A, s.B, s.C))
theorem z0b : Proj T_SimplexProblem 0 (rSl (rSl rS)) (fun x => x.A) := by
  have h := (Proj.iso (rP (rSl (rSl rS)) (rP (rSl rS) (rSl rS))) (fun s : SimplexProblem => (s.A, s.B, s.C))).comp (Proj.fst _ _)
  exact h
theorem z27 : Proj T_SimplexProblem 1 (rSl rS) (fun x => x.B) := by
  have h := (Proj.iso (rP (rSl (rSl rS)) (rP (rSl rS) (rSl rS))) (fun s : SimplexProblem => (s.A, s.B, s.C))).comp ((Proj.snd _ _).comp (Proj.fst _ _))
  exact h
theorem z1d : Proj T_SimplexProblem 2 (rSl rS) (fun x => x.C) := by
  have h := (Proj.iso (rP (rSl (rSl rS)) (rP (rSl rS) (rSl rS))) (fun s : SimplexProblem => (s.A, s.B, s.C))).comp ((Proj.snd _ _).comp ((Proj.snd _ _).comp (Proj.self _)))
  exact h
def z1s (K : Nat) (p0 : SimplexProblem) : Option Int := (Option.bind ((if (decide ((List.length p0.A : Int) > 40)) = true then some true else some (decide ((List.length p0.C : Int) > 40)))) (tu1 fun x19 => (if x19 = true then some 2 else ((z2c K p0.A).bind fun x41 => ((z2e K p0.B).bind fun x57 => ((z2e K p0.C).bind fun x73 => ((z3l K [x41, x57, x73]).bind fun x92 => (if (x92 != 0) = true then some x92 else (Option.bind ((if ((List.length p0.A : Int) != (List.length p0.B : Int)) = true then some true else (if (decide ((List.length p0.A : Int) > 0)) = true then ((z5p K p0.A).bind fun x135 => some (x135 != (List.length p0.C : Int))) else some false))) (tu1 fun x150 => (if x150 = true then some 3 else some 0)))))))))))
theorem z54 (v0 : List Value) (p0 : SimplexProblem) (hp0 : T_SimplexProblem.rep G v0 p0) (O : Ow G H (L)) (r : Int) (h : z1s K p0 = some r) :
    CR Tryd.prog 22 [.agg (List.toArray v0)] G H (L) (fun v G' _ => v = .int .i64 r) := by
 unfold z1s at h
 refine CR.og (n := 50) (fn := Tryd.f22) (by kernel_rfl) rfl rfl fun R kr => (.seq (.region (W.lo rfl rfl (Lo.box (r := T_SimplexProblem) (x0 := p0) (v := (.agg (List.toArray v0))) rfl rfl hp0 O) ?_)))
 rintro v4 H5 ⟨b2, rfl, O1, sm3⟩
 refine W.q1 (.int .i64 0) rfl (.nil (.seq (.seq ?_)))
 obtain ⟨q6, h7, h8⟩ := z05 h
 refine AW.midT (fun σ' H' => ∃ (y1 : Bool) (G' : GM), y1 = q6 /\ Ow G' H' (eVar b2 43 T_SimplexProblem p0 :: L) /\ GM.le G G' /\ σ' 13 = .bool y1) ?_ ?_
 .refine .region (W.pure (v := (padd (.pointer (some ⟨b2, 0, none⟩)) 0)) rfl rfl (z3d z7s (oo rfl rfl) (O1.atVar (j := 0) rfl)) ?_)
  obtain ⟨w9, p10, f11⟩ := At.sl (At.proj (O1.atVar (j := 0) rfl) z0b)
  refine W.load1 (v := w9) (r := []) rfl rfl ag36 (z26 rfl p10) (W.pure (v := (.int .i64 (List.length p0.A : Int))) rfl rfl (z0i (oo rfl rfl) (z0a f11) (z02 el36)) (W.q3 (.bool (decide ((List.length p0.A : Int) > 40))) rfl rfl (W.q2 (.bool (decide ((List.length p0.A : Int) > 40))) rfl (W.splitAt (t := 8) (b := decide ((List.length p0.A : Int) > 40)) rfl (fun g12 gv13 => ?_) (fun g12 gv13 => ?_)))))
  .have h14 := z04 g12 h7
   refine W.q6 rfl gv13 (W.q6 rfl gv13 (W.q6 rfl gv13 (W.q6 rfl gv13 (W.q4 (.bool true) gv13 rfl (.nil ?_)))))
   obtain rfl := zAa h14
   exact ⟨true, _, rfl, O1, (zAf _), rfl⟩
  have h15 := z0m g12 h7
  refine W.pure (v := (padd (.pointer (some ⟨b2, 0, none⟩)) 2)) (gk rfl rfl gv13 rfl) rfl (z3d zbf (oo rfl rfl) (O1.atVar (j := 0) rfl)) ?_
  obtain ⟨w16, p17, f18⟩ := At.sl (At.proj (O1.atVar (j := 0) rfl) z1d)
  refine W.load1 (v := w16) (r := []) (gk rfl rfl gv13 rfl) rfl ag23 (z26 rfl p17) (W.pure (v := (.int .i64 (List.length p0.C : Int))) (gk rfl rfl gv13 rfl) rfl (z0i (oo rfl rfl) (z0a f18) (z02 el23)) (W.q3 (hg := gk rfl rfl gv13 rfl) (.bool (decide ((List.length p0.C : Int) > 40))) rfl rfl (W.q5 (.bool (decide ((List.length p0.C : Int) > 40))) gv13 rfl (.nil ?_))))
  obtain rfl := zAa h15
  exact ⟨decide ((List.length p0.C : Int) > 40), _, rfl, O1, (zAf _), rfl⟩
 rintro σ20 H21 fr22 ⟨x19, G23, rfl, O24, s25, t27⟩
 have h28 := z0c h8
 refine .cond (b := x19) rfl t27 (fun g29 => ?_) (fun g29 => ?_)
 .have h30 := z04 g29 h28
  refine .seq (.region (W.q1 (.int .i64 2) rfl (.nil (.ret ?_))))
  have O31 : Ow G23 H21 (L) := O24.drop 0
  obtain rfl := zAa h30
  exact z1y kr (v1 := (.int .i64 2)) (by rfl) (z06 (by rfl) (by exact rfl)) O31 s25 rfl
 have h32 := z0m g29 h28
 refine .skip (.seq (.seq (.draw2 (M := [0, 1, 3, 0, 8, 31, 0, 64, 255, 511, 1023, 2047]) mixed (by kernel_rfl) (by kernel_rfl) fun H33 N37 x34 F36 => ?_)))
 have O35 := O24.ext x34
 refine D2.pure (v := (padd (.pointer (some ⟨b2, 0, none⟩)) 0)) rfl rfl (z3d z7s (oo rfl ((fr22 1 rfl).trans rfl)) (O35.atVar (j := 0) rfl)) ?_
 obtain ⟨w38, p39, f40⟩ := At.sl (At.proj (O35.atVar (j := 0) rfl) z0b)
 refine D2.load1' (v := w38) (r := []) rfl rfl ag36 (z26 rfl p39) z1k ?_
 obtain ⟨x41, i42, h43⟩ := z05 h32
 refine D2.loN rfl rfl (Lo.cP rfl (fn := Tryd.f19) (by kernel_rfl) rfl (mc rfl mn) O35 (fun L' O' => z64 K w38 p0.A f40 O' _ i42)) ?_ z1k ?_ ?_
 .rintro v50 H51 ⟨G44, O45, s46, sm49, rfl⟩; exact (faR1 (.inl (by decide)) z1k)
 .rintro v50 H51 ⟨G44, O45, s46, sm49, rfl⟩; exact z1k
 rintro v50 H51 ⟨G44, O45, s46, sm49, rfl⟩ nx52
 have F53 := Free.nx F36 nx52
 refine D2.pure (v := (padd (.pointer (some ⟨b2, 0, none⟩)) 1)) rfl rfl (z3d zee (oo rfl ((fr22 1 rfl).trans rfl)) (O45.atVar (j := 0) rfl)) ?_
 obtain ⟨w54, p55, f56⟩ := At.sl (At.proj (O45.atVar (j := 0) rfl) z27)
 refine D2.load1' (v := w54) (r := []) rfl rfl ag23 (z26 rfl p55) (zcn (sm49 _ (Or.inr ⟨0, _, rfl, List.mem_singleton.2 rfl⟩)) z1k) ?_
 obtain ⟨x57, i58, h59⟩ := z05 h43
 refine D2.loN rfl rfl (Lo.cP rfl (fn := Tryd.f9) (by kernel_rfl) rfl (mc rfl mn) O45 (fun L' O' => z44 K w54 p0.B f56 O' _ i58)) ?_ (z83 (by decide) z1k) ?_ ?_
 .rintro v66 H67 ⟨G60, O61, s62, sm65, rfl⟩; exact (faR1 (.inl (by decide)) (faR1 (.inl (by decide)) z1k))
 .rintro v66 H67 ⟨G60, O61, s62, sm65, rfl⟩; exact z1k
 rintro v66 H67 ⟨G60, O61, s62, sm65, rfl⟩ nx68
 have F69 := Free.nx F53 nx68
 refine D2.pure (v := (padd (.pointer (some ⟨b2, 0, none⟩)) 2)) rfl rfl (z3d zbf (oo rfl ((fr22 1 rfl).trans rfl)) (O61.atVar (j := 0) rfl)) ?_
 obtain ⟨w70, p71, f72⟩ := At.sl (At.proj (O61.atVar (j := 0) rfl) z1d)
 refine D2.load1' (v := w70) (r := []) rfl rfl ag23 (z26 rfl p71) (zcn (sm65 _ (Or.inr ⟨0, _, rfl, List.mem_singleton.2 rfl⟩)) (zcn (sm49 _ (Or.inr ⟨0, _, rfl, List.mem_singleton.2 rfl⟩)) z1k)) ?_
 obtain ⟨x73, i74, h75⟩ := z05 h59
 refine D2.loN rfl rfl (Lo.cP rfl (fn := Tryd.f9) (by kernel_rfl) rfl (mc rfl mn) O61 (fun L' O' => z44 K w70 p0.C f72 O' _ i74)) ?_ (z83 (by decide) (z83 (by decide) z1k)) ?_ ?_
 .rintro v82 H83 ⟨G76, O77, s78, sm81, rfl⟩; exact (faR1 (.inl (by decide)) (faR1 (.inl (by decide)) (faR1 (.inl (by decide)) z1k)))
 .rintro v82 H83 ⟨G76, O77, s78, sm81, rfl⟩; exact z1k
 rintro v82 H83 ⟨G76, O77, s78, sm81, rfl⟩ nx84
 have F85 := Free.nx F69 nx84
 refine D2.alloc (m := 12) rfl rfl (Al.buildSlice (r := (rI .i64)) (vs := [(.int .i64 x41), (.int .i64 x57), (.int .i64 x73)]) (xs := [x41, x57, x73]) el71 ze26 sz26 (by kernel_rfl) rfl (qc rfl (qc rfl (qc rfl qn))) rfl (.cons rfl (.cons rfl (.cons rfl .nil)))) (Free.up (by decide) F85) (by decide) O77 ?_
 rintro b87 H88 ⟨O89, sm90, F91⟩
 obtain ⟨x92, i93, h94⟩ := z05 h75
 refine D2.lo rfl rfl (Lo.callB (j := 0) rfl rfl (fn := Tryd.f8) (by kernel_rfl) rfl (mc rfl mn) O89 (fun G' L' hG O' hB => z8x K (.slice (some ⟨b87, 0, some 0⟩) 3 3) [x41, x57, x73] hB O' _ i93)) ?_ (z83 (by decide) (z83 (by decide) (z83 (by decide) z1k))) ?_ ?_
 .rintro v101 H102 ⟨G95, O96, s97, sm100, rfl⟩; exact (faR1 (.inl (by decide)) (faR1 (.inl (by decide)) (faR1 (.inl (by decide)) z1k)))
 .rintro v101 H102 ⟨G95, O96, s97, sm100, rfl⟩; exact (faR1 (.inl (by decide)) z1k)
 rintro v101 H102 ⟨G95, O96, s97, sm100, rfl⟩
 refine D2.q1 (.int .i64 x92) rfl (.nil (.seq (.region (W.q2 (.int .i64 x92) rfl (W.q3 (.bool (x92 != 0)) rfl rfl (.nil ?_))))))
 refine .cond (b := (x92 != 0)) rfl rfl (fun g103 => ?_) (fun g103 => ?_)
 .have h104 := z04 g103 h94
  refine .seq (.region (W.q2 (.int .i64 x92) rfl (W.q1 (.int .i64 x92) rfl (.nil (.ret ?_)))))
  have O105 : Ow G95 H102 (eVar b2 43 T_SimplexProblem p0 :: L) := O96.drop 0
  have O106 : Ow G95 H102 (L) := O105.drop 0
  obtain rfl := zAa h104
  exact z1y kr (v1 := (.int .i64 x92)) (by rfl) (z06 (by rfl) (by exact rfl)) O106 (zAe s25 (zAe s46 (zAe s62 (zAe s78 s97)))) rfl
 have h107 := z0m g103 h94
 refine .skip (.seq (.seq ?_))
 obtain ⟨q108, h109, h110⟩ := z05 h107
 refine AW.midT (fun σ' H' => ∃ (y1 : Bool) (G' : GM), y1 = q108 /\ Ow G' H' (eSl (.slice (some ⟨b87, 0, some 0⟩) 3 3) 26 (rI .i64) [x41, x57, x73] :: eVar b2 43 T_SimplexProblem p0 :: L) /\ GM.le G95 G' /\ σ' 49 = .bool y1) ?_ ?_
 rotate_left
 .rintro σ151 H152 fr153 ⟨x150, G154, rfl, O155, s156, t158⟩
  have h159 := z0c h110
  refine .cond (b := x150) rfl t158 (fun g160 => ?_) (fun g160 => ?_)
  .have h161 := z04 g160 h159
   refine .seq (.region (W.q1 (.int .i64 3) rfl (.nil (.ret ?_))))
   have O162 : Ow G154 H152 (eVar b2 43 T_SimplexProblem p0 :: L) := O155.drop 0
   have O163 : Ow G154 H152 (L) := O162.drop 0
   obtain rfl := zAa h161
   exact z1y kr (v1 := (.int .i64 3)) (by rfl) (z06 (by rfl) (by exact rfl)) O163 (zAe s25 (zAe s46 (zAe s62 (zAe s78 (zAe s97 s156))))) rfl
  have h164 := z0m g160 h159
  refine .skip (.seq (.region (W.q1 (.int .i64 0) rfl (.nil (.ret ?_)))))
  have O165 : Ow G154 H152 (eVar b2 43 T_SimplexProblem p0 :: L) := O155.drop 0
  have O166 : Ow G154 H152 (L) := O165.drop 0
  obtain rfl := zAa h164
  exact z1y kr (v1 := (.int .i64 0)) (by rfl) (z06 (by rfl) (by exact rfl)) O166 (zAe s25 (zAe s46 (zAe s62 (zAe s78 (zAe s97 s156))))) rfl
 refine .draw2 (M := [0, 1, 3, 0, 8, 24, 63, 127, 255, 511, 1023, 2047, 4095, 8191, 16383, 32767, 8191, 73727, 204799, 524287, 1048575, 2097151]) mixed (by kernel_rfl) (by kernel_rfl) fun H111 N115 x112 F114 => ?_
 have O113 := O96.ext x112
 refine D2.pure (v := (padd (.pointer (some ⟨b2, 0, none⟩)) 0)) rfl rfl (z3d z7s (oo rfl ((fr22 1 rfl).trans rfl)) (O113.atVar (j := 1) rfl)) ?_
 obtain ⟨w116, p117, f118⟩ := At.sl (At.proj (O113.atVar (j := 1) rfl) z0b)
 refine D2.load1' (v := w116) (r := []) rfl rfl ag36 (z26 rfl p117) z1k (D2.pure (v := (.int .i64 (List.length p0.A : Int))) rfl rfl (z0i (oo rfl rfl) (z0a f118) (z02 el36)) (D2.pure (v := (padd (.pointer (some ⟨b2, 0, none⟩)) 1)) rfl rfl (z3d zee (oo rfl ((fr22 1 rfl).trans rfl)) (O113.atVar (j := 1) rfl)) ?_))
 obtain ⟨w119, p120, f121⟩ := At.sl (At.proj (O113.atVar (j := 1) rfl) z27)
 refine D2.load1' (v := w119) (r := []) rfl rfl ag23 (z26 rfl p120) z1k (D2.pure (v := (.int .i64 (List.length p0.B : Int))) rfl rfl (z0i (oo rfl rfl) (z0a f121) (z02 el23)) (D2.q3 (.bool ((List.length p0.A : Int) != (List.length p0.B : Int))) rfl rfl (D2.q2 (.bool ((List.length p0.A : Int) != (List.length p0.B : Int))) rfl (D2.splitAt (t := 35) (b := ((List.length p0.A : Int) != (List.length p0.B : Int))) rfl (fun g122 gv123 => ?_) (fun g122 gv123 => ?_)))))
 .have h124 := z04 g122 h109
  refine D2.skip (gk rfl rfl gv123 rfl) rfl (D2.skip (gk rfl rfl gv123 rfl) rfl (D2.skip (gk rfl rfl gv123 rfl) rfl (D2.skip (gk rfl rfl gv123 rfl) rfl (D2.skip (gk rfl rfl gv123 rfl) rfl (D2.skipU rfl rfl rfl rfl (D2.skipU rfl rfl rfl rfl ?_))))))
  refine D2.skipU rfl rfl rfl rfl (D2.skipU rfl rfl rfl rfl (D2.skipU rfl rfl rfl rfl (D2.skipU rfl rfl rfl rfl (D2.skipU rfl rfl rfl rfl (D2.skip (gk rfl rfl gv123 rfl) rfl (D2.pure (v := (.bool true)) rfl rfl (z84 (oo rfl gv123) (oo rfl rfl)) ?_))))))
  refine .nil ?_
  obtain rfl := zAa h124
  exact ⟨true, _, rfl, O113, (zAf _), rfl⟩
 have h125 := z0m g122 h109
 refine D2.pure (v := (padd (.pointer (some ⟨b2, 0, none⟩)) 0)) (gk rfl rfl gv123 rfl) rfl (z3d z7s (oo rfl ((fr22 1 rfl).trans rfl)) (O113.atVar (j := 1) rfl)) ?_
 obtain ⟨w126, p127, f128⟩ := At.sl (At.proj (O113.atVar (j := 1) rfl) z0b)
 refine D2.load1' (v := w126) (r := []) (gk rfl rfl gv123 rfl) rfl ag36 (z26 rfl p127) z1k (D2.pure (v := (.int .i64 (List.length p0.A : Int))) (gk rfl rfl gv123 rfl) rfl (z0i (oo rfl rfl) (z0a f128) (z02 el36)) (D2.q3 (hg := gk rfl rfl gv123 rfl) (.bool (decide ((List.length p0.A : Int) > 0))) rfl rfl (D2.q2 (hg := gk rfl rfl gv123 rfl) (.bool (decide ((List.length p0.A : Int) > 0))) rfl (D2.splitAt (t := 40) (b := decide ((List.length p0.A : Int) > 0)) rfl (fun g129 gv130 => ?_) (fun g129 gv130 => ?_)))))
 rotate_left
 .have h149 := z0m g129 h125
  refine D2.skip (gk rfl rfl gv130 rfl) rfl (D2.skip (gk rfl rfl gv130 rfl) rfl (D2.skip (gk rfl rfl gv130 rfl) rfl (D2.skip (gk rfl rfl gv130 rfl) rfl (D2.skip (gk rfl rfl gv130 rfl) rfl (D2.skip (gk rfl rfl gv130 rfl) rfl (D2.skip (gk rfl rfl gv130 rfl) rfl ?_))))))
  refine D2.pure (v := (.bool false)) (gk rfl rfl gv123 rfl) rfl (z6c (oo rfl gv130) (oo rfl rfl)) (D2.pure (v := (.bool false)) rfl rfl (z6c (oo rfl gv123) (oo rfl rfl)) (.nil ?_))
  obtain rfl := zAa h149
  exact ⟨false, _, rfl, O113, (zAf _), rfl⟩
 have h131 := z04 g129 h125
 refine D2.pure (v := (padd (.pointer (some ⟨b2, 0, none⟩)) 0)) (gk rfl rfl gv130 rfl) rfl (z3d z7s (oo rfl ((fr22 1 rfl).trans rfl)) (O113.atVar (j := 1) rfl)) ?_
 obtain ⟨w132, p133, f134⟩ := At.sl (At.proj (O113.atVar (j := 1) rfl) z0b)
 refine D2.load1' (v := w132) (r := []) (gk rfl rfl gv130 rfl) rfl ag36 (z26 rfl p133) z1k ?_
 obtain ⟨x135, i136, h137⟩ := z05 h131
 refine D2.lo (gk rfl rfl gv130 rfl) rfl (Lo.cP rfl (fn := Tryd.f60) (by kernel_rfl) rfl (mc rfl mn) O113 (fun L' O' => za6 K w132 p0.A f134 O' _ i136)) ?_ z1k ?_ ?_
 .rintro v144 H145 ⟨G138, O139, s140, sm143, rfl⟩; exact (faR1 (.inl (by decide)) (faR1 (.inl (by decide)) (faR1 (.inl (by decide)) (faR1 (.inl (by decide)) z1k))))
 .rintro v144 H145 ⟨G138, O139, s140, sm143, rfl⟩; exact z1k
 rintro v144 H145 ⟨G138, O139, s140, sm143, rfl⟩
 refine D2.pure (v := (padd (.pointer (some ⟨b2, 0, none⟩)) 2)) (gk rfl rfl gv130 rfl) rfl (z3d zbf (oo rfl ((fr22 1 rfl).trans rfl)) (O139.atVar (j := 1) rfl)) ?_
 obtain ⟨w146, p147, f148⟩ := At.sl (At.proj (O139.atVar (j := 1) rfl) z1d)
 refine D2.load1' (v := w146) (r := []) (gk rfl rfl gv130 rfl) rfl ag23 (z26 rfl p147) (zcn (sm143 _ (Or.inr ⟨1, _, rfl, List.mem_singleton.2 rfl⟩)) z1k) (D2.pure (v := (.int .i64 (List.length p0.C : Int))) (gk rfl rfl gv130 rfl) rfl (z0i (oo rfl rfl) (z0a f148) (z02 el23)) (D2.q3 (hg := gk rfl rfl gv130 rfl) (.bool (x135 != (List.length p0.C : Int))) rfl rfl (D2.pure (v := (.bool (x135 != (List.length p0.C : Int)))) (gk rfl rfl gv123 rfl) rfl (z84 (oo rfl gv130) (oo rfl rfl)) (D2.pure (v := (.bool (x135 != (List.length p0.C : Int)))) rfl rfl (z6c (oo rfl gv123) (oo rfl rfl)) (.nil ?_)))))
 obtain rfl := zAa h137
 exact ⟨(x135 != (List.length p0.C : Int)), _, rfl, O139, s140, rfl⟩
def z0f (K : Nat) (p0 : zAd) (p1 : zAd) : Option Bool := (Option.bind ((if (decide ((p0.size : Int) >= (p1.size : Int))) = true then ((ssl p0 0 (p1.size : Int)).bind fun x7 => some (sEq x7 p1)) else some false)) (tu1 fun x11 => some x11))
theorem z2o (p0 : zAd) (p1 : zAd) (O : Ow G H (L)) (r : Bool) (h : z0f K p0 p1 = some r) :
    CR Tryd.prog 130 [(.string p0), (.string p1)] G H (L) (fun v G' _ => v = .bool r) := by
 unfold z0f at h
 refine CR.og (n := 18) (fn := Tryd.f130) (by kernel_rfl) rfl rfl fun R kr => (.seq (.region (W.q1 (.bool false) rfl (.nil (.seq ?_)))))
 obtain ⟨q1, h2, h3⟩ := z05 h
 refine AW.midT (fun σ' H' => ∃ (y1 : Bool) (G' : GM), y1 = q1 /\ Ow G' H' (L) /\ GM.le G G' /\ σ' 4 = .bool y1) ?_ ?_
 rotate_left
 .rintro σ12 H13 fr14 ⟨x11, G15, rfl, O16, s17, t19⟩
  have h20 := z0c h3
  refine .ret ?_
  obtain rfl := zAa h20
  exact z1y kr (v1 := (.bool x11)) (by rfl) (z06 (by rfl) (by exact t19)) O16 s17 rfl
 refine .region (W.q2 (.string p0) rfl (W.pure (v := (.int .i64 (p0.size : Int))) rfl rfl (z1q (oo rfl rfl) un9) (W.q2 (.string p1) rfl (W.pure (v := (.int .i64 (p1.size : Int))) rfl rfl (z1q (oo rfl rfl) un9) (W.q3 (.bool (decide ((p0.size : Int) >= (p1.size : Int)))) rfl rfl (W.q2 (.bool (decide ((p0.size : Int) >= (p1.size : Int)))) rfl ?_))))))
 refine W.splitAt (t := 10) (b := decide ((p0.size : Int) >= (p1.size : Int))) rfl (fun g4 gv5 => ?_) (fun g4 gv5 => ?_)
 rotate_left
 .have h10 := z0m g4 h2
  refine W.q6 rfl gv5 (W.q6 rfl gv5 (W.q6 rfl gv5 (W.q6 rfl gv5 (W.q6 rfl gv5 (W.q6 rfl gv5 (W.q5 (.bool false) gv5 rfl ?_))))))
  refine W.q1 (.bool false) rfl (.nil ?_)
  obtain rfl := zAa h10
  exact ⟨false, _, rfl, O, (zAf _), rfl⟩
 have h6 := z04 g4 h2
 refine W.q2 (hg := gk rfl rfl gv5 rfl) (.string p0) rfl (W.q2 (hg := gk rfl rfl gv5 rfl) (.string p1) rfl (W.pure (v := (.int .i64 (p1.size : Int))) (gk rfl rfl gv5 rfl) rfl (z1q (oo rfl rfl) un9) ?_))
 obtain ⟨x7, i8, h9⟩ := z05 h6
 refine W.pure (v := (.string x7)) (gk rfl rfl gv5 rfl) rfl (zed un9 (oo rfl rfl) (oo rfl rfl) i8) (W.q2 (hg := gk rfl rfl gv5 rfl) (.string p1) rfl (W.pure (v := (.bool (sEq x7 p1))) (gk rfl rfl gv5 rfl) rfl (z7r (oo rfl rfl) (oo rfl rfl)) (W.q4 (.bool (sEq x7 p1)) gv5 rfl (W.q1 (.bool (sEq x7 p1)) rfl (.nil ?_)))))
 obtain rfl := zAa h9
 exact ⟨sEq x7 p1, _, rfl, O, (zAf _), rfl⟩
def z0g (K : Nat) (p0 : zAd) (p1 : zAd) : Option (zAd × Bool) := ((z0f K p0 p1).bind fun x1 => (if (!x1) = true then some (p0, false) else ((ssl p0 (p1.size : Int) (p0.size : Int)).bind fun x15 => some (x15, true))))
theorem z2p (p0 : zAd) (p1 : zAd) (O : Ow G H (L)) (r : zAd × Bool) (h : z0g K p0 p1 = some r) :
    CR Tryd.prog 120 [(.string p0), (.string p1)] G H (L) (fun v G' _ => v = .tuple #[.string r.1, .bool r.2]) := by
 unfold z0g at h
 refine CR.og (n := 15) (fn := Tryd.f120) (by kernel_rfl) rfl rfl fun R kr => (.seq (.region (W.q1 (.string (⟨#[]⟩ : zAd)) rfl (W.q1 (.bool false) rfl (.nil (.seq ?_))))))
 refine .seq (.region (W.q2 (.string p0) rfl (W.q2 (.string p1) rfl ?_)))
 obtain ⟨x1, i2, h3⟩ := z05 h
 refine W.lo rfl rfl (Lo.cP rfl (fn := Tryd.f130) (by kernel_rfl) rfl (mc rfl (mc rfl mn)) O (fun L' O' => z2o K p0 p1 O' _ i2)) ?_
 rintro v10 H11 ⟨G4, O5, s6, sm9, rfl⟩
 refine W.pure (v := (.bool (!x1))) rfl rfl (zcl (a := x1) (oo rfl rfl)) (.nil (.cond (b := (!x1)) rfl rfl (fun g12 => ?_) (fun g12 => ?_)))
 .have h13 := z04 g12 h3
  refine .seq (.region (W.q2 (.string p0) rfl (W.q1 (.string p0) rfl (W.q1 (.bool false) rfl (.nil (.ret ?_))))))
  obtain rfl := zAa h13
  exact zeh kr (v1 := (.string p0)) (v2 := (.bool false)) (by rfl) (z06 (by rfl) (by exact rfl)) (z06 (by rfl) (by exact rfl)) O5 s6 rfl
 have h14 := z0m g12 h3
 refine .skip (.seq (.region (W.q2 (.string p0) rfl (W.q2 (.string p1) rfl (W.pure (v := (.int .i64 (p1.size : Int))) rfl rfl (z1q (oo rfl rfl) un9) ?_)))))
 obtain ⟨x15, i16, h17⟩ := z05 h14
 refine W.pure (v := (.string x15)) rfl rfl (zcz un9 (oo rfl rfl) (oo rfl rfl) i16) (W.q1 (.string x15) rfl (W.q1 (.bool true) rfl (.nil (.ret ?_))))
 obtain rfl := zAa h17
 exact zeh kr (v1 := (.string x15)) (v2 := (.bool true)) (by rfl) (z06 (by rfl) (by exact rfl)) (z06 (by rfl) (by exact rfl)) O5 s6 rfl
def z15 (K : Nat) (p0 : zAd) (p1 : zAd) : Option (zAd × Bool) := ((z0g K p0 p1).bind fun x1 => some (x1.1, x1.2))
theorem z4t (p0 : zAd) (p1 : zAd) (O : Ow G H (L)) (r : zAd × Bool) (h : z15 K p0 p1 = some r) :
    CR Tryd.prog 94 [(.string p0), (.string p1)] G H (L) (fun v G' _ => v = .tuple #[.string r.1, .bool r.2]) := by
 unfold z15 at h
 refine CR.og (n := 11) (fn := Tryd.f94) (by kernel_rfl) rfl rfl fun R kr => (.seq (.region (W.q1 (.string (⟨#[]⟩ : zAd)) rfl (W.q1 (.bool false) rfl (.nil (.seq ?_))))))
 refine .region (W.q2 (.string p0) rfl (W.q2 (.string p1) rfl ?_))
 obtain ⟨x1, i2, h3⟩ := z05 h
 refine W.lo rfl rfl (Lo.cP rfl (fn := Tryd.f120) (by kernel_rfl) rfl (mc rfl (mc rfl mn)) O (fun L' O' => z2p K p0 p1 O' _ i2)) ?_
 rintro v10 H11 ⟨G4, O5, s6, sm9, rfl⟩
 refine W.pure (v := (.string x1.1)) rfl rfl (z14 (oo rfl rfl) rfl) (W.pure (v := (.bool x1.2)) rfl rfl (z14 (oo rfl rfl) rfl) (W.q1 (.string x1.1) rfl (W.q1 (.bool x1.2) rfl (.nil (.ret ?_)))))
 obtain rfl := zAa h3
 exact zeh kr (v1 := (.string x1.1)) (v2 := (.bool x1.2)) (by rfl) (z06 (by rfl) (by exact rfl)) (z06 (by rfl) (by exact rfl)) O5 s6 rfl
def z0e (K : Nat) (p0 : zAd) (p1 : zAd) : Option Int := (Option.bind ((if ((p1.size : Int) == 0) = true then some true else some (sEq p1 p0))) (tu1 fun x8 => (if x8 = true then some 0 else (if ((p1.size : Int) == 1) = true then ((bidx p1 0).bind fun x23 => ((z0w K p0 x23).bind fun x26 => some x26)) else (if (decide ((p1.size : Int) >= (p0.size : Int))) = true then some (-1) else none)))))
theorem z39 (p0 : zAd) (p1 : zAd) (O : Ow G H (L)) (r : Int) (h : z0e K p0 p1 = some r) :
    CR Tryd.prog 131 [(.string p0), (.string p1)] G H (L) (fun v G' _ => v = .int .i64 r) := by
 unfold z0e at h
 refine CR.og (n := 143) (fn := Tryd.f131) (by kernel_rfl) rfl rfl fun R kr => (.seq (.region (W.q1 (.int .i64 0) rfl (.nil (.seq (.region ?_))))))
 refine W.q2 (.string p1) rfl (W.pure (v := (.int .i64 (p1.size : Int))) rfl rfl (z1q (oo rfl rfl) un9) (W.q1 (.int .i64 (p1.size : Int)) rfl (.nil (.seq (.block (.seq ?_))))))
 obtain ⟨q1, h2, h3⟩ := z05 h
 refine AW.midT (fun σ' H' => ∃ (y1 : Bool) (G' : GM), y1 = q1 /\ Ow G' H' (L) /\ GM.le G G' /\ σ' 16 = .bool y1) ?_ ?_
 .refine .region (W.q2 (.int .i64 (p1.size : Int)) rfl (W.q3 (.bool ((p1.size : Int) == 0)) rfl rfl (W.q2 (.bool ((p1.size : Int) == 0)) rfl (W.splitAt (t := 19) (b := ((p1.size : Int) == 0)) rfl (fun g4 gv5 => ?_) (fun g4 gv5 => ?_)))))
  .have h6 := z04 g4 h2
   refine W.q6 rfl gv5 (W.q6 rfl gv5 (W.q6 rfl gv5 (W.q4 (.bool true) gv5 rfl (W.q1 (.bool true) rfl (.nil ?_)))))
   obtain rfl := zAa h6
   exact ⟨true, _, rfl, O, (zAf _), rfl⟩
  have h7 := z0m g4 h2
  refine W.q2 (hg := gk rfl rfl gv5 rfl) (.string p1) rfl (W.q2 (hg := gk rfl rfl gv5 rfl) (.string p0) rfl (W.pure (v := (.bool (sEq p1 p0))) (gk rfl rfl gv5 rfl) rfl (z7r (oo rfl rfl) (oo rfl rfl)) (W.q5 (.bool (sEq p1 p0)) gv5 rfl (W.q1 (.bool (sEq p1 p0)) rfl (.nil ?_)))))
  obtain rfl := zAa h7
  exact ⟨sEq p1 p0, _, rfl, O, (zAf _), rfl⟩
 rintro σ9 H10 fr11 ⟨x8, G12, rfl, O13, s14, t16⟩
 have h17 := z0c h3
 refine .cond (b := x8) rfl t16 (fun g18 => ?_) (fun g18 => ?_)
 .have h19 := z04 g18 h17
  refine .seq (.region (W.q1 (.int .i64 0) rfl (.nil (.ret ?_))))
  obtain rfl := zAa h19
  exact z1y kr (v1 := (.int .i64 0)) (by rfl) (z06 (by rfl) (by exact rfl)) O13 s14 rfl
 have h20 := z0m g18 h17
 refine .seq (.region (W.q2 (.int .i64 (p1.size : Int)) ((fr11 5 rfl).trans rfl) (W.q3 (.bool ((p1.size : Int) == 1)) rfl rfl (W.q1 (.bool ((p1.size : Int) == 1)) rfl (.nil (.cond (b := ((p1.size : Int) == 1)) rfl rfl (fun g21 => ?_) (fun g21 => ?_)))))))
 .have h22 := z04 g21 h20
  refine .seq (.region (W.q2 (.string p0) ((fr11 0 rfl).trans rfl) (W.q2 (.string p1) ((fr11 1 rfl).trans rfl) ?_)))
  obtain ⟨x23, i24, h25⟩ := z05 h22
  refine W.pure (v := (.int .u8 x23)) rfl rfl (z8v un9 (oo rfl rfl) (oo rfl rfl) i24) ?_
  obtain ⟨x26, i27, h28⟩ := z05 h25
  refine W.lo rfl rfl (Lo.cP rfl (fn := Tryd.f135) (by kernel_rfl) rfl (mc rfl (mc rfl mn)) O13 (fun L' O' => z2n K p0 x23 O' _ i27)) ?_
  rintro v35 H36 ⟨G29, O30, s31, sm34, rfl⟩
  refine W.q1 (.int .i64 x26) rfl (.nil (.ret ?_))
  obtain rfl := zAa h28
  exact z1y kr (v1 := (.int .i64 x26)) (by rfl) (z06 (by rfl) (by exact rfl)) O30 (zAe s14 s31) rfl
 have h37 := z0m g21 h20
 refine .seq (.region (W.q2 (.int .i64 (p1.size : Int)) ((fr11 5 rfl).trans rfl) (W.q2 (.string p0) ((fr11 0 rfl).trans rfl) (W.pure (v := (.int .i64 (p0.size : Int))) rfl rfl (z1q (oo rfl rfl) un9) (W.q3 (.bool (decide ((p1.size : Int) >= (p0.size : Int)))) rfl rfl (W.q1 (.bool (decide ((p1.size : Int) >= (p0.size : Int)))) rfl ?_))))))
 refine .nil (.cond (b := decide ((p1.size : Int) >= (p0.size : Int))) rfl rfl (fun g38 => ?_) (fun g38 => ?_))
 rotate_left
 .have h40 := z0m g38 h37
  refine .seq (.region (W.q2 (.int .i64 (p1.size : Int)) ((fr11 5 rfl).trans rfl) ?_))
  exact gap h40
 have h39 := z04 g38 h37
 refine .seq (.region (W.q1 (.int .i64 (-1)) rfl (.nil (.ret ?_))))
 obtain rfl := zAa h39
 exact z1y kr (v1 := (.int .i64 (-1))) (by rfl) (z06 (by rfl) (by exact rfl)) O13 s14 rfl
def z10 (K : Nat) (p0 : zAd) (p1 : zAd) : Option (zAd × zAd × Bool) := ((z0e K p0 p1).bind fun x1 => (if (decide (x1 >= 0)) = true then ((ssl p0 0 x1).bind fun x19 => ((ssl p0 (z03 .i64 (x1 + (p1.size : Int))) (p0.size : Int)).bind fun x22 => some (x19, x22, true))) else some (p0, (⟨#[]⟩ : zAd), false)))
theorem z3h (p0 : zAd) (p1 : zAd) (O : Ow G H (L)) (r : zAd × zAd × Bool) (h : z10 K p0 p1 = some r) :
    CR Tryd.prog 121 [(.string p0), (.string p1)] G H (L) (fun v G' _ => v = .tuple #[.string r.1, .string r.2.1, .bool r.2.2]) := by
 unfold z10 at h
 refine CR.og (n := 23) (fn := Tryd.f121) (by kernel_rfl) rfl rfl fun R kr => (.seq (.region (W.q1 (.string (⟨#[]⟩ : zAd)) rfl (W.q1 (.string (⟨#[]⟩ : zAd)) rfl (W.q1 (.bool false) rfl (.nil ?_))))))
 refine .seq (.seq (.region (W.q2 (.string p0) rfl (W.q2 (.string p1) rfl ?_))))
 obtain ⟨x1, i2, h3⟩ := z05 h
 refine W.lo rfl rfl (Lo.cP rfl (fn := Tryd.f131) (by kernel_rfl) rfl (mc rfl (mc rfl mn)) O (fun L' O' => z39 K p0 p1 O' _ i2)) ?_
 rintro v10 H11 ⟨G4, O5, s6, sm9, rfl⟩
 refine W.q1 (.int .i64 x1) rfl (.nil (.seq (.region (W.q2 (.int .i64 x1) rfl (W.q3 (.bool (decide (x1 >= 0))) rfl rfl (.nil ?_))))))
 refine .cond (b := decide (x1 >= 0)) rfl rfl (fun g12 => ?_) (fun g12 => ?_)
 rotate_left
 .have h25 := z0m g12 h3
  refine .skip (.seq (.region (W.q2 (.string p0) rfl (W.q1 (.string p0) rfl (W.q1 (.string (⟨#[]⟩ : zAd)) rfl (W.q1 (.bool false) rfl ?_))))))
  refine .nil (.ret ?_)
  obtain rfl := zAa h25
  exact zif kr (v1 := (.string p0)) (v2 := (.string (⟨#[]⟩ : zAd))) (v3 := (.bool false)) (by rfl) (z06 (by rfl) (by exact rfl)) (z06 (by rfl) (by exact rfl)) (z06 (by rfl) (by exact rfl)) O5 s6 rfl
 have h13 := z04 g12 h3
 refine .seq (.draw2 (M := [0, 0, 3, 0, 0, 0, 32, 112, 248, 7, 1023, 2047]) mixed (by kernel_rfl) (by kernel_rfl) fun H14 N18 x15 F17 => ?_)
 have O16 := O5.ext x15
 refine D2.q2 (.string p0) rfl (D2.q2 (.int .i64 x1) rfl ?_)
 obtain ⟨x19, i20, h21⟩ := z05 h13
 refine D2.pure (v := (.string x19)) rfl rfl (zed un9 (oo rfl rfl) (oo rfl rfl) i20) (D2.q2 (.string p0) rfl (D2.q2 (.int .i64 x1) rfl (D2.q2 (.string p1) rfl (D2.pure (v := (.int .i64 (p1.size : Int))) rfl rfl (z1q (oo rfl rfl) un9) (D2.q3 (.int .i64 (z03 .i64 (x1 + (p1.size : Int)))) rfl rfl ?_)))))
 obtain ⟨x22, i23, h24⟩ := z05 h21
 refine D2.pure (v := (.string x22)) rfl rfl (zcz un9 (oo rfl rfl) (oo rfl rfl) i23) (D2.q1 (.string x19) rfl (D2.q1 (.string x22) rfl (D2.q1 (.bool true) rfl (.nil (.ret ?_)))))
 obtain rfl := zAa h24
 exact zif kr (v1 := (.string x19)) (v2 := (.string x22)) (v3 := (.bool true)) (by rfl) (z06 (by rfl) (by exact rfl)) (z06 (by rfl) (by exact rfl)) (z06 (by rfl) (by exact rfl)) O16 s6 rfl
def z2j (K : Nat) (p0 : zAd) (p1 : zAd) : Option (zAd × zAd × Bool) := ((z10 K p0 p1).bind fun x1 => some (x1.1, x1.2.1, x1.2.2))
theorem z7a (p0 : zAd) (p1 : zAd) (O : Ow G H (L)) (r : zAd × zAd × Bool) (h : z2j K p0 p1 = some r) :
    CR Tryd.prog 95 [(.string p0), (.string p1)] G H (L) (fun v G' _ => v = .tuple #[.string r.1, .string r.2.1, .bool r.2.2]) := by
 unfold z2j at h
 refine CR.og (n := 13) (fn := Tryd.f95) (by kernel_rfl) rfl rfl fun R kr => (.seq (.region (W.q1 (.string (⟨#[]⟩ : zAd)) rfl (W.q1 (.string (⟨#[]⟩ : zAd)) rfl (W.q1 (.bool false) rfl (.nil ?_))))))
 refine .seq (.region (W.q2 (.string p0) rfl (W.q2 (.string p1) rfl ?_)))
 obtain ⟨x1, i2, h3⟩ := z05 h
 refine W.lo rfl rfl (Lo.cP rfl (fn := Tryd.f121) (by kernel_rfl) rfl (mc rfl (mc rfl mn)) O (fun L' O' => z3h K p0 p1 O' _ i2)) ?_
 rintro v10 H11 ⟨G4, O5, s6, sm9, rfl⟩
 refine W.pure (v := (.string x1.1)) rfl rfl (z14 (oo rfl rfl) rfl) (W.pure (v := (.string x1.2.1)) rfl rfl (z14 (oo rfl rfl) rfl) (W.pure (v := (.bool x1.2.2)) rfl rfl (z14 (oo rfl rfl) rfl) (W.q1 (.string x1.1) rfl (W.q1 (.string x1.2.1) rfl (W.q1 (.bool x1.2.2) rfl (.nil ?_))))))
 refine .ret ?_
 obtain rfl := zAa h3
 exact zif kr (v1 := (.string x1.1)) (v2 := (.string x1.2.1)) (v3 := (.bool x1.2.2)) (by rfl) (z06 (by rfl) (by exact rfl)) (z06 (by rfl) (by exact rfl)) (z06 (by rfl) (by exact rfl)) O5 s6 rfl
def z0r (K : Nat) (p0 : zAd) : Nat -> Int -> Option (Int ⊕ Unit)
  | 0, _ => none
  | k + 1, x39 => (if (decide (x39 < (List.length (z01 p0) : Int))) = true then ((idx (z01 p0) x39).bind fun x50 => (Option.bind ((if (decide (x50 < 48)) = true then some true else some (decide (x50 > 57)))) (tu1 fun x61 => (if x61 = true then some (.inl 5) else z0r K p0 k (z03 .i64 (x39 + 1)))))) else some (.inr ()))
def z3m (K : Nat) (p0 : zAd) : Option Int := (Option.bind ((if (sEq p0 (⟨#[]⟩ : zAd)) = true then some true else ((bidx p0 0).bind fun x8 => (if (x8 == 48) = true then some (decide ((p0.size : Int) > 1)) else some false)))) (tu1 fun x15 => (if x15 = true then some 5 else (zap (z0r K p0 K 0) (tu1 fun a87 => some a87) (tu0 (if (decide ((p0.size : Int) > 2000)) = true then some 2 else some 0))))))
theorem z5q (p0 : zAd) (O : Ow G H (L)) (r : Int) (h : z3m K p0 = some r) :
    CR Tryd.prog 101 [(.string p0)] G H (L) (fun v G' _ => v = .int .i64 r) := by
 unfold z3m at h
 refine CR.og (n := 34) (fn := Tryd.f101) (by kernel_rfl) rfl rfl fun R kr => (.seq (.region (W.q1 (.int .i64 0) rfl (.nil (.seq (.seq ?_))))))
 obtain ⟨q1, h2, h3⟩ := z05 h
 refine AW.midT (fun σ' H' => ∃ (y1 : Bool) (G' : GM), y1 = q1 /\ Ow G' H' (L) /\ GM.le G G' /\ σ' 16 = .bool y1) ?_ ?_
 .refine .region (W.q2 (.string p0) rfl (W.pure (v := (.bool (sEq p0 (⟨#[]⟩ : zAd)))) rfl rfl (z7r (oo rfl rfl) (oo rfl rfl)) (W.q2 (.bool (sEq p0 (⟨#[]⟩ : zAd))) rfl (W.splitAt (t := 7) (b := sEq p0 (⟨#[]⟩ : zAd)) rfl (fun g4 gv5 => ?_) (fun g4 gv5 => ?_)))))
  .have h6 := z04 g4 h2
   refine W.q6 rfl gv5 (W.q6 rfl gv5 (W.q6 rfl gv5 (W.q6 rfl gv5 (W.skipU rfl rfl rfl rfl (W.skipU rfl rfl rfl rfl (W.skipU rfl rfl rfl rfl ?_))))))
   refine W.q6 rfl gv5 (W.q4 (.bool true) gv5 rfl (.nil ?_))
   obtain rfl := zAa h6
   exact ⟨true, _, rfl, O, (zAf _), rfl⟩
  have h7 := z0m g4 h2
  refine W.q2 (hg := gk rfl rfl gv5 rfl) (.string p0) rfl ?_
  obtain ⟨x8, i9, h10⟩ := z05 h7
  refine W.pure (v := (.int .u8 x8)) (gk rfl rfl gv5 rfl) rfl (z8v un9 (oo rfl rfl) (oo rfl rfl) i9) (W.q3 (hg := gk rfl rfl gv5 rfl) (.bool (x8 == 48)) rfl rfl (W.q2 (hg := gk rfl rfl gv5 rfl) (.bool (x8 == 48)) rfl (W.splitAt (t := 11) (b := (x8 == 48)) rfl (fun g11 gv12 => ?_) (fun g11 gv12 => ?_))))
  rotate_left
  .have h14 := z0m g11 h10
   refine W.q6 rfl gv12 (W.q6 rfl gv12 (W.q6 rfl gv12 (W.q5 (hg := gk rfl rfl gv5 rfl) (.bool false) gv12 rfl (W.q5 (.bool false) gv5 rfl (.nil ?_)))))
   obtain rfl := zAa h14
   exact ⟨false, _, rfl, O, (zAf _), rfl⟩
  have h13 := z04 g11 h10
  refine W.q2 (hg := gk rfl rfl gv12 rfl) (.string p0) rfl (W.pure (v := (.int .i64 (p0.size : Int))) (gk rfl rfl gv12 rfl) rfl (z1q (oo rfl rfl) un9) (W.q3 (hg := gk rfl rfl gv12 rfl) (.bool (decide ((p0.size : Int) > 1))) rfl rfl (W.q4 (hg := gk rfl rfl gv5 rfl) (.bool (decide ((p0.size : Int) > 1))) gv12 rfl (W.q5 (.bool (decide ((p0.size : Int) > 1))) gv5 rfl (.nil ?_)))))
  obtain rfl := zAa h13
  exact ⟨decide ((p0.size : Int) > 1), _, rfl, O, (zAf _), rfl⟩
 rintro σ16 H17 fr18 ⟨x15, G19, rfl, O20, s21, t23⟩
 have h24 := z0c h3
 refine .cond (b := x15) rfl t23 (fun g25 => ?_) (fun g25 => ?_)
 .have h26 := z04 g25 h24
  refine .seq (.region (W.q1 (.int .i64 5) rfl (.nil (.ret ?_))))
  obtain rfl := zAa h26
  exact z1y kr (v1 := (.int .i64 5)) (by rfl) (z06 (by rfl) (by exact rfl)) O20 s21 rfl
 have h27 := z0m g25 h24
 refine .skip (.seq (.seq (.region (W.q2 (.string p0) ((fr18 0 rfl).trans rfl) (W.lo rfl rfl (Lo.bytes rfl un9 zef in5 rfl O20) ?_)))))
 rintro v33 H34 ⟨G29, O28, s30, sm32, f31⟩
 refine W.pure (v := (.int .i64 (List.length (z01 p0) : Int))) rfl rfl (z0i (oo rfl rfl) (z0a f31) (z02 zef)) (W.q2 (.int .i64 0) rfl (.nil ?_))
 obtain ⟨q35, h36, h37⟩ := z3y h27
 refine AW.midT (fun σ' H' => ∃  (G' : GM), (.inr ()) = q35 /\ Ow G' H' (L) /\ GM.le G29 G') ?_ ?_
 rotate_left
 .rintro σ76 H77 fr78 ⟨G79, rfl, O80, s81⟩
  have h83 := z6d (z9j h37)
  refine .seq (.seq (.region (W.q2 (.string p0) ((fr78 0 rfl).trans ((fr18 0 rfl).trans rfl)) (W.pure (v := (.int .i64 (p0.size : Int))) rfl rfl (z1q (oo rfl rfl) un9) (W.q3 (.bool (decide ((p0.size : Int) > 2000))) rfl rfl (.nil ?_))))))
  refine .cond (b := decide ((p0.size : Int) > 2000)) rfl rfl (fun g84 => ?_) (fun g84 => ?_)
  .have h85 := z04 g84 h83
   refine .seq (.region (W.q1 (.int .i64 2) rfl (.nil (.ret ?_))))
   obtain rfl := zAa h85
   exact z1y kr (v1 := (.int .i64 2)) (by rfl) (z06 (by rfl) (by exact rfl)) O80 (zAe s21 (zAe s30 s81)) rfl
  have h86 := z0m g84 h83
  refine .skip (.seq (.region (W.q1 (.int .i64 0) rfl (.nil (.ret ?_)))))
  obtain rfl := zAa h86
  exact z1y kr (v1 := (.int .i64 0)) (by rfl) (z06 (by rfl) (by exact rfl)) O80 (zAe s21 (zAe s30 s81)) rfl
 refine .block (AW.loop (α := Nat) (fun k' σ' H' => ∃ (y1 : Int) (G' : GM), z0r K p0 k' y1 = some q35 /\ Ow G' H' (L) /\ GM.le G29 G' /\ σ' 20 = .int .i64 y1) (fun k' => k') K ⟨0, _, h36, O28, (zAf _), rfl⟩ ?_)
 rintro k38
 rintro σ40 H41 fr42 ⟨x39, G43, h46, O44, s45, t47⟩
 rcases k38 with _ | k38
 .exact z08 h46
 rw [z0r] at h46
 refine .seq (.region (W.q3 (.bool (decide (x39 < (List.length (z01 p0) : Int)))) t47 ((fr42 19 rfl).trans rfl) (.nil (.seq (.cond (b := decide (x39 < (List.length (z01 p0) : Int))) rfl rfl (fun g48 => ?_) (fun g48 => ?_))))))
 rotate_left
 .have h75 := z0m g48 h46
  refine .exit ?_
  obtain rfl := zAa h75
  exact ⟨_, rfl, O44, s45⟩
 have h49 := z04 g48 h46
 refine .skip (.seq (.block (.seq (.region ?_))))
 obtain ⟨x50, i51, h52⟩ := z05 h49
 have j53 := z0l i51
 refine W.pure (v := (z3f v33 (Int.toNat x39 * 1))) rfl rfl (z46 zef sz5 (oo rfl ((fr42 18 rfl).trans rfl)) (oo rfl t47) (z0a (RT.mono _ s45 f31)) j53.1 j53.2.1) (W.load1 (v := (.int .u8 x50)) (r := []) rfl rfl ag5 (z26 rfl (At.int (At.le (At.le (z2x f31 j53.2.2) s45 s45) (zAf _) O44.fro))) (W.q1 (.int .u8 x50) rfl (.nil (.seq ?_))))
 obtain ⟨q54, h55, h56⟩ := z05 h52
 refine AW.midT (fun σ' H' => ∃ (y1 : Bool) (G' : GM), y1 = q54 /\ Ow G' H' (L) /\ GM.le G43 G' /\ σ' 29 = .bool y1) ?_ ?_
 rotate_left
 .rintro σ62 H63 fr64 ⟨x61, G65, rfl, O66, s67, t69⟩
  have h70 := z0c h56
  refine .cond (b := x61) rfl t69 (fun g71 => ?_) (fun g71 => ?_)
  rotate_left
  .have h74 := z0m g71 h70
   refine .skip (.region (W.q3 (.int .i64 (z03 .i64 (x39 + 1))) ((fr64 20 rfl).trans t47) rfl (W.q2 (.int .i64 (z03 .i64 (x39 + 1))) rfl (.nil ?_))))
   exact ⟨k38, zAg _, ⟨z03 .i64 (x39 + 1), _, h74, O66, (zAe s45 s67), rfl⟩⟩
  have h72 := z04 g71 h70
  refine .seq (.region (W.q1 (.int .i64 5) rfl (.nil (.ret ?_))))
  obtain rfl := zAa h72
  have h73 := z0c (z75 h37)
  obtain rfl := zAa h73
  exact z1y kr (v1 := (.int .i64 5)) (by rfl) (z06 (by rfl) (by exact rfl)) O66 (zAe s21 (zAe s30 (zAe s45 s67))) rfl
 refine .region (W.q2 (.int .u8 x50) rfl (W.q3 (.bool (decide (x50 < 48))) rfl rfl (W.q2 (.bool (decide (x50 < 48))) rfl (W.splitAt (t := 26) (b := decide (x50 < 48)) rfl (fun g57 gv58 => ?_) (fun g57 gv58 => ?_)))))
 .have h59 := z04 g57 h55
  refine W.q6 rfl gv58 (W.q6 rfl gv58 (W.q4 (.bool true) gv58 rfl (.nil ?_)))
  obtain rfl := zAa h59
  exact ⟨true, _, rfl, O44, (zAf _), rfl⟩
 have h60 := z0m g57 h55
 refine W.q2 (hg := gk rfl rfl gv58 rfl) (.int .u8 x50) rfl (W.q3 (hg := gk rfl rfl gv58 rfl) (.bool (decide (x50 > 57))) rfl rfl (W.q5 (.bool (decide (x50 > 57))) gv58 rfl (.nil ?_)))
 obtain rfl := zAa h60
 exact ⟨decide (x50 > 57), _, rfl, O44, (zAf _), rfl⟩
def z1l (K : Nat) : Nat -> List Int -> Option (List Int)
  | 0, _ => none
  | k + 1, x5 => (Option.bind ((if (decide ((List.length x5 : Int) > 0)) = true then ((idx x5 (z03 .i64 ((List.length x5 : Int) - 1))).bind fun x19 => some (x19 == 0)) else some false)) (tu1 fun x24 => (if x24 = true then ((lsl x5 0 (z03 .i64 ((List.length x5 : Int) - 1))).bind fun x36 => z1l K k x36) else some x5)))
def z1f (K : Nat) (p0 : List Int) : Option (List Int) := (Option.bind (z1l K K p0) (tu1 fun x43 => some x43))
theorem z1z (v0 : Value) (p0 : List Int) (O : Ow G H (eSl v0 145 (rI .u32) p0 :: L)) (r : List Int) (h : z1f K p0 = some r) :
    CRF Tryd.prog 118 [v0] G H (fun w0 => (eSl w0 145 (rI .u32) r :: L)) (fun w0 v G' => w0 = v) := by
 unfold z1f at h
 refine CRF.og (n := 21) (fn := Tryd.f118) (by kernel_rfl) rfl rfl fun R kr => (.seq (.region (W.q1 (.slice none 0 0) rfl (.nil (.seq ?_)))))
 obtain ⟨q1, h2, h3⟩ := z05 h
 refine AW.midT (fun σ' H' => ∃ (y1 : List Int) (G' : GM), y1 = q1 /\ Ow G' H' (eSl (σ' 0) 145 (rI .u32) y1 :: L) /\ GM.le G G') ?_ ?_
 rotate_left
 .rintro σ44 H45 fr46 ⟨x43, G47, rfl, O48, s49⟩
  have h51 := z0c h3
  refine .seq (.region (W.q2 (σ44 0) rfl (W.q1 (σ44 0) rfl (.nil (.ret ?_)))))
  obtain rfl := zAa h51
  exact zei kr (σ44 0) (v1 := (σ44 0)) (by rfl) (z06 (by rfl) (by exact rfl)) O48 s49 rfl
 refine .block (AW.loop (α := Nat) (fun k' σ' H' => ∃ (y1 : List Int) (G' : GM), z1l K k' y1 = some q1 /\ Ow G' H' (eSl (σ' 0) 145 (rI .u32) y1 :: L) /\ GM.le G G') (fun k' => k') K ⟨p0, _, h2, O, (zAf _)⟩ ?_)
 rintro k4
 rintro σ6 H7 fr8 ⟨x5, G9, h12, O10, s11⟩
 rcases k4 with _ | k4
 .exact z08 h12
 rw [z1l] at h12
 refine .seq (.seq ?_)
 obtain ⟨q13, h14, h15⟩ := z05 h12
 refine AW.midT (fun σ' H' => ∃ (y1 : Bool) (G' : GM), y1 = q13 /\ Ow G' H' (eSl (σ6 0) 145 (rI .u32) x5 :: L) /\ GM.le G9 G' /\ σ' 14 = .bool y1) ?_ ?_
 rotate_left
 .rintro σ25 H26 fr27 ⟨x24, G28, rfl, O29, s30, t32⟩
  have h33 := z0c h15
  refine .cond (b := x24) rfl t32 (fun g34 => ?_) (fun g34 => ?_)
  rotate_left
  .have h42 := z0m g34 h33
   refine .exit ?_
   obtain rfl := zAa h42
   exact ⟨x5, _, rfl, (Ow.reval (j := 0) O29 rfl ((fr27 0 rfl).trans rfl)), (zAe s11 s30)⟩
  have h35 := z04 g34 h33
  refine .skip (.block (.region (W.q2 (σ6 0) ((fr27 0 rfl).trans rfl) (W.q2 (σ6 0) ((fr27 0 rfl).trans rfl) (W.pure (v := (.int .i64 (List.length x5 : Int))) rfl rfl (z0i (oo rfl rfl) (O29.slLen (j := 0) rfl) (z02 el63)) (W.q3 (.int .i64 (z03 .i64 ((List.length x5 : Int) - 1))) rfl rfl ?_))))))
  obtain ⟨x36, i37, h38⟩ := z05 h35
  obtain ⟨w39, e41, O40⟩ := O29.pre (j := 0) rfl el63 z3g i37
  refine W.pure (v := w39) rfl rfl (e41 (oo rfl rfl) (oo rfl rfl)) (W.q1 w39 rfl (.nil ?_))
  exact ⟨k4, zAg _, ⟨x36, _, h38, O40, (zAe s11 s30)⟩⟩
 refine .region (W.q2 (σ6 0) rfl (W.pure (v := (.int .i64 (List.length x5 : Int))) rfl rfl (z0i (oo rfl rfl) (O10.slLen (j := 0) rfl) (z02 el63)) (W.q3 (.bool (decide ((List.length x5 : Int) > 0))) rfl rfl (W.q2 (.bool (decide ((List.length x5 : Int) > 0))) rfl (W.splitAt (t := 6) (b := decide ((List.length x5 : Int) > 0)) rfl (fun g16 gv17 => ?_) (fun g16 gv17 => ?_))))))
 rotate_left
 .have h23 := z0m g16 h14
  refine W.q6 rfl gv17 (W.q6 rfl gv17 (W.q6 rfl gv17 (W.q6 rfl gv17 (W.q6 rfl gv17 (W.q6 rfl gv17 (W.q6 rfl gv17 ?_))))))
  refine W.q5 (.bool false) gv17 rfl (.nil ?_)
  obtain rfl := zAa h23
  exact ⟨false, _, rfl, O10, (zAf _), rfl⟩
 have h18 := z04 g16 h14
 refine W.q2 (hg := gk rfl rfl gv17 rfl) (σ6 0) rfl (W.q2 (hg := gk rfl rfl gv17 rfl) (σ6 0) rfl (W.pure (v := (.int .i64 (List.length x5 : Int))) (gk rfl rfl gv17 rfl) rfl (z0i (oo rfl rfl) (O10.slLen (j := 0) rfl) (z02 el63)) (W.q3 (hg := gk rfl rfl gv17 rfl) (.int .i64 (z03 .i64 ((List.length x5 : Int) - 1))) rfl rfl ?_)))
 obtain ⟨x19, i20, h21⟩ := z05 h18
 have j22 := z0l i20
 refine W.pure (v := (z3f (σ6 0) (Int.toNat (z03 .i64 ((List.length x5 : Int) - 1)) * 1))) (gk rfl rfl gv17 rfl) rfl (z46 el63 z3g (oo rfl rfl) (oo rfl rfl) (O10.slLen (j := 0) rfl) j22.1 j22.2.1) (W.load1 (v := (.int .u32 x19)) (r := []) (gk rfl rfl gv17 rfl) rfl z7m (z26 rfl (At.int (O10.atSl (j := 0) rfl j22.2.2))) (W.q3 (hg := gk rfl rfl gv17 rfl) (.bool (x19 == 0)) rfl rfl (W.q4 (.bool (x19 == 0)) gv17 rfl (.nil ?_))))
 obtain rfl := zAa h21
 exact ⟨(x19 == 0), _, rfl, O10, (zAf _), rfl⟩
def z1h (K : Nat) (x18 : zAd) : Nat -> Int -> Int -> Option (Int)
  | 0, _, _ => none
  | k + 1, x32, x33 => (if (decide (x33 < (List.length (z01 x18) : Int))) = true then ((idx (z01 x18) x33).bind fun x45 => (lt (z03 .u32 ((z03 .u32 (x32 * 10)) + (IntKind.wrap .u32 (z03 .u8 (x45 - 48))))) fun x49 => z1h K x18 k x49 (z03 .i64 (x33 + 1)))) else some x32)
def z1v (K : Nat) (p0 : zAd) : Nat -> List Int -> Int -> Option (List Int)
  | 0, _, _ => none
  | k + 1, x6, x7 => (if (decide (x7 > 0)) = true then ((ssl p0 (imax 0 (z03 .i64 (x7 - 9))) x7).bind fun x18 => (Option.bind (z1h K x18 K 0 0) (tu1 fun x53 => (if List.length x6 + List.length [x53] <= 16777216 then z1v K p0 k (x6 ++ [x53]) (z03 .i64 (x7 - 9)) else none)))) else some x6)
def z49 (K : Nat) (p0 : zAd) : Option (List Int) := (Option.bind (z1v K p0 K [] (p0.size : Int)) (tu1 fun x78 => ((z1f K x78).bind fun x87 => some x87)))
theorem z6e (p0 : zAd) (O : Ow G H (L)) (r : List Int) (h : z49 K p0 = some r) :
    CRF Tryd.prog 96 [(.string p0)] G H (fun w0 => (eSl w0 145 (rI .u32) r :: L)) (fun w0 v G' => w0 = v) := by
 unfold z49 at h
 refine CRF.og (n := 39) (fn := Tryd.f96) (by kernel_rfl) rfl rfl fun R kr => (.seq (.region (W.q1 (.slice none 0 0) rfl (.nil (.seq (.region ?_))))))
 refine W.q1 (.slice none 0 0) rfl (.nil (.seq (.seq (.region (W.q2 (.string p0) rfl (W.pure (v := (.int .i64 (p0.size : Int))) rfl rfl (z1q (oo rfl rfl) un9) ?_))))))
 refine W.q1 (.int .i64 (p0.size : Int)) rfl (.nil ?_)
 obtain ⟨q1, h2, h3⟩ := z05 h
 refine AW.midT (fun σ' H' => ∃ (y1 : List Int) (G' : GM), y1 = q1 /\ Ow G' H' (eSl (σ' 3) 145 (rI .u32) y1 :: L) /\ GM.le G G') ?_ ?_
 rotate_left
 .rintro σ79 H80 fr81 ⟨x78, G82, rfl, O83, s84⟩
  have h86 := z0c h3
  refine .seq (.region (W.q2 (σ79 3) rfl ?_))
  obtain ⟨x87, i88, h89⟩ := z05 h86
  refine W.lo rfl rfl (Lo.callPF (ps := [eSl (σ79 3) 145 (rI .u32) x78]) (pw := fun w => [eSl w 145 (rI .u32) x87]) rfl (fn := Tryd.f118) (by kernel_rfl) rfl (mc rfl mn) O83 (fun L' O' => z1z K (σ79 3) x78 O' _ i88)) ?_
  rintro v98 H99 ⟨w95, G90, O91, s92, sm97, rfl⟩
  refine W.q1 w95 rfl (.nil (.ret ?_))
  obtain rfl := zAa h89
  exact zei kr w95 (v1 := w95) (by rfl) (z06 (by rfl) (by exact rfl)) O91 (zAe s84 s92) rfl
 refine .block ?_
 have O4 := O.nilSl 145 (rI .u32)
 refine AW.loop (α := Nat) (fun k' σ' H' => ∃ (y1 : List Int) (y2 : Int) (G' : GM), z1v K p0 k' y1 y2 = some q1 /\ Ow G' H' (eSl (σ' 3) 145 (rI .u32) y1 :: L) /\ GM.le G G' /\ σ' 4 = .int .i64 y2) (fun k' => k') K ⟨[], (p0.size : Int), _, h2, O4, (zAf _), rfl⟩ ?_
 rintro k5
 rintro σ8 H9 fr10 ⟨x6, x7, G11, h14, O12, s13, t15⟩
 rcases k5 with _ | k5
 .exact z08 h14
 rw [z1v] at h14
 refine .seq (.seq (.region (W.q2 _ t15 (W.q3 (.bool (decide (x7 > 0))) rfl rfl (.nil (.cond (b := decide (x7 > 0)) rfl rfl (fun g16 => ?_) (fun g16 => ?_)))))))
 rotate_left
 .have h77 := z0m g16 h14
  refine .exit ?_
  obtain rfl := zAa h77
  exact ⟨x6, _, rfl, O12, s13⟩
 have h17 := z04 g16 h14
 refine .skip (.seq (.block (.seq (.region (W.q1 (.int .u32 0) rfl (.nil ?_))))))
 refine .seq (.seq (.region (W.q2 (.string p0) ((fr10 0 rfl).trans rfl) (W.q2 _ t15 (W.q3 (.int .i64 (z03 .i64 (x7 - 9))) rfl rfl (W.pure (v := (.int .i64 (imax 0 (z03 .i64 (x7 - 9))))) rfl rfl (zi6 (oo rfl rfl) (oo rfl rfl)) ?_))))))
 refine W.q2 _ t15 ?_
 obtain ⟨x18, i19, h20⟩ := z05 h17
 refine W.pure (v := (.string x18)) rfl rfl (zfa un9 (oo rfl rfl) (oo rfl rfl) (oo rfl rfl) i19) (W.lo rfl rfl (Lo.bytes rfl un9 zef in5 rfl O12) ?_)
 rintro v26 H27 ⟨G22, O21, s23, sm25, f24⟩
 refine W.pure (v := (.int .i64 (List.length (z01 x18) : Int))) rfl rfl (z0i (oo rfl rfl) (z0a f24) (z02 zef)) (W.q2 (.int .i64 0) rfl (.nil ?_))
 obtain ⟨q28, h29, h30⟩ := z05 h20
 refine AW.midT (fun σ' H' => ∃ (y1 : Int) (G' : GM), y1 = q28 /\ Ow G' H' (eSl (σ8 3) 145 (rI .u32) x6 :: L) /\ GM.le G22 G' /\ σ' 5 = .int .u32 y1) ?_ ?_
 rotate_left
 .rintro σ54 H55 fr56 ⟨x53, G57, rfl, O58, s59, t61⟩
  have h62 := z0c h30
  refine .region (W.q2 (σ8 3) ((fr56 3 rfl).trans rfl) (W.q2 _ t61 (W.lo rfl rfl (Lo.buildSlice (r := (rI .u32)) (vs := [(.int .u32 x53)]) (xs := [x53]) el63 zaq z3g (by kernel_rfl) rfl (qc rfl qn) rfl (.cons rfl .nil) O58) ?_)))
  rintro v65 H66 ⟨O63, sm64⟩
  obtain ⟨es68, e69, e70⟩ := z85 (j := 0) rfl O63
  obtain ⟨g71, h72⟩ := z4g h62
  refine W.lo rfl rfl (Lo.append (j := 1) (v := (σ8 3)) rfl rfl el63 ni63 zaq z3g zg4 (by decide) (by decide) rfl e69 e70 g71 O63) ?_
  rintro v74 H75 ⟨O67, sm73⟩
  refine W.q1 v74 rfl (.nil (.region (W.q2 _ ((fr56 4 rfl).trans t15) (W.q3 (.int .i64 (z03 .i64 (x7 - 9))) rfl rfl (W.q1 (.int .i64 (z03 .i64 (x7 - 9))) rfl (.nil ?_))))))
  have O76 : Ow G57 H75 (eSl v74 145 (rI .u32) (x6 ++ [x53]) :: L) := O67.drop 0
  exact ⟨k5, zAg _, ⟨(x6 ++ [x53]), z03 .i64 (x7 - 9), _, h72, O76, (zAe s13 (zAe s23 s59)), rfl⟩⟩
 refine .block (AW.loop (α := Nat) (fun k' σ' H' => ∃ (y1 : Int) (y2 : Int) (G' : GM), z1h K x18 k' y1 y2 = some q28 /\ Ow G' H' (eSl (σ8 3) 145 (rI .u32) x6 :: L) /\ GM.le G22 G' /\ σ' 5 = .int .u32 y1 /\ σ' 22 = .int .i64 y2) (fun k' => k') K ⟨0, 0, _, h29, O21, (zAf _), rfl, rfl⟩ ?_)
 rintro k31
 rintro σ34 H35 fr36 ⟨x32, x33, G37, h40, O38, s39, t41, t42⟩
 rcases k31 with _ | k31
 .exact z08 h40
 rw [z1h] at h40
 refine .seq (.region (W.q3 (.bool (decide (x33 < (List.length (z01 x18) : Int)))) t42 ((fr36 21 rfl).trans rfl) (.nil (.seq (.cond (b := decide (x33 < (List.length (z01 x18) : Int))) rfl rfl (fun g43 => ?_) (fun g43 => ?_))))))
 rotate_left
 .have h52 := z0m g43 h40
  refine .exit ?_
  obtain rfl := zAa h52
  exact ⟨x32, _, rfl, O38, s39, t41⟩
 have h44 := z04 g43 h40
 refine .skip (.seq (.block (.seq (.region ?_))))
 obtain ⟨x45, i46, h47⟩ := z05 h44
 have j48 := z0l i46
 refine W.pure (v := (z3f v26 (Int.toNat x33 * 1))) rfl rfl (z46 zef sz5 (oo rfl ((fr36 20 rfl).trans rfl)) (oo rfl t42) (z0a (RT.mono _ s39 f24)) j48.1 j48.2.1) (W.load1 (v := (.int .u8 x45)) (r := []) rfl rfl ag5 (z26 rfl (At.int (At.le (At.le (z2x f24 j48.2.2) s39 s39) (zAf _) O38.fro))) (W.q1 (.int .u8 x45) rfl (.nil (.region (W.q2 _ t41 (W.q3 (.int .u32 (z03 .u32 (x32 * 10))) rfl rfl ?_))))))
 refine W.q2 (.int .u8 x45) rfl (W.q3 (.int .u8 (z03 .u8 (x45 - 48))) rfl rfl (W.pure (v := (.int .u32 (IntKind.wrap .u32 (z03 .u8 (x45 - 48))))) rfl rfl (z2w in5 z6h (oo rfl rfl)) (W.q3 (.int .u32 (z03 .u32 ((z03 .u32 (x32 * 10)) + (IntKind.wrap .u32 (z03 .u8 (x45 - 48)))))) rfl rfl ?_)))
 obtain ⟨x49, e50, h51⟩ := z4j h47
 refine W.q1 _ (congrArg (Value.int .u32) e50) (.nil (.region (W.q3 (.int .i64 (z03 .i64 (x33 + 1))) t42 rfl (W.q2 (.int .i64 (z03 .i64 (x33 + 1))) rfl (.nil ?_)))))
 exact ⟨k31, zAg _, ⟨x49, z03 .i64 (x33 + 1), _, h51, O38, s39, rfl, rfl⟩⟩
def z11 (K : Nat) (p0 : List Int) (p1 : List Int) : Nat -> Int -> Option (Int ⊕ Unit)
  | 0, _ => none
  | k + 1, x11 => (if (decide (x11 >= 0)) = true then ((idx p0 x11).bind fun x27 => ((idx p1 x11).bind fun x31 => (if (decide (x27 < x31)) = true then some (.inl (-1)) else ((idx p0 x11).bind fun x44 => ((idx p1 x11).bind fun x48 => (if (decide (x44 > x48)) = true then some (.inl 1) else z11 K p0 p1 k (z03 .i64 (x11 - 1)))))))) else some (.inr ()))
def z3n (K : Nat) (p0 : List Int) (p1 : List Int) : Option Int := (if ((List.length p0 : Int) != (List.length p1 : Int)) = true then (if (decide ((List.length p0 : Int) < (List.length p1 : Int))) = true then some (-1) else some 1) else (zap (z11 K p0 p1 K (z03 .i64 ((List.length p0 : Int) - 1))) (tu1 fun a65 => some a65) (tu0 (some 0))))
theorem z5r (v0 : Value) (p0 : List Int) (hp0 : (rSl (rI .u32)).rep G [v0] p0) (v1 : Value) (p1 : List Int) (hp1 : (rSl (rI .u32)).rep G [v1] p1) (O : Ow G H (L)) (r : Int) (h : z3n K p0 p1 = some r) :
    CR Tryd.prog 91 [v0, v1] G H (L) (fun v G' _ => v = .int .i64 r) := by
 unfold z3n at h
 refine CR.og (n := 43) (fn := Tryd.f91) (by kernel_rfl) rfl rfl fun R kr => (.seq (.region (W.q1 (.int .i64 0) rfl (.nil (.seq (.seq ?_))))))
 refine .region (W.q2 v0 rfl (W.pure (v := (.int .i64 (List.length p0 : Int))) rfl rfl (z0i (oo rfl rfl) (z0a hp0) (z02 el63)) (W.q2 v1 rfl (W.pure (v := (.int .i64 (List.length p1 : Int))) rfl rfl (z0i (oo rfl rfl) (z0a hp1) (z02 el63)) (W.q3 (.bool ((List.length p0 : Int) != (List.length p1 : Int))) rfl rfl (.nil ?_))))))
 refine .cond (b := ((List.length p0 : Int) != (List.length p1 : Int))) rfl rfl (fun g1 => ?_) (fun g1 => ?_)
 .have h2 := z04 g1 h
  refine .seq (.seq (.region (W.q2 v0 rfl (W.pure (v := (.int .i64 (List.length p0 : Int))) rfl rfl (z0i (oo rfl rfl) (z0a hp0) (z02 el63)) (W.q2 v1 rfl (W.pure (v := (.int .i64 (List.length p1 : Int))) rfl rfl (z0i (oo rfl rfl) (z0a hp1) (z02 el63)) ?_))))))
  refine W.q3 (.bool (decide ((List.length p0 : Int) < (List.length p1 : Int)))) rfl rfl (.nil (.cond (b := decide ((List.length p0 : Int) < (List.length p1 : Int))) rfl rfl (fun g3 => ?_) (fun g3 => ?_)))
  .have h4 := z04 g3 h2
   refine .seq (.region (W.q1 (.int .i64 (-1)) rfl (.nil (.ret ?_))))
   obtain rfl := zAa h4
   exact z1y kr (v1 := (.int .i64 (-1))) (by rfl) (z06 (by rfl) (by exact rfl)) O (zAf _) rfl
  have h5 := z0m g3 h2
  refine .skip (.seq (.region (W.q1 (.int .i64 1) rfl (.nil (.ret ?_)))))
  obtain rfl := zAa h5
  exact z1y kr (v1 := (.int .i64 1)) (by rfl) (z06 (by rfl) (by exact rfl)) O (zAf _) rfl
 have h6 := z0m g1 h
 refine .skip (.seq (.seq (.region (W.q2 v0 rfl (W.pure (v := (.int .i64 (List.length p0 : Int))) rfl rfl (z0i (oo rfl rfl) (z0a hp0) (z02 el63)) (W.q3 (.int .i64 (z03 .i64 ((List.length p0 : Int) - 1))) rfl rfl ?_))))))
 refine W.q1 (.int .i64 (z03 .i64 ((List.length p0 : Int) - 1))) rfl (.nil ?_)
 obtain ⟨q7, h8, h9⟩ := z3y h6
 refine AW.midT (fun σ' H' => ∃  (G' : GM), (.inr ()) = q7 /\ Ow G' H' (L) /\ GM.le G G') ?_ ?_
 rotate_left
 .rintro σ57 H58 fr59 ⟨G60, rfl, O61, s62⟩
  have h64 := z6d (z9j h9)
  refine .seq (.region (W.q1 (.int .i64 0) rfl (.nil (.ret ?_))))
  obtain rfl := zAa h64
  exact z1y kr (v1 := (.int .i64 0)) (by rfl) (z06 (by rfl) (by exact rfl)) O61 s62 rfl
 refine .block (AW.loop (α := Nat) (fun k' σ' H' => ∃ (y1 : Int) (G' : GM), z11 K p0 p1 k' y1 = some q7 /\ Ow G' H' (L) /\ GM.le G G' /\ σ' 5 = .int .i64 y1) (fun k' => k') K ⟨z03 .i64 ((List.length p0 : Int) - 1), _, h8, O, (zAf _), rfl⟩ ?_)
 rintro k10
 rintro σ12 H13 fr14 ⟨x11, G15, h18, O16, s17, t19⟩
 rcases k10 with _ | k10
 .exact z08 h18
 rw [z11] at h18
 refine .seq (.seq (.region (W.q2 _ t19 (W.q3 (.bool (decide (x11 >= 0))) rfl rfl (.nil (.cond (b := decide (x11 >= 0)) rfl rfl (fun g20 => ?_) (fun g20 => ?_)))))))
 rotate_left
 .have h56 := z0m g20 h18
  refine .exit ?_
  obtain rfl := zAa h56
  exact ⟨_, rfl, O16, s17⟩
 have h21 := z04 g20 h18
 refine .skip (.seq (.block (.block (.seq (.draw2 (M := [0, 0, 3, 7, 0, 0, 48, 112, 255, 511]) mixed (by kernel_rfl) (by kernel_rfl) fun H22 N26 x23 F25 => ?_)))))
 have O24 := O16.ext x23
 refine D2.q2 v0 ((fr14 0 rfl).trans rfl) (D2.q2 _ t19 ?_)
 obtain ⟨x27, i28, h29⟩ := z05 h21
 have j30 := z0l i28
 refine D2.pure (v := (z3f v0 (Int.toNat x11 * 1))) rfl rfl (z46 el63 z3g (oo rfl rfl) (oo rfl rfl) (z0a (RT.mono _ s17 hp0)) j30.1 j30.2.1) (D2.load1' (v := (.int .u32 x27)) (r := []) rfl rfl z7m (z26 rfl (At.int (At.le (At.le (z2x hp0 j30.2.2) s17 s17) (zAf _) O24.fro))) z1k (D2.q2 v1 ((fr14 1 rfl).trans rfl) (D2.q2 _ t19 ?_)))
 obtain ⟨x31, i32, h33⟩ := z05 h29
 have j34 := z0l i32
 refine D2.pure (v := (z3f v1 (Int.toNat x11 * 1))) rfl rfl (z46 el63 z3g (oo rfl rfl) (oo rfl rfl) (z0a (RT.mono _ s17 hp1)) j34.1 j34.2.1) (D2.load1' (v := (.int .u32 x31)) (r := []) rfl rfl z7m (z26 rfl (At.int (At.le (At.le (z2x hp1 j34.2.2) s17 s17) (zAf _) O24.fro))) z1k (D2.q3 (.bool (decide (x27 < x31))) rfl rfl (D2.q1 (.bool (decide (x27 < x31))) rfl (.nil (.cond (b := decide (x27 < x31)) rfl rfl (fun g35 => ?_) (fun g35 => ?_))))))
 .have h36 := z04 g35 h33
  refine .seq (.region (W.q1 (.int .i64 (-1)) rfl (.nil (.ret ?_))))
  obtain rfl := zAa h36
  have h37 := z0c (z75 h9)
  obtain rfl := zAa h37
  exact z1y kr (v1 := (.int .i64 (-1))) (by rfl) (z06 (by rfl) (by exact rfl)) O24 s17 rfl
 have h38 := z0m g35 h33
 refine .seq (.draw2 (M := [0, 0, 3, 7, 0, 0, 48, 112, 255, 511]) mixed (by kernel_rfl) (by kernel_rfl) fun H39 N43 x40 F42 => ?_)
 have O41 := O24.ext x40
 refine D2.q2 v0 ((fr14 0 rfl).trans rfl) (D2.q2 _ t19 ?_)
 obtain ⟨x44, i45, h46⟩ := z05 h38
 have j47 := z0l i45
 refine D2.pure (v := (z3f v0 (Int.toNat x11 * 1))) rfl rfl (z46 el63 z3g (oo rfl rfl) (oo rfl rfl) (z0a (RT.mono _ s17 hp0)) j47.1 j47.2.1) (D2.load1' (v := (.int .u32 x44)) (r := []) rfl rfl z7m (z26 rfl (At.int (At.le (At.le (z2x hp0 j47.2.2) s17 s17) (zAf _) O41.fro))) z1k (D2.q2 v1 ((fr14 1 rfl).trans rfl) (D2.q2 _ t19 ?_)))
 obtain ⟨x48, i49, h50⟩ := z05 h46
 have j51 := z0l i49
 refine D2.pure (v := (z3f v1 (Int.toNat x11 * 1))) rfl rfl (z46 el63 z3g (oo rfl rfl) (oo rfl rfl) (z0a (RT.mono _ s17 hp1)) j51.1 j51.2.1) (D2.load1' (v := (.int .u32 x48)) (r := []) rfl rfl z7m (z26 rfl (At.int (At.le (At.le (z2x hp1 j51.2.2) s17 s17) (zAf _) O41.fro))) z1k (D2.q3 (.bool (decide (x44 > x48))) rfl rfl (D2.q1 (.bool (decide (x44 > x48))) rfl (.nil (.cond (b := decide (x44 > x48)) rfl rfl (fun g52 => ?_) (fun g52 => ?_))))))
 .have h53 := z04 g52 h50
  refine .seq (.region (W.q1 (.int .i64 1) rfl (.nil (.ret ?_))))
  obtain rfl := zAa h53
  have h54 := z0c (z75 h9)
  obtain rfl := zAa h54
  exact z1y kr (v1 := (.int .i64 1)) (by rfl) (z06 (by rfl) (by exact rfl)) O41 s17 rfl
 have h55 := z0m g52 h50
 refine .skip (.region (W.q2 _ t19 (W.q3 (.int .i64 (z03 .i64 (x11 - 1))) rfl rfl (W.q1 (.int .i64 (z03 .i64 (x11 - 1))) rfl (.nil ?_)))))
 exact ⟨k10, zAg _, ⟨z03 .i64 (x11 - 1), _, h55, O41, s17, rfl⟩⟩
def z13 (K : Nat) (p0 : List Int) (p1 : Int) : Nat -> List Int -> Int -> Int -> Option (List Int × Int)
  | 0, _, _, _ => none
  | k + 1, x11, x12, x13 => (if (decide (x13 >= 0)) = true then ((idx p0 x13).bind fun x25 => (lt (z03 .u64 ((z03 .u64 (x12 * 1000000000)) + (IntKind.wrap .u64 x25))) fun x29 => (if (IntKind.wrap .u64 p1) ≠ 0 then (lt (IntKind.wrap .u32 (z03 .u64 (Int.tdiv x29 (IntKind.wrap .u64 p1)))) fun x34 => ((idx x11 x13).bind fun x37 => (if (IntKind.wrap .u64 p1) ≠ 0 then z13 K p0 p1 k (List.set x11 (Int.toNat x13) x34) (Int.tmod x29 (IntKind.wrap .u64 p1)) (z03 .i64 (x13 - 1)) else none))) else none))) else some (x11, x12))
def z2k (K : Nat) (p0 : List Int) (p1 : Int) : Option (List Int × List Int) := (if 0 <= (List.length p0 : Int) /\ (List.length p0 : Int) <= (List.length p0 : Int) /\ (List.length p0 : Int) <= 16777216 then (Option.bind (z13 K p0 p1 K (List.replicate (Int.toNat (List.length p0 : Int)) 0) 0 (z03 .i64 ((List.length p0 : Int) - 1))) (tu2 fun x48 x49 => ((z1f K x48).bind fun x59 => ((z1f K [IntKind.wrap .u32 x49]).bind fun x76 => some (x59, x76))))) else none)
theorem z4u (v0 : Value) (p0 : List Int) (hp0 : (rSl (rI .u32)).rep G [v0] p0) (p1 : Int) (O : Ow G H (L)) (r : List Int × List Int) (h : z2k K p0 p1 = some r) :
    CR Tryd.prog 127 [v0, (.int .u32 p1)] G H (L) (fun v G' _ => ∃ (w0 : Value), ∃ (w1 : Value), v = .tuple #[w0, w1] /\ (rSl (rI .u32)).rep G' [w0] r.1 /\ (rSl (rI .u32)).rep G' [w1] r.2) := by
 unfold z2k at h
 refine CR.og (n := 45) (fn := Tryd.f127) (by kernel_rfl) rfl rfl fun R kr => (.seq (.region (W.q1 (.slice none 0 0) rfl (W.q1 (.slice none 0 0) rfl (.nil (.seq ?_))))))
 refine .region (W.q2 v0 rfl (W.pure (v := (.int .i64 (List.length p0 : Int))) rfl rfl (z0i (oo rfl rfl) (z0a hp0) (z02 el63)) ?_))
 obtain ⟨g2, h3⟩ := z4g h
 refine W.lo rfl rfl (Lo.makeSlice (r := (rI .u32)) (x0 := 0) (a := (List.length p0 : Int)) (c := (List.length p0 : Int)) rfl el63 zaq z3g (by kernel_rfl) rfl zg4 (by decide) rfl rfl g2 (zI .u32) O) ?_
 rintro v5 H6 ⟨O1, sm4⟩
 refine W.q1 v5 rfl (.nil (.seq (.region (W.q1 (.int .u64 0) rfl (.nil (.seq ?_))))))
 refine .seq (.region (W.q2 v0 rfl (W.pure (v := (.int .i64 (List.length p0 : Int))) rfl rfl (z0i (oo rfl rfl) (z0a hp0) (z02 el63)) (W.q3 (.int .i64 (z03 .i64 ((List.length p0 : Int) - 1))) rfl rfl (W.q1 (.int .i64 (z03 .i64 ((List.length p0 : Int) - 1))) rfl (.nil ?_))))))
 obtain ⟨q7, h8, h9⟩ := z05 h3
 refine AW.midT (fun σ' H' => ∃ (y1 : List Int) (y2 : Int) (G' : GM), (y1, y2) = q7 /\ Ow G' H' (eSl v5 145 (rI .u32) y1 :: L) /\ GM.le G G' /\ σ' 7 = .int .u64 y2) ?_ ?_
 rotate_left
 .rintro σ50 H51 fr52 ⟨x48, x49, G53, rfl, O54, s55, t57⟩
  have h58 := z57 h9
  refine .seq (.region (W.q2 v5 ((fr52 6 rfl).trans rfl) ?_))
  obtain ⟨x59, i60, h61⟩ := z05 h58
  refine W.lo rfl rfl (Lo.callPF (ps := [eSl v5 145 (rI .u32) x48]) (pw := fun w => [eSl w 145 (rI .u32) x59]) rfl (fn := Tryd.f118) (by kernel_rfl) rfl (mc rfl mn) O54 (fun L' O' => z1z K v5 x48 O' _ i60)) ?_
  rintro v70 H71 ⟨w67, G62, O63, s64, sm69, rfl⟩
  refine W.q2 _ t57 (W.pure (v := (.int .u32 (IntKind.wrap .u32 x49))) rfl rfl (z2w z7n z6h (oo rfl rfl)) (W.lo rfl rfl (Lo.buildSlice (r := (rI .u32)) (vs := [(.int .u32 (IntKind.wrap .u32 x49))]) (xs := [IntKind.wrap .u32 x49]) el63 zaq z3g (by kernel_rfl) rfl (qc rfl qn) rfl (.cons rfl .nil) O63) ?_))
  rintro v74 H75 ⟨O72, sm73⟩
  obtain ⟨x76, i77, h78⟩ := z05 h61
  refine W.lo rfl rfl (Lo.callPF (ps := [eSl v74 145 (rI .u32) [IntKind.wrap .u32 x49]]) (pw := fun w => [eSl w 145 (rI .u32) x76]) rfl (fn := Tryd.f118) (by kernel_rfl) rfl (mc rfl mn) O72 (fun L' O' => z1z K v74 [IntKind.wrap .u32 x49] O' _ i77)) ?_
  rintro v87 H88 ⟨w84, G79, O80, s81, sm86, rfl⟩
  refine W.q1 w67 rfl (W.q1 w84 rfl (.nil (.ret ?_)))
  obtain ⟨G89, O90, s91, f92⟩ := O80.frzSl (j := 1) rfl
  obtain ⟨G93, O94, s95, f96⟩ := O90.frzSl (j := 0) rfl
  obtain rfl := zAa h78
  exact zeh kr (v1 := w67) (v2 := w84) (by rfl) (z06 (by rfl) (by exact rfl)) (z06 (by rfl) (by exact rfl)) O94 (zAe s55 (zAe s64 (zAe s81 (zAe s91 s95)))) ⟨w67, w84, rfl, (RT.mono _ s95 f92), f96⟩
 refine .block (AW.loop (α := Nat) (fun k' σ' H' => ∃ (y1 : List Int) (y2 : Int) (y3 : Int) (G' : GM), z13 K p0 p1 k' y1 y2 y3 = some q7 /\ Ow G' H' (eSl v5 145 (rI .u32) y1 :: L) /\ GM.le G G' /\ σ' 7 = .int .u64 y2 /\ σ' 8 = .int .i64 y3) (fun k' => k') K ⟨(List.replicate (Int.toNat (List.length p0 : Int)) 0), 0, z03 .i64 ((List.length p0 : Int) - 1), _, h8, O1, (zAf _), rfl, rfl⟩ ?_)
 rintro k10
 rintro σ14 H15 fr16 ⟨x11, x12, x13, G17, h20, O18, s19, t21, t22⟩
 rcases k10 with _ | k10
 .exact z08 h20
 rw [z13] at h20
 refine .seq (.seq (.region (W.q2 _ t22 (W.q3 (.bool (decide (x13 >= 0))) rfl rfl (.nil (.cond (b := decide (x13 >= 0)) rfl rfl (fun g23 => ?_) (fun g23 => ?_)))))))
 rotate_left
 .have h47 := z0m g23 h20
  refine .exit ?_
  obtain rfl := zAa h47
  exact ⟨x11, x12, _, rfl, O18, s19, t21⟩
 have h24 := z04 g23 h20
 refine .skip (.seq (.block (.seq (.region (W.q2 _ t21 (W.q3 (.int .u64 (z03 .u64 (x12 * 1000000000))) rfl rfl ?_))))))
 refine W.q2 v0 ((fr16 0 rfl).trans rfl) (W.q2 _ t22 ?_)
 obtain ⟨x25, i26, h27⟩ := z05 h24
 have j28 := z0l i26
 refine W.pure (v := (z3f v0 (Int.toNat x13 * 1))) rfl rfl (z46 el63 z3g (oo rfl rfl) (oo rfl rfl) (z0a (RT.mono _ s19 hp0)) j28.1 j28.2.1) (W.load1 (v := (.int .u32 x25)) (r := []) rfl rfl z7m (z26 rfl (At.int (At.le (At.le (z2x hp0 j28.2.2) s19 s19) (zAf _) O18.fro))) (W.pure (v := (.int .u64 (IntKind.wrap .u64 x25))) rfl rfl (z2w z6h z7n (oo rfl rfl)) (W.q3 (.int .u64 (z03 .u64 ((z03 .u64 (x12 * 1000000000)) + (IntKind.wrap .u64 x25)))) rfl rfl ?_)))
 obtain ⟨x29, e30, h31⟩ := z4j h27
 refine W.q1 _ (congrArg (Value.int .u64) e30) (.nil (.seq (.region (W.q2 v5 ((fr16 6 rfl).trans rfl) (W.q2 _ t22 (W.q2 (.int .u64 x29) rfl ?_))))))
 refine W.q2 (.int .u32 p1) ((fr16 1 rfl).trans rfl) (W.pure (v := (.int .u64 (IntKind.wrap .u64 p1))) rfl rfl (z2w z6h z7n (oo rfl rfl)) ?_)
 obtain ⟨g32, h33⟩ := z4g h31
 refine W.pure (v := (.int .u64 (z03 .u64 (Int.tdiv x29 (IntKind.wrap .u64 p1))))) rfl rfl (zg1 g32 (oo rfl rfl) (oo rfl rfl)) (W.pure (v := (.int .u32 (IntKind.wrap .u32 (z03 .u64 (Int.tdiv x29 (IntKind.wrap .u64 p1)))))) rfl rfl (z2w z7n z6h (oo rfl rfl)) ?_)
 obtain ⟨x34, e35, h36⟩ := z4j h33
 obtain ⟨x37, i38, h39⟩ := z05 h36
 have j40 := z0l i38
 refine W.pure (v := (z3f v5 (Int.toNat x13 * 1))) rfl rfl (z46 el63 z3g (oo rfl rfl) (oo rfl rfl) (O18.slLen (j := 0) rfl) j40.1 j40.2.1) (W.lo rfl rfl (Lo.storeSl0 (j := 0) (y0 := x34) (v := (.int .u32 x34)) rfl j40.2.2  rfl z3g rfl (congrArg (Value.int .u32) e35) rfl O18) ?_)
 rintro v43 H44 ⟨O41, sm42⟩
 refine .nil (.region (W.q2 (.int .u64 x29) rfl (W.q2 (.int .u32 p1) ((fr16 1 rfl).trans rfl) (W.pure (v := (.int .u64 (IntKind.wrap .u64 p1))) rfl rfl (z2w z6h z7n (oo rfl rfl)) ?_))))
 obtain ⟨g45, h46⟩ := z4g h39
 refine W.pure (v := (.int .u64 (Int.tmod x29 (IntKind.wrap .u64 p1)))) rfl rfl (zgy g45 (oo rfl rfl) (oo rfl rfl)) (W.q1 (.int .u64 (Int.tmod x29 (IntKind.wrap .u64 p1))) rfl (.nil (.region (W.q2 _ t22 (W.q3 (.int .i64 (z03 .i64 (x13 - 1))) rfl rfl (W.q1 (.int .i64 (z03 .i64 (x13 - 1))) rfl ?_))))))
 refine .nil ?_
 exact ⟨k10, zAg _, ⟨(List.set x11 (Int.toNat x13) x34), Int.tmod x29 (IntKind.wrap .u64 p1), z03 .i64 (x13 - 1), _, h46, O41, s19, rfl, rfl⟩⟩
def z1i (K : Nat) (p1 : List Int) (x12 : Int) (x23 : Int) : Nat -> List Int -> Int -> Int -> Option (List Int × Int)
  | 0, _, _, _ => none
  | k + 1, x31, x32, x33 => (if (decide (x33 < (List.length p1 : Int))) = true then ((idx p1 x33).bind fun x45 => (lt (z03 .u64 ((IntKind.wrap .u64 x23) * (IntKind.wrap .u64 x45))) fun x49 => ((idx x31 (z03 .i64 (x12 + x33))).bind fun x52 => (lt (z03 .u64 ((z03 .u64 (x49 + (IntKind.wrap .u64 x52))) + x32)) fun x56 => ((idx x31 (z03 .i64 (x12 + x33))).bind fun x59 => z1i K p1 x12 x23 k (List.set x31 (Int.toNat (z03 .i64 (x12 + x33))) (IntKind.wrap .u32 (Int.tmod x56 1000000000))) (z03 .u64 (Int.tdiv x56 1000000000)) (z03 .i64 (x33 + 1))))))) else some (x31, x32))
def z1j (K : Nat) (p0 : List Int) (p1 : List Int) : Nat -> List Int -> Int -> Option (List Int)
  | 0, _, _ => none
  | k + 1, x11, x12 => (if (decide (x12 < (List.length p0 : Int))) = true then ((idx p0 x12).bind fun x23 => (Option.bind (z1i K p1 x12 x23 K x11 0 0) (tu2 fun x68 x69 => ((idx x68 (z03 .i64 (x12 + (List.length p1 : Int)))).bind fun x79 => z1j K p0 p1 k (List.set x68 (Int.toNat (z03 .i64 (x12 + (List.length p1 : Int)))) (IntKind.wrap .u32 x69)) (z03 .i64 (x12 + 1)))))) else some x11)
def z3o (K : Nat) (p0 : List Int) (p1 : List Int) : Option (List Int) := (if 0 <= (z03 .i64 ((List.length p0 : Int) + (List.length p1 : Int))) /\ (z03 .i64 ((List.length p0 : Int) + (List.length p1 : Int))) <= (z03 .i64 ((List.length p0 : Int) + (List.length p1 : Int))) /\ (z03 .i64 ((List.length p0 : Int) + (List.length p1 : Int))) <= 16777216 then (Option.bind (z1j K p0 p1 K (List.replicate (Int.toNat (z03 .i64 ((List.length p0 : Int) + (List.length p1 : Int)))) 0) 0) (tu1 fun x88 => ((z1f K x88).bind fun x97 => some x97))) else none)
theorem z5s (v0 : Value) (p0 : List Int) (hp0 : (rSl (rI .u32)).rep G [v0] p0) (v1 : Value) (p1 : List Int) (hp1 : (rSl (rI .u32)).rep G [v1] p1) (O : Ow G H (L)) (r : List Int) (h : z3o K p0 p1 = some r) :
    CRF Tryd.prog 87 [v0, v1] G H (fun w0 => (eSl w0 145 (rI .u32) r :: L)) (fun w0 v G' => w0 = v) := by
 unfold z3o at h
 refine CRF.og (n := 69) (fn := Tryd.f87) (by kernel_rfl) rfl rfl fun R kr => (.seq (.region (W.q1 (.slice none 0 0) rfl (.nil (.seq (.region ?_))))))
 refine W.q2 v0 rfl (W.pure (v := (.int .i64 (List.length p0 : Int))) rfl rfl (z0i (oo rfl rfl) (z0a hp0) (z02 el63)) (W.q2 v1 rfl (W.pure (v := (.int .i64 (List.length p1 : Int))) rfl rfl (z0i (oo rfl rfl) (z0a hp1) (z02 el63)) (W.q3 (.int .i64 (z03 .i64 ((List.length p0 : Int) + (List.length p1 : Int)))) rfl rfl ?_))))
 obtain ⟨g2, h3⟩ := z4g h
 refine W.lo rfl rfl (Lo.makeSlice (r := (rI .u32)) (x0 := 0) (a := (z03 .i64 ((List.length p0 : Int) + (List.length p1 : Int)))) (c := (z03 .i64 ((List.length p0 : Int) + (List.length p1 : Int)))) rfl el63 zaq z3g (by kernel_rfl) rfl zg4 (by decide) rfl rfl g2 (zI .u32) O) ?_
 rintro v5 H6 ⟨O1, sm4⟩
 refine W.q1 v5 rfl (.nil (.seq (.seq (.region (W.q2 v0 rfl (W.pure (v := (.int .i64 (List.length p0 : Int))) rfl rfl (z0i (oo rfl rfl) (z0a hp0) (z02 el63)) ?_))))))
 refine W.q2 (.int .i64 0) rfl (.nil ?_)
 obtain ⟨q7, h8, h9⟩ := z05 h3
 refine AW.midT (fun σ' H' => ∃ (y1 : List Int) (G' : GM), y1 = q7 /\ Ow G' H' (eSl v5 145 (rI .u32) y1 :: L) /\ GM.le G G') ?_ ?_
 rotate_left
 .rintro σ89 H90 fr91 ⟨x88, G92, rfl, O93, s94⟩
  have h96 := z0c h9
  refine .seq (.region (W.q2 v5 ((fr91 5 rfl).trans rfl) ?_))
  obtain ⟨x97, i98, h99⟩ := z05 h96
  refine W.lo rfl rfl (Lo.callPF (ps := [eSl v5 145 (rI .u32) x88]) (pw := fun w => [eSl w 145 (rI .u32) x97]) rfl (fn := Tryd.f118) (by kernel_rfl) rfl (mc rfl mn) O93 (fun L' O' => z1z K v5 x88 O' _ i98)) ?_
  rintro v108 H109 ⟨w105, G100, O101, s102, sm107, rfl⟩
  refine W.q1 w105 rfl (.nil (.ret ?_))
  obtain rfl := zAa h99
  exact zei kr w105 (v1 := w105) (by rfl) (z06 (by rfl) (by exact rfl)) O101 (zAe s94 s102) rfl
 refine .block (AW.loop (α := Nat) (fun k' σ' H' => ∃ (y1 : List Int) (y2 : Int) (G' : GM), z1j K p0 p1 k' y1 y2 = some q7 /\ Ow G' H' (eSl v5 145 (rI .u32) y1 :: L) /\ GM.le G G' /\ σ' 20 = .int .i64 y2) (fun k' => k') K ⟨(List.replicate (Int.toNat (z03 .i64 ((List.length p0 : Int) + (List.length p1 : Int)))) 0), 0, _, h8, O1, (zAf _), rfl⟩ ?_)
 rintro k10
 rintro σ13 H14 fr15 ⟨x11, x12, G16, h19, O17, s18, t20⟩
 rcases k10 with _ | k10
 .exact z08 h19
 rw [z1j] at h19
 refine .seq (.region (W.q3 (.bool (decide (x12 < (List.length p0 : Int)))) t20 ((fr15 19 rfl).trans rfl) (.nil (.seq (.cond (b := decide (x12 < (List.length p0 : Int))) rfl rfl (fun g21 => ?_) (fun g21 => ?_))))))
 rotate_left
 .have h87 := z0m g21 h19
  refine .exit ?_
  obtain rfl := zAa h87
  exact ⟨x11, _, rfl, O17, s18⟩
 have h22 := z04 g21 h19
 refine .skip (.seq (.block (.seq (.region (W.q2 _ t20 ?_)))))
 obtain ⟨x23, i24, h25⟩ := z05 h22
 have j26 := z0l i24
 refine W.pure (v := (z3f v0 (Int.toNat x12 * 1))) rfl rfl (z46 el63 z3g (oo rfl ((fr15 18 rfl).trans rfl)) (oo rfl t20) (z0a (RT.mono _ s18 hp0)) j26.1 j26.2.1) (W.load1 (v := (.int .u32 x23)) (r := []) rfl rfl z7m (z26 rfl (At.int (At.le (At.le (z2x hp0 j26.2.2) s18 s18) (zAf _) O17.fro))) (W.q1 (.int .i64 x12) rfl (W.q1 (.int .u32 x23) rfl (.nil (.seq (.region ?_))))))
 refine W.q1 (.int .u64 0) rfl (.nil (.seq (.seq (.region (W.q2 v1 ((fr15 1 rfl).trans rfl) (W.pure (v := (.int .i64 (List.length p1 : Int))) rfl rfl (z0i (oo rfl rfl) (z0a (RT.mono _ s18 hp1)) (z02 el63)) ?_))))))
 refine W.q2 (.int .i64 0) rfl (.nil ?_)
 obtain ⟨q27, h28, h29⟩ := z05 h25
 refine AW.midT (fun σ' H' => ∃ (y1 : List Int) (y2 : Int) (G' : GM), (y1, y2) = q27 /\ Ow G' H' (eSl v5 145 (rI .u32) y1 :: L) /\ GM.le G16 G' /\ σ' 8 = .int .u64 y2) ?_ ?_
 rotate_left
 .rintro σ70 H71 fr72 ⟨x68, x69, G73, rfl, O74, s75, t77⟩
  have h78 := z57 h29
  refine .region (W.q2 v5 ((fr72 5 rfl).trans ((fr15 5 rfl).trans rfl)) (W.q2 (.int .i64 x12) ((fr72 6 rfl).trans rfl) (W.q2 v1 ((fr72 1 rfl).trans ((fr15 1 rfl).trans rfl)) (W.pure (v := (.int .i64 (List.length p1 : Int))) rfl rfl (z0i (oo rfl rfl) (z0a (RT.mono _ (zAe s18 s75) hp1)) (z02 el63)) (W.q3 (.int .i64 (z03 .i64 (x12 + (List.length p1 : Int)))) rfl rfl (W.q2 _ t77 ?_))))))
  refine W.pure (v := (.int .u32 (IntKind.wrap .u32 x69))) rfl rfl (z2w z7n z6h (oo rfl rfl)) ?_
  obtain ⟨x79, i80, h81⟩ := z05 h78
  have j82 := z0l i80
  refine W.pure (v := (z3f v5 (Int.toNat (z03 .i64 (x12 + (List.length p1 : Int))) * 1))) rfl rfl (z46 el63 z3g (oo rfl rfl) (oo rfl rfl) (O74.slLen (j := 0) rfl) j82.1 j82.2.1) (W.lo rfl rfl (Lo.storeSl0 (j := 0) (y0 := IntKind.wrap .u32 x69) (v := (.int .u32 (IntKind.wrap .u32 x69))) rfl j82.2.2  rfl z3g rfl rfl rfl O74) ?_)
  rintro v85 H86 ⟨O83, sm84⟩
  refine .nil (.region (W.q3 (.int .i64 (z03 .i64 (x12 + 1))) ((fr72 20 rfl).trans t20) rfl (W.q2 (.int .i64 (z03 .i64 (x12 + 1))) rfl (.nil ?_))))
  exact ⟨k10, zAg _, ⟨(List.set x68 (Int.toNat (z03 .i64 (x12 + (List.length p1 : Int)))) (IntKind.wrap .u32 x69)), z03 .i64 (x12 + 1), _, h81, O83, (zAe s18 s75), rfl⟩⟩
 refine .block (AW.loop (α := Nat) (fun k' σ' H' => ∃ (y1 : List Int) (y2 : Int) (y3 : Int) (G' : GM), z1i K p1 x12 x23 k' y1 y2 y3 = some q27 /\ Ow G' H' (eSl v5 145 (rI .u32) y1 :: L) /\ GM.le G16 G' /\ σ' 8 = .int .u64 y2 /\ σ' 27 = .int .i64 y3) (fun k' => k') K ⟨x11, 0, 0, _, h28, O17, (zAf _), rfl, rfl⟩ ?_)
 rintro k30
 rintro σ34 H35 fr36 ⟨x31, x32, x33, G37, h40, O38, s39, t41, t42⟩
 rcases k30 with _ | k30
 .exact z08 h40
 rw [z1i] at h40
 refine .seq (.region (W.q3 (.bool (decide (x33 < (List.length p1 : Int)))) t42 ((fr36 26 rfl).trans rfl) (.nil (.seq (.cond (b := decide (x33 < (List.length p1 : Int))) rfl rfl (fun g43 => ?_) (fun g43 => ?_))))))
 rotate_left
 .have h67 := z0m g43 h40
  refine .exit ?_
  obtain rfl := zAa h67
  exact ⟨x31, x32, _, rfl, O38, s39, t41⟩
 have h44 := z04 g43 h40
 refine .skip (.seq (.block (.seq (.region (W.q2 _ t42 ?_)))))
 obtain ⟨x45, i46, h47⟩ := z05 h44
 have j48 := z0l i46
 refine W.pure (v := (z3f v1 (Int.toNat x33 * 1))) rfl rfl (z46 el63 z3g (oo rfl ((fr36 25 rfl).trans rfl)) (oo rfl t42) (z0a (RT.mono _ (zAe s18 s39) hp1)) j48.1 j48.2.1) (W.load1 (v := (.int .u32 x45)) (r := []) rfl rfl z7m (z26 rfl (At.int (At.le (At.le (z2x hp1 j48.2.2) (zAe s18 s39) (zAe s18 s39)) (zAf _) O38.fro))) (W.q1 (.int .i64 x33) rfl (W.q1 (.int .u32 x45) rfl (.nil (.seq (.region ?_))))))
 refine W.q2 (.int .u32 x23) ((fr36 7 rfl).trans rfl) (W.pure (v := (.int .u64 (IntKind.wrap .u64 x23))) rfl rfl (z2w z6h z7n (oo rfl rfl)) (W.q2 (.int .u32 x45) rfl (W.pure (v := (.int .u64 (IntKind.wrap .u64 x45))) rfl rfl (z2w z6h z7n (oo rfl rfl)) (W.q3 (.int .u64 (z03 .u64 ((IntKind.wrap .u64 x23) * (IntKind.wrap .u64 x45)))) rfl rfl ?_))))
 obtain ⟨x49, e50, h51⟩ := z4j h47
 refine W.q2 v5 ((fr36 5 rfl).trans ((fr15 5 rfl).trans rfl)) (W.q2 (.int .i64 x12) ((fr36 6 rfl).trans rfl) (W.q2 (.int .i64 x33) rfl (W.q3 (.int .i64 (z03 .i64 (x12 + x33))) rfl rfl ?_)))
 obtain ⟨x52, i53, h54⟩ := z05 h51
 have j55 := z0l i53
 refine W.pure (v := (z3f v5 (Int.toNat (z03 .i64 (x12 + x33)) * 1))) rfl rfl (z46 el63 z3g (oo rfl rfl) (oo rfl rfl) (O38.slLen (j := 0) rfl) j55.1 j55.2.1) (W.load1 (v := (.int .u32 x52)) (r := []) rfl rfl z7m (z26 rfl (At.int (O38.atSl (j := 0) rfl j55.2.2))) (W.pure (v := (.int .u64 (IntKind.wrap .u64 x52))) rfl rfl (z2w z6h z7n (oo rfl rfl)) (W.q3 (.int .u64 (z03 .u64 (x49 + (IntKind.wrap .u64 x52)))) (congrArg (Value.int .u64) e50) rfl (W.q2 _ t41 (W.q3 (.int .u64 (z03 .u64 ((z03 .u64 (x49 + (IntKind.wrap .u64 x52))) + x32))) rfl rfl ?_)))))
 obtain ⟨x56, e57, h58⟩ := z4j h54
 refine W.q1 _ (congrArg (Value.int .u64) e57) (.nil (.seq (.region (W.q2 v5 ((fr36 5 rfl).trans ((fr15 5 rfl).trans rfl)) (W.q2 (.int .i64 x12) ((fr36 6 rfl).trans rfl) (W.q2 (.int .i64 x33) rfl ?_))))))
 refine W.q3 (.int .i64 (z03 .i64 (x12 + x33))) rfl rfl (W.q2 (.int .u64 x56) rfl (W.pure (v := (.int .u64 (Int.tmod x56 1000000000))) rfl rfl (zgy (by decide) (oo rfl rfl) (oo rfl rfl)) (W.pure (v := (.int .u32 (IntKind.wrap .u32 (Int.tmod x56 1000000000)))) rfl rfl (z2w z7n z6h (oo rfl rfl)) ?_)))
 obtain ⟨x59, i60, h61⟩ := z05 h58
 have j62 := z0l i60
 refine W.pure (v := (z3f v5 (Int.toNat (z03 .i64 (x12 + x33)) * 1))) rfl rfl (z46 el63 z3g (oo rfl rfl) (oo rfl rfl) (O38.slLen (j := 0) rfl) j62.1 j62.2.1) (W.lo rfl rfl (Lo.storeSl0 (j := 0) (y0 := IntKind.wrap .u32 (Int.tmod x56 1000000000)) (v := (.int .u32 (IntKind.wrap .u32 (Int.tmod x56 1000000000)))) rfl j62.2.2  rfl z3g rfl rfl rfl O38) ?_)
 rintro v65 H66 ⟨O63, sm64⟩
 refine .nil (.region (W.q2 (.int .u64 x56) rfl (W.pure (v := (.int .u64 (z03 .u64 (Int.tdiv x56 1000000000)))) rfl rfl (zg1 (by decide) (oo rfl rfl) (oo rfl rfl)) (W.q1 (.int .u64 (z03 .u64 (Int.tdiv x56 1000000000))) rfl (.nil (.region ?_))))))
 refine W.q3 (.int .i64 (z03 .i64 (x33 + 1))) t42 rfl (W.q2 (.int .i64 (z03 .i64 (x33 + 1))) rfl (.nil ?_))
 exact ⟨k30, zAg _, ⟨(List.set x31 (Int.toNat (z03 .i64 (x12 + x33))) (IntKind.wrap .u32 (Int.tmod x56 1000000000))), z03 .u64 (Int.tdiv x56 1000000000), z03 .i64 (x33 + 1), _, h61, O63, s39, rfl, rfl⟩⟩
def z0s (K : Nat) (p1 : List Int) (p2 : Int) (p3 : Int) : Nat -> List Int -> Int -> Int -> Int -> Option (List Int × Int)
  | 0, _, _, _, _ => none
  | k + 1, x5, x6, x7, x8 => (if (decide (x8 <= (List.length p1 : Int))) = true then (Option.bind ((if (decide (x8 < (List.length p1 : Int))) = true then ((idx p1 x8).bind fun x26 => (lt (z03 .u64 (x7 + (z03 .u64 (p3 * (IntKind.wrap .u64 x26))))) fun x30 => some x30)) else some x7)) (tu1 fun x34 => ((idx x5 (z03 .i64 (p2 + x8))).bind fun x44 => (lt (z03 .i64 ((IntKind.wrap .i64 x44) - (IntKind.wrap .i64 (Int.tmod x34 1000000000)))) fun x48 => (Option.bind ((if (decide ((z03 .i64 (x48 - x6)) < 0)) = true then some (1, z03 .i64 ((z03 .i64 (x48 - x6)) + 1000000000)) else some (0, z03 .i64 (x48 - x6)))) (tu2 fun x57 x58 => ((idx x5 (z03 .i64 (p2 + x8))).bind fun x69 => z0s K p1 p2 p3 k (List.set x5 (Int.toNat (z03 .i64 (p2 + x8))) (IntKind.wrap .u32 x58)) x57 (z03 .u64 (Int.tdiv x34 1000000000)) (z03 .i64 (x8 + 1))))))))) else some (x5, x6))
def z23 (K : Nat) (p0 : List Int) (p1 : List Int) (p2 : Int) (p3 : Int) : Option (Bool × List Int) := (Option.bind (z0s K p1 p2 p3 K p0 0 0 0) (tu2 fun x78 x79 => some (decide (x79 > 0), x78)))
theorem z7b (v0 : Value) (p0 : List Int) (v1 : Value) (p1 : List Int) (hp1 : (rSl (rI .u32)).rep G [v1] p1) (p2 : Int) (p3 : Int) (O : Ow G H (eSl v0 145 (rI .u32) p0 :: L)) (r : Bool × List Int) (h : z23 K p0 p1 p2 p3 = some r) :
    CR Tryd.prog 128 [v0, v1, (.int .i64 p2), (.int .u64 p3)] G H (eSl v0 145 (rI .u32) r.2 :: L) (fun v G' _ => v = .bool r.1) := by
 unfold z23 at h
 refine CR.og (n := 62) (fn := Tryd.f128) (by kernel_rfl) rfl rfl fun R kr => (.seq (.region (W.q1 (.bool false) rfl (.nil (.seq (.region ?_))))))
 refine W.q1 (.int .i64 0) rfl (.nil (.seq (.region (W.q1 (.int .u64 0) rfl (.nil (.seq ?_))))))
 refine .seq (.region (W.q1 (.int .i64 0) rfl (.nil ?_)))
 obtain ⟨q1, h2, h3⟩ := z05 h
 refine AW.midT (fun σ' H' => ∃ (y1 : List Int) (y2 : Int) (G' : GM), (y1, y2) = q1 /\ Ow G' H' (eSl v0 145 (rI .u32) y1 :: L) /\ GM.le G G' /\ σ' 9 = .int .i64 y2) ?_ ?_
 rotate_left
 .rintro σ80 H81 fr82 ⟨x78, x79, G83, rfl, O84, s85, t87⟩
  have h88 := z57 h3
  refine .seq (.region (W.q2 _ t87 (W.q3 (.bool (decide (x79 > 0))) rfl rfl (W.q1 (.bool (decide (x79 > 0))) rfl (.nil (.ret ?_))))))
  obtain rfl := zAa h88
  exact z1y kr (v1 := (.bool (decide (x79 > 0)))) (by rfl) (z06 (by rfl) (by exact rfl)) O84 s85 rfl
 refine .block (AW.loop (α := Nat) (fun k' σ' H' => ∃ (y1 : List Int) (y2 : Int) (y3 : Int) (y4 : Int) (G' : GM), z0s K p1 p2 p3 k' y1 y2 y3 y4 = some q1 /\ Ow G' H' (eSl v0 145 (rI .u32) y1 :: L) /\ GM.le G G' /\ σ' 9 = .int .i64 y2 /\ σ' 10 = .int .u64 y3 /\ σ' 11 = .int .i64 y4) (fun k' => k') K ⟨p0, 0, 0, 0, _, h2, O, (zAf _), rfl, rfl, rfl⟩ ?_)
 rintro k4
 rintro σ9 H10 fr11 ⟨x5, x6, x7, x8, G12, h15, O13, s14, t16, t17, t18⟩
 rcases k4 with _ | k4
 .exact z08 h15
 rw [z0s] at h15
 refine .seq (.seq (.region (W.q2 _ t18 (W.q2 v1 ((fr11 1 rfl).trans rfl) (W.pure (v := (.int .i64 (List.length p1 : Int))) rfl rfl (z0i (oo rfl rfl) (z0a (RT.mono _ s14 hp1)) (z02 el63)) (W.q3 (.bool (decide (x8 <= (List.length p1 : Int)))) rfl rfl ?_))))))
 refine .nil (.cond (b := decide (x8 <= (List.length p1 : Int))) rfl rfl (fun g19 => ?_) (fun g19 => ?_))
 rotate_left
 .have h77 := z0m g19 h15
  refine .exit ?_
  obtain rfl := zAa h77
  exact ⟨x5, x6, _, rfl, O13, s14, t16⟩
 have h20 := z04 g19 h15
 refine .skip (.seq (.block (.seq (.region (W.q2 _ t17 (W.q1 (.int .u64 x7) rfl ?_))))))
 refine .nil (.seq (.seq (.region (W.q2 _ t18 (W.q2 v1 ((fr11 1 rfl).trans rfl) (W.pure (v := (.int .i64 (List.length p1 : Int))) rfl rfl (z0i (oo rfl rfl) (z0a (RT.mono _ s14 hp1)) (z02 el63)) ?_))))))
 refine W.q3 (.bool (decide (x8 < (List.length p1 : Int)))) rfl rfl (.nil ?_)
 obtain ⟨q21, h22, h23⟩ := z05 h20
 refine AW.midT (fun σ' H' => ∃ (y1 : Int) (G' : GM), y1 = q21 /\ Ow G' H' (eSl v0 145 (rI .u32) x5 :: L) /\ GM.le G12 G' /\ σ' 12 = .int .u64 y1) ?_ ?_
 .refine .cond (b := decide (x8 < (List.length p1 : Int))) rfl rfl (fun g24 => ?_) (fun g24 => ?_)
  rotate_left
  .have h33 := z0m g24 h22
   refine .skip ?_
   obtain rfl := zAa h33
   exact ⟨x7, _, rfl, O13, (zAf _), rfl⟩
  have h25 := z04 g24 h22
  refine .region (W.q2 (.int .u64 x7) rfl (W.q2 (.int .u64 p3) ((fr11 3 rfl).trans rfl) (W.q2 v1 ((fr11 1 rfl).trans rfl) (W.q2 _ t18 ?_))))
  obtain ⟨x26, i27, h28⟩ := z05 h25
  have j29 := z0l i27
  refine W.pure (v := (z3f v1 (Int.toNat x8 * 1))) rfl rfl (z46 el63 z3g (oo rfl rfl) (oo rfl rfl) (z0a (RT.mono _ s14 hp1)) j29.1 j29.2.1) (W.load1 (v := (.int .u32 x26)) (r := []) rfl rfl z7m (z26 rfl (At.int (At.le (At.le (z2x hp1 j29.2.2) s14 s14) (zAf _) O13.fro))) (W.pure (v := (.int .u64 (IntKind.wrap .u64 x26))) rfl rfl (z2w z6h z7n (oo rfl rfl)) (W.q3 (.int .u64 (z03 .u64 (p3 * (IntKind.wrap .u64 x26)))) rfl rfl (W.q3 (.int .u64 (z03 .u64 (x7 + (z03 .u64 (p3 * (IntKind.wrap .u64 x26)))))) rfl rfl ?_))))
  obtain ⟨x30, e31, h32⟩ := z4j h28
  refine W.q1 _ (congrArg (Value.int .u64) e31) (.nil ?_)
  obtain rfl := zAa h32
  exact ⟨x30, _, rfl, O13, (zAf _), rfl⟩
 rintro σ35 H36 fr37 ⟨x34, G38, rfl, O39, s40, t42⟩
 have h43 := z0c h23
 refine .seq (.region (W.q2 _ t42 (W.pure (v := (.int .u64 (z03 .u64 (Int.tdiv x34 1000000000)))) rfl rfl (zg1 (by decide) (oo rfl rfl) (oo rfl rfl)) (W.q1 (.int .u64 (z03 .u64 (Int.tdiv x34 1000000000))) rfl (.nil (.seq ?_))))))
 refine .region (W.q2 v0 ((fr37 0 rfl).trans ((fr11 0 rfl).trans rfl)) (W.q2 (.int .i64 p2) ((fr37 2 rfl).trans ((fr11 2 rfl).trans rfl)) (W.q2 _ ((fr37 11 rfl).trans t18) (W.q3 (.int .i64 (z03 .i64 (p2 + x8))) rfl rfl ?_))))
 obtain ⟨x44, i45, h46⟩ := z05 h43
 have j47 := z0l i45
 refine W.pure (v := (z3f v0 (Int.toNat (z03 .i64 (p2 + x8)) * 1))) rfl rfl (z46 el63 z3g (oo rfl rfl) (oo rfl rfl) (O39.slLen (j := 0) rfl) j47.1 j47.2.1) (W.load1 (v := (.int .u32 x44)) (r := []) rfl rfl z7m (z26 rfl (At.int (O39.atSl (j := 0) rfl j47.2.2))) (W.pure (v := (.int .i64 (IntKind.wrap .i64 x44))) rfl rfl (z2w z6h in2 (oo rfl rfl)) (W.q2 _ t42 (W.pure (v := (.int .u64 (Int.tmod x34 1000000000))) rfl rfl (zgy (by decide) (oo rfl rfl) (oo rfl rfl)) (W.pure (v := (.int .i64 (IntKind.wrap .i64 (Int.tmod x34 1000000000)))) rfl rfl (z2w z7n in2 (oo rfl rfl)) (W.q3 (.int .i64 (z03 .i64 ((IntKind.wrap .i64 x44) - (IntKind.wrap .i64 (Int.tmod x34 1000000000))))) rfl rfl ?_))))))
 obtain ⟨x48, e49, h50⟩ := z4j h46
 refine W.q2 _ ((fr37 9 rfl).trans t16) (W.q3 (.int .i64 (z03 .i64 (x48 - x6))) (congrArg (Value.int .i64) e49) rfl (W.q1 (.int .i64 (z03 .i64 (x48 - x6))) rfl (.nil (.seq (.region (W.q1 (.int .i64 0) rfl ?_))))))
 refine .nil (.seq (.seq (.region (W.q2 (.int .i64 (z03 .i64 (x48 - x6))) rfl (W.q3 (.bool (decide ((z03 .i64 (x48 - x6)) < 0))) rfl rfl (.nil ?_))))))
 obtain ⟨q51, h52, h53⟩ := z05 h50
 refine AW.midT (fun σ' H' => ∃ (y1 : Int) (y2 : Int) (G' : GM), (y1, y2) = q51 /\ Ow G' H' (eSl v0 145 (rI .u32) x5 :: L) /\ GM.le G38 G' /\ σ' 9 = .int .i64 y1 /\ σ' 13 = .int .i64 y2) ?_ ?_
 .refine .cond (b := decide ((z03 .i64 (x48 - x6)) < 0)) rfl rfl (fun g54 => ?_) (fun g54 => ?_)
  rotate_left
  .have h56 := z0m g54 h52
   refine .skip ?_
   obtain rfl := zAa h56
   exact ⟨0, z03 .i64 (x48 - x6), _, rfl, O39, (zAf _), rfl, rfl⟩
  have h55 := z04 g54 h52
  refine .seq (.region (W.q2 (.int .i64 (z03 .i64 (x48 - x6))) rfl (W.q3 (.int .i64 (z03 .i64 ((z03 .i64 (x48 - x6)) + 1000000000))) rfl rfl (W.q1 (.int .i64 (z03 .i64 ((z03 .i64 (x48 - x6)) + 1000000000))) rfl (.nil (.region ?_))))))
  refine W.q1 (.int .i64 1) rfl (.nil ?_)
  obtain rfl := zAa h55
  exact ⟨1, z03 .i64 ((z03 .i64 (x48 - x6)) + 1000000000), _, rfl, O39, (zAf _), rfl, rfl⟩
 rintro σ59 H60 fr61 ⟨x57, x58, G62, rfl, O63, s64, t66, t67⟩
 have h68 := z57 h53
 refine .region (W.q2 v0 ((fr61 0 rfl).trans ((fr37 0 rfl).trans ((fr11 0 rfl).trans rfl))) (W.q2 (.int .i64 p2) ((fr61 2 rfl).trans ((fr37 2 rfl).trans ((fr11 2 rfl).trans rfl))) (W.q2 _ ((fr61 11 rfl).trans ((fr37 11 rfl).trans t18)) (W.q3 (.int .i64 (z03 .i64 (p2 + x8))) rfl rfl (W.q2 _ t67 (W.pure (v := (.int .u32 (IntKind.wrap .u32 x58))) rfl rfl (z2w in2 z6h (oo rfl rfl)) ?_))))))
 obtain ⟨x69, i70, h71⟩ := z05 h68
 have j72 := z0l i70
 refine W.pure (v := (z3f v0 (Int.toNat (z03 .i64 (p2 + x8)) * 1))) rfl rfl (z46 el63 z3g (oo rfl rfl) (oo rfl rfl) (O63.slLen (j := 0) rfl) j72.1 j72.2.1) (W.lo rfl rfl (Lo.storeSl0 (j := 0) (y0 := IntKind.wrap .u32 x58) (v := (.int .u32 (IntKind.wrap .u32 x58))) rfl j72.2.2  rfl z3g rfl rfl rfl O63) ?_)
 rintro v75 H76 ⟨O73, sm74⟩
 refine .nil (.region (W.q2 _ ((fr61 11 rfl).trans ((fr37 11 rfl).trans t18)) (W.q3 (.int .i64 (z03 .i64 (x8 + 1))) rfl rfl (W.q1 (.int .i64 (z03 .i64 (x8 + 1))) rfl (.nil ?_)))))
 exact ⟨k4, zAg _, ⟨(List.set x5 (Int.toNat (z03 .i64 (p2 + x8))) (IntKind.wrap .u32 x58)), x57, z03 .u64 (Int.tdiv x34 1000000000), z03 .i64 (x8 + 1), _, h71, O73, (zAe s14 (zAe s40 s64)), t66, ((fr61 10 rfl).trans rfl), rfl⟩⟩
end Go.Am.Tryd
