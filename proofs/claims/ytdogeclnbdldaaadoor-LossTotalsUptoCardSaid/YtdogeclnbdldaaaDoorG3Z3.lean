/- Typed functions with the same answers as the program's, and the walks that show it. -/
import Derived.Test.YtdogeclnbdldaaaDoorG2Z3
set_option maxRecDepth 100000
set_option maxHeartbeats 8000000
set_option linter.unusedVariables false
set_option linter.unusedSimpArgs false
namespace Go.Am.Tryd
open Go Go.Am Go.Proofs
variable (K : Nat) {G : GM} {H : AH} {L : List Pc}
def z0m (K : Nat) (p1 : Int) : Nat -> zAd -> Option (zAd)
  | 0, _ => none
  | k + 1, x5 => (Option.bind ((if (decide ((x5.size : Int) > 0)) = true then ((bidx x5 0).bind fun x20 => some (x20 == p1)) else some false)) (tu1 fun x24 => (if x24 = true then ((ssl x5 1 (x5.size : Int)).bind fun x36 => z0m K p1 k x36) else some x5)))
def z2k (K : Nat) (p0 : zAd) (p1 : Int) : Option zAd := (Option.bind (z0m K p1 K p0) (tu1 fun x40 => some x40))
theorem z6k (p0 : zAd) (p1 : Int) (O : Ow G H (L)) (r : zAd) (h : z2k K p0 p1 = some r) :
    CR Tryd.prog 139 [(.string p0), (.int .u8 p1)] G H (L) (fun v G' _ => v = .string r) := by
 unfold z2k at h
 refine CR.og (n := 17) (fn := Tryd.f139) (by kernel_rfl) rfl rfl fun R kr => (.seq (.region (W.q1 (.string (⟨#[]⟩ : zAd)) rfl (.nil (.seq ?_)))))
 obtain ⟨q1, h2, h3⟩ := z00 h
 refine AW.midT (fun σ' H' => ∃ (y1 : zAd) (G' : GM), y1 = q1 /\ Ow G' H' (L) /\ GM.le G G' /\ σ' 0 = .string y1) ?_ ?_
 rotate_left
 .rintro σ41 H42 fr43 ⟨x40, G44, rfl, O45, s46, t48⟩
  have h49 := z0d h3
  refine .seq (.region (W.q2 _ t48 (W.q1 (.string x40) rfl (.nil (.ret ?_)))))
  obtain rfl := zAa h49
  exact z16 kr (v1 := (.string x40)) (by rfl) (z09 (by rfl) (by exact rfl)) O45 s46 rfl
 refine .block (AW.loop (α := Nat) (fun k' σ' H' => ∃ (y1 : zAd) (G' : GM), z0m K p1 k' y1 = some q1 /\ Ow G' H' (L) /\ GM.le G G' /\ σ' 0 = .string y1) (fun k' => k') K ⟨p0, _, h2, O, (zAf _), rfl⟩ ?_)
 rintro k4
 rintro σ6 H7 fr8 ⟨x5, G9, h12, O10, s11, t13⟩
 rcases k4 with _ | k4
 .exact z0a h12
 rw [z0m] at h12
 refine .seq (.seq ?_)
 obtain ⟨q14, h15, h16⟩ := z00 h12
 refine AW.midT (fun σ' H' => ∃ (y1 : Bool) (G' : GM), y1 = q14 /\ Ow G' H' (L) /\ GM.le G9 G' /\ σ' 13 = .bool y1) ?_ ?_
 rotate_left
 .rintro σ25 H26 fr27 ⟨x24, G28, rfl, O29, s30, t32⟩
  have h33 := z0d h16
  refine .cond (b := x24) rfl t32 (fun g34 => ?_) (fun g34 => ?_)
  rotate_left
  .have h39 := z0h g34 h33
   refine .exit ?_
   obtain rfl := zAa h39
   exact ⟨x5, _, rfl, O29, (zAe s11 s30), ((fr27 0 rfl).trans t13)⟩
  have h35 := z03 g34 h33
  refine .skip (.block (.region (W.q2 _ ((fr27 0 rfl).trans t13) ?_)))
  obtain ⟨x36, i37, h38⟩ := z00 h35
  refine W.pure (v := (.string x36)) rfl rfl (zd5 un9 (oo rfl rfl) (oo rfl rfl) i37) (W.q1 (.string x36) rfl (.nil ?_))
  exact ⟨k4, zAg _, ⟨x36, _, h38, O29, (zAe s11 s30), rfl⟩⟩
 refine .region (W.q2 _ t13 (W.pure (v := (.int .i64 (x5.size : Int))) rfl rfl (z1h (oo rfl rfl) un9) (W.q3 (.bool (decide ((x5.size : Int) > 0))) rfl rfl (W.q2 (.bool (decide ((x5.size : Int) > 0))) rfl (W.splitAt (t := 8) (b := decide ((x5.size : Int) > 0)) rfl (fun g17 gv18 => ?_) (fun g17 gv18 => ?_))))))
 rotate_left
 .have h23 := z0h g17 h15
  refine W.q6 rfl gv18 (W.q6 rfl gv18 (W.q6 rfl gv18 (W.q6 rfl gv18 (W.q5 (.bool false) gv18 rfl (.nil ?_)))))
  obtain rfl := zAa h23
  exact ⟨false, _, rfl, O10, (zAf _), rfl⟩
 have h19 := z03 g17 h15
 refine W.q2 (hg := gk rfl rfl gv18 rfl) _ t13 ?_
 obtain ⟨x20, i21, h22⟩ := z00 h19
 refine W.pure (v := (.int .u8 x20)) (gk rfl rfl gv18 rfl) rfl (z93 un9 (oo rfl rfl) (oo rfl rfl) i21) (W.q2 (hg := gk rfl rfl gv18 rfl) (.int .u8 p1) ((fr8 1 rfl).trans rfl) (W.q3 (hg := gk rfl rfl gv18 rfl) (.bool (x20 == p1)) rfl rfl (W.q4 (.bool (x20 == p1)) gv18 rfl (.nil ?_))))
 obtain rfl := zAa h22
 exact ⟨(x20 == p1), _, rfl, O10, (zAf _), rfl⟩
def z2r (K : Nat) (p0 : zAd) (p1 : zAd) : Option zAd := (Option.bind ((if (sEq p0 (⟨#[]⟩ : zAd)) = true then some true else some (sEq p1 (⟨#[]⟩ : zAd)))) (tu1 fun x8 => (if x8 = true then some p0 else (Option.bind ((if ((p1.size : Int) == 1) = true then ((bidx p1 0).bind fun x27 => some (decide (x27 < 128))) else some false)) (tu1 fun x31 => (if x31 = true then ((bidx p1 0).bind fun x43 => ((z2k K p0 x43).bind fun x46 => some x46)) else none))))))
theorem z8b (p0 : zAd) (p1 : zAd) (O : Ow G H (L)) (r : zAd) (h : z2r K p0 p1 = some r) :
    CR Tryd.prog 132 [(.string p0), (.string p1)] G H (L) (fun v G' _ => v = .string r) := by
 unfold z2r at h
 refine CR.og (n := 37) (fn := Tryd.f132) (by kernel_rfl) rfl rfl fun R kr => (.seq (.region (W.q1 (.string (⟨#[]⟩ : zAd)) rfl (.nil (.seq (.seq ?_))))))
 obtain ⟨q1, h2, h3⟩ := z00 h
 refine AW.midT (fun σ' H' => ∃ (y1 : Bool) (G' : GM), y1 = q1 /\ Ow G' H' (L) /\ GM.le G G' /\ σ' 12 = .bool y1) ?_ ?_
 .refine .region (W.q2 (.string p0) rfl (W.pure (v := (.bool (sEq p0 (⟨#[]⟩ : zAd)))) rfl rfl (z6c (oo rfl rfl) (oo rfl rfl)) (W.q2 (.bool (sEq p0 (⟨#[]⟩ : zAd))) rfl (W.splitAt (t := 9) (b := sEq p0 (⟨#[]⟩ : zAd)) rfl (fun g4 gv5 => ?_) (fun g4 gv5 => ?_)))))
  .have h6 := z03 g4 h2
   refine W.q6 rfl gv5 (W.q6 rfl gv5 (W.q4 (.bool true) gv5 rfl (.nil ?_)))
   obtain rfl := zAa h6
   exact ⟨true, _, rfl, O, (zAf _), rfl⟩
  have h7 := z0h g4 h2
  refine W.q2 (hg := gk rfl rfl gv5 rfl) (.string p1) rfl (W.pure (v := (.bool (sEq p1 (⟨#[]⟩ : zAd)))) (gk rfl rfl gv5 rfl) rfl (z6c (oo rfl rfl) (oo rfl rfl)) (W.q5 (.bool (sEq p1 (⟨#[]⟩ : zAd))) gv5 rfl (.nil ?_)))
  obtain rfl := zAa h7
  exact ⟨sEq p1 (⟨#[]⟩ : zAd), _, rfl, O, (zAf _), rfl⟩
 rintro σ9 H10 fr11 ⟨x8, G12, rfl, O13, s14, t16⟩
 have h17 := z0d h3
 refine .cond (b := x8) rfl t16 (fun g18 => ?_) (fun g18 => ?_)
 .have h19 := z03 g18 h17
  refine .seq (.region (W.q2 (.string p0) ((fr11 0 rfl).trans rfl) (W.q1 (.string p0) rfl (.nil (.ret ?_)))))
  obtain rfl := zAa h19
  exact z16 kr (v1 := (.string p0)) (by rfl) (z09 (by rfl) (by exact rfl)) O13 s14 rfl
 have h20 := z0h g18 h17
 refine .skip (.seq (.seq ?_))
 obtain ⟨q21, h22, h23⟩ := z00 h20
 refine AW.midT (fun σ' H' => ∃ (y1 : Bool) (G' : GM), y1 = q21 /\ Ow G' H' (L) /\ GM.le G12 G' /\ σ' 21 = .bool y1) ?_ ?_
 rotate_left
 .rintro σ32 H33 fr34 ⟨x31, G35, rfl, O36, s37, t39⟩
  have h40 := z0d h23
  refine .cond (b := x31) rfl t39 (fun g41 => ?_) (fun g41 => ?_)
  rotate_left
  .have h57 := z0h g41 h40
   refine .skip (.seq (.seq (.region (W.q2 (.string p1) ((fr34 1 rfl).trans ((fr11 1 rfl).trans rfl)) ?_))))
   exact gap h57
  have h42 := z03 g41 h40
  refine .seq (.region (W.q2 (.string p0) ((fr34 0 rfl).trans ((fr11 0 rfl).trans rfl)) (W.q2 (.string p1) ((fr34 1 rfl).trans ((fr11 1 rfl).trans rfl)) ?_)))
  obtain ⟨x43, i44, h45⟩ := z00 h42
  refine W.pure (v := (.int .u8 x43)) rfl rfl (z93 un9 (oo rfl rfl) (oo rfl rfl) i44) ?_
  obtain ⟨x46, i47, h48⟩ := z00 h45
  refine W.lo rfl rfl (Lo.cP rfl (fn := Tryd.f139) (by kernel_rfl) rfl (mc rfl (mc rfl mn)) O36 (fun L' O' => z6k K p0 x43 O' _ i47)) ?_
  rintro v55 H56 ⟨G49, O50, s51, sm54, rfl⟩
  refine W.q1 (.string x46) rfl (.nil (.ret ?_))
  obtain rfl := zAa h48
  exact z16 kr (v1 := (.string x46)) (by rfl) (z09 (by rfl) (by exact rfl)) O50 (zAe s14 (zAe s37 s51)) rfl
 refine .region (W.q2 (.string p1) ((fr11 1 rfl).trans rfl) (W.pure (v := (.int .i64 (p1.size : Int))) rfl rfl (z1h (oo rfl rfl) un9) (W.q3 (.bool ((p1.size : Int) == 1)) rfl rfl (W.q2 (.bool ((p1.size : Int) == 1)) rfl (W.splitAt (t := 17) (b := ((p1.size : Int) == 1)) rfl (fun g24 gv25 => ?_) (fun g24 gv25 => ?_))))))
 rotate_left
 .have h30 := z0h g24 h22
  refine W.q6 rfl gv25 (W.q6 rfl gv25 (W.q6 rfl gv25 (W.q5 (.bool false) gv25 rfl (.nil ?_))))
  obtain rfl := zAa h30
  exact ⟨false, _, rfl, O13, (zAf _), rfl⟩
 have h26 := z03 g24 h22
 refine W.q2 (hg := gk rfl rfl gv25 rfl) (.string p1) ((fr11 1 rfl).trans rfl) ?_
 obtain ⟨x27, i28, h29⟩ := z00 h26
 refine W.pure (v := (.int .u8 x27)) (gk rfl rfl gv25 rfl) rfl (z93 un9 (oo rfl rfl) (oo rfl rfl) i28) (W.q3 (hg := gk rfl rfl gv25 rfl) (.bool (decide (x27 < 128))) rfl rfl (W.q4 (.bool (decide (x27 < 128))) gv25 rfl (.nil ?_)))
 obtain rfl := zAa h29
 exact ⟨decide (x27 < 128), _, rfl, O13, (zAf _), rfl⟩
def z23 (K : Nat) : Nat -> List Int -> Int -> Int -> Option (List Int)
  | 0, _, _, _ => none
  | k + 1, x39, x40, x41 => (if (decide (x41 >= 0)) = true then (lt (IntKind.wrap .u8 (z05 .u32 ((48 : Int) + (Int.tmod x40 10)))) fun x53 => ((idx x39 x41).bind fun x56 => z23 K k (List.set x39 (Int.toNat x41) x53) (z05 .u32 (Int.tdiv x40 10)) (z05 .i64 (x41 - 1)))) else some x39)
def z24 (K : Nat) (p0 : List Int) : Nat -> List Int -> Int -> Option (List Int)
  | 0, _, _ => none
  | k + 1, x14, x15 => (if (decide (x15 >= 0)) = true then ((idx p0 x15).bind fun x26 => (Option.bind (z23 K K (List.replicate 9 0) x26 8) (tu1 fun x65 => (if List.length x14 + List.length x65 <= 16777216 then z24 K p0 k (x14 ++ x65) (z05 .i64 (x15 - 1)) else none)))) else some x14)
def z3y (K : Nat) (p0 : List Int) : Option zAd := (if ((List.length p0 : Int) == 0) = true then some (⟨#[48]⟩ : zAd) else (if 0 <= (0 : Int) /\ (0 : Int) <= (z05 .i64 ((9 : Int) * (List.length p0 : Int))) /\ (z05 .i64 ((9 : Int) * (List.length p0 : Int))) <= 16777216 then (Option.bind (z24 K p0 K (List.replicate (Int.toNat 0) 0) (z05 .i64 ((List.length p0 : Int) - 1))) (tu1 fun x88 => (if 0 < List.length x88 then ((z2r K (strOfNums x88) (⟨#[48]⟩ : zAd)).bind fun x102 => some x102) else none))) else none))
theorem z6d (v0 : Value) (p0 : List Int) (hp0 : (rSl (rI .u32)).rep G [v0] p0) (O : Ow G H (L)) (r : zAd) (h : z3y K p0 = some r) :
    CR Tryd.prog 123 [v0] G H (L) (fun v G' _ => v = .string r) := by
 unfold z3y at h
 refine CR.og (n := 44) (fn := Tryd.f123) (by kernel_rfl) rfl rfl fun R kr => (.seq (.region (W.q1 (.string (⟨#[]⟩ : zAd)) rfl (.nil (.seq (.seq ?_))))))
 refine .region (W.q2 v0 rfl (W.pure (v := (.int .i64 (List.length p0 : Int))) rfl rfl (z0p (oo rfl rfl) (z0f hp0) (z06 el63)) (W.q3 (.bool ((List.length p0 : Int) == 0)) rfl rfl (.nil (.cond (b := ((List.length p0 : Int) == 0)) rfl rfl (fun g1 => ?_) (fun g1 => ?_))))))
 .have h2 := z03 g1 h
  refine .seq (.region (W.q1 (.string (⟨#[48]⟩ : zAd)) rfl (.nil (.ret ?_))))
  obtain rfl := zAa h2
  exact z16 kr (v1 := (.string (⟨#[48]⟩ : zAd))) (by rfl) (z09 (by rfl) (by exact rfl)) O (zAf _) rfl
 have h3 := z0h g1 h
 refine .skip (.seq (.region (W.q2 v0 rfl (W.pure (v := (.int .i64 (List.length p0 : Int))) rfl rfl (z0p (oo rfl rfl) (z0f hp0) (z06 el63)) (W.q3 (.int .i64 (z05 .i64 ((9 : Int) * (List.length p0 : Int)))) rfl rfl ?_)))))
 obtain ⟨g5, h6⟩ := z3c h3
 refine W.lo rfl rfl (Lo.makeSlice (r := (rI .u8)) (x0 := 0) (a := 0) (c := (z05 .i64 ((9 : Int) * (List.length p0 : Int)))) rfl zfx ze5 sz5 (by kernel_rfl) rfl by5 (by decide) rfl rfl g5 (zI .u8) O) ?_
 rintro v8 H9 ⟨O4, sm7⟩
 refine W.q1 v8 rfl (.nil (.seq (.seq (.region (W.q2 v0 rfl (W.pure (v := (.int .i64 (List.length p0 : Int))) rfl rfl (z0p (oo rfl rfl) (z0f hp0) (z06 el63)) ?_))))))
 refine W.q3 (.int .i64 (z05 .i64 ((List.length p0 : Int) - 1))) rfl rfl (W.q1 (.int .i64 (z05 .i64 ((List.length p0 : Int) - 1))) rfl (.nil ?_))
 obtain ⟨q10, h11, h12⟩ := z00 h6
 refine AW.midT (fun σ' H' => ∃ (y1 : List Int) (G' : GM), y1 = q10 /\ Ow G' H' (eSl (σ' 3) 5 (rI .u8) y1 :: L) /\ GM.le G G') ?_ ?_
 rotate_left
 .rintro σ89 H90 fr91 ⟨x88, G92, rfl, O93, s94⟩
  have h96 := z0d h12
  refine .seq (.region (W.q2 (σ89 3) rfl ?_))
  obtain ⟨es97, e98, e99⟩ := z7r (j := 0) rfl O93
  obtain ⟨g100, h101⟩ := z3c h96
  refine W.bytesStr rfl rfl zfx in5 un9 e98 e99 g100 ?_
  obtain ⟨x102, i103, h104⟩ := z00 h101
  refine W.lo rfl rfl (Lo.cP rfl (fn := Tryd.f132) (by kernel_rfl) rfl (mc rfl (mc rfl mn)) O93 (fun L' O' => z8b K (strOfNums x88) (⟨#[48]⟩ : zAd) O' _ i103)) ?_
  rintro v111 H112 ⟨G105, O106, s107, sm110, rfl⟩
  refine W.q1 (.string x102) rfl (.nil (.ret ?_))
  have O113 : Ow G105 H112 (L) := O106.drop 0
  obtain rfl := zAa h104
  exact z16 kr (v1 := (.string x102)) (by rfl) (z09 (by rfl) (by exact rfl)) O113 (zAe s94 s107) rfl
 refine .block (AW.loop (α := Nat) (fun k' σ' H' => ∃ (y1 : List Int) (y2 : Int) (G' : GM), z24 K p0 k' y1 y2 = some q10 /\ Ow G' H' (eSl (σ' 3) 5 (rI .u8) y1 :: L) /\ GM.le G G' /\ σ' 4 = .int .i64 y2) (fun k' => k') K ⟨(List.replicate (Int.toNat 0) 0), z05 .i64 ((List.length p0 : Int) - 1), _, h11, O4, (zAf _), rfl⟩ ?_)
 rintro k13
 rintro σ16 H17 fr18 ⟨x14, x15, G19, h22, O20, s21, t23⟩
 rcases k13 with _ | k13
 .exact z0a h22
 rw [z24] at h22
 refine .seq (.seq (.region (W.q2 _ t23 (W.q3 (.bool (decide (x15 >= 0))) rfl rfl (.nil (.cond (b := decide (x15 >= 0)) rfl rfl (fun g24 => ?_) (fun g24 => ?_)))))))
 rotate_left
 .have h87 := z0h g24 h22
  refine .exit ?_
  obtain rfl := zAa h87
  exact ⟨x14, _, rfl, O20, s21⟩
 have h25 := z03 g24 h22
 refine .skip (.seq (.block (.seq (.region (W.q2 v0 ((fr18 0 rfl).trans rfl) (W.q2 _ t23 ?_))))))
 obtain ⟨x26, i27, h28⟩ := z00 h25
 have j29 := z0g i27
 refine W.pure (v := (z2t v0 (Int.toNat x15 * 1))) rfl rfl (z3b el63 z40 (oo rfl rfl) (oo rfl rfl) (z0f (RT.mono _ s21 hp0)) j29.1 j29.2.1) (W.load1 (v := (.int .u32 x26)) (r := []) rfl rfl z9o (z0q rfl (At.int (At.le (At.le (z1m hp0 j29.2.2) s21 s21) (zAf _) O20.fro))) (W.q1 (.int .u32 x26) rfl (.nil (.seq (.region (W.lo rfl rfl (Lo.alloc (r := (rArr 9 (rI .u8))) (x0 := (List.replicate 9 0)) zn3 (by kernel_rfl) (fun G => ⟨by simp, List.replicate 9 [.int .u8 0], rfl, All2.replicate ((zI .u8) G) 9⟩) O20) ?_))))))
 rintro v33 H34 ⟨b31, rfl, O30, sm32⟩
 refine .nil (.seq (.seq (.region (W.q1 (.int .i64 8) rfl (.nil ?_)))))
 obtain ⟨q35, h36, h37⟩ := z00 h28
 refine AW.midT (fun σ' H' => ∃ (y1 : List Int) (G' : GM), y1 = q35 /\ Ow G' H' (eVar b31 159 (rArr 9 (rI .u8)) y1 :: eSl (σ16 3) 5 (rI .u8) x14 :: L) /\ GM.le G19 G') ?_ ?_
 rotate_left
 .rintro σ66 H67 fr68 ⟨x65, G69, rfl, O70, s71⟩
  have h73 := z0d h37
  refine .region (W.q2 (σ16 3) ((fr68 3 rfl).trans rfl) ?_)
  obtain ⟨G74, O75, s76, f77⟩ := O70.frzVar (j := 0) rfl
  refine W.pure (v := (.slice (some ⟨b31, 0, some 0⟩) 9 9)) rfl rfl (zl7 zml sz5 (oo rfl ((fr68 6 rfl).trans rfl))) ?_
  obtain ⟨es79, e80, e81⟩ := zl5 (zn0 f77) O75
  obtain ⟨g82, h83⟩ := z3c h73
  refine W.lo rfl rfl (Lo.append (j := 0) (v := (σ16 3)) rfl rfl zfx zn2 ze5 sz5 by5 (by decide) (by decide) rfl e80 e81 g82 O75) ?_
  rintro v85 H86 ⟨O78, sm84⟩
  refine W.q1 v85 rfl (.nil (.region (W.q2 _ ((fr68 4 rfl).trans t23) (W.q3 (.int .i64 (z05 .i64 (x15 - 1))) rfl rfl (W.q1 (.int .i64 (z05 .i64 (x15 - 1))) rfl (.nil ?_))))))
  exact ⟨k13, zAg _, ⟨(x14 ++ x65), z05 .i64 (x15 - 1), _, h83, O78, (zAe s21 (zAe s71 s76)), rfl⟩⟩
 refine .block (AW.loop (α := Nat) (fun k' σ' H' => ∃ (y1 : List Int) (y2 : Int) (y3 : Int) (G' : GM), z23 K k' y1 y2 y3 = some q35 /\ Ow G' H' (eVar b31 159 (rArr 9 (rI .u8)) y1 :: eSl (σ16 3) 5 (rI .u8) x14 :: L) /\ GM.le G19 G' /\ σ' 5 = .int .u32 y2 /\ σ' 7 = .int .i64 y3) (fun k' => k') K ⟨(List.replicate 9 0), x26, 8, _, h36, O30, (zAf _), rfl, rfl⟩ ?_)
 rintro k38
 rintro σ42 H43 fr44 ⟨x39, x40, x41, G45, h48, O46, s47, t49, t50⟩
 rcases k38 with _ | k38
 .exact z0a h48
 rw [z23] at h48
 refine .seq (.seq (.region (W.q2 _ t50 (W.q3 (.bool (decide (x41 >= 0))) rfl rfl (.nil (.cond (b := decide (x41 >= 0)) rfl rfl (fun g51 => ?_) (fun g51 => ?_)))))))
 rotate_left
 .have h64 := z0h g51 h48
  refine .exit ?_
  obtain rfl := zAa h64
  exact ⟨x39, _, rfl, O46, s47⟩
 have h52 := z03 g51 h48
 refine .skip (.seq (.block (.seq (.region (W.q2 _ t50 (W.q2 _ t49 ?_))))))
 refine W.pure (v := (.int .u32 (Int.tmod x40 10))) rfl rfl (zi9 (by decide) (oo rfl rfl) (oo rfl rfl)) (W.q3 (.int .u32 (z05 .u32 ((48 : Int) + (Int.tmod x40 10)))) rfl rfl (W.pure (v := (.int .u8 (IntKind.wrap .u8 (z05 .u32 ((48 : Int) + (Int.tmod x40 10)))))) rfl rfl (z3s z94 in5 (oo rfl rfl)) ?_))
 obtain ⟨x53, e54, h55⟩ := z6b h52
 obtain ⟨x56, i57, h58⟩ := z00 h55
 have j59 := z0g i57
 refine W.pure (v := (padd (.pointer (some ⟨b31, 0, none⟩)) (Int.toNat x41 * 1))) rfl rfl (zl6 zml sz5 (oo rfl ((fr44 6 rfl).trans rfl)) (oo rfl rfl) (O46.atVar (j := 0) rfl) j59.1 j59.2.1) (W.lo rfl rfl (Lo.storeVar (j := 0) (s := (rI .u8)) (y0 := x53) (v := (.int .u8 x53)) (o := Int.toNat x41 * 1) rfl ((PutAt.idx (zAi j59.2.2).1)) rfl sz5 rfl (by omega) (congrArg (Value.int .u8) e54) rfl O46) ?_)
 rintro v62 H63 ⟨O60, sm61⟩
 refine .nil (.region (W.q2 _ t49 (W.pure (v := (.int .u32 (z05 .u32 (Int.tdiv x40 10)))) rfl rfl (zgr (by decide) (oo rfl rfl) (oo rfl rfl)) (W.q1 (.int .u32 (z05 .u32 (Int.tdiv x40 10))) rfl (.nil (.region ?_))))))
 refine W.q2 _ t50 (W.q3 (.int .i64 (z05 .i64 (x41 - 1))) rfl rfl (W.q1 (.int .i64 (z05 .i64 (x41 - 1))) rfl (.nil ?_)))
 exact ⟨k38, zAg _, ⟨(List.set x39 (Int.toNat x41) x53), z05 .u32 (Int.tdiv x40 10), z05 .i64 (x41 - 1), _, h58, O60, s47, rfl, rfl⟩⟩
def z30 (K : Nat) (p0 : List Int) : Option Int := ((z3y K p0).bind fun x1 => some (x1.size : Int))
theorem z7g (v0 : Value) (p0 : List Int) (hp0 : (rSl (rI .u32)).rep G [v0] p0) (O : Ow G H (L)) (r : Int) (h : z30 K p0 = some r) :
    CR Tryd.prog 122 [v0] G H (L) (fun v G' _ => v = .int .i64 r) := by
 unfold z30 at h
 refine CR.og (n := 6) (fn := Tryd.f122) (by kernel_rfl) rfl rfl fun R kr => (.seq (.region (W.q1 (.int .i64 0) rfl (.nil (.seq (.region ?_))))))
 refine W.q2 v0 rfl ?_
 obtain ⟨x1, i2, h3⟩ := z00 h
 refine W.lo rfl rfl (Lo.cP rfl (fn := Tryd.f123) (by kernel_rfl) rfl (mc rfl mn) O (fun L' O' => z6d K v0 p0 hp0 O' _ i2)) ?_
 rintro v10 H11 ⟨G4, O5, s6, sm9, rfl⟩
 refine W.pure (v := (.int .i64 (x1.size : Int))) rfl rfl (z1h (oo rfl rfl) un9) (W.q1 (.int .i64 (x1.size : Int)) rfl (.nil (.ret ?_)))
 obtain rfl := zAa h3
 exact z16 kr (v1 := (.int .i64 (x1.size : Int))) (by rfl) (z09 (by rfl) (by exact rfl)) O5 s6 rfl
def z6l (K : Nat) (p0 : Q) : Option Int := (Option.bind (((z30 K p0.num).bind fun x12 => (if (decide (x12 > 2000)) = true then some true else ((z30 K p0.den).bind fun x30 => some (decide (x30 > 2000)))))) (tu1 fun x41 => (if x41 = true then some 2 else some 0)))
theorem zd7 (v0 : List Value) (p0 : Q) (hp0 : T_Q.rep G v0 p0) (O : Ow G H (L)) (r : Int) (h : z6l K p0 = some r) :
    CR Tryd.prog 98 [.agg (List.toArray v0)] G H (L) (fun v G' _ => v = .int .i64 r) := by
 unfold z6l at h
 refine CR.og (n := 13) (fn := Tryd.f98) (by kernel_rfl) rfl rfl fun R kr => (.seq (.region (W.lo rfl rfl (Lo.box (r := T_Q) (x0 := p0) (v := (.agg (List.toArray v0))) rfl rfl hp0 O) ?_)))
 rintro v4 H5 ⟨b2, rfl, O1, sm3⟩
 refine W.q1 (.int .i64 0) rfl (.nil (.seq (.seq ?_)))
 obtain ⟨q6, h7, h8⟩ := z00 h
 refine AW.midT (fun σ' H' => ∃ (y1 : Bool) (G' : GM), y1 = q6 /\ Ow G' H' (eVar b2 65 T_Q p0 :: L) /\ GM.le G G' /\ σ' 12 = .bool y1) ?_ ?_
 rotate_left
 .rintro σ42 H43 fr44 ⟨x41, G45, rfl, O46, s47, t49⟩
  have h50 := z0d h8
  refine .cond (b := x41) rfl t49 (fun g51 => ?_) (fun g51 => ?_)
  .have h52 := z03 g51 h50
   refine .seq (.region (W.q1 (.int .i64 2) rfl (.nil (.ret ?_))))
   have O53 : Ow G45 H43 (L) := O46.drop 0
   obtain rfl := zAa h52
   exact z16 kr (v1 := (.int .i64 2)) (by rfl) (z09 (by rfl) (by exact rfl)) O53 s47 rfl
  have h54 := z0h g51 h50
  refine .skip (.seq (.region (W.q1 (.int .i64 0) rfl (.nil (.ret ?_)))))
  have O55 : Ow G45 H43 (L) := O46.drop 0
  obtain rfl := zAa h54
  exact z16 kr (v1 := (.int .i64 0)) (by rfl) (z09 (by rfl) (by exact rfl)) O55 s47 rfl
 refine .region (W.pure (v := (padd (.pointer (some ⟨b2, 0, none⟩)) 1)) rfl rfl (z3d z7j (oo rfl rfl) (O1.atVar (j := 0) rfl)) ?_)
 obtain ⟨w9, p10, f11⟩ := At.sl (At.proj (O1.atVar (j := 0) rfl) z4l)
 refine W.load1 (v := w9) (r := []) rfl rfl ag63 (z0q rfl p10) ?_
 obtain ⟨x12, i13, h14⟩ := z00 h7
 refine W.lo rfl rfl (Lo.cP rfl (fn := Tryd.f122) (by kernel_rfl) rfl (mc rfl mn) O1 (fun L' O' => z7g K w9 p0.num f11 O' _ i13)) ?_
 rintro v21 H22 ⟨G15, O16, s17, sm20, rfl⟩
 refine W.q3 (.bool (decide (x12 > 2000))) rfl rfl (W.q2 (.bool (decide (x12 > 2000))) rfl (W.splitAt (t := 7) (b := decide (x12 > 2000)) rfl (fun g23 gv24 => ?_) (fun g23 gv24 => ?_)))
 .have h25 := z03 g23 h14
  refine W.q6 rfl gv24 (W.q6 rfl gv24 (W.q6 rfl gv24 (W.q6 rfl gv24 (W.q4 (.bool true) gv24 rfl (.nil ?_)))))
  obtain rfl := zAa h25
  exact ⟨true, _, rfl, O16, s17, rfl⟩
 have h26 := z0h g23 h14
 refine W.pure (v := (padd (.pointer (some ⟨b2, 0, none⟩)) 2)) (gk rfl rfl gv24 rfl) rfl (z3d zh1 (oo rfl rfl) (O16.atVar (j := 0) rfl)) ?_
 obtain ⟨w27, p28, f29⟩ := At.sl (At.proj (O16.atVar (j := 0) rfl) zew)
 refine W.load1 (v := w27) (r := []) (gk rfl rfl gv24 rfl) rfl ag63 (z0q rfl p28) ?_
 obtain ⟨x30, i31, h32⟩ := z00 h26
 refine W.lo (gk rfl rfl gv24 rfl) rfl (Lo.cP rfl (fn := Tryd.f122) (by kernel_rfl) rfl (mc rfl mn) O16 (fun L' O' => z7g K w27 p0.den f29 O' _ i31)) ?_
 rintro v39 H40 ⟨G33, O34, s35, sm38, rfl⟩
 refine W.q3 (hg := gk rfl rfl gv24 rfl) (.bool (decide (x30 > 2000))) rfl rfl (W.q5 (.bool (decide (x30 > 2000))) gv24 rfl (.nil ?_))
 obtain rfl := zAa h32
 exact ⟨decide (x30 > 2000), _, rfl, O34, (zAe s17 s35), rfl⟩
def z6m (K : Nat) (p0 : Q) : Option zAd := (if ((List.length p0.num : Int) == 0) = true then some (⟨#[48]⟩ : zAd) else ((z3y K p0.num).bind fun x16 => (Option.bind ((if p0.neg = true then (if ((⟨#[45]⟩ : zAd)).size + (x16).size <= 4611686018427387904 then some ((⟨#[45]⟩ : zAd) ++ x16) else none) else some x16)) (tu1 fun x35 => ((z17 K p0).bind fun x48 => ((z3y K x48).bind fun x61 => (Option.bind ((if (!(sEq x61 (⟨#[49]⟩ : zAd))) = true then (if ((⟨#[47]⟩ : zAd)).size + (x61).size <= 4611686018427387904 then (if (x35).size + (((⟨#[47]⟩ : zAd) ++ x61)).size <= 4611686018427387904 then some (x35 ++ ((⟨#[47]⟩ : zAd) ++ x61)) else none) else none) else some x35)) (tu1 fun x82 => some x82))))))))
theorem zcg (v0 : List Value) (p0 : Q) (hp0 : T_Q.rep G v0 p0) (O : Ow G H (L)) (r : zAd) (h : z6m K p0 = some r) :
    CR Tryd.prog 99 [.agg (List.toArray v0)] G H (L) (fun v G' _ => v = .string r) := by
 unfold z6m at h
 refine CR.og (n := 26) (fn := Tryd.f99) (by kernel_rfl) rfl rfl fun R kr => (.seq (.region (W.lo rfl rfl (Lo.box (r := T_Q) (x0 := p0) (v := (.agg (List.toArray v0))) rfl rfl hp0 O) ?_)))
 rintro v4 H5 ⟨b2, rfl, O1, sm3⟩
 refine W.q1 (.string (⟨#[]⟩ : zAd)) rfl (.nil (.seq (.seq (.region (W.pure (v := (padd (.pointer (some ⟨b2, 0, none⟩)) 1)) rfl rfl (z3d z7j (oo rfl rfl) (O1.atVar (j := 0) rfl)) ?_)))))
 obtain ⟨w6, p7, f8⟩ := At.sl (At.proj (O1.atVar (j := 0) rfl) z4l)
 refine W.load1 (v := w6) (r := []) rfl rfl ag63 (z0q rfl p7) (W.pure (v := (.int .i64 (List.length p0.num : Int))) rfl rfl (z0p (oo rfl rfl) (z0f f8) (z06 el63)) (W.q3 (.bool ((List.length p0.num : Int) == 0)) rfl rfl (.nil (.cond (b := ((List.length p0.num : Int) == 0)) rfl rfl (fun g9 => ?_) (fun g9 => ?_)))))
 .have h10 := z03 g9 h
  refine .seq (.region (W.q1 (.string (⟨#[48]⟩ : zAd)) rfl (.nil (.ret ?_))))
  have O11 : Ow G H5 (L) := O1.drop 0
  obtain rfl := zAa h10
  exact z16 kr (v1 := (.string (⟨#[48]⟩ : zAd))) (by rfl) (z09 (by rfl) (by exact rfl)) O11 (zAf _) rfl
 have h12 := z0h g9 h
 refine .skip (.seq (.region (W.pure (v := (padd (.pointer (some ⟨b2, 0, none⟩)) 1)) rfl rfl (z3d z7j (oo rfl rfl) (O1.atVar (j := 0) rfl)) ?_)))
 obtain ⟨w13, p14, f15⟩ := At.sl (At.proj (O1.atVar (j := 0) rfl) z4l)
 refine W.load1 (v := w13) (r := []) rfl rfl ag63 (z0q rfl p14) ?_
 obtain ⟨x16, i17, h18⟩ := z00 h12
 refine W.lo rfl rfl (Lo.cP rfl (fn := Tryd.f123) (by kernel_rfl) rfl (mc rfl mn) O1 (fun L' O' => z6d K w13 p0.num f15 O' _ i17)) ?_
 rintro v25 H26 ⟨G19, O20, s21, sm24, rfl⟩
 refine W.q1 (.string x16) rfl (.nil (.seq (.seq (.region (W.pure (v := (padd (.pointer (some ⟨b2, 0, none⟩)) 0)) rfl rfl (z3d za7 (oo rfl rfl) (O20.atVar (j := 0) rfl)) (W.load1 (v := (.bool p0.neg)) (r := []) rfl rfl ag4 (z0q rfl (At.bool (At.proj (O20.atVar (j := 0) rfl) z7f))) ?_))))))
 refine .nil ?_
 obtain ⟨q27, h28, h29⟩ := z00 h18
 refine AW.midT (fun σ' H' => ∃ (y1 : zAd) (G' : GM), y1 = q27 /\ Ow G' H' (eVar b2 65 T_Q p0 :: L) /\ GM.le G19 G' /\ σ' 3 = .string y1) ?_ ?_
 .refine .cond (b := p0.neg) rfl rfl (fun g30 => ?_) (fun g30 => ?_)
  rotate_left
  .have h34 := z0h g30 h28
   refine .skip ?_
   obtain rfl := zAa h34
   exact ⟨x16, _, rfl, O20, (zAf _), rfl⟩
  have h31 := z03 g30 h28
  refine .region (W.q2 (.string x16) rfl ?_)
  obtain ⟨g32, h33⟩ := z3c h31
  refine W.pure (v := (.string ((⟨#[45]⟩ : zAd) ++ x16))) rfl rfl (zbe g32 (oo rfl rfl) (oo rfl rfl)) (W.q1 (.string ((⟨#[45]⟩ : zAd) ++ x16)) rfl (.nil ?_))
  obtain rfl := zAa h33
  exact ⟨((⟨#[45]⟩ : zAd) ++ x16), _, rfl, O20, (zAf _), rfl⟩
 rintro σ36 H37 fr38 ⟨x35, G39, rfl, O40, s41, t43⟩
 have h44 := z0d h29
 refine .seq (.seq (.region ?_))
 obtain ⟨c45, p46, f47⟩ := (O40.atVar (j := 0) rfl)
 refine W.loadA (cs := c45) rfl rfl ag65 sz65 (z0q ((fr38 1 rfl).trans rfl) p46) (RT.len _ f47) ?_
 obtain ⟨x48, i49, h50⟩ := z00 h44
 refine W.lo rfl rfl (Lo.cP rfl (fn := Tryd.f88) (by kernel_rfl) rfl (mc rfl mn) O40 (fun L' O' => z1e K c45 p0 f47 O' _ i49)) ?_
 rintro v59 H60 ⟨G51, O52, s53, sm58, ⟨w55, rfl, f56⟩⟩
 obtain ⟨x61, i62, h63⟩ := z00 h50
 refine W.lo rfl rfl (Lo.cP rfl (fn := Tryd.f123) (by kernel_rfl) rfl (mc rfl mn) O52 (fun L' O' => z6d K w55 x48 f56 O' _ i62)) ?_
 rintro v70 H71 ⟨G64, O65, s66, sm69, rfl⟩
 refine W.q1 (.string x61) rfl (.nil (.seq (.region (W.q2 (.string x61) rfl (W.pure (v := (.bool (!(sEq x61 (⟨#[49]⟩ : zAd))))) rfl rfl (ziu (oo rfl rfl) (oo rfl rfl)) (.nil ?_))))))
 obtain ⟨q72, h73, h74⟩ := z00 h63
 refine AW.midT (fun σ' H' => ∃ (y1 : zAd) (G' : GM), y1 = q72 /\ Ow G' H' (eVar b2 65 T_Q p0 :: L) /\ GM.le G64 G' /\ σ' 3 = .string y1) ?_ ?_
 rotate_left
 .rintro σ83 H84 fr85 ⟨x82, G86, rfl, O87, s88, t90⟩
  have h91 := z0d h74
  refine .seq (.region (W.q2 _ t90 (W.q1 (.string x82) rfl (.nil (.ret ?_)))))
  have O92 : Ow G86 H84 (L) := O87.drop 0
  obtain rfl := zAa h91
  exact z16 kr (v1 := (.string x82)) (by rfl) (z09 (by rfl) (by exact rfl)) O92 (zAe s21 (zAe s41 (zAe s53 (zAe s66 s88)))) rfl
 refine .cond (b := (!(sEq x61 (⟨#[49]⟩ : zAd)))) rfl rfl (fun g75 => ?_) (fun g75 => ?_)
 rotate_left
 .have h81 := z0h g75 h73
  refine .skip ?_
  obtain rfl := zAa h81
  exact ⟨x35, _, rfl, O65, (zAf _), t43⟩
 have h76 := z03 g75 h73
 refine .region (W.q2 _ t43 (W.q2 (.string x61) rfl ?_))
 obtain ⟨g77, h78⟩ := z3c h76
 refine W.pure (v := (.string ((⟨#[47]⟩ : zAd) ++ x61))) rfl rfl (zbe g77 (oo rfl rfl) (oo rfl rfl)) ?_
 obtain ⟨g79, h80⟩ := z3c h78
 refine W.pure (v := (.string (x35 ++ ((⟨#[47]⟩ : zAd) ++ x61)))) rfl rfl (zbe g79 (oo rfl rfl) (oo rfl rfl)) (W.q1 (.string (x35 ++ ((⟨#[47]⟩ : zAd) ++ x61))) rfl (.nil ?_))
 obtain rfl := zAa h80
 exact ⟨(x35 ++ ((⟨#[47]⟩ : zAd) ++ x61)), _, rfl, O65, (zAf _), rfl⟩
def z29 (K : Nat) (p0 : Q) : Option (zAd × Int) := ((z6l K p0).bind fun x9 => (if (x9 != 0) = true then some ((⟨#[]⟩ : zAd), x9) else ((z6m K p0).bind fun x27 => some (x27, 0))))
theorem z31 (v0 : List Value) (p0 : Q) (hp0 : T_Q.rep G v0 p0) (O : Ow G H (L)) (r : zAd × Int) (h : z29 K p0 = some r) :
    CR Tryd.prog 37 [.agg (List.toArray v0)] G H (L) (fun v G' _ => v = .tuple #[.string r.1, .int .i64 r.2]) := by
 unfold z29 at h
 refine CR.og (n := 12) (fn := Tryd.f37) (by kernel_rfl) rfl rfl fun R kr => (.seq (.region (W.lo rfl rfl (Lo.box (r := T_Q) (x0 := p0) (v := (.agg (List.toArray v0))) rfl rfl hp0 O) ?_)))
 rintro v4 H5 ⟨b2, rfl, O1, sm3⟩
 refine W.q1 (.string (⟨#[]⟩ : zAd)) rfl (W.q1 (.int .i64 0) rfl (.nil (.seq (.seq (.region ?_)))))
 obtain ⟨c6, p7, f8⟩ := (O1.atVar (j := 0) rfl)
 refine W.loadA (cs := c6) rfl rfl ag65 sz65 (z0q rfl p7) (RT.len _ f8) ?_
 obtain ⟨x9, i10, h11⟩ := z00 h
 refine W.lo rfl rfl (Lo.cP rfl (fn := Tryd.f98) (by kernel_rfl) rfl (mc rfl mn) O1 (fun L' O' => zd7 K c6 p0 f8 O' _ i10)) ?_
 rintro v18 H19 ⟨G12, O13, s14, sm17, rfl⟩
 refine W.q1 (.int .i64 x9) rfl (.nil (.seq (.region (W.q2 (.int .i64 x9) rfl (W.q3 (.bool (x9 != 0)) rfl rfl (.nil ?_))))))
 refine .cond (b := (x9 != 0)) rfl rfl (fun g20 => ?_) (fun g20 => ?_)
 .have h21 := z03 g20 h11
  refine .seq (.region (W.q2 (.int .i64 x9) rfl (W.q1 (.string (⟨#[]⟩ : zAd)) rfl (W.q1 (.int .i64 x9) rfl (.nil (.ret ?_))))))
  have O22 : Ow G12 H19 (L) := O13.drop 0
  obtain rfl := zAa h21
  exact zas kr (v1 := (.string (⟨#[]⟩ : zAd))) (v2 := (.int .i64 x9)) (by rfl) (z09 (by rfl) (by exact rfl)) (z09 (by rfl) (by exact rfl)) O22 s14 rfl
 have h23 := z0h g20 h11
 refine .skip (.seq (.region ?_))
 obtain ⟨c24, p25, f26⟩ := (O13.atVar (j := 0) rfl)
 refine W.loadA (cs := c24) rfl rfl ag65 sz65 (z0q rfl p25) (RT.len _ f26) ?_
 obtain ⟨x27, i28, h29⟩ := z00 h23
 refine W.lo rfl rfl (Lo.cP rfl (fn := Tryd.f99) (by kernel_rfl) rfl (mc rfl mn) O13 (fun L' O' => zcg K c24 p0 f26 O' _ i28)) ?_
 rintro v36 H37 ⟨G30, O31, s32, sm35, rfl⟩
 refine W.q1 (.string x27) rfl (W.q1 (.int .i64 0) rfl (.nil (.ret ?_)))
 have O38 : Ow G30 H37 (L) := O31.drop 0
 obtain rfl := zAa h29
 exact zas kr (v1 := (.string x27)) (v2 := (.int .i64 0)) (by rfl) (z09 (by rfl) (by exact rfl)) (z09 (by rfl) (by exact rfl)) O38 (zAe s14 s32) rfl
def z4o (K : Nat) (p0 : zAd) (p1 : zAd) : Option (zAd × Int) := ((z3g K p0).bind fun x1 => (if (x1 != 0) = true then some ((⟨#[]⟩ : zAd), x1) else ((z3k K p1).bind fun x15 => (if (x15 != 0) = true then some ((⟨#[]⟩ : zAd), x15) else ((z1y K p0).bind fun x29 => ((z1y K p1).bind fun x42 => ((z3h K x29 x42).bind fun x55 => ((z29 K x55).bind fun x68 => some (x68.1, x68.2)))))))))
theorem z8g (p0 : zAd) (p1 : zAd) (O : Ow G H (L)) (r : zAd × Int) (h : z4o K p0 p1 = some r) :
    CR Tryd.prog 14 [(.string p0), (.string p1)] G H (L) (fun v G' _ => v = .tuple #[.string r.1, .int .i64 r.2]) := by
 unfold z4o at h
 refine CR.og (n := 26) (fn := Tryd.f14) (by kernel_rfl) rfl rfl fun R kr => (.seq (.region (W.q1 (.string (⟨#[]⟩ : zAd)) rfl (W.q1 (.int .i64 0) rfl (.nil (.seq ?_))))))
 refine .seq (.region (W.q2 (.string p0) rfl ?_))
 obtain ⟨x1, i2, h3⟩ := z00 h
 refine W.lo rfl rfl (Lo.cP rfl (fn := Tryd.f33) (by kernel_rfl) rfl (mc rfl mn) O (fun L' O' => z5x K p0 O' _ i2)) ?_
 rintro v10 H11 ⟨G4, O5, s6, sm9, rfl⟩
 refine W.q1 (.int .i64 x1) rfl (.nil (.seq (.region (W.q2 (.int .i64 x1) rfl (W.q3 (.bool (x1 != 0)) rfl rfl (.nil ?_))))))
 refine .cond (b := (x1 != 0)) rfl rfl (fun g12 => ?_) (fun g12 => ?_)
 .have h13 := z03 g12 h3
  refine .seq (.region (W.q2 (.int .i64 x1) rfl (W.q1 (.string (⟨#[]⟩ : zAd)) rfl (W.q1 (.int .i64 x1) rfl (.nil (.ret ?_))))))
  obtain rfl := zAa h13
  exact zas kr (v1 := (.string (⟨#[]⟩ : zAd))) (v2 := (.int .i64 x1)) (by rfl) (z09 (by rfl) (by exact rfl)) (z09 (by rfl) (by exact rfl)) O5 s6 rfl
 have h14 := z0h g12 h3
 refine .skip (.seq (.seq (.region (W.q2 (.string p1) rfl ?_))))
 obtain ⟨x15, i16, h17⟩ := z00 h14
 refine W.lo rfl rfl (Lo.cP rfl (fn := Tryd.f42) (by kernel_rfl) rfl (mc rfl mn) O5 (fun L' O' => z5h K p1 O' _ i16)) ?_
 rintro v24 H25 ⟨G18, O19, s20, sm23, rfl⟩
 refine W.q1 (.int .i64 x15) rfl (.nil (.seq (.region (W.q2 (.int .i64 x15) rfl (W.q3 (.bool (x15 != 0)) rfl rfl (.nil ?_))))))
 refine .cond (b := (x15 != 0)) rfl rfl (fun g26 => ?_) (fun g26 => ?_)
 .have h27 := z03 g26 h17
  refine .seq (.region (W.q2 (.int .i64 x15) rfl (W.q1 (.string (⟨#[]⟩ : zAd)) rfl (W.q1 (.int .i64 x15) rfl (.nil (.ret ?_))))))
  obtain rfl := zAa h27
  exact zas kr (v1 := (.string (⟨#[]⟩ : zAd))) (v2 := (.int .i64 x15)) (by rfl) (z09 (by rfl) (by exact rfl)) (z09 (by rfl) (by exact rfl)) O19 (zAe s6 s20) rfl
 have h28 := z0h g26 h17
 refine .skip (.seq (.region (W.q2 (.string p0) rfl ?_)))
 obtain ⟨x29, i30, h31⟩ := z00 h28
 refine W.lo rfl rfl (Lo.cP rfl (fn := Tryd.f36) (by kernel_rfl) rfl (mc rfl mn) O19 (fun L' O' => z0w K p0 O' _ i30)) ?_
 rintro v40 H41 ⟨G32, O33, s34, sm39, ⟨c36, rfl, f37⟩⟩
 refine W.q2 (.string p1) rfl ?_
 obtain ⟨x42, i43, h44⟩ := z00 h31
 refine W.lo rfl rfl (Lo.cP rfl (fn := Tryd.f36) (by kernel_rfl) rfl (mc rfl mn) O33 (fun L' O' => z0w K p1 O' _ i43)) ?_
 rintro v53 H54 ⟨G45, O46, s47, sm52, ⟨c49, rfl, f50⟩⟩
 obtain ⟨x55, i56, h57⟩ := z00 h44
 refine W.lo rfl rfl (Lo.cP rfl (fn := Tryd.f35) (by kernel_rfl) rfl (mc rfl (mc rfl mn)) O46 (fun L' O' => z5z K c36 x29 (RT.mono _ s47 f37) c49 x42 f50 O' _ i56)) ?_
 rintro v66 H67 ⟨G58, O59, s60, sm65, ⟨c62, rfl, f63⟩⟩
 obtain ⟨x68, i69, h70⟩ := z00 h57
 refine W.lo rfl rfl (Lo.cP rfl (fn := Tryd.f37) (by kernel_rfl) rfl (mc rfl mn) O59 (fun L' O' => z31 K c62 x55 f63 O' _ i69)) ?_
 rintro v77 H78 ⟨G71, O72, s73, sm76, rfl⟩
 refine W.pure (v := (.string x68.1)) rfl rfl (z08 (oo rfl rfl) rfl) (W.pure (v := (.int .i64 x68.2)) rfl rfl (z08 (oo rfl rfl) rfl) (W.q1 (.string x68.1) rfl (W.q1 (.int .i64 x68.2) rfl (.nil (.ret ?_)))))
 obtain rfl := zAa h70
 exact zas kr (v1 := (.string x68.1)) (v2 := (.int .i64 x68.2)) (by rfl) (z09 (by rfl) (by exact rfl)) (z09 (by rfl) (by exact rfl)) O72 (zAe s6 (zAe s20 (zAe s34 (zAe s47 (zAe s60 s73))))) rfl
def z15 (K : Nat) (p0 : List zAd) : Nat -> Int -> Option (Int ⊕ Unit)
  | 0, _ => none
  | k + 1, x5 => (if (decide (x5 < (List.length p0 : Int))) = true then ((idx p0 x5).bind fun x16 => ((z3k K x16).bind fun x20 => (if (x20 != 0) = true then some (.inl x20) else z15 K p0 k (z05 .i64 (x5 + 1))))) else some (.inr ()))
def z3l (K : Nat) (p0 : List zAd) : Option Int := (zae (z15 K p0 K 0) (tu1 fun a44 => some a44) (tu0 (some 0)))
theorem z7h (v0 : Value) (p0 : List zAd) (hp0 : (rSl rS).rep G [v0] p0) (O : Ow G H (L)) (r : Int) (h : z3l K p0 = some r) :
    CR Tryd.prog 58 [v0] G H (L) (fun v G' _ => v = .int .i64 r) := by
 unfold z3l at h
 refine CR.og (n := 18) (fn := Tryd.f58) (by kernel_rfl) rfl rfl fun R kr => (.seq (.region (W.q1 (.int .i64 0) rfl (.nil (.seq (.seq ?_))))))
 refine .region (W.q2 v0 rfl (W.pure (v := (.int .i64 (List.length p0 : Int))) rfl rfl (z0p (oo rfl rfl) (z0f hp0) (z06 el22)) (W.q2 (.int .i64 0) rfl (.nil ?_))))
 obtain ⟨q1, h2, h3⟩ := z2p h
 refine AW.midT (fun σ' H' => ∃  (G' : GM), (.inr ()) = q1 /\ Ow G' H' (L) /\ GM.le G G') ?_ ?_
 rotate_left
 .rintro σ36 H37 fr38 ⟨G39, rfl, O40, s41⟩
  have h43 := z6j (z8a h3)
  refine .seq (.region (W.q1 (.int .i64 0) rfl (.nil (.ret ?_))))
  obtain rfl := zAa h43
  exact z16 kr (v1 := (.int .i64 0)) (by rfl) (z09 (by rfl) (by exact rfl)) O40 s41 rfl
 refine .block (AW.loop (α := Nat) (fun k' σ' H' => ∃ (y1 : Int) (G' : GM), z15 K p0 k' y1 = some q1 /\ Ow G' H' (L) /\ GM.le G G' /\ σ' 8 = .int .i64 y1) (fun k' => k') K ⟨0, _, h2, O, (zAf _), rfl⟩ ?_)
 rintro k4
 rintro σ6 H7 fr8 ⟨x5, G9, h12, O10, s11, t13⟩
 rcases k4 with _ | k4
 .exact z0a h12
 rw [z15] at h12
 refine .seq (.region (W.q3 (.bool (decide (x5 < (List.length p0 : Int)))) t13 ((fr8 7 rfl).trans rfl) (.nil (.seq (.cond (b := decide (x5 < (List.length p0 : Int))) rfl rfl (fun g14 => ?_) (fun g14 => ?_))))))
 rotate_left
 .have h35 := z0h g14 h12
  refine .exit ?_
  obtain rfl := zAa h35
  exact ⟨_, rfl, O10, s11⟩
 have h15 := z03 g14 h12
 refine .skip (.seq (.block (.seq (.region ?_))))
 obtain ⟨x16, i17, h18⟩ := z00 h15
 have j19 := z0g i17
 refine W.pure (v := (z2t v0 (Int.toNat x5 * 1))) rfl rfl (z3b el22 sz25 (oo rfl ((fr8 6 rfl).trans rfl)) (oo rfl t13) (z0f (RT.mono _ s11 hp0)) j19.1 j19.2.1) (W.load1 (v := (.string x16)) (r := []) rfl rfl ag25 (z0q rfl (At.str (At.le (At.le (z1m hp0 j19.2.2) s11 s11) (zAf _) O10.fro))) (W.q1 (.string x16) rfl (.nil (.seq (.region (W.q2 (.string x16) rfl ?_))))))
 obtain ⟨x20, i21, h22⟩ := z00 h18
 refine W.lo rfl rfl (Lo.cP rfl (fn := Tryd.f42) (by kernel_rfl) rfl (mc rfl mn) O10 (fun L' O' => z5h K x16 O' _ i21)) ?_
 rintro v29 H30 ⟨G23, O24, s25, sm28, rfl⟩
 refine W.q1 (.int .i64 x20) rfl (.nil (.seq (.region (W.q2 (.int .i64 x20) rfl (W.q3 (.bool (x20 != 0)) rfl rfl (.nil ?_))))))
 refine .cond (b := (x20 != 0)) rfl rfl (fun g31 => ?_) (fun g31 => ?_)
 rotate_left
 .have h34 := z0h g31 h22
  refine .skip (.region (W.q3 (.int .i64 (z05 .i64 (x5 + 1))) t13 rfl (W.q2 (.int .i64 (z05 .i64 (x5 + 1))) rfl (.nil ?_))))
  exact ⟨k4, zAg _, ⟨z05 .i64 (x5 + 1), _, h34, O24, (zAe s11 s25), rfl⟩⟩
 have h32 := z03 g31 h22
 refine .seq (.region (W.q2 (.int .i64 x20) rfl (W.q1 (.int .i64 x20) rfl (.nil (.ret ?_)))))
 obtain rfl := zAa h32
 have h33 := z0d (z7i h3)
 obtain rfl := zAa h33
 exact z16 kr (v1 := (.int .i64 x20)) (by rfl) (z09 (by rfl) (by exact rfl)) O24 (zAe s11 s25) rfl
def z2e (K : Nat) (p0 : List zAd) : Option Int := (if (decide ((List.length p0 : Int) > 40)) = true then some 2 else ((z3l K p0).bind fun x4 => some x4))
theorem z60 (v0 : Value) (p0 : List zAd) (hp0 : (rSl rS).rep G [v0] p0) (O : Ow G H (L)) (r : Int) (h : z2e K p0 = some r) :
    CR Tryd.prog 20 [v0] G H (L) (fun v G' _ => v = .int .i64 r) := by
 unfold z2e at h
 refine CR.og (n := 8) (fn := Tryd.f20) (by kernel_rfl) rfl rfl fun R kr => (.seq (.region (W.q1 (.int .i64 0) rfl (.nil (.seq (.seq ?_))))))
 refine .region (W.q2 v0 rfl (W.pure (v := (.int .i64 (List.length p0 : Int))) rfl rfl (z0p (oo rfl rfl) (z0f hp0) (z06 el23)) (W.q3 (.bool (decide ((List.length p0 : Int) > 40))) rfl rfl (.nil (.cond (b := decide ((List.length p0 : Int) > 40)) rfl rfl (fun g1 => ?_) (fun g1 => ?_))))))
 .have h2 := z03 g1 h
  refine .seq (.region (W.q1 (.int .i64 2) rfl (.nil (.ret ?_))))
  obtain rfl := zAa h2
  exact z16 kr (v1 := (.int .i64 2)) (by rfl) (z09 (by rfl) (by exact rfl)) O (zAf _) rfl
 have h3 := z0h g1 h
 refine .skip (.seq (.region (W.q2 v0 rfl ?_)))
 obtain ⟨x4, i5, h6⟩ := z00 h3
 refine W.lo rfl rfl (Lo.cP rfl (fn := Tryd.f58) (by kernel_rfl) rfl (mc rfl mn) O (fun L' O' => z7h K v0 p0 hp0 O' _ i5)) ?_
 rintro v13 H14 ⟨G7, O8, s9, sm12, rfl⟩
 refine W.q1 (.int .i64 x4) rfl (.nil (.ret ?_))
 obtain rfl := zAa h6
 exact z16 kr (v1 := (.int .i64 x4)) (by rfl) (z09 (by rfl) (by exact rfl)) O8 s9 rfl
def z20 (K : Nat) (x7 : List Int) (x8 : List Int) : Nat -> List Int -> Int -> Int -> Option (List Int × Int)
  | 0, _, _, _ => none
  | k + 1, x29, x30, x31 => (if (decide (x31 < (List.length x7 : Int))) = true then ((idx x7 x31).bind fun x43 => (Option.bind ((if (decide (x31 < (List.length x8 : Int))) = true then ((idx x8 x31).bind fun x52 => some (z05 .u32 ((z05 .u32 (x43 + x30)) + x52))) else some (z05 .u32 (x43 + x30)))) (tu1 fun x57 => (if List.length x29 + List.length [Int.tmod x57 1000000000] <= 16777216 then z20 K x7 x8 k (x29 ++ [Int.tmod x57 1000000000]) (z05 .u32 (Int.tdiv x57 1000000000)) (z05 .i64 (x31 + 1)) else none)))) else some (x29, x30))
def z6n (K : Nat) (p0 : List Int) (p1 : List Int) : Option (List Int) := (Option.bind ((if (decide ((List.length p0 : Int) < (List.length p1 : Int))) = true then some (p1, p0) else some (p0, p1))) (tu2 fun x7 x8 => (if 0 <= (0 : Int) /\ (0 : Int) <= (z05 .i64 ((List.length x7 : Int) + 1)) /\ (z05 .i64 ((List.length x7 : Int) + 1)) <= 16777216 then (Option.bind (z20 K x7 x8 K (List.replicate (Int.toNat 0) 0) 0 0) (tu2 fun x82 x83 => (Option.bind ((if (decide (x83 > 0)) = true then (if List.length x82 + List.length [x83] <= 16777216 then some (x82 ++ [x83]) else none) else some x82)) (tu1 fun x113 => some x113)))) else none)))
theorem zch (v0 : Value) (p0 : List Int) (hp0 : (rSl (rI .u32)).rep G [v0] p0) (v1 : Value) (p1 : List Int) (hp1 : (rSl (rI .u32)).rep G [v1] p1) (O : Ow G H (L)) (r : List Int) (h : z6n K p0 p1 = some r) :
    CRF Tryd.prog 90 [v0, v1] G H (fun w0 => (eSl w0 145 (rI .u32) r :: L)) (fun w0 v G' => w0 = v) := by
 unfold z6n at h
 refine CRF.og (n := 55) (fn := Tryd.f90) (by kernel_rfl) rfl rfl fun R kr => (.seq (.region (W.q1 (.slice none 0 0) rfl (.nil (.seq (.seq ?_))))))
 refine .region (W.q2 v0 rfl (W.pure (v := (.int .i64 (List.length p0 : Int))) rfl rfl (z0p (oo rfl rfl) (z0f hp0) (z06 el63)) (W.q2 v1 rfl (W.pure (v := (.int .i64 (List.length p1 : Int))) rfl rfl (z0p (oo rfl rfl) (z0f hp1) (z06 el63)) (W.q3 (.bool (decide ((List.length p0 : Int) < (List.length p1 : Int)))) rfl rfl (.nil ?_))))))
 obtain ⟨q1, h2, h3⟩ := z00 h
 refine AW.midT (fun σ' H' => ∃ (y1 : List Int) (y2 : List Int) (G' : GM), (y1, y2) = q1 /\ Ow G' H' (L) /\ GM.le G G' /\ (rSl (rI .u32)).rep G' [σ' 0] y1 /\ (rSl (rI .u32)).rep G' [σ' 1] y2) ?_ ?_
 .refine .cond (b := decide ((List.length p0 : Int) < (List.length p1 : Int))) rfl rfl (fun g4 => ?_) (fun g4 => ?_)
  rotate_left
  .have h6 := z0h g4 h2
   refine .skip ?_
   obtain rfl := zAa h6
   exact ⟨p0, p1, _, rfl, O, (zAf _), hp0, hp1⟩
  have h5 := z03 g4 h2
  refine .region (W.q2 v1 rfl (W.q2 v0 rfl (W.q1 v1 rfl (W.q1 v0 rfl (.nil ?_)))))
  obtain rfl := zAa h5
  exact ⟨p1, p0, _, rfl, O, (zAf _), hp1, hp0⟩
 rintro σ9 H10 fr11 ⟨x7, x8, G12, rfl, O13, s14, f16, f17⟩
 have h18 := z4k h3
 refine .seq (.region (W.q2 (σ9 0) rfl (W.pure (v := (.int .i64 (List.length x7 : Int))) rfl rfl (z0p (oo rfl rfl) (z0f f16) (z06 el63)) (W.q3 (.int .i64 (z05 .i64 ((List.length x7 : Int) + 1))) rfl rfl ?_))))
 obtain ⟨g20, h21⟩ := z3c h18
 refine W.lo rfl rfl (Lo.makeSlice (r := (rI .u32)) (x0 := 0) (a := 0) (c := (z05 .i64 ((List.length x7 : Int) + 1))) rfl el63 zbs z40 (by kernel_rfl) rfl zh2 (by decide) rfl rfl g20 (zI .u32) O13) ?_
 rintro v23 H24 ⟨O19, sm22⟩
 refine W.q1 v23 rfl (.nil (.seq (.region (W.q1 (.int .u32 0) rfl (.nil (.seq ?_))))))
 refine .seq (.region (W.q2 (σ9 0) rfl (W.pure (v := (.int .i64 (List.length x7 : Int))) rfl rfl (z0p (oo rfl rfl) (z0f f16) (z06 el63)) (W.q2 (.int .i64 0) rfl (.nil ?_)))))
 obtain ⟨q25, h26, h27⟩ := z00 h21
 refine AW.midT (fun σ' H' => ∃ (y1 : List Int) (y2 : Int) (G' : GM), (y1, y2) = q25 /\ Ow G' H' (eSl (σ' 5) 145 (rI .u32) y1 :: L) /\ GM.le G12 G' /\ σ' 6 = .int .u32 y2) ?_ ?_
 rotate_left
 .rintro σ84 H85 fr86 ⟨x82, x83, G87, rfl, O88, s89, t91⟩
  have h92 := z4k h27
  refine .seq (.seq (.region (W.q2 _ t91 (W.q3 (.bool (decide (x83 > 0))) rfl rfl (.nil ?_)))))
  obtain ⟨q93, h94, h95⟩ := z00 h92
  refine AW.midT (fun σ' H' => ∃ (y1 : List Int) (G' : GM), y1 = q93 /\ Ow G' H' (eSl (σ' 5) 145 (rI .u32) y1 :: L) /\ GM.le G87 G') ?_ ?_
  rotate_left
  .rintro σ114 H115 fr116 ⟨x113, G117, rfl, O118, s119⟩
   have h121 := z0d h95
   refine .seq (.region (W.q2 (σ114 5) rfl (W.q1 (σ114 5) rfl (.nil (.ret ?_)))))
   obtain rfl := zAa h121
   exact zfp kr (σ114 5) (v1 := (σ114 5)) (by rfl) (z09 (by rfl) (by exact rfl)) O118 (zAe s14 (zAe s89 s119)) rfl
  refine .cond (b := decide (x83 > 0)) rfl rfl (fun g96 => ?_) (fun g96 => ?_)
  rotate_left
  .have h112 := z0h g96 h94
   refine .skip ?_
   obtain rfl := zAa h112
   exact ⟨x82, _, rfl, O88, (zAf _)⟩
  have h97 := z03 g96 h94
  refine .region (W.q2 (σ84 5) rfl (W.q2 _ t91 (W.lo rfl rfl (Lo.buildSlice (r := (rI .u32)) (vs := [(.int .u32 x83)]) (xs := [x83]) el63 zbs z40 (by kernel_rfl) rfl (qc rfl qn) rfl (.cons rfl .nil) O88) ?_)))
  rintro v100 H101 ⟨O98, sm99⟩
  obtain ⟨es103, e104, e105⟩ := z7r (j := 0) rfl O98
  obtain ⟨g106, h107⟩ := z3c h97
  refine W.lo rfl rfl (Lo.append (j := 1) (v := (σ84 5)) rfl rfl el63 ni63 zbs z40 zh2 (by decide) (by decide) rfl e104 e105 g106 O98) ?_
  rintro v109 H110 ⟨O102, sm108⟩
  refine W.q1 v109 rfl (.nil ?_)
  have O111 : Ow G87 H110 (eSl v109 145 (rI .u32) (x82 ++ [x83]) :: L) := O102.drop 0
  obtain rfl := zAa h107
  exact ⟨(x82 ++ [x83]), _, rfl, O111, (zAf _)⟩
 refine .block (AW.loop (α := Nat) (fun k' σ' H' => ∃ (y1 : List Int) (y2 : Int) (y3 : Int) (G' : GM), z20 K x7 x8 k' y1 y2 y3 = some q25 /\ Ow G' H' (eSl (σ' 5) 145 (rI .u32) y1 :: L) /\ GM.le G12 G' /\ σ' 6 = .int .u32 y2 /\ σ' 22 = .int .i64 y3) (fun k' => k') K ⟨(List.replicate (Int.toNat 0) 0), 0, 0, _, h26, O19, (zAf _), rfl, rfl⟩ ?_)
 rintro k28
 rintro σ32 H33 fr34 ⟨x29, x30, x31, G35, h38, O36, s37, t39, t40⟩
 rcases k28 with _ | k28
 .exact z0a h38
 rw [z20] at h38
 refine .seq (.region (W.q3 (.bool (decide (x31 < (List.length x7 : Int)))) t40 ((fr34 21 rfl).trans rfl) (.nil (.seq (.cond (b := decide (x31 < (List.length x7 : Int))) rfl rfl (fun g41 => ?_) (fun g41 => ?_))))))
 rotate_left
 .have h81 := z0h g41 h38
  refine .exit ?_
  obtain rfl := zAa h81
  exact ⟨x29, x30, _, rfl, O36, s37, t39⟩
 have h42 := z03 g41 h38
 refine .skip (.seq (.block (.seq (.region (W.q2 _ t40 ?_)))))
 obtain ⟨x43, i44, h45⟩ := z00 h42
 have j46 := z0g i44
 refine W.pure (v := (z2t (σ9 0) (Int.toNat x31 * 1))) rfl rfl (z3b el63 z40 (oo rfl ((fr34 20 rfl).trans rfl)) (oo rfl t40) (z0f (RT.mono _ s37 f16)) j46.1 j46.2.1) (W.load1 (v := (.int .u32 x43)) (r := []) rfl rfl z9o (z0q rfl (At.int (At.le (At.le (z1m f16 j46.2.2) s37 s37) (zAf _) O36.fro))) (W.q1 (.int .i64 x31) rfl (W.q1 (.int .u32 x43) rfl (.nil (.seq (.region ?_))))))
 refine W.q2 (.int .u32 x43) rfl (W.q2 _ t39 (W.q3 (.int .u32 (z05 .u32 (x43 + x30))) rfl rfl (W.q1 (.int .u32 (z05 .u32 (x43 + x30))) rfl (.nil (.seq (.seq ?_))))))
 refine .region (W.q2 (.int .i64 x31) rfl (W.q2 (σ9 1) ((fr34 1 rfl).trans rfl) (W.pure (v := (.int .i64 (List.length x8 : Int))) rfl rfl (z0p (oo rfl rfl) (z0f (RT.mono _ s37 f17)) (z06 el63)) (W.q3 (.bool (decide (x31 < (List.length x8 : Int)))) rfl rfl (.nil ?_)))))
 obtain ⟨q47, h48, h49⟩ := z00 h45
 refine AW.midT (fun σ' H' => ∃ (y1 : Int) (G' : GM), y1 = q47 /\ Ow G' H' (eSl (σ32 5) 145 (rI .u32) x29 :: L) /\ GM.le G35 G' /\ σ' 8 = .int .u32 y1) ?_ ?_
 .refine .cond (b := decide (x31 < (List.length x8 : Int))) rfl rfl (fun g50 => ?_) (fun g50 => ?_)
  rotate_left
  .have h56 := z0h g50 h48
   refine .skip ?_
   obtain rfl := zAa h56
   exact ⟨z05 .u32 (x43 + x30), _, rfl, O36, (zAf _), rfl⟩
  have h51 := z03 g50 h48
  refine .region (W.q2 (.int .u32 (z05 .u32 (x43 + x30))) rfl (W.q2 (σ9 1) ((fr34 1 rfl).trans rfl) (W.q2 (.int .i64 x31) rfl ?_)))
  obtain ⟨x52, i53, h54⟩ := z00 h51
  have j55 := z0g i53
  refine W.pure (v := (z2t (σ9 1) (Int.toNat x31 * 1))) rfl rfl (z3b el63 z40 (oo rfl rfl) (oo rfl rfl) (z0f (RT.mono _ s37 f17)) j55.1 j55.2.1) (W.load1 (v := (.int .u32 x52)) (r := []) rfl rfl z9o (z0q rfl (At.int (At.le (At.le (z1m f17 j55.2.2) s37 s37) (zAf _) O36.fro))) (W.q3 (.int .u32 (z05 .u32 ((z05 .u32 (x43 + x30)) + x52))) rfl rfl (W.q1 (.int .u32 (z05 .u32 ((z05 .u32 (x43 + x30)) + x52))) rfl (.nil ?_))))
  obtain rfl := zAa h54
  exact ⟨z05 .u32 ((z05 .u32 (x43 + x30)) + x52), _, rfl, O36, (zAf _), rfl⟩
 rintro σ58 H59 fr60 ⟨x57, G61, rfl, O62, s63, t65⟩
 have h66 := z0d h49
 refine .seq (.region (W.q2 _ t65 (W.pure (v := (.int .u32 (z05 .u32 (Int.tdiv x57 1000000000)))) rfl rfl (zgr (by decide) (oo rfl rfl) (oo rfl rfl)) (W.q1 (.int .u32 (z05 .u32 (Int.tdiv x57 1000000000))) rfl (.nil (.region ?_))))))
 refine W.q2 (σ32 5) ((fr60 5 rfl).trans rfl) (W.q2 _ t65 (W.pure (v := (.int .u32 (Int.tmod x57 1000000000))) rfl rfl (zi9 (by decide) (oo rfl rfl) (oo rfl rfl)) (W.lo rfl rfl (Lo.buildSlice (r := (rI .u32)) (vs := [(.int .u32 (Int.tmod x57 1000000000))]) (xs := [Int.tmod x57 1000000000]) el63 zbs z40 (by kernel_rfl) rfl (qc rfl qn) rfl (.cons rfl .nil) O62) ?_)))
 rintro v69 H70 ⟨O67, sm68⟩
 obtain ⟨es72, e73, e74⟩ := z7r (j := 0) rfl O67
 obtain ⟨g75, h76⟩ := z3c h66
 refine W.lo rfl rfl (Lo.append (j := 1) (v := (σ32 5)) rfl rfl el63 ni63 zbs z40 zh2 (by decide) (by decide) rfl e73 e74 g75 O67) ?_
 rintro v78 H79 ⟨O71, sm77⟩
 refine W.q1 v78 rfl (.nil (.region (W.q3 (.int .i64 (z05 .i64 (x31 + 1))) ((fr60 22 rfl).trans t40) rfl (W.q2 (.int .i64 (z05 .i64 (x31 + 1))) rfl (.nil ?_)))))
 have O80 : Ow G61 H79 (eSl v78 145 (rI .u32) (x29 ++ [Int.tmod x57 1000000000]) :: L) := O71.drop 0
 exact ⟨k28, zAg _, ⟨(x29 ++ [Int.tmod x57 1000000000]), z05 .u32 (Int.tdiv x57 1000000000), z05 .i64 (x31 + 1), _, h76, O80, (zAe s37 s63), rfl, rfl⟩⟩
def z21 (K : Nat) (p0 : List Int) (p1 : List Int) : Nat -> List Int -> Int -> Int -> Option (List Int)
  | 0, _, _, _ => none
  | k + 1, x11, x12, x13 => (if (decide (x13 < (List.length p0 : Int))) = true then ((idx p0 x13).bind fun x25 => (Option.bind ((if (decide (x13 < (List.length p1 : Int))) = true then ((idx p1 x13).bind fun x34 => (lt (z05 .i64 ((z05 .i64 ((IntKind.wrap .i64 x25) - x12)) - (IntKind.wrap .i64 x34))) fun x38 => some x38)) else some (z05 .i64 ((IntKind.wrap .i64 x25) - x12)))) (tu1 fun x42 => (Option.bind ((if (decide (x42 < 0)) = true then some (1, z05 .i64 (x42 + 1000000000)) else some (0, x42))) (tu2 fun x58 x59 => ((idx x11 x13).bind fun x70 => z21 K p0 p1 k (List.set x11 (Int.toNat x13) (IntKind.wrap .u32 x59)) x58 (z05 .i64 (x13 + 1)))))))) else some x11)
def z5r (K : Nat) (p0 : List Int) (p1 : List Int) : Option (List Int) := (if 0 <= (List.length p0 : Int) /\ (List.length p0 : Int) <= (List.length p0 : Int) /\ (List.length p0 : Int) <= 16777216 then (Option.bind (z21 K p0 p1 K (List.replicate (Int.toNat (List.length p0 : Int)) 0) 0 0) (tu1 fun x79 => ((z1u K x79).bind fun x88 => some x88))) else none)
theorem z99 (v0 : Value) (p0 : List Int) (hp0 : (rSl (rI .u32)).rep G [v0] p0) (v1 : Value) (p1 : List Int) (hp1 : (rSl (rI .u32)).rep G [v1] p1) (O : Ow G H (L)) (r : List Int) (h : z5r K p0 p1 = some r) :
    CRF Tryd.prog 92 [v0, v1] G H (fun w0 => (eSl w0 145 (rI .u32) r :: L)) (fun w0 v G' => w0 = v) := by
 unfold z5r at h
 refine CRF.og (n := 47) (fn := Tryd.f92) (by kernel_rfl) rfl rfl fun R kr => (.seq (.region (W.q1 (.slice none 0 0) rfl (.nil (.seq (.region ?_))))))
 refine W.q2 v0 rfl (W.pure (v := (.int .i64 (List.length p0 : Int))) rfl rfl (z0p (oo rfl rfl) (z0f hp0) (z06 el63)) ?_)
 obtain ⟨g2, h3⟩ := z3c h
 refine W.lo rfl rfl (Lo.makeSlice (r := (rI .u32)) (x0 := 0) (a := (List.length p0 : Int)) (c := (List.length p0 : Int)) rfl el63 zbs z40 (by kernel_rfl) rfl zh2 (by decide) rfl rfl g2 (zI .u32) O) ?_
 rintro v5 H6 ⟨O1, sm4⟩
 refine W.q1 v5 rfl (.nil (.seq (.region (W.q1 (.int .i64 0) rfl (.nil (.seq ?_))))))
 refine .seq (.region (W.q2 v0 rfl (W.pure (v := (.int .i64 (List.length p0 : Int))) rfl rfl (z0p (oo rfl rfl) (z0f hp0) (z06 el63)) (W.q2 (.int .i64 0) rfl (.nil ?_)))))
 obtain ⟨q7, h8, h9⟩ := z00 h3
 refine AW.midT (fun σ' H' => ∃ (y1 : List Int) (G' : GM), y1 = q7 /\ Ow G' H' (eSl v5 145 (rI .u32) y1 :: L) /\ GM.le G G') ?_ ?_
 rotate_left
 .rintro σ80 H81 fr82 ⟨x79, G83, rfl, O84, s85⟩
  have h87 := z0d h9
  refine .seq (.region (W.q2 v5 ((fr82 5 rfl).trans rfl) ?_))
  obtain ⟨x88, i89, h90⟩ := z00 h87
  refine W.lo rfl rfl (Lo.callPF (ps := [eSl v5 145 (rI .u32) x79]) (pw := fun w => [eSl w 145 (rI .u32) x88]) rfl (fn := Tryd.f118) (by kernel_rfl) rfl (mc rfl mn) O84 (fun L' O' => z2n K v5 x79 O' _ i89)) ?_
  rintro v99 H100 ⟨w96, G91, O92, s93, sm98, rfl⟩
  refine W.q1 w96 rfl (.nil (.ret ?_))
  obtain rfl := zAa h90
  exact zfp kr w96 (v1 := w96) (by rfl) (z09 (by rfl) (by exact rfl)) O92 (zAe s85 s93) rfl
 refine .block (AW.loop (α := Nat) (fun k' σ' H' => ∃ (y1 : List Int) (y2 : Int) (y3 : Int) (G' : GM), z21 K p0 p1 k' y1 y2 y3 = some q7 /\ Ow G' H' (eSl v5 145 (rI .u32) y1 :: L) /\ GM.le G G' /\ σ' 6 = .int .i64 y2 /\ σ' 14 = .int .i64 y3) (fun k' => k') K ⟨(List.replicate (Int.toNat (List.length p0 : Int)) 0), 0, 0, _, h8, O1, (zAf _), rfl, rfl⟩ ?_)
 rintro k10
 rintro σ14 H15 fr16 ⟨x11, x12, x13, G17, h20, O18, s19, t21, t22⟩
 rcases k10 with _ | k10
 .exact z0a h20
 rw [z21] at h20
 refine .seq (.region (W.q3 (.bool (decide (x13 < (List.length p0 : Int)))) t22 ((fr16 13 rfl).trans rfl) (.nil (.seq (.cond (b := decide (x13 < (List.length p0 : Int))) rfl rfl (fun g23 => ?_) (fun g23 => ?_))))))
 rotate_left
 .have h78 := z0h g23 h20
  refine .exit ?_
  obtain rfl := zAa h78
  exact ⟨x11, _, rfl, O18, s19⟩
 have h24 := z03 g23 h20
 refine .skip (.seq (.block (.seq (.region (W.q2 _ t22 (W.q1 (.int .i64 x13) rfl ?_))))))
 refine .nil (.seq (.region (W.q2 v0 ((fr16 0 rfl).trans rfl) (W.q2 (.int .i64 x13) rfl ?_))))
 obtain ⟨x25, i26, h27⟩ := z00 h24
 have j28 := z0g i26
 refine W.pure (v := (z2t v0 (Int.toNat x13 * 1))) rfl rfl (z3b el63 z40 (oo rfl rfl) (oo rfl rfl) (z0f (RT.mono _ s19 hp0)) j28.1 j28.2.1) (W.load1 (v := (.int .u32 x25)) (r := []) rfl rfl z9o (z0q rfl (At.int (At.le (At.le (z1m hp0 j28.2.2) s19 s19) (zAf _) O18.fro))) (W.pure (v := (.int .i64 (IntKind.wrap .i64 x25))) rfl rfl (z3s z94 in2 (oo rfl rfl)) (W.q2 _ t21 (W.q3 (.int .i64 (z05 .i64 ((IntKind.wrap .i64 x25) - x12))) rfl rfl (W.q1 (.int .i64 (z05 .i64 ((IntKind.wrap .i64 x25) - x12))) rfl (.nil ?_))))))
 refine .seq (.seq (.region (W.q2 (.int .i64 x13) rfl (W.q2 v1 ((fr16 1 rfl).trans rfl) (W.pure (v := (.int .i64 (List.length p1 : Int))) rfl rfl (z0p (oo rfl rfl) (z0f (RT.mono _ s19 hp1)) (z06 el63)) (W.q3 (.bool (decide (x13 < (List.length p1 : Int)))) rfl rfl ?_))))))
 refine .nil ?_
 obtain ⟨q29, h30, h31⟩ := z00 h27
 refine AW.midT (fun σ' H' => ∃ (y1 : Int) (G' : GM), y1 = q29 /\ Ow G' H' (eSl v5 145 (rI .u32) x11 :: L) /\ GM.le G17 G' /\ σ' 8 = .int .i64 y1) ?_ ?_
 .refine .cond (b := decide (x13 < (List.length p1 : Int))) rfl rfl (fun g32 => ?_) (fun g32 => ?_)
  rotate_left
  .have h41 := z0h g32 h30
   refine .skip ?_
   obtain rfl := zAa h41
   exact ⟨z05 .i64 ((IntKind.wrap .i64 x25) - x12), _, rfl, O18, (zAf _), rfl⟩
  have h33 := z03 g32 h30
  refine .region (W.q2 (.int .i64 (z05 .i64 ((IntKind.wrap .i64 x25) - x12))) rfl (W.q2 v1 ((fr16 1 rfl).trans rfl) (W.q2 (.int .i64 x13) rfl ?_)))
  obtain ⟨x34, i35, h36⟩ := z00 h33
  have j37 := z0g i35
  refine W.pure (v := (z2t v1 (Int.toNat x13 * 1))) rfl rfl (z3b el63 z40 (oo rfl rfl) (oo rfl rfl) (z0f (RT.mono _ s19 hp1)) j37.1 j37.2.1) (W.load1 (v := (.int .u32 x34)) (r := []) rfl rfl z9o (z0q rfl (At.int (At.le (At.le (z1m hp1 j37.2.2) s19 s19) (zAf _) O18.fro))) (W.pure (v := (.int .i64 (IntKind.wrap .i64 x34))) rfl rfl (z3s z94 in2 (oo rfl rfl)) (W.q3 (.int .i64 (z05 .i64 ((z05 .i64 ((IntKind.wrap .i64 x25) - x12)) - (IntKind.wrap .i64 x34)))) rfl rfl ?_)))
  obtain ⟨x38, e39, h40⟩ := z6b h36
  refine W.q1 _ (congrArg (Value.int .i64) e39) (.nil ?_)
  obtain rfl := zAa h40
  exact ⟨x38, _, rfl, O18, (zAf _), rfl⟩
 rintro σ43 H44 fr45 ⟨x42, G46, rfl, O47, s48, t50⟩
 have h51 := z0d h31
 refine .seq (.region (W.q1 (.int .i64 0) rfl (.nil (.seq (.seq (.region ?_))))))
 refine W.q2 _ t50 (W.q3 (.bool (decide (x42 < 0))) rfl rfl (.nil ?_))
 obtain ⟨q52, h53, h54⟩ := z00 h51
 refine AW.midT (fun σ' H' => ∃ (y1 : Int) (y2 : Int) (G' : GM), (y1, y2) = q52 /\ Ow G' H' (eSl v5 145 (rI .u32) x11 :: L) /\ GM.le G46 G' /\ σ' 6 = .int .i64 y1 /\ σ' 8 = .int .i64 y2) ?_ ?_
 .refine .cond (b := decide (x42 < 0)) rfl rfl (fun g55 => ?_) (fun g55 => ?_)
  rotate_left
  .have h57 := z0h g55 h53
   refine .skip ?_
   obtain rfl := zAa h57
   exact ⟨0, x42, _, rfl, O47, (zAf _), rfl, t50⟩
  have h56 := z03 g55 h53
  refine .seq (.region (W.q2 _ t50 (W.q3 (.int .i64 (z05 .i64 (x42 + 1000000000))) rfl rfl (W.q1 (.int .i64 (z05 .i64 (x42 + 1000000000))) rfl (.nil (.region ?_))))))
  refine W.q1 (.int .i64 1) rfl (.nil ?_)
  obtain rfl := zAa h56
  exact ⟨1, z05 .i64 (x42 + 1000000000), _, rfl, O47, (zAf _), rfl, rfl⟩
 rintro σ60 H61 fr62 ⟨x58, x59, G63, rfl, O64, s65, t67, t68⟩
 have h69 := z4k h54
 refine .region (W.q2 v5 ((fr62 5 rfl).trans ((fr45 5 rfl).trans ((fr16 5 rfl).trans rfl))) (W.q2 (.int .i64 x13) ((fr62 7 rfl).trans ((fr45 7 rfl).trans rfl)) (W.q2 _ t68 (W.pure (v := (.int .u32 (IntKind.wrap .u32 x59))) rfl rfl (z3s in2 z94 (oo rfl rfl)) ?_))))
 obtain ⟨x70, i71, h72⟩ := z00 h69
 have j73 := z0g i71
 refine W.pure (v := (z2t v5 (Int.toNat x13 * 1))) rfl rfl (z3b el63 z40 (oo rfl rfl) (oo rfl rfl) (O64.slLen (j := 0) rfl) j73.1 j73.2.1) (W.lo rfl rfl (Lo.storeSl0 (j := 0) (y0 := IntKind.wrap .u32 x59) (v := (.int .u32 (IntKind.wrap .u32 x59))) rfl j73.2.2  rfl z40 rfl rfl rfl O64) ?_)
 rintro v76 H77 ⟨O74, sm75⟩
 refine .nil (.region (W.q3 (.int .i64 (z05 .i64 (x13 + 1))) ((fr62 14 rfl).trans ((fr45 14 rfl).trans t22)) rfl (W.q2 (.int .i64 (z05 .i64 (x13 + 1))) rfl (.nil ?_))))
 exact ⟨k10, zAg _, ⟨(List.set x11 (Int.toNat x13) (IntKind.wrap .u32 x59)), x58, z05 .i64 (x13 + 1), _, h72, O74, (zAe s19 (zAe s48 s65)), t67, rfl⟩⟩
def z45 (K : Nat) (p0 : Q) (p1 : Q) : Option Q := (if ((List.length p0.num : Int) == 0) = true then some p1 else (if ((List.length p1.num : Int) == 0) = true then some p0 else ((z17 K p1).bind fun x65 => ((z27 K p0.num x65).bind fun x78 => ((z17 K p0).bind fun x97 => ((z27 K p1.num x97).bind fun x110 => ((z17 K p0).bind fun x131 => ((z17 K p1).bind fun x147 => ((z27 K x131 x147).bind fun x160 => (if (p0.neg == p1.neg) = true then ((z6n K x78 x110).bind fun x188 => ((z5i K p0.neg x188 x160).bind fun x209 => some x209)) else ((z41 K x78 x110).bind fun x241 => (if (decide (x241 >= 0)) = true then ((z5r K x78 x110).bind fun x259 => ((z5i K p0.neg x259 x160).bind fun x280 => some x280)) else ((z5r K x110 x78).bind fun x309 => ((z5i K p1.neg x309 x160).bind fun x330 => some x330))))))))))))))
theorem z5j (v0 : List Value) (p0 : Q) (hp0 : T_Q.rep G v0 p0) (v1 : List Value) (p1 : Q) (hp1 : T_Q.rep G v1 p1) (O : Ow G H (L)) (r : Q) (h : z45 K p0 p1 = some r) :
    CR Tryd.prog 34 [.agg (List.toArray v0), .agg (List.toArray v1)] G H (L) (fun v G' _ => ∃ (w0 : List Value), v = .agg (List.toArray w0) /\ T_Q.rep G' w0 r) := by
 unfold z45 at h
 refine CR.og (n := 65) (fn := Tryd.f34) (by kernel_rfl) rfl rfl fun R kr => (.seq (.region (W.lo rfl rfl (Lo.box (r := T_Q) (x0 := p0) (v := (.agg (List.toArray v0))) rfl rfl hp0 O) ?_)))
 rintro v4 H5 ⟨b2, rfl, O1, sm3⟩
 refine W.lo rfl rfl (Lo.box (r := T_Q) (x0 := p1) (v := (.agg (List.toArray v1))) rfl rfl hp1 O1) ?_
 rintro v9 H10 ⟨b7, rfl, O6, sm8⟩
 refine W.lo rfl rfl (Lo.alloc (r := T_Q) (x0 := (Q.mk false ([] : List Int) ([] : List Int))) ze65 (by kernel_rfl) z_Q O6) ?_
 rintro v14 H15 ⟨b12, rfl, O11, sm13⟩
 refine .nil (.seq (.block (.seq (.region (W.pure (v := (padd (.pointer (some ⟨b2, 0, none⟩)) 1)) rfl rfl (z3d z7j (oo rfl rfl) (O11.atVar (j := 2) rfl)) ?_)))))
 obtain ⟨w16, p17, f18⟩ := At.sl (At.proj (O11.atVar (j := 2) rfl) z4l)
 refine W.load1 (v := w16) (r := []) rfl rfl ag63 (z0q rfl p17) (W.pure (v := (.int .i64 (List.length p0.num : Int))) rfl rfl (z0p (oo rfl rfl) (z0f f18) (z06 el63)) (W.q3 (.bool ((List.length p0.num : Int) == 0)) rfl rfl (W.q1 (.bool ((List.length p0.num : Int) == 0)) rfl (.nil (.cond (b := ((List.length p0.num : Int) == 0)) rfl rfl (fun g19 => ?_) (fun g19 => ?_))))))
 .have h20 := z03 g19 h
  refine .seq (.region ?_)
  obtain ⟨c21, p22, f23⟩ := (O11.atVar (j := 1) rfl)
  refine W.loadA (cs := c21) rfl rfl ag65 sz65 (z0q rfl p22) (RT.len _ f23) (W.lo rfl rfl (Lo.storeVar (j := 0) (s := T_Q) (y0 := p1) (v := (.agg (List.toArray c21))) (o := 0) rfl ((Put.at (Put.self _) _ _)) rfl sz65 rfl (by omega) rfl f23 O11) ?_)
  rintro v26 H27 ⟨O24, sm25⟩
  refine .nil (.ret ?_)
  obtain ⟨c28, p29, f30⟩ := (O24.atVar (j := 0) rfl)
  have O31 : Ow G H27 (eVar b7 65 T_Q p1 :: eVar b2 65 T_Q p0 :: L) := O24.drop 0
  have O32 : Ow G H27 (eVar b2 65 T_Q p0 :: L) := O31.drop 0
  have O33 : Ow G H27 (L) := O32.drop 0
  obtain rfl := zAa h20
  exact z16 kr (v1 := (.agg (List.toArray c28))) (by rfl) (z2d (p := (.pointer (some ⟨b12, 0, none⟩))) (by rfl) ag65 sz65 (by exact rfl) p29 (RT.len _ f30)) O33 (zAf _) ⟨c28, rfl, f30⟩
 have h34 := z0h g19 h
 refine .seq (.region (W.pure (v := (padd (.pointer (some ⟨b7, 0, none⟩)) 1)) rfl rfl (z3d z7j (oo rfl rfl) (O11.atVar (j := 1) rfl)) ?_))
 obtain ⟨w35, p36, f37⟩ := At.sl (At.proj (O11.atVar (j := 1) rfl) z4l)
 refine W.load1 (v := w35) (r := []) rfl rfl ag63 (z0q rfl p36) (W.pure (v := (.int .i64 (List.length p1.num : Int))) rfl rfl (z0p (oo rfl rfl) (z0f f37) (z06 el63)) (W.q3 (.bool ((List.length p1.num : Int) == 0)) rfl rfl (W.q1 (.bool ((List.length p1.num : Int) == 0)) rfl (.nil (.cond (b := ((List.length p1.num : Int) == 0)) rfl rfl (fun g38 => ?_) (fun g38 => ?_))))))
 .have h39 := z03 g38 h34
  refine .seq (.region ?_)
  obtain ⟨c40, p41, f42⟩ := (O11.atVar (j := 2) rfl)
  refine W.loadA (cs := c40) rfl rfl ag65 sz65 (z0q rfl p41) (RT.len _ f42) (W.lo rfl rfl (Lo.storeVar (j := 0) (s := T_Q) (y0 := p0) (v := (.agg (List.toArray c40))) (o := 0) rfl ((Put.at (Put.self _) _ _)) rfl sz65 rfl (by omega) rfl f42 O11) ?_)
  rintro v45 H46 ⟨O43, sm44⟩
  refine .nil (.ret ?_)
  obtain ⟨c47, p48, f49⟩ := (O43.atVar (j := 0) rfl)
  have O50 : Ow G H46 (eVar b7 65 T_Q p1 :: eVar b2 65 T_Q p0 :: L) := O43.drop 0
  have O51 : Ow G H46 (eVar b2 65 T_Q p0 :: L) := O50.drop 0
  have O52 : Ow G H46 (L) := O51.drop 0
  obtain rfl := zAa h39
  exact z16 kr (v1 := (.agg (List.toArray c47))) (by rfl) (z2d (p := (.pointer (some ⟨b12, 0, none⟩))) (by rfl) ag65 sz65 (by exact rfl) p48 (RT.len _ f49)) O52 (zAf _) ⟨c47, rfl, f49⟩
 have h53 := z0h g38 h34
 refine .skip (.seq (.draw2 (M := [0, 1, 0, 4, 15, 0, 32, 0, 159, 511, 1023, 2047]) mixed (by kernel_rfl) (by kernel_rfl) fun H54 N58 x55 F57 => ?_))
 have O56 := O11.ext x55
 refine D2.pure (v := (padd (.pointer (some ⟨b2, 0, none⟩)) 1)) rfl rfl (z3d z7j (oo rfl rfl) (O56.atVar (j := 2) rfl)) ?_
 obtain ⟨w59, p60, f61⟩ := At.sl (At.proj (O56.atVar (j := 2) rfl) z4l)
 refine D2.load1' (v := w59) (r := []) rfl rfl ag63 (z0q rfl p60) z02 ?_
 obtain ⟨c62, p63, f64⟩ := (O56.atVar (j := 1) rfl)
 refine D2.loadA' (cs := c62) rfl rfl ag65 sz65 (z0q rfl p63) (RT.len _ f64) z02 ?_
 obtain ⟨x65, i66, h67⟩ := z00 h53
 refine D2.lo rfl rfl (Lo.cP rfl (fn := Tryd.f88) (by kernel_rfl) rfl (mc rfl mn) O56 (fun L' O' => z1e K c62 p1 f64 O' _ i66)) ?_ z02 ?_ ?_
 .rintro v76 H77 ⟨G68, O69, s70, sm75, ⟨w72, rfl, f73⟩⟩; exact (faR1 (.inl (by decide)) (faR1 (.inr (sm75 _ (Or.inr ⟨2, _, rfl, List.mem_singleton.2 rfl⟩))) z02))
 .rintro v76 H77 ⟨G68, O69, s70, sm75, ⟨w72, rfl, f73⟩⟩; exact z02
 rintro v76 H77 ⟨G68, O69, s70, sm75, ⟨w72, rfl, f73⟩⟩
 obtain ⟨x78, i79, h80⟩ := z00 h67
 refine D2.lo rfl rfl (Lo.callPF (ps := []) (pw := fun w => [eSl w 145 (rI .u32) x78]) rfl (fn := Tryd.f87) (by kernel_rfl) rfl (mc rfl (mc rfl mn)) O69 (fun L' O' => z1w K w59 p0.num (RT.mono _ s70 f61) w72 x65 f73 O' _ i79)) ?_ (z07 (by decide) z02) ?_ ?_
 .rintro v89 H90 ⟨w86, G81, O82, s83, sm88, rfl⟩; exact (faR1 (.inl (by decide)) (faR1 (.inl (by decide)) z02))
 .rintro v89 H90 ⟨w86, G81, O82, s83, sm88, rfl⟩; exact z02
 rintro v89 H90 ⟨w86, G81, O82, s83, sm88, rfl⟩
 refine D2.pure (v := (padd (.pointer (some ⟨b7, 0, none⟩)) 1)) rfl rfl (z3d z7j (oo rfl rfl) (O82.atVar (j := 2) rfl)) ?_
 obtain ⟨w91, p92, f93⟩ := At.sl (At.proj (O82.atVar (j := 2) rfl) z4l)
 refine D2.load1' (v := w91) (r := []) rfl rfl ag63 (z0q rfl p92) (z2g (sm88 _ (Or.inr ⟨1, _, rfl, List.mem_singleton.2 rfl⟩)) (z2g (sm75 _ (Or.inr ⟨1, _, rfl, List.mem_singleton.2 rfl⟩)) z02)) ?_
 obtain ⟨c94, p95, f96⟩ := (O82.atVar (j := 3) rfl)
 refine D2.loadA' (cs := c94) rfl rfl ag65 sz65 (z0q rfl p95) (RT.len _ f96) (z2g (sm88 _ (Or.inr ⟨2, _, rfl, List.mem_singleton.2 rfl⟩)) (z2g (sm75 _ (Or.inr ⟨2, _, rfl, List.mem_singleton.2 rfl⟩)) z02)) ?_
 obtain ⟨x97, i98, h99⟩ := z00 h80
 refine D2.lo rfl rfl (Lo.cP rfl (fn := Tryd.f88) (by kernel_rfl) rfl (mc rfl mn) O82 (fun L' O' => z1e K c94 p0 f96 O' _ i98)) ?_ (z07 (by decide) (z07 (by decide) z02)) ?_ ?_
 .rintro v108 H109 ⟨G100, O101, s102, sm107, ⟨w104, rfl, f105⟩⟩; exact (faR1 (.inl (by decide)) (faR1 (.inr (sm107 _ (Or.inr ⟨2, _, rfl, List.mem_singleton.2 rfl⟩))) (faR1 (.inl (by decide)) (faR1 (.inl (by decide)) z02))))
 .rintro v108 H109 ⟨G100, O101, s102, sm107, ⟨w104, rfl, f105⟩⟩; exact z02
 rintro v108 H109 ⟨G100, O101, s102, sm107, ⟨w104, rfl, f105⟩⟩
 obtain ⟨x110, i111, h112⟩ := z00 h99
 refine D2.lo rfl rfl (Lo.callPF (ps := []) (pw := fun w => [eSl w 145 (rI .u32) x110]) rfl (fn := Tryd.f87) (by kernel_rfl) rfl (mc rfl (mc rfl mn)) O101 (fun L' O' => z1w K w91 p1.num (RT.mono _ s102 f93) w104 x97 f105 O' _ i111)) ?_ (z07 (by decide) (z07 (by decide) (z07 (by decide) z02))) ?_ ?_
 .rintro v121 H122 ⟨w118, G113, O114, s115, sm120, rfl⟩; exact (faR1 (.inl (by decide)) (faR1 (.inl (by decide)) (faR1 (.inl (by decide)) (faR1 (.inl (by decide)) z02))))
 .rintro v121 H122 ⟨w118, G113, O114, s115, sm120, rfl⟩; exact z02
 rintro v121 H122 ⟨w118, G113, O114, s115, sm120, rfl⟩
 refine D2.q1 w86 rfl (D2.q1 w118 rfl (.nil (.seq (.draw2 (M := [0, 1, 0, 7, 15, 31]) mixed (by kernel_rfl) (by kernel_rfl) fun H123 N127 x124 F126 => ?_))))
 have O125 := O114.ext x124
 obtain ⟨c128, p129, f130⟩ := (O125.atVar (j := 4) rfl)
 refine D2.loadA' (cs := c128) rfl rfl ag65 sz65 (z0q rfl p129) (RT.len _ f130) z02 ?_
 obtain ⟨x131, i132, h133⟩ := z00 h112
 refine D2.lo rfl rfl (Lo.cP rfl (fn := Tryd.f88) (by kernel_rfl) rfl (mc rfl mn) O125 (fun L' O' => z1e K c128 p0 f130 O' _ i132)) ?_ z02 ?_ ?_
 .rintro v142 H143 ⟨G134, O135, s136, sm141, ⟨w138, rfl, f139⟩⟩; exact (faR1 (.inl (by decide)) z02)
 .rintro v142 H143 ⟨G134, O135, s136, sm141, ⟨w138, rfl, f139⟩⟩; exact z02
 rintro v142 H143 ⟨G134, O135, s136, sm141, ⟨w138, rfl, f139⟩⟩
 obtain ⟨c144, p145, f146⟩ := (O135.atVar (j := 3) rfl)
 refine D2.loadA' (cs := c144) rfl rfl ag65 sz65 (z0q rfl p145) (RT.len _ f146) (z2g (sm141 _ (Or.inr ⟨3, _, rfl, List.mem_singleton.2 rfl⟩)) z02) ?_
 obtain ⟨x147, i148, h149⟩ := z00 h133
 refine D2.lo rfl rfl (Lo.cP rfl (fn := Tryd.f88) (by kernel_rfl) rfl (mc rfl mn) O135 (fun L' O' => z1e K c144 p1 f146 O' _ i148)) ?_ (z07 (by decide) z02) ?_ ?_
 .rintro v158 H159 ⟨G150, O151, s152, sm157, ⟨w154, rfl, f155⟩⟩; exact (faR1 (.inl (by decide)) (faR1 (.inl (by decide)) z02))
 .rintro v158 H159 ⟨G150, O151, s152, sm157, ⟨w154, rfl, f155⟩⟩; exact z02
 rintro v158 H159 ⟨G150, O151, s152, sm157, ⟨w154, rfl, f155⟩⟩
 obtain ⟨x160, i161, h162⟩ := z00 h149
 refine D2.lo rfl rfl (Lo.callPF (ps := []) (pw := fun w => [eSl w 145 (rI .u32) x160]) rfl (fn := Tryd.f87) (by kernel_rfl) rfl (mc rfl (mc rfl mn)) O151 (fun L' O' => z1w K w138 x131 (RT.mono _ s152 f139) w154 x147 f155 O' _ i161)) ?_ (z07 (by decide) (z07 (by decide) z02)) ?_ ?_
 .rintro v171 H172 ⟨w168, G163, O164, s165, sm170, rfl⟩; exact (faR1 (.inl (by decide)) (faR1 (.inl (by decide)) z02))
 .rintro v171 H172 ⟨w168, G163, O164, s165, sm170, rfl⟩; exact z02
 rintro v171 H172 ⟨w168, G163, O164, s165, sm170, rfl⟩
 refine D2.q1 w168 rfl (.nil (.seq (.seq (.region (W.pure (v := (padd (.pointer (some ⟨b2, 0, none⟩)) 0)) rfl rfl (z3d za7 (oo rfl rfl) (O164.atVar (j := 5) rfl)) (W.load1 (v := (.bool p0.neg)) (r := []) rfl rfl ag4 (z0q rfl (At.bool (At.proj (O164.atVar (j := 5) rfl) z7f))) ?_))))))
 refine W.pure (v := (padd (.pointer (some ⟨b7, 0, none⟩)) 0)) rfl rfl (z3d za7 (oo rfl rfl) (O164.atVar (j := 4) rfl)) (W.load1 (v := (.bool p1.neg)) (r := []) rfl rfl ag4 (z0q rfl (At.bool (At.proj (O164.atVar (j := 4) rfl) z7f))) (W.pure (v := (.bool (p0.neg == p1.neg))) rfl rfl (zgk (oo rfl rfl) (oo rfl rfl) un4) (.nil (.cond (b := (p0.neg == p1.neg)) rfl rfl (fun g173 => ?_) (fun g173 => ?_)))))
 .have h174 := z03 g173 h162
  refine .seq (.draw2 (M := [0, 1, 0, 0, 12, 0, 63, 127]) mixed (by kernel_rfl) (by kernel_rfl) fun H175 N179 x176 F178 => ?_)
  have O177 := O164.ext x176
  refine D2.pure (v := (padd (.pointer (some ⟨b2, 0, none⟩)) 0)) rfl rfl (z3d za7 (oo rfl rfl) (O177.atVar (j := 5) rfl)) (D2.load1' (v := (.bool p0.neg)) (r := []) rfl rfl ag4 (z0q rfl (At.bool (At.proj (O177.atVar (j := 5) rfl) z7f))) z02 (D2.q2 w86 rfl (D2.q2 w118 rfl ?_)))
  obtain ⟨G180, O181, s182, f183⟩ := O177.frzSl (j := 2) rfl
  obtain ⟨G184, O185, s186, f187⟩ := O181.frzSl (j := 1) rfl
  obtain ⟨x188, i189, h190⟩ := z00 h174
  refine D2.lo rfl rfl (Lo.callPF (ps := []) (pw := fun w => [eSl w 145 (rI .u32) x188]) rfl (fn := Tryd.f90) (by kernel_rfl) rfl (mc rfl (mc rfl mn)) O185 (fun L' O' => zch K w86 x78 (RT.mono _ s186 f183) w118 x110 f187 O' _ i189)) ?_ z02 ?_ ?_
  .rintro v199 H200 ⟨w196, G191, O192, s193, sm198, rfl⟩; exact (faR1 (.inr (sm198 _ (Or.inr ⟨3, _, rfl, List.mem_singleton.2 rfl⟩))) z02)
  .rintro v199 H200 ⟨w196, G191, O192, s193, sm198, rfl⟩; exact z02
  rintro v199 H200 ⟨w196, G191, O192, s193, sm198, rfl⟩
  refine D2.q2 w168 rfl ?_
  obtain ⟨G201, O202, s203, f204⟩ := O192.frzSl (j := 0) rfl
  obtain ⟨G205, O206, s207, f208⟩ := O202.frzSl (j := 0) rfl
  obtain ⟨x209, i210, h211⟩ := z00 h190
  refine D2.lo rfl rfl (Lo.cP rfl (fn := Tryd.f89) (by kernel_rfl) rfl (mc rfl (mc rfl (mc rfl mn))) O206 (fun L' O' => z5y K p0.neg w196 x188 (RT.mono _ s207 f204) w168 x160 f208 O' _ i210)) ?_ (z07 (by decide) z02) ?_ ?_
  .rintro v220 H221 ⟨G212, O213, s214, sm219, ⟨c216, rfl, f217⟩⟩; exact (faR1 (.inl (by decide)) z02)
  .rintro v220 H221 ⟨G212, O213, s214, sm219, ⟨c216, rfl, f217⟩⟩; exact z02
  rintro v220 H221 ⟨G212, O213, s214, sm219, ⟨c216, rfl, f217⟩⟩
  refine D2.lo rfl rfl (Lo.storeVar (j := 0) (s := T_Q) (y0 := x209) (v := (.agg (List.toArray c216))) (o := 0) rfl ((Put.at (Put.self _) _ _)) rfl sz65 rfl (by omega) rfl f217 O213) ?_ (z07 (by decide) (z07 (by decide) z02)) ?_ ?_
  .rintro v224 H225 ⟨O222, sm223⟩; exact (faR1 (.inl (by decide)) z02)
  .rintro v224 H225 ⟨O222, sm223⟩; exact z02
  rintro v224 H225 ⟨O222, sm223⟩
  refine .nil (.ret ?_)
  obtain ⟨c226, p227, f228⟩ := (O222.atVar (j := 0) rfl)
  have O229 : Ow G212 H225 (eVar b7 65 T_Q p1 :: eVar b2 65 T_Q p0 :: L) := O222.drop 0
  have O230 : Ow G212 H225 (eVar b2 65 T_Q p0 :: L) := O229.drop 0
  have O231 : Ow G212 H225 (L) := O230.drop 0
  obtain rfl := zAa h211
  exact z16 kr (v1 := (.agg (List.toArray c226))) (by rfl) (z2d (p := (.pointer (some ⟨b12, 0, none⟩))) (by rfl) ag65 sz65 (by exact rfl) p227 (RT.len _ f228)) O231 (zAe s70 (zAe s83 (zAe s102 (zAe s115 (zAe s136 (zAe s152 (zAe s165 (zAe s182 (zAe s186 (zAe s193 (zAe s203 (zAe s207 s214)))))))))))) ⟨c226, rfl, f228⟩
 have h232 := z0h g173 h162
 refine .skip (.seq (.seq (.region (W.q2 w86 rfl (W.q2 w118 rfl ?_)))))
 obtain ⟨G233, O234, s235, f236⟩ := O164.frzSl (j := 2) rfl
 obtain ⟨G237, O238, s239, f240⟩ := O234.frzSl (j := 1) rfl
 obtain ⟨x241, i242, h243⟩ := z00 h232
 refine W.lo rfl rfl (Lo.cP rfl (fn := Tryd.f91) (by kernel_rfl) rfl (mc rfl (mc rfl mn)) O238 (fun L' O' => z5g K w86 x78 (RT.mono _ s239 f236) w118 x110 f240 O' _ i242)) ?_
 rintro v250 H251 ⟨G244, O245, s246, sm249, rfl⟩
 refine W.q3 (.bool (decide (x241 >= 0))) rfl rfl (.nil (.cond (b := decide (x241 >= 0)) rfl rfl (fun g252 => ?_) (fun g252 => ?_)))
 .have h253 := z03 g252 h243
  refine .seq (.draw2 (M := [0, 1, 0, 0, 12, 0, 63, 127]) mixed (by kernel_rfl) (by kernel_rfl) fun H254 N258 x255 F257 => ?_)
  have O256 := O245.ext x255
  refine D2.pure (v := (padd (.pointer (some ⟨b2, 0, none⟩)) 0)) rfl rfl (z3d za7 (oo rfl rfl) (O256.atVar (j := 3) rfl)) (D2.load1' (v := (.bool p0.neg)) (r := []) rfl rfl ag4 (z0q rfl (At.bool (At.proj (O256.atVar (j := 3) rfl) z7f))) z02 (D2.q2 w86 rfl (D2.q2 w118 rfl ?_)))
  obtain ⟨x259, i260, h261⟩ := z00 h253
  refine D2.lo rfl rfl (Lo.callPF (ps := []) (pw := fun w => [eSl w 145 (rI .u32) x259]) rfl (fn := Tryd.f92) (by kernel_rfl) rfl (mc rfl (mc rfl mn)) O256 (fun L' O' => z99 K w86 x78 (RT.mono _ (zAe s239 s246) f236) w118 x110 (RT.mono _ s246 f240) O' _ i260)) ?_ z02 ?_ ?_
  .rintro v270 H271 ⟨w267, G262, O263, s264, sm269, rfl⟩; exact (faR1 (.inr (sm269 _ (Or.inr ⟨3, _, rfl, List.mem_singleton.2 rfl⟩))) z02)
  .rintro v270 H271 ⟨w267, G262, O263, s264, sm269, rfl⟩; exact z02
  rintro v270 H271 ⟨w267, G262, O263, s264, sm269, rfl⟩
  refine D2.q2 w168 rfl ?_
  obtain ⟨G272, O273, s274, f275⟩ := O263.frzSl (j := 0) rfl
  obtain ⟨G276, O277, s278, f279⟩ := O273.frzSl (j := 0) rfl
  obtain ⟨x280, i281, h282⟩ := z00 h261
  refine D2.lo rfl rfl (Lo.cP rfl (fn := Tryd.f89) (by kernel_rfl) rfl (mc rfl (mc rfl (mc rfl mn))) O277 (fun L' O' => z5y K p0.neg w267 x259 (RT.mono _ s278 f275) w168 x160 f279 O' _ i281)) ?_ (z07 (by decide) z02) ?_ ?_
  .rintro v291 H292 ⟨G283, O284, s285, sm290, ⟨c287, rfl, f288⟩⟩; exact (faR1 (.inl (by decide)) z02)
  .rintro v291 H292 ⟨G283, O284, s285, sm290, ⟨c287, rfl, f288⟩⟩; exact z02
  rintro v291 H292 ⟨G283, O284, s285, sm290, ⟨c287, rfl, f288⟩⟩
  refine D2.lo rfl rfl (Lo.storeVar (j := 0) (s := T_Q) (y0 := x280) (v := (.agg (List.toArray c287))) (o := 0) rfl ((Put.at (Put.self _) _ _)) rfl sz65 rfl (by omega) rfl f288 O284) ?_ (z07 (by decide) (z07 (by decide) z02)) ?_ ?_
  .rintro v295 H296 ⟨O293, sm294⟩; exact (faR1 (.inl (by decide)) z02)
  .rintro v295 H296 ⟨O293, sm294⟩; exact z02
  rintro v295 H296 ⟨O293, sm294⟩
  refine .nil (.ret ?_)
  obtain ⟨c297, p298, f299⟩ := (O293.atVar (j := 0) rfl)
  have O300 : Ow G283 H296 (eVar b7 65 T_Q p1 :: eVar b2 65 T_Q p0 :: L) := O293.drop 0
  have O301 : Ow G283 H296 (eVar b2 65 T_Q p0 :: L) := O300.drop 0
  have O302 : Ow G283 H296 (L) := O301.drop 0
  obtain rfl := zAa h282
  exact z16 kr (v1 := (.agg (List.toArray c297))) (by rfl) (z2d (p := (.pointer (some ⟨b12, 0, none⟩))) (by rfl) ag65 sz65 (by exact rfl) p298 (RT.len _ f299)) O302 (zAe s70 (zAe s83 (zAe s102 (zAe s115 (zAe s136 (zAe s152 (zAe s165 (zAe s235 (zAe s239 (zAe s246 (zAe s264 (zAe s274 (zAe s278 s285))))))))))))) ⟨c297, rfl, f299⟩
 have h303 := z0h g252 h243
 refine .skip (.seq (.draw2 (M := [0, 1, 0, 0, 12, 0, 63, 127]) mixed (by kernel_rfl) (by kernel_rfl) fun H304 N308 x305 F307 => ?_))
 have O306 := O245.ext x305
 refine D2.pure (v := (padd (.pointer (some ⟨b7, 0, none⟩)) 0)) rfl rfl (z3d za7 (oo rfl rfl) (O306.atVar (j := 2) rfl)) (D2.load1' (v := (.bool p1.neg)) (r := []) rfl rfl ag4 (z0q rfl (At.bool (At.proj (O306.atVar (j := 2) rfl) z7f))) z02 (D2.q2 w118 rfl (D2.q2 w86 rfl ?_)))
 obtain ⟨x309, i310, h311⟩ := z00 h303
 refine D2.lo rfl rfl (Lo.callPF (ps := []) (pw := fun w => [eSl w 145 (rI .u32) x309]) rfl (fn := Tryd.f92) (by kernel_rfl) rfl (mc rfl (mc rfl mn)) O306 (fun L' O' => z99 K w118 x110 (RT.mono _ s246 f240) w86 x78 (RT.mono _ (zAe s239 s246) f236) O' _ i310)) ?_ z02 ?_ ?_
 .rintro v320 H321 ⟨w317, G312, O313, s314, sm319, rfl⟩; exact (faR1 (.inr (sm319 _ (Or.inr ⟨2, _, rfl, List.mem_singleton.2 rfl⟩))) z02)
 .rintro v320 H321 ⟨w317, G312, O313, s314, sm319, rfl⟩; exact z02
 rintro v320 H321 ⟨w317, G312, O313, s314, sm319, rfl⟩
 refine D2.q2 w168 rfl ?_
 obtain ⟨G322, O323, s324, f325⟩ := O313.frzSl (j := 0) rfl
 obtain ⟨G326, O327, s328, f329⟩ := O323.frzSl (j := 0) rfl
 obtain ⟨x330, i331, h332⟩ := z00 h311
 refine D2.lo rfl rfl (Lo.cP rfl (fn := Tryd.f89) (by kernel_rfl) rfl (mc rfl (mc rfl (mc rfl mn))) O327 (fun L' O' => z5y K p1.neg w317 x309 (RT.mono _ s328 f325) w168 x160 f329 O' _ i331)) ?_ (z07 (by decide) z02) ?_ ?_
 .rintro v341 H342 ⟨G333, O334, s335, sm340, ⟨c337, rfl, f338⟩⟩; exact (faR1 (.inl (by decide)) z02)
 .rintro v341 H342 ⟨G333, O334, s335, sm340, ⟨c337, rfl, f338⟩⟩; exact z02
 rintro v341 H342 ⟨G333, O334, s335, sm340, ⟨c337, rfl, f338⟩⟩
 refine D2.lo rfl rfl (Lo.storeVar (j := 0) (s := T_Q) (y0 := x330) (v := (.agg (List.toArray c337))) (o := 0) rfl ((Put.at (Put.self _) _ _)) rfl sz65 rfl (by omega) rfl f338 O334) ?_ (z07 (by decide) (z07 (by decide) z02)) ?_ ?_
 .rintro v345 H346 ⟨O343, sm344⟩; exact (faR1 (.inl (by decide)) z02)
 .rintro v345 H346 ⟨O343, sm344⟩; exact z02
 rintro v345 H346 ⟨O343, sm344⟩
 refine .nil (.ret ?_)
 obtain ⟨c347, p348, f349⟩ := (O343.atVar (j := 0) rfl)
 have O350 : Ow G333 H346 (eVar b7 65 T_Q p1 :: eVar b2 65 T_Q p0 :: L) := O343.drop 0
 have O351 : Ow G333 H346 (eVar b2 65 T_Q p0 :: L) := O350.drop 0
 have O352 : Ow G333 H346 (L) := O351.drop 0
 obtain rfl := zAa h332
 exact z16 kr (v1 := (.agg (List.toArray c347))) (by rfl) (z2d (p := (.pointer (some ⟨b12, 0, none⟩))) (by rfl) ag65 sz65 (by exact rfl) p348 (RT.len _ f349)) O352 (zAe s70 (zAe s83 (zAe s102 (zAe s115 (zAe s136 (zAe s152 (zAe s165 (zAe s235 (zAe s239 (zAe s246 (zAe s314 (zAe s324 (zAe s328 s335))))))))))))) ⟨c347, rfl, f349⟩
def z19 (K : Nat) (p0 : List zAd) (p1 : List zAd) : Nat -> Q -> Int -> Option ((zAd × Int) ⊕ Q)
  | 0, _, _ => none
  | k + 1, x41, x42 => (if (decide (x42 < (List.length p0 : Int))) = true then ((idx p0 x42).bind fun x53 => ((z3g K x53).bind fun x57 => (if (x57 != 0) = true then some (.inl ((⟨#[]⟩ : zAd), x57)) else ((z1y K x53).bind fun x81 => ((idx p1 x42).bind fun x94 => ((z1y K x94).bind fun x98 => ((z3h K x81 x98).bind fun x111 => ((z45 K x41 x111).bind fun x124 => z19 K p0 p1 k x124 (z05 .i64 (x42 + 1)))))))))) else some (.inr x41))
def z4p (K : Nat) (p0 : List zAd) (p1 : List zAd) : Option (zAd × Int) := ((z2e K p0).bind fun x1 => (if (x1 != 0) = true then some ((⟨#[]⟩ : zAd), x1) else ((z2e K p1).bind fun x15 => (if (x15 != 0) = true then some ((⟨#[]⟩ : zAd), x15) else (if ((List.length p0 : Int) != (List.length p1 : Int)) = true then some ((⟨#[]⟩ : zAd), 3) else (zae (z19 K p0 p1 K (Q.mk false ([] : List Int) ([] : List Int)) 0) (tu2 fun a166 a167 => some (a166, a167)) (tu1 fun x142 => ((z29 K x142).bind fun x154 => some (x154.1, x154.2)))))))))
theorem z8h (v0 : Value) (p0 : List zAd) (hp0 : (rSl rS).rep G [v0] p0) (v1 : Value) (p1 : List zAd) (hp1 : (rSl rS).rep G [v1] p1) (O : Ow G H (L)) (r : zAd × Int) (h : z4p K p0 p1 = some r) :
    CR Tryd.prog 7 [v0, v1] G H (L) (fun v G' _ => v = .tuple #[.string r.1, .int .i64 r.2]) := by
 unfold z4p at h
 refine CR.og (n := 54) (fn := Tryd.f7) (by kernel_rfl) rfl rfl fun R kr => (.seq (.region (W.q1 (.string (⟨#[]⟩ : zAd)) rfl (W.q1 (.int .i64 0) rfl (.nil (.seq ?_))))))
 refine .seq (.region (W.q2 v0 rfl ?_))
 obtain ⟨x1, i2, h3⟩ := z00 h
 refine W.lo rfl rfl (Lo.cP rfl (fn := Tryd.f20) (by kernel_rfl) rfl (mc rfl mn) O (fun L' O' => z60 K v0 p0 hp0 O' _ i2)) ?_
 rintro v10 H11 ⟨G4, O5, s6, sm9, rfl⟩
 refine W.q1 (.int .i64 x1) rfl (.nil (.seq (.region (W.q2 (.int .i64 x1) rfl (W.q3 (.bool (x1 != 0)) rfl rfl (.nil ?_))))))
 refine .cond (b := (x1 != 0)) rfl rfl (fun g12 => ?_) (fun g12 => ?_)
 .have h13 := z03 g12 h3
  refine .seq (.region (W.q2 (.int .i64 x1) rfl (W.q1 (.string (⟨#[]⟩ : zAd)) rfl (W.q1 (.int .i64 x1) rfl (.nil (.ret ?_))))))
  obtain rfl := zAa h13
  exact zas kr (v1 := (.string (⟨#[]⟩ : zAd))) (v2 := (.int .i64 x1)) (by rfl) (z09 (by rfl) (by exact rfl)) (z09 (by rfl) (by exact rfl)) O5 s6 rfl
 have h14 := z0h g12 h3
 refine .skip (.seq (.seq (.region (W.q2 v1 rfl ?_))))
 obtain ⟨x15, i16, h17⟩ := z00 h14
 refine W.lo rfl rfl (Lo.cP rfl (fn := Tryd.f20) (by kernel_rfl) rfl (mc rfl mn) O5 (fun L' O' => z60 K v1 p1 (RT.mono _ s6 hp1) O' _ i16)) ?_
 rintro v24 H25 ⟨G18, O19, s20, sm23, rfl⟩
 refine W.q1 (.int .i64 x15) rfl (.nil (.seq (.region (W.q2 (.int .i64 x15) rfl (W.q3 (.bool (x15 != 0)) rfl rfl (.nil ?_))))))
 refine .cond (b := (x15 != 0)) rfl rfl (fun g26 => ?_) (fun g26 => ?_)
 .have h27 := z03 g26 h17
  refine .seq (.region (W.q2 (.int .i64 x15) rfl (W.q1 (.string (⟨#[]⟩ : zAd)) rfl (W.q1 (.int .i64 x15) rfl (.nil (.ret ?_))))))
  obtain rfl := zAa h27
  exact zas kr (v1 := (.string (⟨#[]⟩ : zAd))) (v2 := (.int .i64 x15)) (by rfl) (z09 (by rfl) (by exact rfl)) (z09 (by rfl) (by exact rfl)) O19 (zAe s6 s20) rfl
 have h28 := z0h g26 h17
 refine .skip (.seq (.seq (.region (W.q2 v0 rfl (W.pure (v := (.int .i64 (List.length p0 : Int))) rfl rfl (z0p (oo rfl rfl) (z0f (RT.mono _ (zAe s6 s20) hp0)) (z06 el23)) (W.q2 v1 rfl ?_))))))
 refine W.pure (v := (.int .i64 (List.length p1 : Int))) rfl rfl (z0p (oo rfl rfl) (z0f (RT.mono _ (zAe s6 s20) hp1)) (z06 el23)) (W.q3 (.bool ((List.length p0 : Int) != (List.length p1 : Int))) rfl rfl (.nil (.cond (b := ((List.length p0 : Int) != (List.length p1 : Int))) rfl rfl (fun g29 => ?_) (fun g29 => ?_))))
 .have h30 := z03 g29 h28
  refine .seq (.region (W.q1 (.string (⟨#[]⟩ : zAd)) rfl (W.q1 (.int .i64 3) rfl (.nil (.ret ?_)))))
  obtain rfl := zAa h30
  exact zas kr (v1 := (.string (⟨#[]⟩ : zAd))) (v2 := (.int .i64 3)) (by rfl) (z09 (by rfl) (by exact rfl)) (z09 (by rfl) (by exact rfl)) O19 (zAe s6 s20) rfl
 have h31 := z0h g29 h28
 refine .skip (.seq (.region (W.lo rfl rfl (Lo.alloc (r := T_Q) (x0 := (Q.mk false ([] : List Int) ([] : List Int))) ze65 (by kernel_rfl) z_Q O19) ?_)))
 rintro v35 H36 ⟨b33, rfl, O32, sm34⟩
 refine .nil (.seq (.seq (.region (W.q2 v0 rfl (W.pure (v := (.int .i64 (List.length p0 : Int))) rfl rfl (z0p (oo rfl rfl) (z0f (RT.mono _ (zAe s6 s20) hp0)) (z06 el23)) (W.q2 (.int .i64 0) rfl ?_))))))
 refine .nil ?_
 obtain ⟨q37, h38, h39⟩ := z2p h31
 refine AW.midT (fun σ' H' => ∃ (y1 : Q) (G' : GM), (.inr y1) = q37 /\ Ow G' H' (eVar b33 65 T_Q y1 :: L) /\ GM.le G18 G') ?_ ?_
 rotate_left
 .rintro σ143 H144 fr145 ⟨x142, G146, rfl, O147, s148⟩
  have h150 := z0d (z8a h39)
  refine .seq (.region ?_)
  obtain ⟨c151, p152, f153⟩ := (O147.atVar (j := 0) rfl)
  refine W.loadA (cs := c151) rfl rfl ag65 sz65 (z0q ((fr145 8 rfl).trans rfl) p152) (RT.len _ f153) ?_
  obtain ⟨x154, i155, h156⟩ := z00 h150
  refine W.lo rfl rfl (Lo.cP rfl (fn := Tryd.f37) (by kernel_rfl) rfl (mc rfl mn) O147 (fun L' O' => z31 K c151 x142 f153 O' _ i155)) ?_
  rintro v163 H164 ⟨G157, O158, s159, sm162, rfl⟩
  refine W.pure (v := (.string x154.1)) rfl rfl (z08 (oo rfl rfl) rfl) (W.pure (v := (.int .i64 x154.2)) rfl rfl (z08 (oo rfl rfl) rfl) (W.q1 (.string x154.1) rfl (W.q1 (.int .i64 x154.2) rfl (.nil (.ret ?_)))))
  have O165 : Ow G157 H164 (L) := O158.drop 0
  obtain rfl := zAa h156
  exact zas kr (v1 := (.string x154.1)) (v2 := (.int .i64 x154.2)) (by rfl) (z09 (by rfl) (by exact rfl)) (z09 (by rfl) (by exact rfl)) O165 (zAe s6 (zAe s20 (zAe s148 s159))) rfl
 refine .block (AW.loop (α := Nat) (fun k' σ' H' => ∃ (y1 : Q) (y2 : Int) (G' : GM), z19 K p0 p1 k' y1 y2 = some q37 /\ Ow G' H' (eVar b33 65 T_Q y1 :: L) /\ GM.le G18 G' /\ σ' 29 = .int .i64 y2) (fun k' => k') K ⟨(Q.mk false ([] : List Int) ([] : List Int)), 0, _, h38, O32, (zAf _), rfl⟩ ?_)
 rintro k40
 rintro σ43 H44 fr45 ⟨x41, x42, G46, h49, O47, s48, t50⟩
 rcases k40 with _ | k40
 .exact z0a h49
 rw [z19] at h49
 refine .seq (.region (W.q3 (.bool (decide (x42 < (List.length p0 : Int)))) t50 ((fr45 28 rfl).trans rfl) (.nil (.seq (.cond (b := decide (x42 < (List.length p0 : Int))) rfl rfl (fun g51 => ?_) (fun g51 => ?_))))))
 rotate_left
 .have h141 := z0h g51 h49
  refine .exit ?_
  obtain rfl := zAa h141
  exact ⟨x41, _, rfl, O47, s48⟩
 have h52 := z03 g51 h49
 refine .skip (.seq (.block (.seq (.region (W.q2 _ t50 ?_)))))
 obtain ⟨x53, i54, h55⟩ := z00 h52
 have j56 := z0g i54
 refine W.pure (v := (z2t v0 (Int.toNat x42 * 1))) rfl rfl (z3b el23 sz25 (oo rfl ((fr45 27 rfl).trans rfl)) (oo rfl t50) (z0f (RT.mono _ (zAe s6 (zAe s20 s48)) hp0)) j56.1 j56.2.1) (W.load1 (v := (.string x53)) (r := []) rfl rfl ag25 (z0q rfl (At.str (At.le (At.le (z1m hp0 j56.2.2) (zAe s6 (zAe s20 s48)) (zAe s6 (zAe s20 s48))) (zAf _) O47.fro))) (W.q1 (.int .i64 x42) rfl (W.q1 (.string x53) rfl (.nil (.seq (.seq ?_))))))
 refine .region (W.q2 (.string x53) rfl ?_)
 obtain ⟨x57, i58, h59⟩ := z00 h55
 refine W.lo rfl rfl (Lo.cP rfl (fn := Tryd.f33) (by kernel_rfl) rfl (mc rfl mn) O47 (fun L' O' => z5x K x53 O' _ i58)) ?_
 rintro v66 H67 ⟨G60, O61, s62, sm65, rfl⟩
 refine W.q1 (.int .i64 x57) rfl (.nil (.seq (.region (W.q2 (.int .i64 x57) rfl (W.q3 (.bool (x57 != 0)) rfl rfl (.nil ?_))))))
 refine .cond (b := (x57 != 0)) rfl rfl (fun g68 => ?_) (fun g68 => ?_)
 .have h69 := z03 g68 h59
  refine .seq (.region (W.q2 (.int .i64 x57) rfl (W.q1 (.string (⟨#[]⟩ : zAd)) rfl (W.q1 (.int .i64 x57) rfl (.nil (.ret ?_))))))
  have O70 : Ow G60 H67 (L) := O61.drop 0
  obtain rfl := zAa h69
  have h71 := z4k (z7i h39)
  obtain rfl := zAa h71
  exact zas kr (v1 := (.string (⟨#[]⟩ : zAd))) (v2 := (.int .i64 x57)) (by rfl) (z09 (by rfl) (by exact rfl)) (z09 (by rfl) (by exact rfl)) O70 (zAe s6 (zAe s20 (zAe s48 s62))) rfl
 have h72 := z0h g68 h59
 refine .skip (.draw2 (M := [0, 0, 2, 0, 0, 24, 56, 126, 254, 511, 1023]) mixed (by kernel_rfl) (by kernel_rfl) fun H73 N77 x74 F76 => ?_)
 have O75 := O61.ext x74
 obtain ⟨c78, p79, f80⟩ := (O75.atVar (j := 0) rfl)
 refine D2.loadA' (cs := c78) rfl rfl ag65 sz65 (z0q ((fr45 8 rfl).trans rfl) p79) (RT.len _ f80) z02 (D2.q2 (.string x53) rfl ?_)
 obtain ⟨x81, i82, h83⟩ := z00 h72
 refine D2.lo rfl rfl (Lo.cP rfl (fn := Tryd.f36) (by kernel_rfl) rfl (mc rfl mn) O75 (fun L' O' => z0w K x53 O' _ i82)) ?_ z02 ?_ ?_
 .rintro v92 H93 ⟨G84, O85, s86, sm91, ⟨c88, rfl, f89⟩⟩; exact (faR1 (.inr (zd4 ((fr45 8 rfl).trans rfl) (sm91 _ (Or.inr ⟨0, _, rfl, List.mem_singleton.2 rfl⟩)))) z02)
 .rintro v92 H93 ⟨G84, O85, s86, sm91, ⟨c88, rfl, f89⟩⟩; exact z02
 rintro v92 H93 ⟨G84, O85, s86, sm91, ⟨c88, rfl, f89⟩⟩
 refine D2.q2 v1 ((fr45 1 rfl).trans rfl) (D2.q2 (.int .i64 x42) rfl ?_)
 obtain ⟨x94, i95, h96⟩ := z00 h83
 have j97 := z0g i95
 refine D2.pure (v := (z2t v1 (Int.toNat x42 * 1))) rfl rfl (z3b el23 sz25 (oo rfl rfl) (oo rfl rfl) (z0f (RT.mono _ (zAe s6 (zAe s20 (zAe s48 (zAe s62 s86)))) hp1)) j97.1 j97.2.1) (D2.load1' (v := (.string x94)) (r := []) rfl rfl ag25 (z0q rfl (At.str (At.le (At.le (z1m hp1 j97.2.2) (zAe s6 (zAe s20 (zAe s48 (zAe s62 s86)))) (zAe s6 (zAe s20 (zAe s48 (zAe s62 s86))))) (zAf _) O85.fro))) (z2g (sm91 _ (zgo (M := G60) (At.le (z1m hp1 j97.2.2) (zAe s6 (zAe s20 (zAe s48 s62))) (zAe s6 (zAe s20 (zAe s48 s62)))) rfl)) z02) ?_)
 obtain ⟨x98, i99, h100⟩ := z00 h96
 refine D2.lo rfl rfl (Lo.cP rfl (fn := Tryd.f36) (by kernel_rfl) rfl (mc rfl mn) O85 (fun L' O' => z0w K x94 O' _ i99)) ?_ (z07 (by decide) z02) ?_ ?_
 .rintro v109 H110 ⟨G101, O102, s103, sm108, ⟨c105, rfl, f106⟩⟩; exact (faR1 (.inl (by decide)) (faR1 (.inr (zd4 ((fr45 8 rfl).trans rfl) (sm108 _ (Or.inr ⟨0, _, rfl, List.mem_singleton.2 rfl⟩)))) z02))
 .rintro v109 H110 ⟨G101, O102, s103, sm108, ⟨c105, rfl, f106⟩⟩; exact z02
 rintro v109 H110 ⟨G101, O102, s103, sm108, ⟨c105, rfl, f106⟩⟩
 obtain ⟨x111, i112, h113⟩ := z00 h100
 refine D2.lo rfl rfl (Lo.cP rfl (fn := Tryd.f35) (by kernel_rfl) rfl (mc rfl (mc rfl mn)) O102 (fun L' O' => z5z K c88 x81 (RT.mono _ s103 f89) c105 x98 f106 O' _ i112)) ?_ (z07 (by decide) (z07 (by decide) z02)) ?_ ?_
 .rintro v122 H123 ⟨G114, O115, s116, sm121, ⟨c118, rfl, f119⟩⟩; exact (faR1 (.inl (by decide)) (faR1 (.inr (zd4 ((fr45 8 rfl).trans rfl) (sm121 _ (Or.inr ⟨0, _, rfl, List.mem_singleton.2 rfl⟩)))) z02))
 .rintro v122 H123 ⟨G114, O115, s116, sm121, ⟨c118, rfl, f119⟩⟩; exact z02
 rintro v122 H123 ⟨G114, O115, s116, sm121, ⟨c118, rfl, f119⟩⟩
 obtain ⟨x124, i125, h126⟩ := z00 h113
 refine D2.lo rfl rfl (Lo.cP rfl (fn := Tryd.f34) (by kernel_rfl) rfl (mc rfl (mc rfl mn)) O115 (fun L' O' => z5j K c78 x41 (RT.mono _ (zAe s86 (zAe s103 s116)) f80) c118 x111 f119 O' _ i125)) ?_ (z07 (by decide) (z07 (by decide) (z07 (by decide) z02))) ?_ ?_
 .rintro v135 H136 ⟨G127, O128, s129, sm134, ⟨c131, rfl, f132⟩⟩; exact (faR1 (.inl (by decide)) (faR1 (.inl (by decide)) z02))
 .rintro v135 H136 ⟨G127, O128, s129, sm134, ⟨c131, rfl, f132⟩⟩; exact z02
 rintro v135 H136 ⟨G127, O128, s129, sm134, ⟨c131, rfl, f132⟩⟩
 refine D2.lo rfl rfl (Lo.storeVar (j := 0) (s := T_Q) (y0 := x124) (v := (.agg (List.toArray c131))) (o := 0) rfl ((Put.at (Put.self _) _ _)) rfl sz65 ((fr45 8 rfl).trans rfl) (by omega) rfl f132 O128) ?_ (z07 (by decide) (z07 (by decide) (z07 (by decide) (z07 (by decide) z02)))) ?_ ?_
 .rintro v139 H140 ⟨O137, sm138⟩; exact (faR1 (.inl (by decide)) (faR1 (.inl (by decide)) z02))
 .rintro v139 H140 ⟨O137, sm138⟩; exact z02
 rintro v139 H140 ⟨O137, sm138⟩
 refine .nil (.region (W.q3 (.int .i64 (z05 .i64 (x42 + 1))) t50 rfl (W.q2 (.int .i64 (z05 .i64 (x42 + 1))) rfl (.nil ?_))))
 exact ⟨k40, zAg _, ⟨x124, z05 .i64 (x42 + 1), _, h126, O137, (zAe s48 (zAe s62 (zAe s86 (zAe s103 (zAe s116 s129))))), rfl⟩⟩
def z85 (K : Nat) (p0 : Q) : Option Q := (if ((List.length p0.num : Int) == 0) = true then some p0 else some (Q.mk (!p0.neg) p0.num p0.den))
theorem z9a (v0 : List Value) (p0 : Q) (hp0 : T_Q.rep G v0 p0) (O : Ow G H (L)) (r : Q) (h : z85 K p0 = some r) :
    CR Tryd.prog 71 [.agg (List.toArray v0)] G H (L) (fun v G' _ => ∃ (w0 : List Value), v = .agg (List.toArray w0) /\ T_Q.rep G' w0 r) := by
 unfold z85 at h
 refine CR.og (n := 16) (fn := Tryd.f71) (by kernel_rfl) rfl rfl fun R kr => (.seq (.region (W.lo rfl rfl (Lo.box (r := T_Q) (x0 := p0) (v := (.agg (List.toArray v0))) rfl rfl hp0 O) ?_)))
 rintro v4 H5 ⟨b2, rfl, O1, sm3⟩
 refine W.lo rfl rfl (Lo.alloc (r := T_Q) (x0 := (Q.mk false ([] : List Int) ([] : List Int))) ze65 (by kernel_rfl) z_Q O1) ?_
 rintro v9 H10 ⟨b7, rfl, O6, sm8⟩
 refine .nil (.seq (.seq (.region (W.pure (v := (padd (.pointer (some ⟨b2, 0, none⟩)) 1)) rfl rfl (z3d z7j (oo rfl rfl) (O6.atVar (j := 1) rfl)) ?_))))
 obtain ⟨w11, p12, f13⟩ := At.sl (At.proj (O6.atVar (j := 1) rfl) z4l)
 refine W.load1 (v := w11) (r := []) rfl rfl ag63 (z0q rfl p12) (W.pure (v := (.int .i64 (List.length p0.num : Int))) rfl rfl (z0p (oo rfl rfl) (z0f f13) (z06 el63)) (W.q3 (.bool ((List.length p0.num : Int) == 0)) rfl rfl (.nil (.cond (b := ((List.length p0.num : Int) == 0)) rfl rfl (fun g14 => ?_) (fun g14 => ?_)))))
 .have h15 := z03 g14 h
  refine .seq (.region ?_)
  obtain ⟨c16, p17, f18⟩ := (O6.atVar (j := 1) rfl)
  refine W.loadA (cs := c16) rfl rfl ag65 sz65 (z0q rfl p17) (RT.len _ f18) (W.lo rfl rfl (Lo.storeVar (j := 0) (s := T_Q) (y0 := p0) (v := (.agg (List.toArray c16))) (o := 0) rfl ((Put.at (Put.self _) _ _)) rfl sz65 rfl (by omega) rfl f18 O6) ?_)
  rintro v21 H22 ⟨O19, sm20⟩
  refine .nil (.ret ?_)
  obtain ⟨c23, p24, f25⟩ := (O19.atVar (j := 0) rfl)
  have O26 : Ow G H22 (eVar b2 65 T_Q p0 :: L) := O19.drop 0
  have O27 : Ow G H22 (L) := O26.drop 0
  obtain rfl := zAa h15
  exact z16 kr (v1 := (.agg (List.toArray c23))) (by rfl) (z2d (p := (.pointer (some ⟨b7, 0, none⟩))) (by rfl) ag65 sz65 (by exact rfl) p24 (RT.len _ f25)) O27 (zAf _) ⟨c23, rfl, f25⟩
 have h28 := z0h g14 h
 refine .skip (.seq (.region (W.pure (v := (padd (.pointer (some ⟨b2, 0, none⟩)) 0)) rfl rfl (z3d za7 (oo rfl rfl) (O6.atVar (j := 1) rfl)) (W.load1 (v := (.bool p0.neg)) (r := []) rfl rfl ag4 (z0q rfl (At.bool (At.proj (O6.atVar (j := 1) rfl) z7f))) (W.pure (v := (.bool (!p0.neg))) rfl rfl (zcd (a := p0.neg) (oo rfl rfl)) (W.pure (v := (padd (.pointer (some ⟨b2, 0, none⟩)) 1)) rfl rfl (z3d z7j (oo rfl rfl) (O6.atVar (j := 1) rfl)) ?_))))))
 obtain ⟨w29, p30, f31⟩ := At.sl (At.proj (O6.atVar (j := 1) rfl) z4l)
 refine W.load1 (v := w29) (r := []) rfl rfl ag63 (z0q rfl p30) (W.pure (v := (padd (.pointer (some ⟨b2, 0, none⟩)) 2)) rfl rfl (z3d zh1 (oo rfl rfl) (O6.atVar (j := 1) rfl)) ?_)
 obtain ⟨w32, p33, f34⟩ := At.sl (At.proj (O6.atVar (j := 1) rfl) zew)
 refine W.load1 (v := w32) (r := []) rfl rfl ag63 (z0q rfl p33) ?_
 obtain ⟨c35, e37, f36⟩ := z98 ((.bool (!p0.neg))) (w29) (w32) (rfl) ((z4c f31)) ((z4c f34))
 refine W.pure (v := .agg (List.toArray c35)) rfl rfl (e37 (z3p rfl (qc' rfl (qc' rfl (qc' rfl qn'))))) (W.lo rfl rfl (Lo.storeVar (j := 0) (s := T_Q) (y0 := (Q.mk (!p0.neg) p0.num p0.den)) (v := (.agg (List.toArray c35))) (o := 0) rfl ((Put.at (Put.self _) _ _)) rfl sz65 rfl (by omega) rfl f36 O6) ?_)
 rintro v40 H41 ⟨O38, sm39⟩
 refine .nil (.ret ?_)
 obtain ⟨c42, p43, f44⟩ := (O38.atVar (j := 0) rfl)
 have O45 : Ow G H41 (eVar b2 65 T_Q p0 :: L) := O38.drop 0
 have O46 : Ow G H41 (L) := O45.drop 0
 obtain rfl := zAa h28
 exact z16 kr (v1 := (.agg (List.toArray c42))) (by rfl) (z2d (p := (.pointer (some ⟨b7, 0, none⟩))) (by rfl) ag65 sz65 (by exact rfl) p43 (RT.len _ f44)) O46 (zAf _) ⟨c42, rfl, f44⟩
def z6o (K : Nat) (p0 : Q) (p1 : Q) : Option Q := ((z85 K p1).bind fun x27 => ((z45 K p0 x27).bind fun x40 => some x40))
theorem z76 (v0 : List Value) (p0 : Q) (hp0 : T_Q.rep G v0 p0) (v1 : List Value) (p1 : Q) (hp1 : T_Q.rep G v1 p1) (O : Ow G H (L)) (r : Q) (h : z6o K p0 p1 = some r) :
    CR Tryd.prog 83 [.agg (List.toArray v0), .agg (List.toArray v1)] G H (L) (fun v G' _ => ∃ (w0 : List Value), v = .agg (List.toArray w0) /\ T_Q.rep G' w0 r) := by
 unfold z6o at h
 refine CR.og (n := 9) (fn := Tryd.f83) (by kernel_rfl) rfl rfl fun R kr => (.seq (.region (W.lo rfl rfl (Lo.box (r := T_Q) (x0 := p0) (v := (.agg (List.toArray v0))) rfl rfl hp0 O) ?_)))
 rintro v4 H5 ⟨b2, rfl, O1, sm3⟩
 refine W.lo rfl rfl (Lo.box (r := T_Q) (x0 := p1) (v := (.agg (List.toArray v1))) rfl rfl hp1 O1) ?_
 rintro v9 H10 ⟨b7, rfl, O6, sm8⟩
 refine W.lo rfl rfl (Lo.alloc (r := T_Q) (x0 := (Q.mk false ([] : List Int) ([] : List Int))) ze65 (by kernel_rfl) z_Q O6) ?_
 rintro v14 H15 ⟨b12, rfl, O11, sm13⟩
 refine .nil (.seq (.draw2 (M := [0, 0, 2, 7, 15]) mixed (by kernel_rfl) (by kernel_rfl) fun H16 N20 x17 F19 => ?_))
 have O18 := O11.ext x17
 obtain ⟨c21, p22, f23⟩ := (O18.atVar (j := 2) rfl)
 refine D2.loadA' (cs := c21) rfl rfl ag65 sz65 (z0q rfl p22) (RT.len _ f23) z02 ?_
 obtain ⟨c24, p25, f26⟩ := (O18.atVar (j := 1) rfl)
 refine D2.loadA' (cs := c24) rfl rfl ag65 sz65 (z0q rfl p25) (RT.len _ f26) z02 ?_
 obtain ⟨x27, i28, h29⟩ := z00 h
 refine D2.lo rfl rfl (Lo.cP rfl (fn := Tryd.f71) (by kernel_rfl) rfl (mc rfl mn) O18 (fun L' O' => z9a K c24 p1 f26 O' _ i28)) ?_ z02 ?_ ?_
 .rintro v38 H39 ⟨G30, O31, s32, sm37, ⟨c34, rfl, f35⟩⟩; exact (faR1 (.inl (by decide)) (faR1 (.inr (sm37 _ (Or.inr ⟨2, _, rfl, List.mem_singleton.2 rfl⟩))) z02))
 .rintro v38 H39 ⟨G30, O31, s32, sm37, ⟨c34, rfl, f35⟩⟩; exact z02
 rintro v38 H39 ⟨G30, O31, s32, sm37, ⟨c34, rfl, f35⟩⟩
 obtain ⟨x40, i41, h42⟩ := z00 h29
 refine D2.lo rfl rfl (Lo.cP rfl (fn := Tryd.f34) (by kernel_rfl) rfl (mc rfl (mc rfl mn)) O31 (fun L' O' => z5j K c21 p0 (RT.mono _ s32 f23) c34 x27 f35 O' _ i41)) ?_ (z07 (by decide) z02) ?_ ?_
 .rintro v51 H52 ⟨G43, O44, s45, sm50, ⟨c47, rfl, f48⟩⟩; exact (faR1 (.inl (by decide)) (faR1 (.inl (by decide)) z02))
 .rintro v51 H52 ⟨G43, O44, s45, sm50, ⟨c47, rfl, f48⟩⟩; exact z02
 rintro v51 H52 ⟨G43, O44, s45, sm50, ⟨c47, rfl, f48⟩⟩
 refine D2.lo rfl rfl (Lo.storeVar (j := 0) (s := T_Q) (y0 := x40) (v := (.agg (List.toArray c47))) (o := 0) rfl ((Put.at (Put.self _) _ _)) rfl sz65 rfl (by omega) rfl f48 O44) ?_ (z07 (by decide) (z07 (by decide) z02)) ?_ ?_
 .rintro v55 H56 ⟨O53, sm54⟩; exact (faR1 (.inl (by decide)) (faR1 (.inl (by decide)) z02))
 .rintro v55 H56 ⟨O53, sm54⟩; exact z02
 rintro v55 H56 ⟨O53, sm54⟩
 refine .nil (.ret ?_)
 obtain ⟨c57, p58, f59⟩ := (O53.atVar (j := 0) rfl)
 have O60 : Ow G43 H56 (eVar b7 65 T_Q p1 :: eVar b2 65 T_Q p0 :: L) := O53.drop 0
 have O61 : Ow G43 H56 (eVar b2 65 T_Q p0 :: L) := O60.drop 0
 have O62 : Ow G43 H56 (L) := O61.drop 0
 obtain rfl := zAa h42
 exact z16 kr (v1 := (.agg (List.toArray c57))) (by rfl) (z2d (p := (.pointer (some ⟨b12, 0, none⟩))) (by rfl) ag65 sz65 (by exact rfl) p58 (RT.len _ f59)) O62 (zAe s32 s45) ⟨c57, rfl, f59⟩
def z3m (K : Nat) (p0 : Q) (p1 : Q) : Option Int := ((z6o K p0 p1).bind fun x17 => ((z4n K x17).bind fun x30 => some x30))
theorem z32 (v0 : List Value) (p0 : Q) (hp0 : T_Q.rep G v0 p0) (v1 : List Value) (p1 : Q) (hp1 : T_Q.rep G v1 p1) (O : Ow G H (L)) (r : Int) (h : z3m K p0 p1 = some r) :
    CR Tryd.prog 78 [.agg (List.toArray v0), .agg (List.toArray v1)] G H (L) (fun v G' _ => v = .int .i64 r) := by
 unfold z3m at h
 refine CR.og (n := 9) (fn := Tryd.f78) (by kernel_rfl) rfl rfl fun R kr => (.seq (.region (W.lo rfl rfl (Lo.box (r := T_Q) (x0 := p0) (v := (.agg (List.toArray v0))) rfl rfl hp0 O) ?_)))
 rintro v4 H5 ⟨b2, rfl, O1, sm3⟩
 refine W.lo rfl rfl (Lo.box (r := T_Q) (x0 := p1) (v := (.agg (List.toArray v1))) rfl rfl hp1 O1) ?_
 rintro v9 H10 ⟨b7, rfl, O6, sm8⟩
 refine W.q1 (.int .i64 0) rfl (.nil (.seq (.region ?_)))
 obtain ⟨c11, p12, f13⟩ := (O6.atVar (j := 1) rfl)
 refine W.loadA (cs := c11) rfl rfl ag65 sz65 (z0q rfl p12) (RT.len _ f13) ?_
 obtain ⟨c14, p15, f16⟩ := (O6.atVar (j := 0) rfl)
 refine W.loadA (cs := c14) rfl rfl ag65 sz65 (z0q rfl p15) (RT.len _ f16) ?_
 obtain ⟨x17, i18, h19⟩ := z00 h
 refine W.lo rfl rfl (Lo.cP rfl (fn := Tryd.f83) (by kernel_rfl) rfl (mc rfl (mc rfl mn)) O6 (fun L' O' => z76 K c11 p0 f13 c14 p1 f16 O' _ i18)) ?_
 rintro v28 H29 ⟨G20, O21, s22, sm27, ⟨c24, rfl, f25⟩⟩
 obtain ⟨x30, i31, h32⟩ := z00 h19
 refine W.lo rfl rfl (Lo.cP rfl (fn := Tryd.f79) (by kernel_rfl) rfl (mc rfl mn) O21 (fun L' O' => z8f K c24 x17 f25 O' _ i31)) ?_
 rintro v39 H40 ⟨G33, O34, s35, sm38, rfl⟩
 refine W.q1 (.int .i64 x30) rfl (.nil (.ret ?_))
 have O41 : Ow G33 H40 (eVar b2 65 T_Q p0 :: L) := O34.drop 0
 have O42 : Ow G33 H40 (L) := O41.drop 0
 obtain rfl := zAa h32
 exact z16 kr (v1 := (.int .i64 x30)) (by rfl) (z09 (by rfl) (by exact rfl)) O42 (zAe s22 s35) rfl
def z4d (K : Nat) (p0 : List zAd) : Nat -> Int -> Option (Int ⊕ Unit)
  | 0, _ => none
  | k + 1, x25 => (if (decide (x25 < (List.length p0 : Int))) = true then ((idx p0 x25).bind fun x41 => ((z1y K x41).bind fun x45 => ((idx p0 (z05 .i64 (x25 - 1))).bind fun x58 => ((z1y K x58).bind fun x62 => ((z3m K x45 x62).bind fun x75 => (if (decide (x75 <= 0)) = true then some (.inl 3) else z4d K p0 k (z05 .i64 (x25 + 1)))))))) else some (.inr ()))
def z65 (K : Nat) (p0 : List zAd) : Option Int := (if (decide ((List.length p0 : Int) > 16)) = true then some 2 else (if (decide ((List.length p0 : Int) < 2)) = true then some 8 else ((z3l K p0).bind fun x7 => (if (x7 != 0) = true then some x7 else (zae (z4d K p0 K 1) (tu1 fun a99 => some a99) (tu0 (some 0)))))))
theorem z7u (v0 : Value) (p0 : List zAd) (hp0 : (rSl rS).rep G [v0] p0) (O : Ow G H (L)) (r : Int) (h : z65 K p0 = some r) :
    CR Tryd.prog 32 [v0] G H (L) (fun v G' _ => v = .int .i64 r) := by
 unfold z65 at h
 refine CR.og (n := 35) (fn := Tryd.f32) (by kernel_rfl) rfl rfl fun R kr => (.seq (.region (W.q1 (.int .i64 0) rfl (.nil (.seq (.seq ?_))))))
 refine .region (W.q2 v0 rfl (W.pure (v := (.int .i64 (List.length p0 : Int))) rfl rfl (z0p (oo rfl rfl) (z0f hp0) (z06 el22)) (W.q3 (.bool (decide ((List.length p0 : Int) > 16))) rfl rfl (.nil (.cond (b := decide ((List.length p0 : Int) > 16)) rfl rfl (fun g1 => ?_) (fun g1 => ?_))))))
 .have h2 := z03 g1 h
  refine .seq (.region (W.q1 (.int .i64 2) rfl (.nil (.ret ?_))))
  obtain rfl := zAa h2
  exact z16 kr (v1 := (.int .i64 2)) (by rfl) (z09 (by rfl) (by exact rfl)) O (zAf _) rfl
 have h3 := z0h g1 h
 refine .skip (.seq (.seq (.region (W.q2 v0 rfl (W.pure (v := (.int .i64 (List.length p0 : Int))) rfl rfl (z0p (oo rfl rfl) (z0f hp0) (z06 el22)) (W.q3 (.bool (decide ((List.length p0 : Int) < 2))) rfl rfl ?_))))))
 refine .nil (.cond (b := decide ((List.length p0 : Int) < 2)) rfl rfl (fun g4 => ?_) (fun g4 => ?_))
 .have h5 := z03 g4 h3
  refine .seq (.region (W.q1 (.int .i64 8) rfl (.nil (.ret ?_))))
  obtain rfl := zAa h5
  exact z16 kr (v1 := (.int .i64 8)) (by rfl) (z09 (by rfl) (by exact rfl)) O (zAf _) rfl
 have h6 := z0h g4 h3
 refine .skip (.seq (.seq (.region (W.q2 v0 rfl ?_))))
 obtain ⟨x7, i8, h9⟩ := z00 h6
 refine W.lo rfl rfl (Lo.cP rfl (fn := Tryd.f58) (by kernel_rfl) rfl (mc rfl mn) O (fun L' O' => z7h K v0 p0 hp0 O' _ i8)) ?_
 rintro v16 H17 ⟨G10, O11, s12, sm15, rfl⟩
 refine W.q1 (.int .i64 x7) rfl (.nil (.seq (.region (W.q2 (.int .i64 x7) rfl (W.q3 (.bool (x7 != 0)) rfl rfl (.nil ?_))))))
 refine .cond (b := (x7 != 0)) rfl rfl (fun g18 => ?_) (fun g18 => ?_)
 .have h19 := z03 g18 h9
  refine .seq (.region (W.q2 (.int .i64 x7) rfl (W.q1 (.int .i64 x7) rfl (.nil (.ret ?_)))))
  obtain rfl := zAa h19
  exact z16 kr (v1 := (.int .i64 x7)) (by rfl) (z09 (by rfl) (by exact rfl)) O11 s12 rfl
 have h20 := z0h g18 h9
 refine .skip (.seq (.seq (.region (W.q1 (.int .i64 1) rfl (.nil ?_)))))
 obtain ⟨q21, h22, h23⟩ := z2p h20
 refine AW.midT (fun σ' H' => ∃  (G' : GM), (.inr ()) = q21 /\ Ow G' H' (L) /\ GM.le G10 G') ?_ ?_
 rotate_left
 .rintro σ91 H92 fr93 ⟨G94, rfl, O95, s96⟩
  have h98 := z6j (z8a h23)
  refine .seq (.region (W.q1 (.int .i64 0) rfl (.nil (.ret ?_))))
  obtain rfl := zAa h98
  exact z16 kr (v1 := (.int .i64 0)) (by rfl) (z09 (by rfl) (by exact rfl)) O95 (zAe s12 s96) rfl
 refine .block (AW.loop (α := Nat) (fun k' σ' H' => ∃ (y1 : Int) (G' : GM), z4d K p0 k' y1 = some q21 /\ Ow G' H' (L) /\ GM.le G10 G' /\ σ' 4 = .int .i64 y1) (fun k' => k') K ⟨1, _, h22, O11, (zAf _), rfl⟩ ?_)
 rintro k24
 rintro σ26 H27 fr28 ⟨x25, G29, h32, O30, s31, t33⟩
 rcases k24 with _ | k24
 .exact z0a h32
 rw [z4d] at h32
 refine .seq (.seq (.region (W.q2 _ t33 (W.q2 v0 ((fr28 0 rfl).trans rfl) (W.pure (v := (.int .i64 (List.length p0 : Int))) rfl rfl (z0p (oo rfl rfl) (z0f (RT.mono _ (zAe s12 s31) hp0)) (z06 el22)) (W.q3 (.bool (decide (x25 < (List.length p0 : Int)))) rfl rfl ?_))))))
 refine .nil (.cond (b := decide (x25 < (List.length p0 : Int))) rfl rfl (fun g34 => ?_) (fun g34 => ?_))
 rotate_left
 .have h90 := z0h g34 h32
  refine .exit ?_
  obtain rfl := zAa h90
  exact ⟨_, rfl, O30, s31⟩
 have h35 := z03 g34 h32
 refine .skip (.seq (.block (.seq (.draw2 (M := [0, 0, 3, 7, 15, 0, 0, 64, 224, 480, 1023, 2047, 4095]) mixed (by kernel_rfl) (by kernel_rfl) fun H36 N40 x37 F39 => ?_))))
 have O38 := O30.ext x37
 refine D2.q2 v0 ((fr28 0 rfl).trans rfl) (D2.q2 _ t33 ?_)
 obtain ⟨x41, i42, h43⟩ := z00 h35
 have j44 := z0g i42
 refine D2.pure (v := (z2t v0 (Int.toNat x25 * 1))) rfl rfl (z3b el22 sz25 (oo rfl rfl) (oo rfl rfl) (z0f (RT.mono _ (zAe s12 s31) hp0)) j44.1 j44.2.1) (D2.load1' (v := (.string x41)) (r := []) rfl rfl ag25 (z0q rfl (At.str (At.le (At.le (z1m hp0 j44.2.2) (zAe s12 s31) (zAe s12 s31)) (zAf _) O38.fro))) z02 ?_)
 obtain ⟨x45, i46, h47⟩ := z00 h43
 refine D2.lo rfl rfl (Lo.cP rfl (fn := Tryd.f36) (by kernel_rfl) rfl (mc rfl mn) O38 (fun L' O' => z0w K x41 O' _ i46)) ?_ z02 ?_ ?_
 .rintro v56 H57 ⟨G48, O49, s50, sm55, ⟨c52, rfl, f53⟩⟩; exact (faR1 (.inl (by decide)) z02)
 .rintro v56 H57 ⟨G48, O49, s50, sm55, ⟨c52, rfl, f53⟩⟩; exact z02
 rintro v56 H57 ⟨G48, O49, s50, sm55, ⟨c52, rfl, f53⟩⟩
 refine D2.q2 v0 ((fr28 0 rfl).trans rfl) (D2.q2 _ t33 (D2.q3 (.int .i64 (z05 .i64 (x25 - 1))) rfl rfl ?_))
 obtain ⟨x58, i59, h60⟩ := z00 h47
 have j61 := z0g i59
 refine D2.pure (v := (z2t v0 (Int.toNat (z05 .i64 (x25 - 1)) * 1))) rfl rfl (z3b el22 sz25 (oo rfl rfl) (oo rfl rfl) (z0f (RT.mono _ (zAe s12 (zAe s31 s50)) hp0)) j61.1 j61.2.1) (D2.load1' (v := (.string x58)) (r := []) rfl rfl ag25 (z0q rfl (At.str (At.le (At.le (z1m hp0 j61.2.2) (zAe s12 (zAe s31 s50)) (zAe s12 (zAe s31 s50))) (zAf _) O49.fro))) (z2g (sm55 _ (zgo (M := G29) (At.le (z1m hp0 j61.2.2) (zAe s12 s31) (zAe s12 s31)) rfl)) z02) ?_)
 obtain ⟨x62, i63, h64⟩ := z00 h60
 refine D2.lo rfl rfl (Lo.cP rfl (fn := Tryd.f36) (by kernel_rfl) rfl (mc rfl mn) O49 (fun L' O' => z0w K x58 O' _ i63)) ?_ (z07 (by decide) z02) ?_ ?_
 .rintro v73 H74 ⟨G65, O66, s67, sm72, ⟨c69, rfl, f70⟩⟩; exact (faR1 (.inl (by decide)) (faR1 (.inl (by decide)) z02))
 .rintro v73 H74 ⟨G65, O66, s67, sm72, ⟨c69, rfl, f70⟩⟩; exact z02
 rintro v73 H74 ⟨G65, O66, s67, sm72, ⟨c69, rfl, f70⟩⟩
 obtain ⟨x75, i76, h77⟩ := z00 h64
 refine D2.lo rfl rfl (Lo.cP rfl (fn := Tryd.f78) (by kernel_rfl) rfl (mc rfl (mc rfl mn)) O66 (fun L' O' => z32 K c52 x45 (RT.mono _ s67 f53) c69 x62 f70 O' _ i76)) ?_ (z07 (by decide) (z07 (by decide) z02)) ?_ ?_
 .rintro v84 H85 ⟨G78, O79, s80, sm83, rfl⟩; exact (faR1 (.inl (by decide)) (faR1 (.inl (by decide)) z02))
 .rintro v84 H85 ⟨G78, O79, s80, sm83, rfl⟩; exact z02
 rintro v84 H85 ⟨G78, O79, s80, sm83, rfl⟩
 refine D2.q3 (.bool (decide (x75 <= 0))) rfl rfl (.nil (.cond (b := decide (x75 <= 0)) rfl rfl (fun g86 => ?_) (fun g86 => ?_)))
 .have h87 := z03 g86 h77
  refine .seq (.region (W.q1 (.int .i64 3) rfl (.nil (.ret ?_))))
  obtain rfl := zAa h87
  have h88 := z0d (z7i h23)
  obtain rfl := zAa h88
  exact z16 kr (v1 := (.int .i64 3)) (by rfl) (z09 (by rfl) (by exact rfl)) O79 (zAe s12 (zAe s31 (zAe s50 (zAe s67 s80)))) rfl
 have h89 := z0h g86 h77
 refine .skip (.region (W.q2 _ t33 (W.q3 (.int .i64 (z05 .i64 (x25 + 1))) rfl rfl (W.q1 (.int .i64 (z05 .i64 (x25 + 1))) rfl (.nil ?_)))))
 exact ⟨k24, zAg _, ⟨z05 .i64 (x25 + 1), _, h89, O79, (zAe s31 (zAe s50 (zAe s67 s80))), rfl⟩⟩
def z6p (K : Nat) (p0 : zAd) (p1 : List zAd) : Option Int := ((z3g K p0).bind fun x1 => (if (x1 != 0) = true then some x1 else ((z65 K p1).bind fun x15 => some x15)))
theorem z77 (p0 : zAd) (v1 : Value) (p1 : List zAd) (hp1 : (rSl rS).rep G [v1] p1) (O : Ow G H (L)) (r : Int) (h : z6p K p0 p1 = some r) :
    CR Tryd.prog 81 [(.string p0), v1] G H (L) (fun v G' _ => v = .int .i64 r) := by
 unfold z6p at h
 refine CR.og (n := 13) (fn := Tryd.f81) (by kernel_rfl) rfl rfl fun R kr => (.seq (.region (W.q1 (.int .i64 0) rfl (.nil (.seq (.seq ?_))))))
 refine .region (W.q2 (.string p0) rfl ?_)
 obtain ⟨x1, i2, h3⟩ := z00 h
 refine W.lo rfl rfl (Lo.cP rfl (fn := Tryd.f33) (by kernel_rfl) rfl (mc rfl mn) O (fun L' O' => z5x K p0 O' _ i2)) ?_
 rintro v10 H11 ⟨G4, O5, s6, sm9, rfl⟩
 refine W.q1 (.int .i64 x1) rfl (.nil (.seq (.region (W.q2 (.int .i64 x1) rfl (W.q3 (.bool (x1 != 0)) rfl rfl (.nil ?_))))))
 refine .cond (b := (x1 != 0)) rfl rfl (fun g12 => ?_) (fun g12 => ?_)
 .have h13 := z03 g12 h3
  refine .seq (.region (W.q2 (.int .i64 x1) rfl (W.q1 (.int .i64 x1) rfl (.nil (.ret ?_)))))
  obtain rfl := zAa h13
  exact z16 kr (v1 := (.int .i64 x1)) (by rfl) (z09 (by rfl) (by exact rfl)) O5 s6 rfl
 have h14 := z0h g12 h3
 refine .skip (.seq (.region (W.q2 v1 rfl ?_)))
 obtain ⟨x15, i16, h17⟩ := z00 h14
 refine W.lo rfl rfl (Lo.cP rfl (fn := Tryd.f32) (by kernel_rfl) rfl (mc rfl mn) O5 (fun L' O' => z7u K v1 p1 (RT.mono _ s6 hp1) O' _ i16)) ?_
 rintro v24 H25 ⟨G18, O19, s20, sm23, rfl⟩
 refine W.q1 (.int .i64 x15) rfl (.nil (.ret ?_))
 obtain rfl := zAa h17
 exact z16 kr (v1 := (.int .i64 x15)) (by rfl) (z09 (by rfl) (by exact rfl)) O19 (zAe s6 s20) rfl
structure LossPiece where
  A : zAd
  B : zAd
  deriving DecidableEq, Inhabited
def T_LossPiece : RT LossPiece := rIso (rP rS rS) (fun s : LossPiece => (s.A, s.B))
theorem z6q (G : GM) : T_LossPiece.rep G ([.string ByteArray.empty] ++ [.string ByteArray.empty]) ((LossPiece.mk ByteArray.empty ByteArray.empty)) := ⟨_, _, rfl, zS G, (zS G)⟩
theorem zd8 : Put T_LossPiece 0 rS (fun x y => { x with A := y }) := by
  have h := Put.comp (Proj.iso (rP rS rS) (fun s : LossPiece => (s.A, s.B))) (Put.iso (rP rS rS) (fun s : LossPiece => (s.A, s.B)) (fun _ q => ⟨q.1, q.2⟩) (fun _ _ => rfl)) (Put.fst _ _)
  exact h
theorem zd9 : Put T_LossPiece 1 rS (fun x y => { x with B := y }) := by
  have h := Put.comp (Proj.iso (rP rS rS) (fun s : LossPiece => (s.A, s.B))) (Put.iso (rP rS rS) (fun s : LossPiece => (s.A, s.B)) (fun _ q => ⟨q.1, q.2⟩) (fun _ _ => rfl)) (Put.comp (Proj.snd _ _) (Put.snd _ _) (Put.self _))
  exact h
theorem z9v {G : GM}   : ∃ cs : List Value, (∀ {s : List Value} {d : Tmp} {ty : TypeId} {pos : String} {af : Array Edge} {g : Option (Nat × Bool)} {ps : Array (Nat × Operand)}, zds s ps.toList = some [] -> z1t Tryd.prog s ⟨some d, .build 60 ps, ty, pos, af, g⟩ = some (.agg (List.toArray cs))) /\ T_LossPiece.rep G cs (LossPiece.mk ByteArray.empty ByteArray.empty) := by
  refine ⟨_, fun {s d ty pos af g ps} hps => zar pl60 ze60 zo60 hps ?_, z6q G⟩
  rfl
theorem z4e {G : GM} (v0 : Value) {x0 : zAd} (v1 : Value) {x1 : zAd} (h0 : rS.rep G v0.cells.toList x0) (h1 : rS.rep G v1.cells.toList x1) : ∃ cs : List Value, (∀ {s : List Value} {d : Tmp} {ty : TypeId} {pos : String} {af : Array Edge} {g : Option (Nat × Bool)} {ps : Array (Nat × Operand)}, zds s ps.toList = some [(0, v0), (1, v1)] -> z1t Tryd.prog s ⟨some d, .build 60 ps, ty, pos, af, g⟩ = some (.agg (List.toArray cs))) /\ T_LossPiece.rep G cs (LossPiece.mk x0 x1) := by
  have k0 := (zd8 G _ _ _ _ (z6q G) h0).1
  have k1 := (zd9 G _ _ _ _ (k0) h1).1
  refine ⟨_, fun {s d ty pos af g ps} hps => zar pl60 ze60 zo60 hps ?_, k1⟩
  refine (z5w (off := 0) (sz := 1) (cs := _) rfl (RT.len _ h0) (Nat.le_trans (Nat.le_of_ble_eq_true (m := 2) rfl) (Nat.le_of_eq (RT.len _ (z6q G)).symm))).trans ?_
  refine (z5w (off := 1) (sz := 1) (cs := _) rfl (RT.len _ h1) (Nat.le_trans (Nat.le_of_ble_eq_true (m := 2) rfl) (Nat.le_of_eq (RT.len _ (k0)).symm))).trans ?_
  rfl
def z8n (K : Nat) (p0 : Q) (p1 : Q) : Option (LossPiece × Int) := ((z29 K p0).bind fun x19 => (if (x19.2 != 0) = true then some ((LossPiece.mk ByteArray.empty ByteArray.empty), x19.2) else ((z29 K p1).bind fun x49 => (if (x49.2 != 0) = true then some ((LossPiece.mk ByteArray.empty ByteArray.empty), x49.2) else some ((LossPiece.mk x19.1 x49.1), 0)))))
theorem zbg (v0 : List Value) (p0 : Q) (hp0 : T_Q.rep G v0 p0) (v1 : List Value) (p1 : Q) (hp1 : T_Q.rep G v1 p1) (O : Ow G H (L)) (r : LossPiece × Int) (h : z8n K p0 p1 = some r) :
    CR Tryd.prog 116 [.agg (List.toArray v0), .agg (List.toArray v1)] G H (L) (fun v G' _ => ∃ (w0 : List Value), v = .tuple #[.agg (List.toArray w0), .int .i64 r.2] /\ T_LossPiece.rep G' w0 r.1) := by
 unfold z8n at h
 refine CR.og (n := 30) (fn := Tryd.f116) (by kernel_rfl) rfl rfl fun R kr => (.seq (.region (W.lo rfl rfl (Lo.box (r := T_Q) (x0 := p0) (v := (.agg (List.toArray v0))) rfl rfl hp0 O) ?_)))
 rintro v4 H5 ⟨b2, rfl, O1, sm3⟩
 refine W.lo rfl rfl (Lo.box (r := T_Q) (x0 := p1) (v := (.agg (List.toArray v1))) rfl rfl hp1 O1) ?_
 rintro v9 H10 ⟨b7, rfl, O6, sm8⟩
 refine W.lo rfl rfl (Lo.alloc (r := T_LossPiece) (x0 := (LossPiece.mk ByteArray.empty ByteArray.empty)) ze60 (by kernel_rfl) z6q O6) ?_
 rintro v14 H15 ⟨b12, rfl, O11, sm13⟩
 refine W.q1 (.int .i64 0) rfl (.nil (.seq (.region ?_)))
 obtain ⟨c16, p17, f18⟩ := (O11.atVar (j := 2) rfl)
 refine W.loadA (cs := c16) rfl rfl ag65 sz65 (z0q rfl p17) (RT.len _ f18) ?_
 obtain ⟨x19, i20, h21⟩ := z00 h
 refine W.lo rfl rfl (Lo.cP rfl (fn := Tryd.f37) (by kernel_rfl) rfl (mc rfl mn) O11 (fun L' O' => z31 K c16 p0 f18 O' _ i20)) ?_
 rintro v28 H29 ⟨G22, O23, s24, sm27, rfl⟩
 refine W.q2 (.tuple #[(.string x19.1), (.int .i64 x19.2)]) rfl (W.pure (v := (.string x19.1)) rfl rfl (z08 (oo rfl rfl) rfl) (W.pure (v := (.int .i64 x19.2)) rfl rfl (z08 (oo rfl rfl) rfl) (W.q1 (.string x19.1) rfl (W.q1 (.int .i64 x19.2) rfl (.nil (.seq ?_))))))
 refine .seq (.region (W.q2 (.int .i64 x19.2) rfl (W.q3 (.bool (x19.2 != 0)) rfl rfl (.nil (.cond (b := (x19.2 != 0)) rfl rfl (fun g30 => ?_) (fun g30 => ?_))))))
 .have h31 := z03 g30 h21
  refine .seq (.region ?_)
  obtain ⟨c32, e34, f33⟩ := z9v
  refine W.pure (v := .agg (List.toArray c32)) rfl rfl (e34 (z3p rfl qn')) (W.q2 (.int .i64 x19.2) rfl (W.lo rfl rfl (Lo.storeVar (j := 0) (s := T_LossPiece) (y0 := (LossPiece.mk ByteArray.empty ByteArray.empty)) (v := (.agg (List.toArray c32))) (o := 0) rfl ((Put.at (Put.self _) _ _)) rfl sz60 rfl (by omega) rfl f33 O23) ?_))
  rintro v37 H38 ⟨O35, sm36⟩
  refine W.q1 (.int .i64 x19.2) rfl (.nil (.ret ?_))
  obtain ⟨c39, p40, f41⟩ := (O35.atVar (j := 0) rfl)
  have O42 : Ow G22 H38 (eVar b7 65 T_Q p1 :: eVar b2 65 T_Q p0 :: L) := O35.drop 0
  have O43 : Ow G22 H38 (eVar b2 65 T_Q p0 :: L) := O42.drop 0
  have O44 : Ow G22 H38 (L) := O43.drop 0
  obtain rfl := zAa h31
  exact zas kr (v1 := (.agg (List.toArray c39))) (v2 := (.int .i64 x19.2)) (by rfl) (z2d (p := (.pointer (some ⟨b12, 0, none⟩))) (by rfl) ag60 sz60 (by exact rfl) p40 (RT.len _ f41)) (z09 (by rfl) (by exact rfl)) O44 s24 ⟨c39, rfl, f41⟩
 have h45 := z0h g30 h21
 refine .skip (.seq (.region ?_))
 obtain ⟨c46, p47, f48⟩ := (O23.atVar (j := 1) rfl)
 refine W.loadA (cs := c46) rfl rfl ag65 sz65 (z0q rfl p47) (RT.len _ f48) ?_
 obtain ⟨x49, i50, h51⟩ := z00 h45
 refine W.lo rfl rfl (Lo.cP rfl (fn := Tryd.f37) (by kernel_rfl) rfl (mc rfl mn) O23 (fun L' O' => z31 K c46 p1 f48 O' _ i50)) ?_
 rintro v58 H59 ⟨G52, O53, s54, sm57, rfl⟩
 refine W.q2 (.tuple #[(.string x49.1), (.int .i64 x49.2)]) rfl (W.pure (v := (.string x49.1)) rfl rfl (z08 (oo rfl rfl) rfl) (W.pure (v := (.int .i64 x49.2)) rfl rfl (z08 (oo rfl rfl) rfl) (W.q1 (.string x49.1) rfl (W.q1 (.int .i64 x49.2) rfl (.nil (.seq ?_))))))
 refine .seq (.region (W.q2 (.int .i64 x49.2) rfl (W.q3 (.bool (x49.2 != 0)) rfl rfl (.nil (.cond (b := (x49.2 != 0)) rfl rfl (fun g60 => ?_) (fun g60 => ?_))))))
 .have h61 := z03 g60 h51
  refine .seq (.region ?_)
  obtain ⟨c62, e64, f63⟩ := z9v
  refine W.pure (v := .agg (List.toArray c62)) rfl rfl (e64 (z3p rfl qn')) (W.q2 (.int .i64 x49.2) rfl (W.lo rfl rfl (Lo.storeVar (j := 0) (s := T_LossPiece) (y0 := (LossPiece.mk ByteArray.empty ByteArray.empty)) (v := (.agg (List.toArray c62))) (o := 0) rfl ((Put.at (Put.self _) _ _)) rfl sz60 rfl (by omega) rfl f63 O53) ?_))
  rintro v67 H68 ⟨O65, sm66⟩
  refine W.q1 (.int .i64 x49.2) rfl (.nil (.ret ?_))
  obtain ⟨c69, p70, f71⟩ := (O65.atVar (j := 0) rfl)
  have O72 : Ow G52 H68 (eVar b7 65 T_Q p1 :: eVar b2 65 T_Q p0 :: L) := O65.drop 0
  have O73 : Ow G52 H68 (eVar b2 65 T_Q p0 :: L) := O72.drop 0
  have O74 : Ow G52 H68 (L) := O73.drop 0
  obtain rfl := zAa h61
  exact zas kr (v1 := (.agg (List.toArray c69))) (v2 := (.int .i64 x49.2)) (by rfl) (z2d (p := (.pointer (some ⟨b12, 0, none⟩))) (by rfl) ag60 sz60 (by exact rfl) p70 (RT.len _ f71)) (z09 (by rfl) (by exact rfl)) O74 (zAe s24 s54) ⟨c69, rfl, f71⟩
 have h75 := z0h g60 h51
 refine .skip (.seq (.region (W.q2 (.string x19.1) rfl (W.q2 (.string x49.1) rfl ?_))))
 obtain ⟨c76, e78, f77⟩ := z4e ((.string x19.1)) ((.string x49.1)) (rfl) (rfl)
 refine W.pure (v := .agg (List.toArray c76)) rfl rfl (e78 (z3p rfl (qc' rfl (qc' rfl qn')))) (W.lo rfl rfl (Lo.storeVar (j := 0) (s := T_LossPiece) (y0 := (LossPiece.mk x19.1 x49.1)) (v := (.agg (List.toArray c76))) (o := 0) rfl ((Put.at (Put.self _) _ _)) rfl sz60 rfl (by omega) rfl f77 O53) ?_)
 rintro v81 H82 ⟨O79, sm80⟩
 refine W.q1 (.int .i64 0) rfl (.nil (.ret ?_))
 obtain ⟨c83, p84, f85⟩ := (O79.atVar (j := 0) rfl)
 have O86 : Ow G52 H82 (eVar b7 65 T_Q p1 :: eVar b2 65 T_Q p0 :: L) := O79.drop 0
 have O87 : Ow G52 H82 (eVar b2 65 T_Q p0 :: L) := O86.drop 0
 have O88 : Ow G52 H82 (L) := O87.drop 0
 obtain rfl := zAa h75
 exact zas kr (v1 := (.agg (List.toArray c83))) (v2 := (.int .i64 0)) (by rfl) (z2d (p := (.pointer (some ⟨b12, 0, none⟩))) (by rfl) ag60 sz60 (by exact rfl) p84 (RT.len _ f85)) (z09 (by rfl) (by exact rfl)) O88 (zAe s24 s54) ⟨c83, rfl, f85⟩
def z4f (K : Nat) (p1 : List zAd) (p2 : Int) (x16 : Q) : Nat -> List LossPiece -> Int -> Option ((List LossPiece × Int) ⊕ (List LossPiece))
  | 0, _, _ => none
  | k + 1, x43, x44 => (if (decide ((z05 .i64 (x44 + p2)) < (List.length p1 : Int))) = true then ((idx p1 x44).bind fun x60 => ((z1y K x60).bind fun x64 => ((idx p1 (z05 .i64 (x44 + p2))).bind fun x79 => ((z1y K x79).bind fun x83 => ((z28 K x16 x64).bind fun x131 => ((z28 K x131 x83).bind fun x149 => ((z85 K x149).bind fun x164 => ((z45 K x64 x83).bind fun x188 => ((z28 K x16 x188).bind fun x203 => ((z8n K x164 x203).bind fun x218 => (if (x218.2 != 0) = true then some (.inl ([], x218.2)) else (if List.length x43 + List.length [x218.1] <= 16777216 then z4f K p1 p2 x16 k (x43 ++ [x218.1]) (z05 .i64 (x44 + 1)) else none)))))))))))) else some (.inr x43))
def z66 (K : Nat) (p0 : zAd) (p1 : List zAd) (p2 : Int) : Option (List LossPiece × Int) := ((z6p K p0 p1).bind fun x1 => (if (x1 != 0) = true then some ([], x1) else ((z1y K p0).bind fun x16 => (zae (z4f K p1 p2 x16 K [] 0) (tu2 fun a287 a288 => some (a287, a288)) (tu1 fun x277 => some (x277, 0))))))
theorem z7v (p0 : zAd) (v1 : Value) (p1 : List zAd) (hp1 : (rSl rS).rep G [v1] p1) (p2 : Int) (O : Ow G H (L)) (r : List LossPiece × Int) (h : z66 K p0 p1 p2 = some r) :
    CRF Tryd.prog 80 [(.string p0), v1, (.int .i64 p2)] G H (fun w0 => (eSl w0 60 T_LossPiece r.1 :: L)) (fun w0 v G' => v = .tuple #[w0, .int .i64 r.2]) := by
 unfold z66 at h
 refine CRF.og (n := 67) (fn := Tryd.f80) (by kernel_rfl) rfl rfl fun R kr => (.seq (.region (W.q1 (.slice none 0 0) rfl (W.q1 (.int .i64 0) rfl (.nil (.seq ?_))))))
 refine .seq (.region (W.q2 (.string p0) rfl (W.q2 v1 rfl ?_)))
 obtain ⟨x1, i2, h3⟩ := z00 h
 refine W.lo rfl rfl (Lo.cP rfl (fn := Tryd.f81) (by kernel_rfl) rfl (mc rfl (mc rfl mn)) O (fun L' O' => z77 K p0 v1 p1 hp1 O' _ i2)) ?_
 rintro v10 H11 ⟨G4, O5, s6, sm9, rfl⟩
 refine W.q1 (.int .i64 x1) rfl (.nil (.seq (.region (W.q2 (.int .i64 x1) rfl (W.q3 (.bool (x1 != 0)) rfl rfl (.nil ?_))))))
 refine .cond (b := (x1 != 0)) rfl rfl (fun g12 => ?_) (fun g12 => ?_)
 .have h13 := z03 g12 h3
  refine .seq (.region (W.q2 (.int .i64 x1) rfl (W.q1 (.slice none 0 0) rfl (W.q1 (.int .i64 x1) rfl (.nil (.ret ?_))))))
  have O14 := O5.nilSl 60 T_LossPiece
  obtain rfl := zAa h13
  exact zh4 kr (.slice none 0 0) (v1 := (.slice none 0 0)) (v2 := (.int .i64 x1)) (by rfl) (z09 (by rfl) (by exact rfl)) (z09 (by rfl) (by exact rfl)) O14 s6 rfl
 have h15 := z0h g12 h3
 refine .skip (.seq (.region (W.q2 (.string p0) rfl ?_)))
 obtain ⟨x16, i17, h18⟩ := z00 h15
 refine W.lo rfl rfl (Lo.cP rfl (fn := Tryd.f36) (by kernel_rfl) rfl (mc rfl mn) O5 (fun L' O' => z0w K p0 O' _ i17)) ?_
 rintro v27 H28 ⟨G19, O20, s21, sm26, ⟨c23, rfl, f24⟩⟩
 refine W.lo rfl rfl (Lo.alloc (r := T_Q) (x0 := (Q.mk false ([] : List Int) ([] : List Int))) ze65 (by kernel_rfl) z_Q O20) ?_
 rintro v32 H33 ⟨b30, rfl, O29, sm31⟩
 refine W.lo rfl rfl (Lo.storeVar (j := 0) (s := T_Q) (y0 := x16) (v := (.agg (List.toArray c23))) (o := 0) rfl ((Put.at (Put.self _) _ _)) rfl sz65 rfl (by omega) rfl f24 O29) ?_
 rintro v36 H37 ⟨O34, sm35⟩
 refine .nil (.seq (.region (W.q1 (.slice none 0 0) rfl (.nil (.seq (.seq ?_))))))
 refine .region (W.q1 (.int .i64 0) rfl (.nil ?_))
 obtain ⟨q38, h39, h40⟩ := z2p h18
 refine AW.midT (fun σ' H' => ∃ (y1 : List LossPiece) (G' : GM), (.inr y1) = q38 /\ Ow G' H' (eVar b30 65 T_Q x16 :: eSl (σ' 10) 60 T_LossPiece y1 :: L) /\ GM.le G19 G') ?_ ?_
 rotate_left
 .rintro σ278 H279 fr280 ⟨x277, G281, rfl, O282, s283⟩
  have h285 := z0d (z8a h40)
  refine .seq (.region (W.q2 (σ278 10) rfl (W.q1 (σ278 10) rfl (W.q1 (.int .i64 0) rfl (.nil (.ret ?_))))))
  have O286 : Ow G281 H279 (eSl (σ278 10) 60 T_LossPiece x277 :: L) := O282.drop 0
  obtain rfl := zAa h285
  exact zh4 kr (σ278 10) (v1 := (σ278 10)) (v2 := (.int .i64 0)) (by rfl) (z09 (by rfl) (by exact rfl)) (z09 (by rfl) (by exact rfl)) O286 (zAe s6 (zAe s21 s283)) rfl
 refine .block ?_
 have O41 := O34.nilSl 60 T_LossPiece
 refine AW.loop (α := Nat) (fun k' σ' H' => ∃ (y1 : List LossPiece) (y2 : Int) (G' : GM), z4f K p1 p2 x16 k' y1 y2 = some q38 /\ Ow G' H' (eSl (σ' 10) 60 T_LossPiece y1 :: eVar b30 65 T_Q x16 :: L) /\ GM.le G19 G' /\ σ' 11 = .int .i64 y2) (fun k' => k') K ⟨[], 0, _, h39, O41, (zAf _), rfl⟩ ?_
 rintro k42
 rintro σ45 H46 fr47 ⟨x43, x44, G48, h51, O49, s50, t52⟩
 rcases k42 with _ | k42
 .exact z0a h51
 rw [z4f] at h51
 refine .seq (.seq (.region (W.q2 _ t52 (W.q2 (.int .i64 p2) ((fr47 2 rfl).trans rfl) (W.q3 (.int .i64 (z05 .i64 (x44 + p2))) rfl rfl (W.q2 v1 ((fr47 1 rfl).trans rfl) ?_))))))
 refine W.pure (v := (.int .i64 (List.length p1 : Int))) rfl rfl (z0p (oo rfl rfl) (z0f (RT.mono _ (zAe s6 (zAe s21 s50)) hp1)) (z06 el22)) (W.q3 (.bool (decide ((z05 .i64 (x44 + p2)) < (List.length p1 : Int)))) rfl rfl (.nil (.cond (b := decide ((z05 .i64 (x44 + p2)) < (List.length p1 : Int))) rfl rfl (fun g53 => ?_) (fun g53 => ?_))))
 rotate_left
 .have h274 := z0h g53 h51
  refine .exit ?_
  have O275 : Ow G48 H46 (eSl (σ45 10) 60 T_LossPiece x43 :: eVar b30 65 T_Q x16 :: L) := O49.front (j := 0) rfl
  have O276 : Ow G48 H46 (eVar b30 65 T_Q x16 :: eSl (σ45 10) 60 T_LossPiece x43 :: L) := O275.front (j := 1) rfl
  obtain rfl := zAa h274
  exact ⟨x43, _, rfl, O276, s50⟩
 have h54 := z03 g53 h51
 refine .skip (.seq (.block (.seq (.draw2 (M := [0, 0, 3, 7, 15, 0, 0, 0, 192, 480, 992, 2047, 0, 0, 16383, 32767]) mixed (by kernel_rfl) (by kernel_rfl) fun H55 N59 x56 F58 => ?_))))
 have O57 := O49.ext x56
 refine D2.q2 v1 ((fr47 1 rfl).trans rfl) (D2.q2 _ t52 ?_)
 obtain ⟨x60, i61, h62⟩ := z00 h54
 have j63 := z0g i61
 refine D2.pure (v := (z2t v1 (Int.toNat x44 * 1))) rfl rfl (z3b el22 sz25 (oo rfl rfl) (oo rfl rfl) (z0f (RT.mono _ (zAe s6 (zAe s21 s50)) hp1)) j63.1 j63.2.1) (D2.load1' (v := (.string x60)) (r := []) rfl rfl ag25 (z0q rfl (At.str (At.le (At.le (z1m hp1 j63.2.2) (zAe s6 (zAe s21 s50)) (zAe s6 (zAe s21 s50))) (zAf _) O57.fro))) z02 ?_)
 obtain ⟨x64, i65, h66⟩ := z00 h62
 refine D2.loN rfl rfl (Lo.cP rfl (fn := Tryd.f36) (by kernel_rfl) rfl (mc rfl mn) O57 (fun L' O' => z0w K x60 O' _ i65)) ?_ z02 ?_ ?_
 .rintro v75 H76 ⟨G67, O68, s69, sm74, ⟨c71, rfl, f72⟩⟩; exact (faR1 (.inl (by decide)) z02)
 .rintro v75 H76 ⟨G67, O68, s69, sm74, ⟨c71, rfl, f72⟩⟩; exact z02
 rintro v75 H76 ⟨G67, O68, s69, sm74, ⟨c71, rfl, f72⟩⟩ nx77
 have F78 := Free.nx F58 nx77
 refine D2.q2 v1 ((fr47 1 rfl).trans rfl) (D2.q2 _ t52 (D2.q2 (.int .i64 p2) ((fr47 2 rfl).trans rfl) (D2.q3 (.int .i64 (z05 .i64 (x44 + p2))) rfl rfl ?_)))
 obtain ⟨x79, i80, h81⟩ := z00 h66
 have j82 := z0g i80
 refine D2.pure (v := (z2t v1 (Int.toNat (z05 .i64 (x44 + p2)) * 1))) rfl rfl (z3b el22 sz25 (oo rfl rfl) (oo rfl rfl) (z0f (RT.mono _ (zAe s6 (zAe s21 (zAe s50 s69))) hp1)) j82.1 j82.2.1) (D2.load1' (v := (.string x79)) (r := []) rfl rfl ag25 (z0q rfl (At.str (At.le (At.le (z1m hp1 j82.2.2) (zAe s6 (zAe s21 (zAe s50 s69))) (zAe s6 (zAe s21 (zAe s50 s69)))) (zAf _) O68.fro))) (z2g (sm74 _ (zgo (M := G48) (At.le (z1m hp1 j82.2.2) (zAe s6 (zAe s21 s50)) (zAe s6 (zAe s21 s50))) rfl)) z02) ?_)
 obtain ⟨x83, i84, h85⟩ := z00 h81
 refine D2.loN rfl rfl (Lo.cP rfl (fn := Tryd.f36) (by kernel_rfl) rfl (mc rfl mn) O68 (fun L' O' => z0w K x79 O' _ i84)) ?_ (z07 (by decide) z02) ?_ ?_
 .rintro v94 H95 ⟨G86, O87, s88, sm93, ⟨c90, rfl, f91⟩⟩; exact (faR1 (.inl (by decide)) (faR1 (.inl (by decide)) z02))
 .rintro v94 H95 ⟨G86, O87, s88, sm93, ⟨c90, rfl, f91⟩⟩; exact z02
 rintro v94 H95 ⟨G86, O87, s88, sm93, ⟨c90, rfl, f91⟩⟩ nx96
 have F97 := Free.nx F78 nx96
 refine D2.alloc (m := 16) rfl rfl (Al.alloc (r := T_Q) (x0 := (Q.mk false ([] : List Int) ([] : List Int))) ze65 (by kernel_rfl) z_Q) (Free.up (by decide) F97) (by decide) O87 ?_
 rintro b100 H101 ⟨O102, sm103, F104⟩
 refine D2.alloc (m := 16) rfl rfl (Al.alloc (r := T_Q) (x0 := (Q.mk false ([] : List Int) ([] : List Int))) ze65 (by kernel_rfl) z_Q) (Free.up (by decide) F104) (by decide) O102 ?_
 rintro b107 H108 ⟨O109, sm110, F111⟩
 refine D2.lo rfl rfl (Lo.storeVar (j := 1) (s := T_Q) (y0 := x64) (v := (.agg (List.toArray c71))) (o := 0) rfl ((Put.at (Put.self _) _ _)) rfl sz65 rfl (by omega) rfl (RT.mono _ s88 f72) O109) ?_ (z07 (by decide) (z07 (by decide) z02)) ?_ ?_
 .rintro v114 H115 ⟨O112, sm113⟩; exact (faR1 (.inl (by decide)) (faR1 (.inl (by decide)) z02))
 .rintro v114 H115 ⟨O112, sm113⟩; exact (faR1 (.inl (by decide)) (faR1 (.inl (by decide)) z02))
 rintro v114 H115 ⟨O112, sm113⟩
 refine D2.lo rfl rfl (Lo.storeVar (j := 0) (s := T_Q) (y0 := x83) (v := (.agg (List.toArray c90))) (o := 0) rfl ((Put.at (Put.self _) _ _)) rfl sz65 rfl (by omega) rfl f91 O112) ?_ (z07 (by decide) (z07 (by decide) (z07 (by decide) z02))) ?_ ?_
 .rintro v118 H119 ⟨O116, sm117⟩; exact (faR1 (.inl (by decide)) (faR1 (.inl (by decide)) z02))
 .rintro v118 H119 ⟨O116, sm117⟩; exact (faR1 (.inl (by decide)) (faR1 (.inl (by decide)) z02))
 rintro v118 H119 ⟨O116, sm117⟩
 refine .nil (.seq (.draw2 (M := [0, 0, 3, 0, 15, 31, 0, 0, 0, 447, 1023, 2047, 4095, 8191, 8191, 0, 49151, 131071]) mixed (by kernel_rfl) (by kernel_rfl) fun H120 N124 x121 F123 => ?_))
 have O122 := O116.ext x121
 obtain ⟨c125, p126, f127⟩ := (O122.atVar (j := 3) rfl)
 refine D2.loadA' (cs := c125) rfl rfl ag65 sz65 (z0q ((fr47 9 rfl).trans rfl) p126) (RT.len _ f127) z02 ?_
 obtain ⟨c128, p129, f130⟩ := (O122.atVar (j := 1) rfl)
 refine D2.loadA' (cs := c128) rfl rfl ag65 sz65 (z0q rfl p129) (RT.len _ f130) z02 ?_
 obtain ⟨x131, i132, h133⟩ := z00 h85
 refine D2.loN rfl rfl (Lo.cP rfl (fn := Tryd.f93) (by kernel_rfl) rfl (mc rfl (mc rfl mn)) O122 (fun L' O' => z1z K c125 x16 f127 c128 x64 f130 O' _ i132)) ?_ z02 ?_ ?_
 .rintro v142 H143 ⟨G134, O135, s136, sm141, ⟨c138, rfl, f139⟩⟩; exact (faR1 (.inl (by decide)) (faR1 (.inl (by decide)) z02))
 .rintro v142 H143 ⟨G134, O135, s136, sm141, ⟨c138, rfl, f139⟩⟩; exact z02
 rintro v142 H143 ⟨G134, O135, s136, sm141, ⟨c138, rfl, f139⟩⟩ nx144
 have F145 := Free.nx F123 nx144
 obtain ⟨c146, p147, f148⟩ := (O135.atVar (j := 0) rfl)
 refine D2.loadA' (cs := c146) rfl rfl ag65 sz65 (z0q rfl p147) (RT.len _ f148) (z2g (sm141 _ (Or.inr ⟨0, _, rfl, List.mem_singleton.2 rfl⟩)) z02) ?_
 obtain ⟨x149, i150, h151⟩ := z00 h133
 refine D2.loN rfl rfl (Lo.cP rfl (fn := Tryd.f93) (by kernel_rfl) rfl (mc rfl (mc rfl mn)) O135 (fun L' O' => z1z K c138 x131 f139 c146 x83 f148 O' _ i150)) ?_ (z07 (by decide) z02) ?_ ?_
 .rintro v160 H161 ⟨G152, O153, s154, sm159, ⟨c156, rfl, f157⟩⟩; exact (faR1 (.inl (by decide)) (faR1 (.inl (by decide)) (faR1 (.inl (by decide)) z02)))
 .rintro v160 H161 ⟨G152, O153, s154, sm159, ⟨c156, rfl, f157⟩⟩; exact z02
 rintro v160 H161 ⟨G152, O153, s154, sm159, ⟨c156, rfl, f157⟩⟩ nx162
 have F163 := Free.nx F145 nx162
 obtain ⟨x164, i165, h166⟩ := z00 h151
 refine D2.loN rfl rfl (Lo.cP rfl (fn := Tryd.f71) (by kernel_rfl) rfl (mc rfl mn) O153 (fun L' O' => z9a K c156 x149 f157 O' _ i165)) ?_ (z07 (by decide) (z07 (by decide) z02)) ?_ ?_
 .rintro v175 H176 ⟨G167, O168, s169, sm174, ⟨c171, rfl, f172⟩⟩; exact (faR1 (.inl (by decide)) (faR1 (.inl (by decide)) (faR1 (.inl (by decide)) z02)))
 .rintro v175 H176 ⟨G167, O168, s169, sm174, ⟨c171, rfl, f172⟩⟩; exact z02
 rintro v175 H176 ⟨G167, O168, s169, sm174, ⟨c171, rfl, f172⟩⟩ nx177
 have F178 := Free.nx F163 nx177
 obtain ⟨c179, p180, f181⟩ := (O168.atVar (j := 3) rfl)
 refine D2.loadA' (cs := c179) rfl rfl ag65 sz65 (z0q ((fr47 9 rfl).trans rfl) p180) (RT.len _ f181) (z2g (zd4 ((fr47 9 rfl).trans rfl) (sm174 _ (Or.inr ⟨3, _, rfl, List.mem_singleton.2 rfl⟩))) (z2g (zd4 ((fr47 9 rfl).trans rfl) (sm159 _ (Or.inr ⟨3, _, rfl, List.mem_singleton.2 rfl⟩))) (z2g (zd4 ((fr47 9 rfl).trans rfl) (sm141 _ (Or.inr ⟨3, _, rfl, List.mem_singleton.2 rfl⟩))) z02))) ?_
 obtain ⟨c182, p183, f184⟩ := (O168.atVar (j := 1) rfl)
 refine D2.loadA' (cs := c182) rfl rfl ag65 sz65 (z0q rfl p183) (RT.len _ f184) (z2g (sm174 _ (Or.inr ⟨1, _, rfl, List.mem_singleton.2 rfl⟩)) (z2g (sm159 _ (Or.inr ⟨1, _, rfl, List.mem_singleton.2 rfl⟩)) (z2g (sm141 _ (Or.inr ⟨1, _, rfl, List.mem_singleton.2 rfl⟩)) z02))) ?_
 obtain ⟨c185, p186, f187⟩ := (O168.atVar (j := 0) rfl)
 refine D2.loadA' (cs := c185) rfl rfl ag65 sz65 (z0q rfl p186) (RT.len _ f187) (z2g (sm174 _ (Or.inr ⟨0, _, rfl, List.mem_singleton.2 rfl⟩)) (z2g (sm159 _ (Or.inr ⟨0, _, rfl, List.mem_singleton.2 rfl⟩)) (z2g (sm141 _ (Or.inr ⟨0, _, rfl, List.mem_singleton.2 rfl⟩)) z02))) ?_
 obtain ⟨x188, i189, h190⟩ := z00 h166
 refine D2.loN rfl rfl (Lo.cP rfl (fn := Tryd.f34) (by kernel_rfl) rfl (mc rfl (mc rfl mn)) O168 (fun L' O' => z5j K c182 x64 f184 c185 x83 f187 O' _ i189)) ?_ (z07 (by decide) (z07 (by decide) (z07 (by decide) z02))) ?_ ?_
 .rintro v199 H200 ⟨G191, O192, s193, sm198, ⟨c195, rfl, f196⟩⟩; exact (faR1 (.inl (by decide)) (faR1 (.inl (by decide)) (faR1 (.inr (zd4 ((fr47 9 rfl).trans rfl) (sm198 _ (Or.inr ⟨3, _, rfl, List.mem_singleton.2 rfl⟩)))) (faR1 (.inl (by decide)) (faR1 (.inl (by decide)) (faR1 (.inl (by decide)) z02))))))
 .rintro v199 H200 ⟨G191, O192, s193, sm198, ⟨c195, rfl, f196⟩⟩; exact z02
 rintro v199 H200 ⟨G191, O192, s193, sm198, ⟨c195, rfl, f196⟩⟩ nx201
 have F202 := Free.nx F178 nx201
 obtain ⟨x203, i204, h205⟩ := z00 h190
 refine D2.loN rfl rfl (Lo.cP rfl (fn := Tryd.f93) (by kernel_rfl) rfl (mc rfl (mc rfl mn)) O192 (fun L' O' => z1z K c179 x16 (RT.mono _ s193 f181) c195 x188 f196 O' _ i204)) ?_ (z07 (by decide) (z07 (by decide) (z07 (by decide) (z07 (by decide) z02)))) ?_ ?_
 .rintro v214 H215 ⟨G206, O207, s208, sm213, ⟨c210, rfl, f211⟩⟩; exact (faR1 (.inl (by decide)) (faR1 (.inl (by decide)) (faR1 (.inl (by decide)) (faR1 (.inl (by decide)) (faR1 (.inl (by decide)) (faR1 (.inl (by decide)) z02))))))
 .rintro v214 H215 ⟨G206, O207, s208, sm213, ⟨c210, rfl, f211⟩⟩; exact z02
 rintro v214 H215 ⟨G206, O207, s208, sm213, ⟨c210, rfl, f211⟩⟩ nx216
 have F217 := Free.nx F202 nx216
 obtain ⟨x218, i219, h220⟩ := z00 h205
 refine D2.loN rfl rfl (Lo.cP rfl (fn := Tryd.f116) (by kernel_rfl) rfl (mc rfl (mc rfl mn)) O207 (fun L' O' => zbg K c171 x164 (RT.mono _ (zAe s193 s208) f172) c210 x203 f211 O' _ i219)) ?_ (z07 (by decide) (z07 (by decide) (z07 (by decide) (z07 (by decide) (z07 (by decide) z02))))) ?_ ?_
 .rintro v229 H230 ⟨G221, O222, s223, sm228, ⟨c225, rfl, f226⟩⟩; exact (faR1 (.inl (by decide)) (faR1 (.inl (by decide)) (faR1 (.inl (by decide)) (faR1 (.inl (by decide)) (faR1 (.inl (by decide)) (faR1 (.inl (by decide)) z02))))))
 .rintro v229 H230 ⟨G221, O222, s223, sm228, ⟨c225, rfl, f226⟩⟩; exact z02
 rintro v229 H230 ⟨G221, O222, s223, sm228, ⟨c225, rfl, f226⟩⟩ nx231
 have F232 := Free.nx F217 nx231
 refine D2.q2 (.tuple #[(.agg (List.toArray c225)), (.int .i64 x218.2)]) rfl (D2.pure (v := (.agg (List.toArray c225))) rfl rfl (z08 (oo rfl rfl) rfl) (D2.pure (v := (.int .i64 x218.2)) rfl rfl (z08 (oo rfl rfl) rfl) (D2.alloc (m := 18) rfl rfl (Al.alloc (r := T_LossPiece) (x0 := (LossPiece.mk ByteArray.empty ByteArray.empty)) ze60 (by kernel_rfl) z6q) (Free.up (by decide) F232) (by decide) O222 ?_)))
 rintro b235 H236 ⟨O237, sm238, F239⟩
 refine D2.lo rfl rfl (Lo.storeVar (j := 0) (s := T_LossPiece) (y0 := x218.1) (v := (.agg (List.toArray c225))) (o := 0) rfl ((Put.at (Put.self _) _ _)) rfl sz60 rfl (by omega) rfl f226 O237) ?_ (z07 (by decide) (z07 (by decide) (z07 (by decide) (z07 (by decide) (z07 (by decide) (z07 (by decide) z02)))))) ?_ ?_
 .rintro v242 H243 ⟨O240, sm241⟩; exact (faR1 (.inl (by decide)) (faR1 (.inl (by decide)) (faR1 (.inl (by decide)) (faR1 (.inl (by decide)) (faR1 (.inl (by decide)) (faR1 (.inl (by decide)) z02))))))
 .rintro v242 H243 ⟨O240, sm241⟩; exact (faR1 (.inl (by decide)) z02)
 rintro v242 H243 ⟨O240, sm241⟩
 refine D2.q1 (.int .i64 x218.2) rfl (.nil (.seq (.seq (.region (W.q2 (.int .i64 x218.2) rfl (W.q3 (.bool (x218.2 != 0)) rfl rfl ?_))))))
 refine .nil (.cond (b := (x218.2 != 0)) rfl rfl (fun g244 => ?_) (fun g244 => ?_))
 .have h245 := z03 g244 h220
  refine .seq (.region (W.q2 (.int .i64 x218.2) rfl (W.q1 (.slice none 0 0) rfl (W.q1 (.int .i64 x218.2) rfl (.nil (.ret ?_))))))
  have O246 := O240.nilSl 60 T_LossPiece
  have O247 : Ow G221 H243 (eSl (.slice none 0 0) 60 T_LossPiece [] :: eVar b107 65 T_Q x83 :: eVar b100 65 T_Q x64 :: eSl (σ45 10) 60 T_LossPiece x43 :: eVar b30 65 T_Q x16 :: L) := O246.drop 1
  have O248 : Ow G221 H243 (eSl (.slice none 0 0) 60 T_LossPiece [] :: eVar b100 65 T_Q x64 :: eSl (σ45 10) 60 T_LossPiece x43 :: eVar b30 65 T_Q x16 :: L) := O247.drop 1
  have O249 : Ow G221 H243 (eSl (.slice none 0 0) 60 T_LossPiece [] :: eSl (σ45 10) 60 T_LossPiece x43 :: eVar b30 65 T_Q x16 :: L) := O248.drop 1
  have O250 : Ow G221 H243 (eSl (.slice none 0 0) 60 T_LossPiece [] :: eVar b30 65 T_Q x16 :: L) := O249.drop 1
  have O251 : Ow G221 H243 (eSl (.slice none 0 0) 60 T_LossPiece [] :: L) := O250.drop 1
  obtain rfl := zAa h245
  have h252 := z4k (z7i h40)
  obtain rfl := zAa h252
  exact zh4 kr (.slice none 0 0) (v1 := (.slice none 0 0)) (v2 := (.int .i64 x218.2)) (by rfl) (z09 (by rfl) (by exact rfl)) (z09 (by rfl) (by exact rfl)) O251 (zAe s6 (zAe s21 (zAe s50 (zAe s69 (zAe s88 (zAe s136 (zAe s154 (zAe s169 (zAe s193 (zAe s208 s223)))))))))) rfl
 have h253 := z0h g244 h220
 refine .skip (.region (W.q2 (σ45 10) rfl ?_))
 obtain ⟨c254, p255, f256⟩ := (O240.atVar (j := 0) rfl)
 refine W.loadA (cs := c254) rfl rfl ag60 sz60 (z0q rfl p255) (RT.len _ f256) (W.lo rfl rfl (Lo.buildSlice (r := T_LossPiece) (vs := [(.agg (List.toArray c254))]) (xs := [x218.1]) el51 ze60 sz60 (by kernel_rfl) rfl (qc rfl qn) rfl (.cons f256 .nil) O240) ?_)
 rintro v259 H260 ⟨O257, sm258⟩
 obtain ⟨es262, e263, e264⟩ := z7r (j := 0) rfl O257
 obtain ⟨g265, h266⟩ := z3c h253
 refine W.lo rfl rfl (Lo.append (j := 4) (v := (σ45 10)) rfl rfl el51 ni51 ze60 sz60 by60 (by decide) (by decide) rfl e263 e264 g265 O257) ?_
 rintro v268 H269 ⟨O261, sm267⟩
 refine W.q1 v268 rfl (.nil (.region (W.q2 _ t52 (W.q3 (.int .i64 (z05 .i64 (x44 + 1))) rfl rfl (W.q1 (.int .i64 (z05 .i64 (x44 + 1))) rfl (.nil ?_))))))
 have O270 : Ow G221 H269 (eVar b235 60 T_LossPiece x218.1 :: eVar b107 65 T_Q x83 :: eVar b100 65 T_Q x64 :: eSl v268 60 T_LossPiece (x43 ++ [x218.1]) :: eVar b30 65 T_Q x16 :: L) := O261.drop 0
 have O271 : Ow G221 H269 (eVar b107 65 T_Q x83 :: eVar b100 65 T_Q x64 :: eSl v268 60 T_LossPiece (x43 ++ [x218.1]) :: eVar b30 65 T_Q x16 :: L) := O270.drop 0
 have O272 : Ow G221 H269 (eVar b100 65 T_Q x64 :: eSl v268 60 T_LossPiece (x43 ++ [x218.1]) :: eVar b30 65 T_Q x16 :: L) := O271.drop 0
 have O273 : Ow G221 H269 (eSl v268 60 T_LossPiece (x43 ++ [x218.1]) :: eVar b30 65 T_Q x16 :: L) := O272.drop 0
 exact ⟨k42, zAg _, ⟨(x43 ++ [x218.1]), z05 .i64 (x44 + 1), _, h266, O273, (zAe s50 (zAe s69 (zAe s88 (zAe s136 (zAe s154 (zAe s169 (zAe s193 (zAe s208 s223)))))))), rfl⟩⟩
def z6e (K : Nat) (p0 : zAd) (p1 : List zAd) : Option (List LossPiece × Int) := ((z66 K p0 p1 0).bind fun x1 => some (x1.1, x1.2))
theorem z9p (p0 : zAd) (v1 : Value) (p1 : List zAd) (hp1 : (rSl rS).rep G [v1] p1) (O : Ow G H (L)) (r : List LossPiece × Int) (h : z6e K p0 p1 = some r) :
    CRF Tryd.prog 26 [(.string p0), v1] G H (fun w0 => (eSl w0 60 T_LossPiece r.1 :: L)) (fun w0 v G' => v = .tuple #[w0, .int .i64 r.2]) := by
 unfold z6e at h
 refine CRF.og (n := 11) (fn := Tryd.f26) (by kernel_rfl) rfl rfl fun R kr => (.seq (.region (W.q1 (.slice none 0 0) rfl (W.q1 (.int .i64 0) rfl (.nil (.seq ?_))))))
 refine .region (W.q2 (.string p0) rfl (W.q2 v1 rfl ?_))
 obtain ⟨x1, i2, h3⟩ := z00 h
 refine W.lo rfl rfl (Lo.callPF (ps := []) (pw := fun w => [eSl w 60 T_LossPiece x1.1]) rfl (fn := Tryd.f80) (by kernel_rfl) rfl (mc rfl (mc rfl (mc rfl mn))) O (fun L' O' => z7v K p0 v1 p1 hp1 0 O' _ i2)) ?_
 rintro v12 H13 ⟨w9, G4, O5, s6, sm11, rfl⟩
 refine W.pure (v := w9) rfl rfl (z08 (oo rfl rfl) rfl) (W.pure (v := (.int .i64 x1.2)) rfl rfl (z08 (oo rfl rfl) rfl) (W.q1 w9 rfl (W.q1 (.int .i64 x1.2) rfl (.nil (.ret ?_)))))
 obtain rfl := zAa h3
 exact zh4 kr w9 (v1 := w9) (v2 := (.int .i64 x1.2)) (by rfl) (z09 (by rfl) (by exact rfl)) (z09 (by rfl) (by exact rfl)) O5 s6 rfl
def z7w (K : Nat) (p0 : zAd) (p1 : List zAd) : Option (List LossPiece × Int) := ((z66 K p0 p1 1).bind fun x1 => some (x1.1, x1.2))
theorem zau (p0 : zAd) (v1 : Value) (p1 : List zAd) (hp1 : (rSl rS).rep G [v1] p1) (O : Ow G H (L)) (r : List LossPiece × Int) (h : z7w K p0 p1 = some r) :
    CRF Tryd.prog 27 [(.string p0), v1] G H (fun w0 => (eSl w0 60 T_LossPiece r.1 :: L)) (fun w0 v G' => v = .tuple #[w0, .int .i64 r.2]) := by
 unfold z7w at h
 refine CRF.og (n := 11) (fn := Tryd.f27) (by kernel_rfl) rfl rfl fun R kr => (.seq (.region (W.q1 (.slice none 0 0) rfl (W.q1 (.int .i64 0) rfl (.nil (.seq ?_))))))
 refine .region (W.q2 (.string p0) rfl (W.q2 v1 rfl ?_))
 obtain ⟨x1, i2, h3⟩ := z00 h
 refine W.lo rfl rfl (Lo.callPF (ps := []) (pw := fun w => [eSl w 60 T_LossPiece x1.1]) rfl (fn := Tryd.f80) (by kernel_rfl) rfl (mc rfl (mc rfl (mc rfl mn))) O (fun L' O' => z7v K p0 v1 p1 hp1 1 O' _ i2)) ?_
 rintro v12 H13 ⟨w9, G4, O5, s6, sm11, rfl⟩
 refine W.pure (v := w9) rfl rfl (z08 (oo rfl rfl) rfl) (W.pure (v := (.int .i64 x1.2)) rfl rfl (z08 (oo rfl rfl) rfl) (W.q1 w9 rfl (W.q1 (.int .i64 x1.2) rfl (.nil (.ret ?_)))))
 obtain rfl := zAa h3
 exact zh4 kr w9 (v1 := w9) (v2 := (.int .i64 x1.2)) (by rfl) (z09 (by rfl) (by exact rfl)) (z09 (by rfl) (by exact rfl)) O5 s6 rfl
def z86 (K : Nat) (p0 : Q) (p1 : Q) (p2 : Q) (p3 : Q) : Option Q := ((z45 K p1 p2).bind fun x40 => ((z28 K p0 x40).bind fun x53 => ((z28 K x53 p3).bind fun x69 => ((z28 K p0 p1).bind fun x88 => ((z28 K x88 p2).bind fun x104 => ((z6o K x69 x104).bind fun x117 => some x117))))))
theorem z9b (v0 : List Value) (p0 : Q) (hp0 : T_Q.rep G v0 p0) (v1 : List Value) (p1 : Q) (hp1 : T_Q.rep G v1 p1) (v2 : List Value) (p2 : Q) (hp2 : T_Q.rep G v2 p2) (v3 : List Value) (p3 : Q) (hp3 : T_Q.rep G v3 p3) (O : Ow G H (L)) (r : Q) (h : z86 K p0 p1 p2 p3 = some r) :
    CR Tryd.prog 82 [.agg (List.toArray v0), .agg (List.toArray v1), .agg (List.toArray v2), .agg (List.toArray v3)] G H (L) (fun v G' _ => ∃ (w0 : List Value), v = .agg (List.toArray w0) /\ T_Q.rep G' w0 r) := by
 unfold z86 at h
 refine CR.og (n := 22) (fn := Tryd.f82) (by kernel_rfl) rfl rfl fun R kr => (.seq (.region (W.lo rfl rfl (Lo.box (r := T_Q) (x0 := p0) (v := (.agg (List.toArray v0))) rfl rfl hp0 O) ?_)))
 rintro v4 H5 ⟨b2, rfl, O1, sm3⟩
 refine W.lo rfl rfl (Lo.box (r := T_Q) (x0 := p1) (v := (.agg (List.toArray v1))) rfl rfl hp1 O1) ?_
 rintro v9 H10 ⟨b7, rfl, O6, sm8⟩
 refine W.lo rfl rfl (Lo.box (r := T_Q) (x0 := p2) (v := (.agg (List.toArray v2))) rfl rfl hp2 O6) ?_
 rintro v14 H15 ⟨b12, rfl, O11, sm13⟩
 refine W.lo rfl rfl (Lo.box (r := T_Q) (x0 := p3) (v := (.agg (List.toArray v3))) rfl rfl hp3 O11) ?_
 rintro v19 H20 ⟨b17, rfl, O16, sm18⟩
 refine W.lo rfl rfl (Lo.alloc (r := T_Q) (x0 := (Q.mk false ([] : List Int) ([] : List Int))) ze65 (by kernel_rfl) z_Q O16) ?_
 rintro v24 H25 ⟨b22, rfl, O21, sm23⟩
 refine .nil (.seq (.draw2 (M := [0, 0, 0, 6, 15, 0, 63, 0, 0, 511, 0, 2047, 4095, 8191]) mixed (by kernel_rfl) (by kernel_rfl) fun H26 N30 x27 F29 => ?_))
 have O28 := O21.ext x27
 obtain ⟨c31, p32, f33⟩ := (O28.atVar (j := 4) rfl)
 refine D2.loadA' (cs := c31) rfl rfl ag65 sz65 (z0q rfl p32) (RT.len _ f33) z02 ?_
 obtain ⟨c34, p35, f36⟩ := (O28.atVar (j := 3) rfl)
 refine D2.loadA' (cs := c34) rfl rfl ag65 sz65 (z0q rfl p35) (RT.len _ f36) z02 ?_
 obtain ⟨c37, p38, f39⟩ := (O28.atVar (j := 2) rfl)
 refine D2.loadA' (cs := c37) rfl rfl ag65 sz65 (z0q rfl p38) (RT.len _ f39) z02 ?_
 obtain ⟨x40, i41, h42⟩ := z00 h
 refine D2.lo rfl rfl (Lo.cP rfl (fn := Tryd.f34) (by kernel_rfl) rfl (mc rfl (mc rfl mn)) O28 (fun L' O' => z5j K c34 p1 f36 c37 p2 f39 O' _ i41)) ?_ z02 ?_ ?_
 .rintro v51 H52 ⟨G43, O44, s45, sm50, ⟨c47, rfl, f48⟩⟩; exact (faR1 (.inl (by decide)) (faR1 (.inl (by decide)) (faR1 (.inr (sm50 _ (Or.inr ⟨4, _, rfl, List.mem_singleton.2 rfl⟩))) z02)))
 .rintro v51 H52 ⟨G43, O44, s45, sm50, ⟨c47, rfl, f48⟩⟩; exact z02
 rintro v51 H52 ⟨G43, O44, s45, sm50, ⟨c47, rfl, f48⟩⟩
 obtain ⟨x53, i54, h55⟩ := z00 h42
 refine D2.lo rfl rfl (Lo.cP rfl (fn := Tryd.f93) (by kernel_rfl) rfl (mc rfl (mc rfl mn)) O44 (fun L' O' => z1z K c31 p0 (RT.mono _ s45 f33) c47 x40 f48 O' _ i54)) ?_ (z07 (by decide) z02) ?_ ?_
 .rintro v64 H65 ⟨G56, O57, s58, sm63, ⟨c60, rfl, f61⟩⟩; exact (faR1 (.inl (by decide)) (faR1 (.inl (by decide)) (faR1 (.inl (by decide)) z02)))
 .rintro v64 H65 ⟨G56, O57, s58, sm63, ⟨c60, rfl, f61⟩⟩; exact z02
 rintro v64 H65 ⟨G56, O57, s58, sm63, ⟨c60, rfl, f61⟩⟩
 obtain ⟨c66, p67, f68⟩ := (O57.atVar (j := 1) rfl)
 refine D2.loadA' (cs := c66) rfl rfl ag65 sz65 (z0q rfl p67) (RT.len _ f68) (z2g (sm63 _ (Or.inr ⟨1, _, rfl, List.mem_singleton.2 rfl⟩)) (z2g (sm50 _ (Or.inr ⟨1, _, rfl, List.mem_singleton.2 rfl⟩)) z02)) ?_
 obtain ⟨x69, i70, h71⟩ := z00 h55
 refine D2.lo rfl rfl (Lo.cP rfl (fn := Tryd.f93) (by kernel_rfl) rfl (mc rfl (mc rfl mn)) O57 (fun L' O' => z1z K c60 x53 f61 c66 p3 f68 O' _ i70)) ?_ (z07 (by decide) (z07 (by decide) z02)) ?_ ?_
 .rintro v80 H81 ⟨G72, O73, s74, sm79, ⟨c76, rfl, f77⟩⟩; exact (faR1 (.inl (by decide)) (faR1 (.inl (by decide)) (faR1 (.inl (by decide)) (faR1 (.inl (by decide)) z02))))
 .rintro v80 H81 ⟨G72, O73, s74, sm79, ⟨c76, rfl, f77⟩⟩; exact z02
 rintro v80 H81 ⟨G72, O73, s74, sm79, ⟨c76, rfl, f77⟩⟩
 obtain ⟨c82, p83, f84⟩ := (O73.atVar (j := 4) rfl)
 refine D2.loadA' (cs := c82) rfl rfl ag65 sz65 (z0q rfl p83) (RT.len _ f84) (z2g (sm79 _ (Or.inr ⟨4, _, rfl, List.mem_singleton.2 rfl⟩)) (z2g (sm63 _ (Or.inr ⟨4, _, rfl, List.mem_singleton.2 rfl⟩)) (z2g (sm50 _ (Or.inr ⟨4, _, rfl, List.mem_singleton.2 rfl⟩)) z02))) ?_
 obtain ⟨c85, p86, f87⟩ := (O73.atVar (j := 3) rfl)
 refine D2.loadA' (cs := c85) rfl rfl ag65 sz65 (z0q rfl p86) (RT.len _ f87) (z2g (sm79 _ (Or.inr ⟨3, _, rfl, List.mem_singleton.2 rfl⟩)) (z2g (sm63 _ (Or.inr ⟨3, _, rfl, List.mem_singleton.2 rfl⟩)) (z2g (sm50 _ (Or.inr ⟨3, _, rfl, List.mem_singleton.2 rfl⟩)) z02))) ?_
 obtain ⟨x88, i89, h90⟩ := z00 h71
 refine D2.lo rfl rfl (Lo.cP rfl (fn := Tryd.f93) (by kernel_rfl) rfl (mc rfl (mc rfl mn)) O73 (fun L' O' => z1z K c82 p0 f84 c85 p1 f87 O' _ i89)) ?_ (z07 (by decide) (z07 (by decide) (z07 (by decide) z02))) ?_ ?_
 .rintro v99 H100 ⟨G91, O92, s93, sm98, ⟨c95, rfl, f96⟩⟩; exact (faR1 (.inl (by decide)) (faR1 (.inl (by decide)) (faR1 (.inl (by decide)) (faR1 (.inl (by decide)) (faR1 (.inl (by decide)) (faR1 (.inl (by decide)) z02))))))
 .rintro v99 H100 ⟨G91, O92, s93, sm98, ⟨c95, rfl, f96⟩⟩; exact z02
 rintro v99 H100 ⟨G91, O92, s93, sm98, ⟨c95, rfl, f96⟩⟩
 obtain ⟨c101, p102, f103⟩ := (O92.atVar (j := 2) rfl)
 refine D2.loadA' (cs := c101) rfl rfl ag65 sz65 (z0q rfl p102) (RT.len _ f103) (z2g (sm98 _ (Or.inr ⟨2, _, rfl, List.mem_singleton.2 rfl⟩)) (z2g (sm79 _ (Or.inr ⟨2, _, rfl, List.mem_singleton.2 rfl⟩)) (z2g (sm63 _ (Or.inr ⟨2, _, rfl, List.mem_singleton.2 rfl⟩)) (z2g (sm50 _ (Or.inr ⟨2, _, rfl, List.mem_singleton.2 rfl⟩)) z02)))) ?_
 obtain ⟨x104, i105, h106⟩ := z00 h90
 refine D2.lo rfl rfl (Lo.cP rfl (fn := Tryd.f93) (by kernel_rfl) rfl (mc rfl (mc rfl mn)) O92 (fun L' O' => z1z K c95 x88 f96 c101 p2 f103 O' _ i105)) ?_ (z07 (by decide) (z07 (by decide) (z07 (by decide) (z07 (by decide) z02)))) ?_ ?_
 .rintro v115 H116 ⟨G107, O108, s109, sm114, ⟨c111, rfl, f112⟩⟩; exact (faR1 (.inl (by decide)) (faR1 (.inl (by decide)) (faR1 (.inl (by decide)) (faR1 (.inl (by decide)) (faR1 (.inl (by decide)) (faR1 (.inl (by decide)) (faR1 (.inl (by decide)) z02)))))))
 .rintro v115 H116 ⟨G107, O108, s109, sm114, ⟨c111, rfl, f112⟩⟩; exact z02
 rintro v115 H116 ⟨G107, O108, s109, sm114, ⟨c111, rfl, f112⟩⟩
 obtain ⟨x117, i118, h119⟩ := z00 h106
 refine D2.lo rfl rfl (Lo.cP rfl (fn := Tryd.f83) (by kernel_rfl) rfl (mc rfl (mc rfl mn)) O108 (fun L' O' => z76 K c76 x69 (RT.mono _ (zAe s93 s109) f77) c111 x104 f112 O' _ i118)) ?_ (z07 (by decide) (z07 (by decide) (z07 (by decide) (z07 (by decide) (z07 (by decide) z02))))) ?_ ?_
 .rintro v128 H129 ⟨G120, O121, s122, sm127, ⟨c124, rfl, f125⟩⟩; exact (faR1 (.inl (by decide)) (faR1 (.inl (by decide)) (faR1 (.inl (by decide)) (faR1 (.inl (by decide)) (faR1 (.inl (by decide)) (faR1 (.inl (by decide)) (faR1 (.inl (by decide)) z02)))))))
 .rintro v128 H129 ⟨G120, O121, s122, sm127, ⟨c124, rfl, f125⟩⟩; exact z02
 rintro v128 H129 ⟨G120, O121, s122, sm127, ⟨c124, rfl, f125⟩⟩
 refine D2.lo rfl rfl (Lo.storeVar (j := 0) (s := T_Q) (y0 := x117) (v := (.agg (List.toArray c124))) (o := 0) rfl ((Put.at (Put.self _) _ _)) rfl sz65 rfl (by omega) rfl f125 O121) ?_ (z07 (by decide) (z07 (by decide) (z07 (by decide) (z07 (by decide) (z07 (by decide) (z07 (by decide) z02)))))) ?_ ?_
 .rintro v132 H133 ⟨O130, sm131⟩; exact (faR1 (.inl (by decide)) (faR1 (.inl (by decide)) (faR1 (.inl (by decide)) (faR1 (.inl (by decide)) (faR1 (.inl (by decide)) (faR1 (.inl (by decide)) (faR1 (.inl (by decide)) z02)))))))
 .rintro v132 H133 ⟨O130, sm131⟩; exact z02
 rintro v132 H133 ⟨O130, sm131⟩
 refine .nil (.ret ?_)
 obtain ⟨c134, p135, f136⟩ := (O130.atVar (j := 0) rfl)
 have O137 : Ow G120 H133 (eVar b17 65 T_Q p3 :: eVar b12 65 T_Q p2 :: eVar b7 65 T_Q p1 :: eVar b2 65 T_Q p0 :: L) := O130.drop 0
 have O138 : Ow G120 H133 (eVar b12 65 T_Q p2 :: eVar b7 65 T_Q p1 :: eVar b2 65 T_Q p0 :: L) := O137.drop 0
 have O139 : Ow G120 H133 (eVar b7 65 T_Q p1 :: eVar b2 65 T_Q p0 :: L) := O138.drop 0
 have O140 : Ow G120 H133 (eVar b2 65 T_Q p0 :: L) := O139.drop 0
 have O141 : Ow G120 H133 (L) := O140.drop 0
 obtain rfl := zAa h119
 exact z16 kr (v1 := (.agg (List.toArray c134))) (by rfl) (z2d (p := (.pointer (some ⟨b22, 0, none⟩))) (by rfl) ag65 sz65 (by exact rfl) p135 (RT.len _ f136)) O141 (zAe s45 (zAe s58 (zAe s74 (zAe s93 (zAe s109 s122))))) ⟨c134, rfl, f136⟩
end Go.Am.Tryd
