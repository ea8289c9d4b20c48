/- Typed functions with the same answers as the program's, and the walks that show it. -/
import Derived.Test.YtdogeclnbdldaaaGreatDoorG2Z9
import Derived.Test.YtdogeclnbdldaaaGreatDoorG16Z9
set_option maxRecDepth 100000
set_option maxHeartbeats 8000000
set_option linter.unusedVariables false
set_option linter.unusedSimpArgs false
namespace Go.Am.Tryz
open Go Go.Am Go.Proofs
variable (K : Nat) {G : GM} {H : AH} {L : List Pc}
def z0q (K : Nat) (p0 : zAd) (p1 : zAd) : Option Bool := (Option.bind ((if (decide ((p0.size : Int) >= (p1.size : Int))) = true then ((ssl p0 0 (p1.size : Int)).bind fun x7 => some (sEq x7 p1)) else some false)) (tu1 fun x11 => some x11))
theorem z40 (p0 : zAd) (p1 : zAd) (O : Ow G H (L)) (r : Bool) (h : z0q K p0 p1 = some r) :
    CR Tryz.prog 170 [(.string p0), (.string p1)] G H (L) (fun v G' _ => v = .bool r) := by
 unfold z0q at h
 refine CR.og (n := 18) (fn := Tryz.f170) (by kernel_rfl) rfl rfl fun R kr => (.seq (.region (W.p1 (.bool false) (.nil (.seq ?_)))))
 obtain ⟨q1, h2, h3⟩ := z01 h
 refine AW.midT (fun σ' H' => ∃ (y1 : Bool) (G' : GM), y1 = q1 /\ Ow G' H' (L) /\ GM.le G G' /\ σ' 4 = .bool y1) ?_ ?_
 rotate_left
 .rintro σ12 H13 fr14 ⟨x11, G15, rfl, O16, s17, t19⟩
  have h20 := z09 h3
  refine .ret ?_
  obtain rfl := zAa h20
  exact z1q kr (v1 := (.bool x11)) (by rfl) (zjl (by rfl) (by exact t19)) O16 s17 rfl
 refine .region (W.p2 (.string p0) (W.pv (.int .i64 (p0.size : Int)) (z1h ov un9) (W.p2 (.string p1) (W.pv (.int .i64 (p1.size : Int)) (z1h ov un9) (W.p3 (.bool (decide ((p0.size : Int) >= (p1.size : Int)))) (W.p2 (.bool (decide ((p0.size : Int) >= (p1.size : Int)))) ?_))))))
 refine W.splitAt (t := 10) (b := decide ((p0.size : Int) >= (p1.size : Int))) rfl (fun g4 gv5 => ?_) (fun g4 gv5 => ?_)
 rotate_left
 .have h10 := z0j g4 h2
  refine W.q6 rfl gv5 (W.q6 rfl gv5 (W.q6 rfl gv5 (W.q6 rfl gv5 (W.q6 rfl gv5 (W.q6 rfl gv5 (W.q5 (.bool false) gv5 rfl ?_))))))
  refine W.p1 (.bool false) (.nil ?_)
  obtain rfl := zAa h10
  exact ⟨false, _, rfl, O, (zAf _), rfl⟩
 have h6 := z05 g4 h2
 refine W.q2 (hg := gk rfl rfl gv5 rfl) (.string p0) rfl (W.q2 (hg := gk rfl rfl gv5 rfl) (.string p1) rfl (W.pure (v := (.int .i64 (p1.size : Int))) (gk rfl rfl gv5 rfl) rfl (z1h ov un9) ?_))
 obtain ⟨x7, i8, h9⟩ := z01 h6
 refine W.pure (v := (.string x7)) (gk rfl rfl gv5 rfl) rfl (zha un9 ov ov i8) (W.q2 (hg := gk rfl rfl gv5 rfl) (.string p1) rfl (W.pure (v := (.bool (sEq x7 p1))) (gk rfl rfl gv5 rfl) rfl (z9j ov ov) (W.q4 (.bool (sEq x7 p1)) gv5 rfl (W.p1 (.bool (sEq x7 p1)) (.nil ?_)))))
 obtain rfl := zAa h9
 exact ⟨sEq x7 p1, _, rfl, O, (zAf _), rfl⟩
def z0r (K : Nat) (p0 : zAd) (p1 : zAd) : Option (zAd × Bool) := ((z0q K p0 p1).bind fun x1 => (if (!x1) = true then some (p0, false) else ((ssl p0 (p1.size : Int) (p0.size : Int)).bind fun x15 => some (x15, true))))
theorem z41 (p0 : zAd) (p1 : zAd) (O : Ow G H (L)) (r : zAd × Bool) (h : z0r K p0 p1 = some r) :
    CR Tryz.prog 163 [(.string p0), (.string p1)] G H (L) (fun v G' _ => v = .tuple #[.string r.1, .bool r.2]) := by
 unfold z0r at h
 refine CR.og (n := 15) (fn := Tryz.f163) (by kernel_rfl) rfl rfl fun R kr => (.seq (.region (W.p1 (.string (⟨#[]⟩ : zAd)) (W.p1 (.bool false) (.nil (.seq ?_))))))
 refine .seq (.region (W.p2 (.string p0) (W.p2 (.string p1) ?_)))
 obtain ⟨x1, i2, h3⟩ := z01 h
 refine W.ln (Lo.cP rfl (fn := Tryz.f170) (by kernel_rfl) rfl (mc rfl (mc rfl mn)) O (fun L' O' => z40 K p0 p1 O' _ i2)) ?_
 rintro v10 H11 ⟨G4, O5, s6, sm9, rfl⟩
 refine W.pv (.bool (!x1)) (zbu (a := x1) ov) (.nil (.cond (b := (!x1)) rfl rfl (fun g12 => ?_) (fun g12 => ?_)))
 .have h13 := z05 g12 h3
  refine .seq (.region (W.p2 (.string p0) (W.p1 (.string p0) (W.p1 (.bool false) (.nil (.ret ?_))))))
  obtain rfl := zAa h13
  exact ziw kr (v1 := (.string p0)) (v2 := (.bool false)) (by rfl) rt rt O5 s6 rfl
 have h14 := z0j g12 h3
 refine .skip (.seq (.region (W.p2 (.string p0) (W.p2 (.string p1) (W.pv (.int .i64 (p1.size : Int)) (z1h ov un9) ?_)))))
 obtain ⟨x15, i16, h17⟩ := z01 h14
 refine W.pv (.string x15) (zdr un9 ov ov i16) (W.p1 (.string x15) (W.p1 (.bool true) (.nil (.ret ?_))))
 obtain rfl := zAa h17
 exact ziw kr (v1 := (.string x15)) (v2 := (.bool true)) (by rfl) rt rt O5 s6 rfl
def z14 (K : Nat) (p0 : zAd) (p1 : zAd) : Option (zAd × Bool) := ((z0r K p0 p1).bind fun x1 => some (x1.1, x1.2))
theorem z4r (p0 : zAd) (p1 : zAd) (O : Ow G H (L)) (r : zAd × Bool) (h : z14 K p0 p1 = some r) :
    CR Tryz.prog 130 [(.string p0), (.string p1)] G H (L) (fun v G' _ => v = .tuple #[.string r.1, .bool r.2]) := by
 unfold z14 at h
 refine CR.og (n := 11) (fn := Tryz.f130) (by kernel_rfl) rfl rfl fun R kr => (.seq (.region (W.p1 (.string (⟨#[]⟩ : zAd)) (W.p1 (.bool false) (.nil (.seq ?_))))))
 refine .region (W.p2 (.string p0) (W.p2 (.string p1) ?_))
 obtain ⟨x1, i2, h3⟩ := z01 h
 refine W.ln (Lo.cP rfl (fn := Tryz.f163) (by kernel_rfl) rfl (mc rfl (mc rfl mn)) O (fun L' O' => z41 K p0 p1 O' _ i2)) ?_
 rintro v10 H11 ⟨G4, O5, s6, sm9, rfl⟩
 refine W.pv (.string x1.1) (z0b ov rfl) (W.pv (.bool x1.2) (z0b ov rfl) (W.p1 (.string x1.1) (W.p1 (.bool x1.2) (.nil (.ret ?_)))))
 obtain rfl := zAa h3
 exact ziw kr (v1 := (.string x1.1)) (v2 := (.bool x1.2)) (by rfl) rt rt O5 s6 rfl
def z0p (K : Nat) (p0 : zAd) (p1 : zAd) : Option Int := (Option.bind ((if ((p1.size : Int) == 0) = true then some true else some (sEq p1 p0))) (tu1 fun x8 => (if x8 = true then some 0 else (if ((p1.size : Int) == 1) = true then ((bidx p1 0).bind fun x23 => ((z1c K p0 x23).bind fun x26 => some x26)) else (if (decide ((p1.size : Int) >= (p0.size : Int))) = true then some (-1) else none)))))
theorem z4s (p0 : zAd) (p1 : zAd) (O : Ow G H (L)) (r : Int) (h : z0p K p0 p1 = some r) :
    CR Tryz.prog 171 [(.string p0), (.string p1)] G H (L) (fun v G' _ => v = .int .i64 r) := by
 unfold z0p at h
 refine CR.og (n := 143) (fn := Tryz.f171) (by kernel_rfl) rfl rfl fun R kr => (.seq (.region (W.p1 (.int .i64 0) (.nil (.seq (.region ?_))))))
 refine W.p2 (.string p1) (W.pv (.int .i64 (p1.size : Int)) (z1h ov un9) (W.p1 (.int .i64 (p1.size : Int)) (.nil (.seq (.block (.seq ?_))))))
 obtain ⟨q1, h2, h3⟩ := z01 h
 refine AW.midT (fun σ' H' => ∃ (y1 : Bool) (G' : GM), y1 = q1 /\ Ow G' H' (L) /\ GM.le G G' /\ σ' 16 = .bool y1) ?_ ?_
 .refine .region (W.p2 (.int .i64 (p1.size : Int)) (W.p3 (.bool ((p1.size : Int) == 0)) (W.p2 (.bool ((p1.size : Int) == 0)) (W.splitAt (t := 19) (b := ((p1.size : Int) == 0)) rfl (fun g4 gv5 => ?_) (fun g4 gv5 => ?_)))))
  .have h6 := z05 g4 h2
   refine W.q6 rfl gv5 (W.q6 rfl gv5 (W.q6 rfl gv5 (W.q4 (.bool true) gv5 rfl (W.p1 (.bool true) (.nil ?_)))))
   obtain rfl := zAa h6
   exact ⟨true, _, rfl, O, (zAf _), rfl⟩
  have h7 := z0j g4 h2
  refine W.q2 (hg := gk rfl rfl gv5 rfl) (.string p1) rfl (W.q2 (hg := gk rfl rfl gv5 rfl) (.string p0) rfl (W.pure (v := (.bool (sEq p1 p0))) (gk rfl rfl gv5 rfl) rfl (z9j ov ov) (W.q5 (.bool (sEq p1 p0)) gv5 rfl (W.p1 (.bool (sEq p1 p0)) (.nil ?_)))))
  obtain rfl := zAa h7
  exact ⟨sEq p1 p0, _, rfl, O, (zAf _), rfl⟩
 rintro σ9 H10 fr11 ⟨x8, G12, rfl, O13, s14, t16⟩
 have h17 := z09 h3
 refine .cond (b := x8) rfl t16 (fun g18 => ?_) (fun g18 => ?_)
 .have h19 := z05 g18 h17
  refine .seq (.region (W.p1 (.int .i64 0) (.nil (.ret ?_))))
  obtain rfl := zAa h19
  exact z1q kr (v1 := (.int .i64 0)) (by rfl) rt O13 s14 rfl
 have h20 := z0j g18 h17
 refine .seq (.region (W.q2 (.int .i64 (p1.size : Int)) ((fr11 5 rfl).trans rfl) (W.p3 (.bool ((p1.size : Int) == 1)) (W.p1 (.bool ((p1.size : Int) == 1)) (.nil (.cond (b := ((p1.size : Int) == 1)) rfl rfl (fun g21 => ?_) (fun g21 => ?_)))))))
 .have h22 := z05 g21 h20
  refine .seq (.region (W.q2 (.string p0) ((fr11 0 rfl).trans rfl) (W.q2 (.string p1) ((fr11 1 rfl).trans rfl) ?_)))
  obtain ⟨x23, i24, h25⟩ := z01 h22
  refine W.pv (.int .u8 x23) (za5 un9 ov ov i24) ?_
  obtain ⟨x26, i27, h28⟩ := z01 h25
  refine W.ln (Lo.cP rfl (fn := Tryz.f179) (by kernel_rfl) rfl (mc rfl (mc rfl mn)) O13 (fun L' O' => z3z K p0 x23 O' _ i27)) ?_
  rintro v35 H36 ⟨G29, O30, s31, sm34, rfl⟩
  refine W.p1 (.int .i64 x26) (.nil (.ret ?_))
  obtain rfl := zAa h28
  exact z1q kr (v1 := (.int .i64 x26)) (by rfl) rt O30 (zAe s14 s31) rfl
 have h37 := z0j g21 h20
 refine .seq (.region (W.q2 (.int .i64 (p1.size : Int)) ((fr11 5 rfl).trans rfl) (W.q2 (.string p0) ((fr11 0 rfl).trans rfl) (W.pv (.int .i64 (p0.size : Int)) (z1h ov un9) (W.p3 (.bool (decide ((p1.size : Int) >= (p0.size : Int)))) (W.p1 (.bool (decide ((p1.size : Int) >= (p0.size : Int)))) ?_))))))
 refine .nil (.cond (b := decide ((p1.size : Int) >= (p0.size : Int))) rfl rfl (fun g38 => ?_) (fun g38 => ?_))
 rotate_left
 .have h40 := z0j g38 h37
  refine .seq (.region (W.q2 (.int .i64 (p1.size : Int)) ((fr11 5 rfl).trans rfl) ?_))
  exact gap h40
 have h39 := z05 g38 h37
 refine .seq (.region (W.p1 (.int .i64 (-1)) (.nil (.ret ?_))))
 obtain rfl := zAa h39
 exact z1q kr (v1 := (.int .i64 (-1))) (by rfl) rt O13 s14 rfl
def z1e (K : Nat) (p0 : zAd) (p1 : zAd) : Option (zAd × zAd × Bool) := ((z0p K p0 p1).bind fun x1 => (if (decide (x1 >= 0)) = true then ((ssl p0 0 x1).bind fun x19 => ((ssl p0 (z02 .i64 (x1 + (p1.size : Int))) (p0.size : Int)).bind fun x22 => some (x19, x22, true))) else some (p0, (⟨#[]⟩ : zAd), false)))
theorem z53 (p0 : zAd) (p1 : zAd) (O : Ow G H (L)) (r : zAd × zAd × Bool) (h : z1e K p0 p1 = some r) :
    CR Tryz.prog 164 [(.string p0), (.string p1)] G H (L) (fun v G' _ => v = .tuple #[.string r.1, .string r.2.1, .bool r.2.2]) := by
 unfold z1e at h
 refine CR.og (n := 23) (fn := Tryz.f164) (by kernel_rfl) rfl rfl fun R kr => (.seq (.region (W.p1 (.string (⟨#[]⟩ : zAd)) (W.p1 (.string (⟨#[]⟩ : zAd)) (W.p1 (.bool false) (.nil ?_))))))
 refine .seq (.seq (.region (W.p2 (.string p0) (W.p2 (.string p1) ?_))))
 obtain ⟨x1, i2, h3⟩ := z01 h
 refine W.ln (Lo.cP rfl (fn := Tryz.f171) (by kernel_rfl) rfl (mc rfl (mc rfl mn)) O (fun L' O' => z4s K p0 p1 O' _ i2)) ?_
 rintro v10 H11 ⟨G4, O5, s6, sm9, rfl⟩
 refine W.p1 (.int .i64 x1) (.nil (.seq (.region (W.p2 (.int .i64 x1) (W.p3 (.bool (decide (x1 >= 0))) (.nil ?_))))))
 refine .cond (b := decide (x1 >= 0)) rfl rfl (fun g12 => ?_) (fun g12 => ?_)
 rotate_left
 .have h25 := z0j g12 h3
  refine .skip (.seq (.region (W.p2 (.string p0) (W.p1 (.string p0) (W.p1 (.string (⟨#[]⟩ : zAd)) (W.p1 (.bool false) ?_))))))
  refine .nil (.ret ?_)
  obtain rfl := zAa h25
  exact zn4 kr (v1 := (.string p0)) (v2 := (.string (⟨#[]⟩ : zAd))) (v3 := (.bool false)) (by rfl) rt rt rt O5 s6 rfl
 have h13 := z05 g12 h3
 refine .seq (.draw2 (M := [0, 0, 3, 0, 0, 0, 32, 112, 248, 7, 1023, 2047]) mixed (by kernel_rfl) (by kernel_rfl) fun H14 N18 x15 F17 => ?_)
 have O16 := O5.ext x15
 refine D2.p2 (.string p0) (D2.p2 (.int .i64 x1) ?_)
 obtain ⟨x19, i20, h21⟩ := z01 h13
 refine D2.pv (.string x19) (zha un9 ov ov i20) (D2.p2 (.string p0) (D2.p2 (.int .i64 x1) (D2.p2 (.string p1) (D2.pv (.int .i64 (p1.size : Int)) (z1h ov un9) (D2.p3 (.int .i64 (z02 .i64 (x1 + (p1.size : Int)))) ?_)))))
 obtain ⟨x22, i23, h24⟩ := z01 h21
 refine D2.pv (.string x22) (zdr un9 ov ov i23) (D2.p1 (.string x19) (D2.p1 (.string x22) (D2.p1 (.bool true) (.nil (.ret ?_)))))
 obtain rfl := zAa h24
 exact zn4 kr (v1 := (.string x19)) (v2 := (.string x22)) (v3 := (.bool true)) (by rfl) rt rt rt O16 s6 rfl
def z35 (K : Nat) (p0 : zAd) (p1 : zAd) : Option (zAd × zAd × Bool) := ((z1e K p0 p1).bind fun x1 => some (x1.1, x1.2.1, x1.2.2))
theorem z7a (p0 : zAd) (p1 : zAd) (O : Ow G H (L)) (r : zAd × zAd × Bool) (h : z35 K p0 p1 = some r) :
    CR Tryz.prog 131 [(.string p0), (.string p1)] G H (L) (fun v G' _ => v = .tuple #[.string r.1, .string r.2.1, .bool r.2.2]) := by
 unfold z35 at h
 refine CR.og (n := 13) (fn := Tryz.f131) (by kernel_rfl) rfl rfl fun R kr => (.seq (.region (W.p1 (.string (⟨#[]⟩ : zAd)) (W.p1 (.string (⟨#[]⟩ : zAd)) (W.p1 (.bool false) (.nil ?_))))))
 refine .seq (.region (W.p2 (.string p0) (W.p2 (.string p1) ?_)))
 obtain ⟨x1, i2, h3⟩ := z01 h
 refine W.ln (Lo.cP rfl (fn := Tryz.f164) (by kernel_rfl) rfl (mc rfl (mc rfl mn)) O (fun L' O' => z53 K p0 p1 O' _ i2)) ?_
 rintro v10 H11 ⟨G4, O5, s6, sm9, rfl⟩
 refine W.pv (.string x1.1) (z0b ov rfl) (W.pv (.string x1.2.1) (z0b ov rfl) (W.pv (.bool x1.2.2) (z0b ov rfl) (W.p1 (.string x1.1) (W.p1 (.string x1.2.1) (W.p1 (.bool x1.2.2) (.nil ?_))))))
 refine .ret ?_
 obtain rfl := zAa h3
 exact zn4 kr (v1 := (.string x1.1)) (v2 := (.string x1.2.1)) (v3 := (.bool x1.2.2)) (by rfl) rt rt rt O5 s6 rfl
def z15 (K : Nat) (p0 : zAd) : Nat -> Int -> Option (Int ⊕ Unit)
  | 0, _ => none
  | k + 1, x39 => (if (decide (x39 < (List.length (z03 p0) : Int))) = true then ((idx (z03 p0) x39).bind fun x50 => (Option.bind ((if (decide (x50 < 48)) = true then some true else some (decide (x50 > 57)))) (tu1 fun x61 => (if x61 = true then some (.inl 5) else z15 K p0 k (z02 .i64 (x39 + 1)))))) else some (.inr ()))
def z5a (K : Nat) (p0 : zAd) : Option Int := (Option.bind ((if (sEq p0 (⟨#[]⟩ : zAd)) = true then some true else ((bidx p0 0).bind fun x8 => (if (x8 == 48) = true then some (decide ((p0.size : Int) > 1)) else some false)))) (tu1 fun x15 => (if x15 = true then some 5 else (zbw (z15 K p0 K 0) (tu1 fun a87 => some a87) (tu0 (if (decide ((p0.size : Int) > 2000)) = true then some 2 else some 0))))))
theorem z8i (p0 : zAd) (O : Ow G H (L)) (r : Int) (h : z5a K p0 = some r) :
    CR Tryz.prog 132 [(.string p0)] G H (L) (fun v G' _ => v = .int .i64 r) := by
 unfold z5a at h
 refine CR.og (n := 34) (fn := Tryz.f132) (by kernel_rfl) rfl rfl fun R kr => (.seq (.region (W.p1 (.int .i64 0) (.nil (.seq (.seq ?_))))))
 obtain ⟨q1, h2, h3⟩ := z01 h
 refine AW.midT (fun σ' H' => ∃ (y1 : Bool) (G' : GM), y1 = q1 /\ Ow G' H' (L) /\ GM.le G G' /\ σ' 16 = .bool y1) ?_ ?_
 .refine .region (W.p2 (.string p0) (W.pv (.bool (sEq p0 (⟨#[]⟩ : zAd))) (z9j ov ov) (W.p2 (.bool (sEq p0 (⟨#[]⟩ : zAd))) (W.splitAt (t := 7) (b := sEq p0 (⟨#[]⟩ : zAd)) rfl (fun g4 gv5 => ?_) (fun g4 gv5 => ?_)))))
  .have h6 := z05 g4 h2
   refine W.q6 rfl gv5 (W.q6 rfl gv5 (W.q6 rfl gv5 (W.q6 rfl gv5 (W.skipU rfl rfl rfl rfl (W.skipU rfl rfl rfl rfl (W.skipU rfl rfl rfl rfl ?_))))))
   refine W.q6 rfl gv5 (W.q4 (.bool true) gv5 rfl (.nil ?_))
   obtain rfl := zAa h6
   exact ⟨true, _, rfl, O, (zAf _), rfl⟩
  have h7 := z0j g4 h2
  refine W.q2 (hg := gk rfl rfl gv5 rfl) (.string p0) rfl ?_
  obtain ⟨x8, i9, h10⟩ := z01 h7
  refine W.pure (v := (.int .u8 x8)) (gk rfl rfl gv5 rfl) rfl (za5 un9 ov ov i9) (W.q3 (hg := gk rfl rfl gv5 rfl) (.bool (x8 == 48)) rfl rfl (W.q2 (hg := gk rfl rfl gv5 rfl) (.bool (x8 == 48)) rfl (W.splitAt (t := 11) (b := (x8 == 48)) rfl (fun g11 gv12 => ?_) (fun g11 gv12 => ?_))))
  rotate_left
  .have h14 := z0j g11 h10
   refine W.q6 rfl gv12 (W.q6 rfl gv12 (W.q6 rfl gv12 (W.q5 (hg := gk rfl rfl gv5 rfl) (.bool false) gv12 rfl (W.q5 (.bool false) gv5 rfl (.nil ?_)))))
   obtain rfl := zAa h14
   exact ⟨false, _, rfl, O, (zAf _), rfl⟩
  have h13 := z05 g11 h10
  refine W.q2 (hg := gk rfl rfl gv12 rfl) (.string p0) rfl (W.pure (v := (.int .i64 (p0.size : Int))) (gk rfl rfl gv12 rfl) rfl (z1h ov un9) (W.q3 (hg := gk rfl rfl gv12 rfl) (.bool (decide ((p0.size : Int) > 1))) rfl rfl (W.q4 (hg := gk rfl rfl gv5 rfl) (.bool (decide ((p0.size : Int) > 1))) gv12 rfl (W.q5 (.bool (decide ((p0.size : Int) > 1))) gv5 rfl (.nil ?_)))))
  obtain rfl := zAa h13
  exact ⟨decide ((p0.size : Int) > 1), _, rfl, O, (zAf _), rfl⟩
 rintro σ16 H17 fr18 ⟨x15, G19, rfl, O20, s21, t23⟩
 have h24 := z09 h3
 refine .cond (b := x15) rfl t23 (fun g25 => ?_) (fun g25 => ?_)
 .have h26 := z05 g25 h24
  refine .seq (.region (W.p1 (.int .i64 5) (.nil (.ret ?_))))
  obtain rfl := zAa h26
  exact z1q kr (v1 := (.int .i64 5)) (by rfl) rt O20 s21 rfl
 have h27 := z0j g25 h24
 refine .skip (.seq (.seq (.region (W.q2 (.string p0) ((fr18 0 rfl).trans rfl) (W.ln (Lo.bytes rfl un9 zjn in5 rfl O20) ?_)))))
 rintro v33 H34 ⟨G29, O28, s30, sm32, f31⟩
 refine W.pv (.int .i64 (List.length (z03 p0) : Int)) (z0i ov (z0c f31) (z04 zjn)) (W.p2 (.int .i64 0) (.nil ?_))
 obtain ⟨q35, h36, h37⟩ := z3m h27
 refine AW.midT (fun σ' H' => ∃  (G' : GM), (.inr ()) = q35 /\ Ow G' H' (L) /\ GM.le G29 G') ?_ ?_
 rotate_left
 .rintro σ76 H77 fr78 ⟨G79, rfl, O80, s81⟩
  have h83 := z6y (z9i h37)
  refine .seq (.seq (.region (W.q2 (.string p0) ((fr78 0 rfl).trans ((fr18 0 rfl).trans rfl)) (W.pv (.int .i64 (p0.size : Int)) (z1h ov un9) (W.p3 (.bool (decide ((p0.size : Int) > 2000))) (.nil ?_))))))
  refine .cond (b := decide ((p0.size : Int) > 2000)) rfl rfl (fun g84 => ?_) (fun g84 => ?_)
  .have h85 := z05 g84 h83
   refine .seq (.region (W.p1 (.int .i64 2) (.nil (.ret ?_))))
   obtain rfl := zAa h85
   exact z1q kr (v1 := (.int .i64 2)) (by rfl) rt O80 (zAe s21 (zAe s30 s81)) rfl
  have h86 := z0j g84 h83
  refine .skip (.seq (.region (W.p1 (.int .i64 0) (.nil (.ret ?_)))))
  obtain rfl := zAa h86
  exact z1q kr (v1 := (.int .i64 0)) (by rfl) rt O80 (zAe s21 (zAe s30 s81)) rfl
 refine .block (AW.loop (α := Nat) (fun k' σ' H' => ∃ (y1 : Int) (G' : GM), z15 K p0 k' y1 = some q35 /\ Ow G' H' (L) /\ GM.le G29 G' /\ σ' 20 = .int .i64 y1) (fun k' => k') K ⟨0, _, h36, O28, (zAf _), rfl⟩ ?_)
 rintro k38
 rintro σ40 H41 fr42 ⟨x39, G43, h46, O44, s45, t47⟩
 rcases k38 with _ | k38
 .exact z07 h46
 rw [z15] at h46
 refine .seq (.region (W.q3 (.bool (decide (x39 < (List.length (z03 p0) : Int)))) t47 ((fr42 19 rfl).trans rfl) (.nil (.seq (.cond (b := decide (x39 < (List.length (z03 p0) : Int))) rfl rfl (fun g48 => ?_) (fun g48 => ?_))))))
 rotate_left
 .have h75 := z0j g48 h46
  refine .exit ?_
  obtain rfl := zAa h75
  exact ⟨_, rfl, O44, s45⟩
 have h49 := z05 g48 h46
 refine .skip (.seq (.block (.seq (.region ?_))))
 obtain ⟨x50, i51, h52⟩ := z01 h49
 have j53 := z0a i51
 refine W.pv (z1m v33 (x39.toNat * 1)) (z2e zjn sz5 (ou ((fr42 18 rfl).trans rfl)) (ou t47) (z0c (RT.mono _ s45 f31)) j53.1 j53.2.1) (W.load1 (v := (.int .u8 x50)) (r := []) rfl rfl ag5 (z0t rfl (At.int (At.le (At.le (z2f f31 j53.2.2) s45 s45) (zAf _) O44.fro))) (W.p1 (.int .u8 x50) (.nil (.seq ?_))))
 obtain ⟨q54, h55, h56⟩ := z01 h52
 refine AW.midT (fun σ' H' => ∃ (y1 : Bool) (G' : GM), y1 = q54 /\ Ow G' H' (L) /\ GM.le G43 G' /\ σ' 29 = .bool y1) ?_ ?_
 rotate_left
 .rintro σ62 H63 fr64 ⟨x61, G65, rfl, O66, s67, t69⟩
  have h70 := z09 h56
  refine .cond (b := x61) rfl t69 (fun g71 => ?_) (fun g71 => ?_)
  rotate_left
  .have h74 := z0j g71 h70
   refine .skip (.region (W.q3 (.int .i64 (z02 .i64 (x39 + 1))) ((fr64 20 rfl).trans t47) rfl (W.p2 (.int .i64 (z02 .i64 (x39 + 1))) (.nil ?_))))
   exact ⟨k38, zAg _, ⟨z02 .i64 (x39 + 1), _, h74, O66, (zAe s45 s67), rfl⟩⟩
  have h72 := z05 g71 h70
  refine .seq (.region (W.p1 (.int .i64 5) (.nil (.ret ?_))))
  obtain rfl := zAa h72
  have h73 := z09 (z7t h37)
  obtain rfl := zAa h73
  exact z1q kr (v1 := (.int .i64 5)) (by rfl) rt O66 (zAe s21 (zAe s30 (zAe s45 s67))) rfl
 refine .region (W.p2 (.int .u8 x50) (W.p3 (.bool (decide (x50 < 48))) (W.p2 (.bool (decide (x50 < 48))) (W.splitAt (t := 26) (b := decide (x50 < 48)) rfl (fun g57 gv58 => ?_) (fun g57 gv58 => ?_)))))
 .have h59 := z05 g57 h55
  refine W.q6 rfl gv58 (W.q6 rfl gv58 (W.q4 (.bool true) gv58 rfl (.nil ?_)))
  obtain rfl := zAa h59
  exact ⟨true, _, rfl, O44, (zAf _), rfl⟩
 have h60 := z0j g57 h55
 refine W.q2 (hg := gk rfl rfl gv58 rfl) (.int .u8 x50) rfl (W.q3 (hg := gk rfl rfl gv58 rfl) (.bool (decide (x50 > 57))) rfl rfl (W.q5 (.bool (decide (x50 > 57))) gv58 rfl (.nil ?_)))
 obtain rfl := zAa h60
 exact ⟨decide (x50 > 57), _, rfl, O44, (zAf _), rfl⟩
def z2g (K : Nat) : Nat -> List Int -> Option (List Int)
  | 0, _ => none
  | k + 1, x5 => (Option.bind ((if (decide ((x5.length : Int) > 0)) = true then ((idx x5 (z02 .i64 ((x5.length : Int) - 1))).bind fun x19 => some (x19 == 0)) else some false)) (tu1 fun x24 => (if x24 = true then ((lsl x5 0 (z02 .i64 ((x5.length : Int) - 1))).bind fun x36 => z2g K k x36) else some x5)))
def z1n (K : Nat) (p0 : List Int) : Option (List Int) := (Option.bind (z2g K K p0) (tu1 fun x43 => some x43))
theorem z2h (v0 : Value) (p0 : List Int) (O : Ow G H (eSl v0 181 (rI .u32) p0 :: L)) (r : List Int) (h : z1n K p0 = some r) :
    CRF Tryz.prog 165 [v0] G H (fun w0 => (eSl w0 181 (rI .u32) r :: L)) (fun w0 v G' => w0 = v) := by
 unfold z1n at h
 refine CRF.og (n := 21) (fn := Tryz.f165) (by kernel_rfl) rfl rfl fun R kr => (.seq (.region (W.p1 (.slice none 0 0) (.nil (.seq ?_)))))
 obtain ⟨q1, h2, h3⟩ := z01 h
 refine AW.midT (fun σ' H' => ∃ (y1 : List Int) (G' : GM), y1 = q1 /\ Ow G' H' (eSl (σ' 0) 181 (rI .u32) y1 :: L) /\ GM.le G G') ?_ ?_
 rotate_left
 .rintro σ44 H45 fr46 ⟨x43, G47, rfl, O48, s49⟩
  have h51 := z09 h3
  refine .seq (.region (W.p2 (σ44 0) (W.p1 (σ44 0) (.nil (.ret ?_)))))
  obtain rfl := zAa h51
  exact zat kr (σ44 0) (v1 := (σ44 0)) (by rfl) rt O48 s49 rfl
 refine .block (AW.loop (α := Nat) (fun k' σ' H' => ∃ (y1 : List Int) (G' : GM), z2g K k' y1 = some q1 /\ Ow G' H' (eSl (σ' 0) 181 (rI .u32) y1 :: L) /\ GM.le G G') (fun k' => k') K ⟨p0, _, h2, O, (zAf _)⟩ ?_)
 rintro k4
 rintro σ6 H7 fr8 ⟨x5, G9, h12, O10, s11⟩
 rcases k4 with _ | k4
 .exact z07 h12
 rw [z2g] at h12
 refine .seq (.seq ?_)
 obtain ⟨q13, h14, h15⟩ := z01 h12
 refine AW.midT (fun σ' H' => ∃ (y1 : Bool) (G' : GM), y1 = q13 /\ Ow G' H' (eSl (σ6 0) 181 (rI .u32) x5 :: L) /\ GM.le G9 G' /\ σ' 14 = .bool y1) ?_ ?_
 rotate_left
 .rintro σ25 H26 fr27 ⟨x24, G28, rfl, O29, s30, t32⟩
  have h33 := z09 h15
  refine .cond (b := x24) rfl t32 (fun g34 => ?_) (fun g34 => ?_)
  rotate_left
  .have h42 := z0j g34 h33
   refine .exit ?_
   obtain rfl := zAa h42
   exact ⟨x5, _, rfl, (Ow.reval (j := 0) O29 rfl ((fr27 0 rfl).trans rfl)), (zAe s11 s30)⟩
  have h35 := z05 g34 h33
  refine .skip (.block (.region (W.q2 (σ6 0) ((fr27 0 rfl).trans rfl) (W.q2 (σ6 0) ((fr27 0 rfl).trans rfl) (W.pv (.int .i64 (x5.length : Int)) (z0i ov (O29.slLen (j := 0) rfl) (z04 el94)) (W.p3 (.int .i64 (z02 .i64 ((x5.length : Int) - 1))) ?_))))))
  obtain ⟨x36, i37, h38⟩ := z01 h35
  obtain ⟨w39, e41, O40⟩ := O29.pre (j := 0) rfl el94 z3y i37
  refine W.pv w39 (e41 ov ov) (W.p1 w39 (.nil ?_))
  exact ⟨k4, zAg _, ⟨x36, _, h38, O40, (zAe s11 s30)⟩⟩
 refine .region (W.p2 (σ6 0) (W.pv (.int .i64 (x5.length : Int)) (z0i ov (O10.slLen (j := 0) rfl) (z04 el94)) (W.p3 (.bool (decide ((x5.length : Int) > 0))) (W.p2 (.bool (decide ((x5.length : Int) > 0))) (W.splitAt (t := 6) (b := decide ((x5.length : Int) > 0)) rfl (fun g16 gv17 => ?_) (fun g16 gv17 => ?_))))))
 rotate_left
 .have h23 := z0j g16 h14
  refine W.q6 rfl gv17 (W.q6 rfl gv17 (W.q6 rfl gv17 (W.q6 rfl gv17 (W.q6 rfl gv17 (W.q6 rfl gv17 (W.q6 rfl gv17 ?_))))))
  refine W.q5 (.bool false) gv17 rfl (.nil ?_)
  obtain rfl := zAa h23
  exact ⟨false, _, rfl, O10, (zAf _), rfl⟩
 have h18 := z05 g16 h14
 refine W.q2 (hg := gk rfl rfl gv17 rfl) (σ6 0) rfl (W.q2 (hg := gk rfl rfl gv17 rfl) (σ6 0) rfl (W.pure (v := (.int .i64 (x5.length : Int))) (gk rfl rfl gv17 rfl) rfl (z0i ov (O10.slLen (j := 0) rfl) (z04 el94)) (W.q3 (hg := gk rfl rfl gv17 rfl) (.int .i64 (z02 .i64 ((x5.length : Int) - 1))) rfl rfl ?_)))
 obtain ⟨x19, i20, h21⟩ := z01 h18
 have j22 := z0a i20
 refine W.pure (v := (z1m (σ6 0) (Int.toNat (z02 .i64 ((x5.length : Int) - 1)) * 1))) (gk rfl rfl gv17 rfl) rfl (z2e el94 z3y ov ov (O10.slLen (j := 0) rfl) j22.1 j22.2.1) (W.load1 (v := (.int .u32 x19)) (r := []) (gk rfl rfl gv17 rfl) rfl z98 (z0t rfl (At.int (O10.atSl (j := 0) rfl j22.2.2))) (W.q3 (hg := gk rfl rfl gv17 rfl) (.bool (x19 == 0)) rfl rfl (W.q4 (.bool (x19 == 0)) gv17 rfl (.nil ?_))))
 obtain rfl := zAa h21
 exact ⟨(x19 == 0), _, rfl, O10, (zAf _), rfl⟩
def z29 (K : Nat) (x18 : zAd) : Nat -> Int -> Int -> Option (Int)
  | 0, _, _ => none
  | k + 1, x32, x33 => (if (decide (x33 < (List.length (z03 x18) : Int))) = true then ((idx (z03 x18) x33).bind fun x45 => (lt (z02 .u32 ((z02 .u32 (x32 * 10)) + (IntKind.wrap .u32 (z02 .u8 (x45 - 48))))) fun x49 => z29 K x18 k x49 (z02 .i64 (x33 + 1)))) else some x32)
def z2o (K : Nat) (p0 : zAd) : Nat -> List Int -> Int -> Option (List Int)
  | 0, _, _ => none
  | k + 1, x6, x7 => (if (decide (x7 > 0)) = true then ((ssl p0 (imax 0 (z02 .i64 (x7 - 9))) x7).bind fun x18 => (Option.bind (z29 K x18 K 0 0) (tu1 fun x53 => (if x6.length + List.length [x53] <= 16777216 then z2o K p0 k (x6 ++ [x53]) (z02 .i64 (x7 - 9)) else none)))) else some x6)
def z4t (K : Nat) (p0 : zAd) : Option (List Int) := (Option.bind (z2o K p0 K [] (p0.size : Int)) (tu1 fun x78 => ((z1n K x78).bind fun x87 => some x87)))
theorem z5s (p0 : zAd) (O : Ow G H (L)) (r : List Int) (h : z4t K p0 = some r) :
    CRF Tryz.prog 133 [(.string p0)] G H (fun w0 => (eSl w0 181 (rI .u32) r :: L)) (fun w0 v G' => w0 = v) := by
 unfold z4t at h
 refine CRF.og (n := 39) (fn := Tryz.f133) (by kernel_rfl) rfl rfl fun R kr => (.seq (.region (W.p1 (.slice none 0 0) (.nil (.seq (.region ?_))))))
 refine W.p1 (.slice none 0 0) (.nil (.seq (.seq (.region (W.p2 (.string p0) (W.pv (.int .i64 (p0.size : Int)) (z1h ov un9) ?_))))))
 refine W.p1 (.int .i64 (p0.size : Int)) (.nil ?_)
 obtain ⟨q1, h2, h3⟩ := z01 h
 refine AW.midT (fun σ' H' => ∃ (y1 : List Int) (G' : GM), y1 = q1 /\ Ow G' H' (eSl (σ' 3) 181 (rI .u32) y1 :: L) /\ GM.le G G') ?_ ?_
 rotate_left
 .rintro σ79 H80 fr81 ⟨x78, G82, rfl, O83, s84⟩
  have h86 := z09 h3
  refine .seq (.region (W.p2 (σ79 3) ?_))
  obtain ⟨x87, i88, h89⟩ := z01 h86
  refine W.ln (Lo.callPF (ps := [eSl (σ79 3) 181 (rI .u32) x78]) (pw := fun w => [eSl w 181 (rI .u32) x87]) rfl (fn := Tryz.f165) (by kernel_rfl) rfl (mc rfl mn) O83 (fun L' O' => z2h K (σ79 3) x78 O' _ i88)) ?_
  rintro v98 H99 ⟨w95, G90, O91, s92, sm97, rfl⟩
  refine W.p1 w95 (.nil (.ret ?_))
  obtain rfl := zAa h89
  exact zat kr w95 (v1 := w95) (by rfl) rt O91 (zAe s84 s92) rfl
 refine .block ?_
 have O4 := O.nilSl 181 (rI .u32)
 refine AW.loop (α := Nat) (fun k' σ' H' => ∃ (y1 : List Int) (y2 : Int) (G' : GM), z2o K p0 k' y1 y2 = some q1 /\ Ow G' H' (eSl (σ' 3) 181 (rI .u32) y1 :: L) /\ GM.le G G' /\ σ' 4 = .int .i64 y2) (fun k' => k') K ⟨[], (p0.size : Int), _, h2, O4, (zAf _), rfl⟩ ?_
 rintro k5
 rintro σ8 H9 fr10 ⟨x6, x7, G11, h14, O12, s13, t15⟩
 rcases k5 with _ | k5
 .exact z07 h14
 rw [z2o] at h14
 refine .seq (.seq (.region (W.q2 _ t15 (W.p3 (.bool (decide (x7 > 0))) (.nil (.cond (b := decide (x7 > 0)) rfl rfl (fun g16 => ?_) (fun g16 => ?_)))))))
 rotate_left
 .have h77 := z0j g16 h14
  refine .exit ?_
  obtain rfl := zAa h77
  exact ⟨x6, _, rfl, O12, s13⟩
 have h17 := z05 g16 h14
 refine .skip (.seq (.block (.seq (.region (W.p1 (.int .u32 0) (.nil ?_))))))
 refine .seq (.seq (.region (W.q2 (.string p0) ((fr10 0 rfl).trans rfl) (W.q2 _ t15 (W.p3 (.int .i64 (z02 .i64 (x7 - 9))) (W.pv (.int .i64 (imax 0 (z02 .i64 (x7 - 9)))) (zp6 ov ov) ?_))))))
 refine W.q2 _ t15 ?_
 obtain ⟨x18, i19, h20⟩ := z01 h17
 refine W.pv (.string x18) (zkt un9 ov ov ov i19) (W.ln (Lo.bytes rfl un9 zjn in5 rfl O12) ?_)
 rintro v26 H27 ⟨G22, O21, s23, sm25, f24⟩
 refine W.pv (.int .i64 (List.length (z03 x18) : Int)) (z0i ov (z0c f24) (z04 zjn)) (W.p2 (.int .i64 0) (.nil ?_))
 obtain ⟨q28, h29, h30⟩ := z01 h20
 refine AW.midT (fun σ' H' => ∃ (y1 : Int) (G' : GM), y1 = q28 /\ Ow G' H' (eSl (σ8 3) 181 (rI .u32) x6 :: L) /\ GM.le G22 G' /\ σ' 5 = .int .u32 y1) ?_ ?_
 rotate_left
 .rintro σ54 H55 fr56 ⟨x53, G57, rfl, O58, s59, t61⟩
  have h62 := z09 h30
  refine .region (W.q2 (σ8 3) ((fr56 3 rfl).trans rfl) (W.q2 _ t61 (W.ln (Lo.buildSlice (r := (rI .u32)) (vs := [(.int .u32 x53)]) (xs := [x53]) el94 zb9 z3y (by kernel_rfl) rfl (qc rfl qn) rfl (.cons rfl .nil) O58) ?_)))
  rintro v65 H66 ⟨O63, sm64⟩
  obtain ⟨es68, e69, e70⟩ := z4p (j := 0) rfl O63
  obtain ⟨g71, h72⟩ := z2l h62
  refine W.ln (Lo.append (j := 1) (v := (σ8 3)) rfl rfl el94 ni94 zb9 z3y zhc (by decide) (by decide) rfl e69 e70 g71 O63) ?_
  rintro v74 H75 ⟨O67, sm73⟩
  refine W.p1 v74 (.nil (.region (W.q2 _ ((fr56 4 rfl).trans t15) (W.p3 (.int .i64 (z02 .i64 (x7 - 9))) (W.p1 (.int .i64 (z02 .i64 (x7 - 9))) (.nil ?_))))))
  have O76 := O67.drop 0
  exact ⟨k5, zAg _, ⟨(x6 ++ [x53]), z02 .i64 (x7 - 9), _, h72, O76, (zAe s13 (zAe s23 s59)), rfl⟩⟩
 refine .block (AW.loop (α := Nat) (fun k' σ' H' => ∃ (y1 : Int) (y2 : Int) (G' : GM), z29 K x18 k' y1 y2 = some q28 /\ Ow G' H' (eSl (σ8 3) 181 (rI .u32) x6 :: L) /\ GM.le G22 G' /\ σ' 5 = .int .u32 y1 /\ σ' 22 = .int .i64 y2) (fun k' => k') K ⟨0, 0, _, h29, O21, (zAf _), rfl, rfl⟩ ?_)
 rintro k31
 rintro σ34 H35 fr36 ⟨x32, x33, G37, h40, O38, s39, t41, t42⟩
 rcases k31 with _ | k31
 .exact z07 h40
 rw [z29] at h40
 refine .seq (.region (W.q3 (.bool (decide (x33 < (List.length (z03 x18) : Int)))) t42 ((fr36 21 rfl).trans rfl) (.nil (.seq (.cond (b := decide (x33 < (List.length (z03 x18) : Int))) rfl rfl (fun g43 => ?_) (fun g43 => ?_))))))
 rotate_left
 .have h52 := z0j g43 h40
  refine .exit ?_
  obtain rfl := zAa h52
  exact ⟨x32, _, rfl, O38, s39, t41⟩
 have h44 := z05 g43 h40
 refine .skip (.seq (.block (.seq (.region ?_))))
 obtain ⟨x45, i46, h47⟩ := z01 h44
 have j48 := z0a i46
 refine W.pv (z1m v26 (x33.toNat * 1)) (z2e zjn sz5 (ou ((fr36 20 rfl).trans rfl)) (ou t42) (z0c (RT.mono _ s39 f24)) j48.1 j48.2.1) (W.load1 (v := (.int .u8 x45)) (r := []) rfl rfl ag5 (z0t rfl (At.int (At.le (At.le (z2f f24 j48.2.2) s39 s39) (zAf _) O38.fro))) (W.p1 (.int .u8 x45) (.nil (.region (W.q2 _ t41 (W.p3 (.int .u32 (z02 .u32 (x32 * 10))) ?_))))))
 refine W.p2 (.int .u8 x45) (W.p3 (.int .u8 (z02 .u8 (x45 - 48))) (W.pv (.int .u32 (IntKind.wrap .u32 (z02 .u8 (x45 - 48)))) (z3n in5 z8v ov) (W.p3 (.int .u32 (z02 .u32 ((z02 .u32 (x32 * 10)) + (IntKind.wrap .u32 (z02 .u8 (x45 - 48)))))) ?_)))
 obtain ⟨x49, e50, h51⟩ := z67 h47
 refine W.q1 _ (congrArg (Value.int .u32) e50) (.nil (.region (W.r3 (.int .i64 (z02 .i64 (x33 + 1))) t42 (W.p2 (.int .i64 (z02 .i64 (x33 + 1))) (.nil ?_)))))
 exact ⟨k31, zAg _, ⟨x49, z02 .i64 (x33 + 1), _, h51, O38, s39, rfl, rfl⟩⟩
def z1f (K : Nat) (p0 : List Int) (p1 : List Int) : Nat -> Int -> Option (Int ⊕ Unit)
  | 0, _ => none
  | k + 1, x11 => (if (decide (x11 >= 0)) = true then ((idx p0 x11).bind fun x27 => ((idx p1 x11).bind fun x31 => (if (decide (x27 < x31)) = true then some (.inl (-1)) else ((idx p0 x11).bind fun x44 => ((idx p1 x11).bind fun x48 => (if (decide (x44 > x48)) = true then some (.inl 1) else z1f K p0 p1 k (z02 .i64 (x11 - 1)))))))) else some (.inr ()))
def z3t (K : Nat) (p0 : List Int) (p1 : List Int) : Option Int := (if ((p0.length : Int) != (p1.length : Int)) = true then (if (decide ((p0.length : Int) < (p1.length : Int))) = true then some (-1) else some 1) else (zbw (z1f K p0 p1 K (z02 .i64 ((p0.length : Int) - 1))) (tu1 fun a65 => some a65) (tu0 (some 0))))
theorem z54 (v0 : Value) (p0 : List Int) (hp0 : (rSl (rI .u32)).rep G [v0] p0) (v1 : Value) (p1 : List Int) (hp1 : (rSl (rI .u32)).rep G [v1] p1) (O : Ow G H (L)) (r : Int) (h : z3t K p0 p1 = some r) :
    CR Tryz.prog 135 [v0, v1] G H (L) (fun v G' _ => v = .int .i64 r) := by
 unfold z3t at h
 refine CR.og (n := 43) (fn := Tryz.f135) (by kernel_rfl) rfl rfl fun R kr => (.seq (.region (W.p1 (.int .i64 0) (.nil (.seq (.seq ?_))))))
 refine .region (W.p2 v0 (W.pv (.int .i64 (p0.length : Int)) (z0i ov (z0c hp0) (z04 el94)) (W.p2 v1 (W.pv (.int .i64 (p1.length : Int)) (z0i ov (z0c hp1) (z04 el94)) (W.p3 (.bool ((p0.length : Int) != (p1.length : Int))) (.nil ?_))))))
 refine .cond (b := ((p0.length : Int) != (p1.length : Int))) rfl rfl (fun g1 => ?_) (fun g1 => ?_)
 .have h2 := z05 g1 h
  refine .seq (.seq (.region (W.p2 v0 (W.pv (.int .i64 (p0.length : Int)) (z0i ov (z0c hp0) (z04 el94)) (W.p2 v1 (W.pv (.int .i64 (p1.length : Int)) (z0i ov (z0c hp1) (z04 el94)) ?_))))))
  refine W.p3 (.bool (decide ((p0.length : Int) < (p1.length : Int)))) (.nil (.cond (b := decide ((p0.length : Int) < (p1.length : Int))) rfl rfl (fun g3 => ?_) (fun g3 => ?_)))
  .have h4 := z05 g3 h2
   refine .seq (.region (W.p1 (.int .i64 (-1)) (.nil (.ret ?_))))
   obtain rfl := zAa h4
   exact z1q kr (v1 := (.int .i64 (-1))) (by rfl) rt O (zAf _) rfl
  have h5 := z0j g3 h2
  refine .skip (.seq (.region (W.p1 (.int .i64 1) (.nil (.ret ?_)))))
  obtain rfl := zAa h5
  exact z1q kr (v1 := (.int .i64 1)) (by rfl) rt O (zAf _) rfl
 have h6 := z0j g1 h
 refine .skip (.seq (.seq (.region (W.p2 v0 (W.pv (.int .i64 (p0.length : Int)) (z0i ov (z0c hp0) (z04 el94)) (W.p3 (.int .i64 (z02 .i64 ((p0.length : Int) - 1))) ?_))))))
 refine W.p1 (.int .i64 (z02 .i64 ((p0.length : Int) - 1))) (.nil ?_)
 obtain ⟨q7, h8, h9⟩ := z3m h6
 refine AW.midT (fun σ' H' => ∃  (G' : GM), (.inr ()) = q7 /\ Ow G' H' (L) /\ GM.le G G') ?_ ?_
 rotate_left
 .rintro σ57 H58 fr59 ⟨G60, rfl, O61, s62⟩
  have h64 := z6y (z9i h9)
  refine .seq (.region (W.p1 (.int .i64 0) (.nil (.ret ?_))))
  obtain rfl := zAa h64
  exact z1q kr (v1 := (.int .i64 0)) (by rfl) rt O61 s62 rfl
 refine .block (AW.loop (α := Nat) (fun k' σ' H' => ∃ (y1 : Int) (G' : GM), z1f K p0 p1 k' y1 = some q7 /\ Ow G' H' (L) /\ GM.le G G' /\ σ' 5 = .int .i64 y1) (fun k' => k') K ⟨z02 .i64 ((p0.length : Int) - 1), _, h8, O, (zAf _), rfl⟩ ?_)
 rintro k10
 rintro σ12 H13 fr14 ⟨x11, G15, h18, O16, s17, t19⟩
 rcases k10 with _ | k10
 .exact z07 h18
 rw [z1f] at h18
 refine .seq (.seq (.region (W.q2 _ t19 (W.p3 (.bool (decide (x11 >= 0))) (.nil (.cond (b := decide (x11 >= 0)) rfl rfl (fun g20 => ?_) (fun g20 => ?_)))))))
 rotate_left
 .have h56 := z0j g20 h18
  refine .exit ?_
  obtain rfl := zAa h56
  exact ⟨_, rfl, O16, s17⟩
 have h21 := z05 g20 h18
 refine .skip (.seq (.block (.block (.seq (.draw2 (M := [0, 0, 3, 7, 0, 0, 48, 112, 255, 511]) mixed (by kernel_rfl) (by kernel_rfl) fun H22 N26 x23 F25 => ?_)))))
 have O24 := O16.ext x23
 refine D2.q2 v0 ((fr14 0 rfl).trans rfl) (D2.q2 _ t19 ?_)
 obtain ⟨x27, i28, h29⟩ := z01 h21
 have j30 := z0a i28
 refine D2.pv (z1m v0 (x11.toNat * 1)) (z2e el94 z3y ov ov (z0c (RT.mono _ s17 hp0)) j30.1 j30.2.1) (D2.load1' (v := (.int .u32 x27)) (r := []) rfl rfl z98 (z0t rfl (At.int (At.le (At.le (z2f hp0 j30.2.2) s17 s17) (zAf _) O24.fro))) z06 (D2.q2 v1 ((fr14 1 rfl).trans rfl) (D2.q2 _ t19 ?_)))
 obtain ⟨x31, i32, h33⟩ := z01 h29
 have j34 := z0a i32
 refine D2.pv (z1m v1 (x11.toNat * 1)) (z2e el94 z3y ov ov (z0c (RT.mono _ s17 hp1)) j34.1 j34.2.1) (D2.load1' (v := (.int .u32 x31)) (r := []) rfl rfl z98 (z0t rfl (At.int (At.le (At.le (z2f hp1 j34.2.2) s17 s17) (zAf _) O24.fro))) z06 (D2.p3 (.bool (decide (x27 < x31))) (D2.p1 (.bool (decide (x27 < x31))) (.nil (.cond (b := decide (x27 < x31)) rfl rfl (fun g35 => ?_) (fun g35 => ?_))))))
 .have h36 := z05 g35 h33
  refine .seq (.region (W.p1 (.int .i64 (-1)) (.nil (.ret ?_))))
  obtain rfl := zAa h36
  have h37 := z09 (z7t h9)
  obtain rfl := zAa h37
  exact z1q kr (v1 := (.int .i64 (-1))) (by rfl) rt O24 s17 rfl
 have h38 := z0j g35 h33
 refine .seq (.draw2 (M := [0, 0, 3, 7, 0, 0, 48, 112, 255, 511]) mixed (by kernel_rfl) (by kernel_rfl) fun H39 N43 x40 F42 => ?_)
 have O41 := O24.ext x40
 refine D2.q2 v0 ((fr14 0 rfl).trans rfl) (D2.q2 _ t19 ?_)
 obtain ⟨x44, i45, h46⟩ := z01 h38
 have j47 := z0a i45
 refine D2.pv (z1m v0 (x11.toNat * 1)) (z2e el94 z3y ov ov (z0c (RT.mono _ s17 hp0)) j47.1 j47.2.1) (D2.load1' (v := (.int .u32 x44)) (r := []) rfl rfl z98 (z0t rfl (At.int (At.le (At.le (z2f hp0 j47.2.2) s17 s17) (zAf _) O41.fro))) z06 (D2.q2 v1 ((fr14 1 rfl).trans rfl) (D2.q2 _ t19 ?_)))
 obtain ⟨x48, i49, h50⟩ := z01 h46
 have j51 := z0a i49
 refine D2.pv (z1m v1 (x11.toNat * 1)) (z2e el94 z3y ov ov (z0c (RT.mono _ s17 hp1)) j51.1 j51.2.1) (D2.load1' (v := (.int .u32 x48)) (r := []) rfl rfl z98 (z0t rfl (At.int (At.le (At.le (z2f hp1 j51.2.2) s17 s17) (zAf _) O41.fro))) z06 (D2.p3 (.bool (decide (x44 > x48))) (D2.p1 (.bool (decide (x44 > x48))) (.nil (.cond (b := decide (x44 > x48)) rfl rfl (fun g52 => ?_) (fun g52 => ?_))))))
 .have h53 := z05 g52 h50
  refine .seq (.region (W.p1 (.int .i64 1) (.nil (.ret ?_))))
  obtain rfl := zAa h53
  have h54 := z09 (z7t h9)
  obtain rfl := zAa h54
  exact z1q kr (v1 := (.int .i64 1)) (by rfl) rt O41 s17 rfl
 have h55 := z0j g52 h50
 refine .skip (.region (W.q2 _ t19 (W.p3 (.int .i64 (z02 .i64 (x11 - 1))) (W.p1 (.int .i64 (z02 .i64 (x11 - 1))) (.nil ?_)))))
 exact ⟨k10, zAg _, ⟨z02 .i64 (x11 - 1), _, h55, O41, s17, rfl⟩⟩
def z1i (K : Nat) (p0 : List Int) (p1 : Int) : Nat -> List Int -> Int -> Int -> Option (List Int × Int)
  | 0, _, _, _ => none
  | k + 1, x11, x12, x13 => (if (decide (x13 >= 0)) = true then ((idx p0 x13).bind fun x25 => (lt (z02 .u64 ((z02 .u64 (x12 * 1000000000)) + (IntKind.wrap .u64 x25))) fun x29 => (if (IntKind.wrap .u64 p1) ≠ 0 then (lt (IntKind.wrap .u32 (z02 .u64 (Int.tdiv x29 (IntKind.wrap .u64 p1)))) fun x34 => ((idx x11 x13).bind fun x37 => (if (IntKind.wrap .u64 p1) ≠ 0 then z1i K p0 p1 k (List.set x11 (x13.toNat) x34) (Int.tmod x29 (IntKind.wrap .u64 p1)) (z02 .i64 (x13 - 1)) else none))) else none))) else some (x11, x12))
def z3u (K : Nat) (p0 : List Int) (p1 : Int) : Option (List Int × List Int) := (if 0 <= (p0.length : Int) /\ (p0.length : Int) <= (p0.length : Int) /\ (p0.length : Int) <= 16777216 then (Option.bind (z1i K p0 p1 K (List.replicate (Int.toNat (p0.length : Int)) 0) 0 (z02 .i64 ((p0.length : Int) - 1))) (tu2 fun x48 x49 => ((z1n K x48).bind fun x59 => ((z1n K [IntKind.wrap .u32 x49]).bind fun x76 => some (x59, x76))))) else none)
theorem z7b (v0 : Value) (p0 : List Int) (hp0 : (rSl (rI .u32)).rep G [v0] p0) (p1 : Int) (O : Ow G H (L)) (r : List Int × List Int) (h : z3u K p0 p1 = some r) :
    CR Tryz.prog 172 [v0, (.int .u32 p1)] G H (L) (fun v G' _ => ∃ (w0 : Value), ∃ (w1 : Value), v = .tuple #[w0, w1] /\ (rSl (rI .u32)).rep G' [w0] r.1 /\ (rSl (rI .u32)).rep G' [w1] r.2) := by
 unfold z3u at h
 refine CR.og (n := 45) (fn := Tryz.f172) (by kernel_rfl) rfl rfl fun R kr => (.seq (.region (W.p1 (.slice none 0 0) (W.p1 (.slice none 0 0) (.nil (.seq ?_))))))
 refine .region (W.p2 v0 (W.pv (.int .i64 (p0.length : Int)) (z0i ov (z0c hp0) (z04 el94)) ?_))
 obtain ⟨g2, h3⟩ := z2l h
 refine W.ln (Lo.makeSlice (r := (rI .u32)) (x0 := 0) (a := (p0.length : Int)) (c := (p0.length : Int)) rfl el94 zb9 z3y (by kernel_rfl) rfl zhc (by decide) rfl rfl g2 (zI .u32) O) ?_
 rintro v5 H6 ⟨O1, sm4⟩
 refine W.p1 v5 (.nil (.seq (.region (W.p1 (.int .u64 0) (.nil (.seq ?_))))))
 refine .seq (.region (W.p2 v0 (W.pv (.int .i64 (p0.length : Int)) (z0i ov (z0c hp0) (z04 el94)) (W.p3 (.int .i64 (z02 .i64 ((p0.length : Int) - 1))) (W.p1 (.int .i64 (z02 .i64 ((p0.length : Int) - 1))) (.nil ?_))))))
 obtain ⟨q7, h8, h9⟩ := z01 h3
 refine AW.midT (fun σ' H' => ∃ (y1 : List Int) (y2 : Int) (G' : GM), (y1, y2) = q7 /\ Ow G' H' (eSl v5 181 (rI .u32) y1 :: L) /\ GM.le G G' /\ σ' 7 = .int .u64 y2) ?_ ?_
 rotate_left
 .rintro σ50 H51 fr52 ⟨x48, x49, G53, rfl, O54, s55, t57⟩
  have h58 := z52 h9
  refine .seq (.region (W.q2 v5 ((fr52 6 rfl).trans rfl) ?_))
  obtain ⟨x59, i60, h61⟩ := z01 h58
  refine W.ln (Lo.callPF (ps := [eSl v5 181 (rI .u32) x48]) (pw := fun w => [eSl w 181 (rI .u32) x59]) rfl (fn := Tryz.f165) (by kernel_rfl) rfl (mc rfl mn) O54 (fun L' O' => z2h K v5 x48 O' _ i60)) ?_
  rintro v70 H71 ⟨w67, G62, O63, s64, sm69, rfl⟩
  refine W.q2 _ t57 (W.pv (.int .u32 (IntKind.wrap .u32 x49)) (z3n zar z8v ov) (W.ln (Lo.buildSlice (r := (rI .u32)) (vs := [(.int .u32 (IntKind.wrap .u32 x49))]) (xs := [IntKind.wrap .u32 x49]) el94 zb9 z3y (by kernel_rfl) rfl (qc rfl qn) rfl (.cons rfl .nil) O63) ?_))
  rintro v74 H75 ⟨O72, sm73⟩
  obtain ⟨x76, i77, h78⟩ := z01 h61
  refine W.ln (Lo.callPF (ps := [eSl v74 181 (rI .u32) [IntKind.wrap .u32 x49]]) (pw := fun w => [eSl w 181 (rI .u32) x76]) rfl (fn := Tryz.f165) (by kernel_rfl) rfl (mc rfl mn) O72 (fun L' O' => z2h K v74 [IntKind.wrap .u32 x49] O' _ i77)) ?_
  rintro v87 H88 ⟨w84, G79, O80, s81, sm86, rfl⟩
  refine W.p1 w67 (W.p1 w84 (.nil (.ret ?_)))
  obtain ⟨G89, O90, s91, f92⟩ := O80.frzSl (j := 1) rfl
  obtain ⟨G93, O94, s95, f96⟩ := O90.frzSl (j := 0) rfl
  obtain rfl := zAa h78
  exact ziw kr (v1 := w67) (v2 := w84) (by rfl) rt rt O94 (zAe s55 (zAe s64 (zAe s81 (zAe s91 s95)))) ⟨w67, w84, rfl, (RT.mono _ s95 f92), f96⟩
 refine .block (AW.loop (α := Nat) (fun k' σ' H' => ∃ (y1 : List Int) (y2 : Int) (y3 : Int) (G' : GM), z1i K p0 p1 k' y1 y2 y3 = some q7 /\ Ow G' H' (eSl v5 181 (rI .u32) y1 :: L) /\ GM.le G G' /\ σ' 7 = .int .u64 y2 /\ σ' 8 = .int .i64 y3) (fun k' => k') K ⟨(List.replicate (Int.toNat (p0.length : Int)) 0), 0, z02 .i64 ((p0.length : Int) - 1), _, h8, O1, (zAf _), rfl, rfl⟩ ?_)
 rintro k10
 rintro σ14 H15 fr16 ⟨x11, x12, x13, G17, h20, O18, s19, t21, t22⟩
 rcases k10 with _ | k10
 .exact z07 h20
 rw [z1i] at h20
 refine .seq (.seq (.region (W.q2 _ t22 (W.p3 (.bool (decide (x13 >= 0))) (.nil (.cond (b := decide (x13 >= 0)) rfl rfl (fun g23 => ?_) (fun g23 => ?_)))))))
 rotate_left
 .have h47 := z0j g23 h20
  refine .exit ?_
  obtain rfl := zAa h47
  exact ⟨x11, x12, _, rfl, O18, s19, t21⟩
 have h24 := z05 g23 h20
 refine .skip (.seq (.block (.seq (.region (W.q2 _ t21 (W.p3 (.int .u64 (z02 .u64 (x12 * 1000000000))) ?_))))))
 refine W.q2 v0 ((fr16 0 rfl).trans rfl) (W.q2 _ t22 ?_)
 obtain ⟨x25, i26, h27⟩ := z01 h24
 have j28 := z0a i26
 refine W.pv (z1m v0 (x13.toNat * 1)) (z2e el94 z3y ov ov (z0c (RT.mono _ s19 hp0)) j28.1 j28.2.1) (W.load1 (v := (.int .u32 x25)) (r := []) rfl rfl z98 (z0t rfl (At.int (At.le (At.le (z2f hp0 j28.2.2) s19 s19) (zAf _) O18.fro))) (W.pv (.int .u64 (IntKind.wrap .u64 x25)) (z3n z8v zar ov) (W.p3 (.int .u64 (z02 .u64 ((z02 .u64 (x12 * 1000000000)) + (IntKind.wrap .u64 x25)))) ?_)))
 obtain ⟨x29, e30, h31⟩ := z67 h27
 refine W.q1 _ (congrArg (Value.int .u64) e30) (.nil (.seq (.region (W.q2 v5 ((fr16 6 rfl).trans rfl) (W.q2 _ t22 (W.p2 (.int .u64 x29) ?_))))))
 refine W.q2 (.int .u32 p1) ((fr16 1 rfl).trans rfl) (W.pv (.int .u64 (IntKind.wrap .u64 p1)) (z3n z8v zar ov) ?_)
 obtain ⟨g32, h33⟩ := z2l h31
 refine W.pv (.int .u64 (z02 .u64 (Int.tdiv x29 (IntKind.wrap .u64 p1)))) (ziu g32 ov ov) (W.pv (.int .u32 (IntKind.wrap .u32 (z02 .u64 (Int.tdiv x29 (IntKind.wrap .u64 p1))))) (z3n zar z8v ov) ?_)
 obtain ⟨x34, e35, h36⟩ := z67 h33
 obtain ⟨x37, i38, h39⟩ := z01 h36
 have j40 := z0a i38
 refine W.pv (z1m v5 (x13.toNat * 1)) (z2e el94 z3y ov ov (O18.slLen (j := 0) rfl) j40.1 j40.2.1) (W.ln (Lo.storeSl0 (j := 0) (y0 := x34) (v := (.int .u32 x34)) rfl j40.2.2  rfl z3y rfl (congrArg (Value.int .u32) e35) rfl O18) ?_)
 rintro v43 H44 ⟨O41, sm42⟩
 refine .nil (.region (W.p2 (.int .u64 x29) (W.q2 (.int .u32 p1) ((fr16 1 rfl).trans rfl) (W.pv (.int .u64 (IntKind.wrap .u64 p1)) (z3n z8v zar ov) ?_))))
 obtain ⟨g45, h46⟩ := z2l h39
 refine W.pv (.int .u64 (Int.tmod x29 (IntKind.wrap .u64 p1))) (ziv g45 ov ov) (W.p1 (.int .u64 (Int.tmod x29 (IntKind.wrap .u64 p1))) (.nil (.region (W.q2 _ t22 (W.p3 (.int .i64 (z02 .i64 (x13 - 1))) (W.p1 (.int .i64 (z02 .i64 (x13 - 1))) ?_))))))
 refine .nil ?_
 exact ⟨k10, zAg _, ⟨(List.set x11 (x13.toNat) x34), Int.tmod x29 (IntKind.wrap .u64 p1), z02 .i64 (x13 - 1), _, h46, O41, s19, rfl, rfl⟩⟩
def z2a (K : Nat) (p1 : List Int) (x12 : Int) (x23 : Int) : Nat -> List Int -> Int -> Int -> Option (List Int × Int)
  | 0, _, _, _ => none
  | k + 1, x31, x32, x33 => (if (decide (x33 < (p1.length : Int))) = true then ((idx p1 x33).bind fun x45 => (lt (z02 .u64 ((IntKind.wrap .u64 x23) * (IntKind.wrap .u64 x45))) fun x49 => ((idx x31 (z02 .i64 (x12 + x33))).bind fun x52 => (lt (z02 .u64 ((z02 .u64 (x49 + (IntKind.wrap .u64 x52))) + x32)) fun x56 => ((idx x31 (z02 .i64 (x12 + x33))).bind fun x59 => z2a K p1 x12 x23 k (List.set x31 (Int.toNat (z02 .i64 (x12 + x33))) (IntKind.wrap .u32 (Int.tmod x56 1000000000))) (z02 .u64 (Int.tdiv x56 1000000000)) (z02 .i64 (x33 + 1))))))) else some (x31, x32))
def z2b (K : Nat) (p0 : List Int) (p1 : List Int) : Nat -> List Int -> Int -> Option (List Int)
  | 0, _, _ => none
  | k + 1, x11, x12 => (if (decide (x12 < (p0.length : Int))) = true then ((idx p0 x12).bind fun x23 => (Option.bind (z2a K p1 x12 x23 K x11 0 0) (tu2 fun x68 x69 => ((idx x68 (z02 .i64 (x12 + (p1.length : Int)))).bind fun x79 => z2b K p0 p1 k (List.set x68 (Int.toNat (z02 .i64 (x12 + (p1.length : Int)))) (IntKind.wrap .u32 x69)) (z02 .i64 (x12 + 1)))))) else some x11)
def z23 (K : Nat) (p0 : List Int) (p1 : List Int) : Option (List Int) := (if 0 <= (z02 .i64 ((p0.length : Int) + (p1.length : Int))) /\ (z02 .i64 ((p0.length : Int) + (p1.length : Int))) <= (z02 .i64 ((p0.length : Int) + (p1.length : Int))) /\ (z02 .i64 ((p0.length : Int) + (p1.length : Int))) <= 16777216 then (Option.bind (z2b K p0 p1 K (List.replicate (Int.toNat (z02 .i64 ((p0.length : Int) + (p1.length : Int)))) 0) 0) (tu1 fun x88 => ((z1n K x88).bind fun x97 => some x97))) else none)
theorem z1u (v0 : Value) (p0 : List Int) (hp0 : (rSl (rI .u32)).rep G [v0] p0) (v1 : Value) (p1 : List Int) (hp1 : (rSl (rI .u32)).rep G [v1] p1) (O : Ow G H (L)) (r : List Int) (h : z23 K p0 p1 = some r) :
    CRF Tryz.prog 139 [v0, v1] G H (fun w0 => (eSl w0 181 (rI .u32) r :: L)) (fun w0 v G' => w0 = v) := by
 unfold z23 at h
 refine CRF.og (n := 69) (fn := Tryz.f139) (by kernel_rfl) rfl rfl fun R kr => (.seq (.region (W.p1 (.slice none 0 0) (.nil (.seq (.region ?_))))))
 refine W.p2 v0 (W.pv (.int .i64 (p0.length : Int)) (z0i ov (z0c hp0) (z04 el94)) (W.p2 v1 (W.pv (.int .i64 (p1.length : Int)) (z0i ov (z0c hp1) (z04 el94)) (W.p3 (.int .i64 (z02 .i64 ((p0.length : Int) + (p1.length : Int)))) ?_))))
 obtain ⟨g2, h3⟩ := z2l h
 refine W.ln (Lo.makeSlice (r := (rI .u32)) (x0 := 0) (a := (z02 .i64 ((p0.length : Int) + (p1.length : Int)))) (c := (z02 .i64 ((p0.length : Int) + (p1.length : Int)))) rfl el94 zb9 z3y (by kernel_rfl) rfl zhc (by decide) rfl rfl g2 (zI .u32) O) ?_
 rintro v5 H6 ⟨O1, sm4⟩
 refine W.p1 v5 (.nil (.seq (.seq (.region (W.p2 v0 (W.pv (.int .i64 (p0.length : Int)) (z0i ov (z0c hp0) (z04 el94)) ?_))))))
 refine W.p2 (.int .i64 0) (.nil ?_)
 obtain ⟨q7, h8, h9⟩ := z01 h3
 refine AW.midT (fun σ' H' => ∃ (y1 : List Int) (G' : GM), y1 = q7 /\ Ow G' H' (eSl v5 181 (rI .u32) y1 :: L) /\ GM.le G G') ?_ ?_
 rotate_left
 .rintro σ89 H90 fr91 ⟨x88, G92, rfl, O93, s94⟩
  have h96 := z09 h9
  refine .seq (.region (W.q2 v5 ((fr91 5 rfl).trans rfl) ?_))
  obtain ⟨x97, i98, h99⟩ := z01 h96
  refine W.ln (Lo.callPF (ps := [eSl v5 181 (rI .u32) x88]) (pw := fun w => [eSl w 181 (rI .u32) x97]) rfl (fn := Tryz.f165) (by kernel_rfl) rfl (mc rfl mn) O93 (fun L' O' => z2h K v5 x88 O' _ i98)) ?_
  rintro v108 H109 ⟨w105, G100, O101, s102, sm107, rfl⟩
  refine W.p1 w105 (.nil (.ret ?_))
  obtain rfl := zAa h99
  exact zat kr w105 (v1 := w105) (by rfl) rt O101 (zAe s94 s102) rfl
 refine .block (AW.loop (α := Nat) (fun k' σ' H' => ∃ (y1 : List Int) (y2 : Int) (G' : GM), z2b K p0 p1 k' y1 y2 = some q7 /\ Ow G' H' (eSl v5 181 (rI .u32) y1 :: L) /\ GM.le G G' /\ σ' 20 = .int .i64 y2) (fun k' => k') K ⟨(List.replicate (Int.toNat (z02 .i64 ((p0.length : Int) + (p1.length : Int)))) 0), 0, _, h8, O1, (zAf _), rfl⟩ ?_)
 rintro k10
 rintro σ13 H14 fr15 ⟨x11, x12, G16, h19, O17, s18, t20⟩
 rcases k10 with _ | k10
 .exact z07 h19
 rw [z2b] at h19
 refine .seq (.region (W.q3 (.bool (decide (x12 < (p0.length : Int)))) t20 ((fr15 19 rfl).trans rfl) (.nil (.seq (.cond (b := decide (x12 < (p0.length : Int))) rfl rfl (fun g21 => ?_) (fun g21 => ?_))))))
 rotate_left
 .have h87 := z0j g21 h19
  refine .exit ?_
  obtain rfl := zAa h87
  exact ⟨x11, _, rfl, O17, s18⟩
 have h22 := z05 g21 h19
 refine .skip (.seq (.block (.seq (.region (W.q2 _ t20 ?_)))))
 obtain ⟨x23, i24, h25⟩ := z01 h22
 have j26 := z0a i24
 refine W.pv (z1m v0 (x12.toNat * 1)) (z2e el94 z3y (ou ((fr15 18 rfl).trans rfl)) (ou t20) (z0c (RT.mono _ s18 hp0)) j26.1 j26.2.1) (W.load1 (v := (.int .u32 x23)) (r := []) rfl rfl z98 (z0t rfl (At.int (At.le (At.le (z2f hp0 j26.2.2) s18 s18) (zAf _) O17.fro))) (W.p1 (.int .i64 x12) (W.p1 (.int .u32 x23) (.nil (.seq (.region ?_))))))
 refine W.p1 (.int .u64 0) (.nil (.seq (.seq (.region (W.q2 v1 ((fr15 1 rfl).trans rfl) (W.pv (.int .i64 (p1.length : Int)) (z0i ov (z0c (RT.mono _ s18 hp1)) (z04 el94)) ?_))))))
 refine W.p2 (.int .i64 0) (.nil ?_)
 obtain ⟨q27, h28, h29⟩ := z01 h25
 refine AW.midT (fun σ' H' => ∃ (y1 : List Int) (y2 : Int) (G' : GM), (y1, y2) = q27 /\ Ow G' H' (eSl v5 181 (rI .u32) y1 :: L) /\ GM.le G16 G' /\ σ' 8 = .int .u64 y2) ?_ ?_
 rotate_left
 .rintro σ70 H71 fr72 ⟨x68, x69, G73, rfl, O74, s75, t77⟩
  have h78 := z52 h29
  refine .region (W.q2 v5 ((fr72 5 rfl).trans ((fr15 5 rfl).trans rfl)) (W.q2 (.int .i64 x12) ((fr72 6 rfl).trans rfl) (W.q2 v1 ((fr72 1 rfl).trans ((fr15 1 rfl).trans rfl)) (W.pv (.int .i64 (p1.length : Int)) (z0i ov (z0c (RT.mono _ (zAe s18 s75) hp1)) (z04 el94)) (W.p3 (.int .i64 (z02 .i64 (x12 + (p1.length : Int)))) (W.q2 _ t77 ?_))))))
  refine W.pv (.int .u32 (IntKind.wrap .u32 x69)) (z3n zar z8v ov) ?_
  obtain ⟨x79, i80, h81⟩ := z01 h78
  have j82 := z0a i80
  refine W.pv (z1m v5 (Int.toNat (z02 .i64 (x12 + (p1.length : Int))) * 1)) (z2e el94 z3y ov ov (O74.slLen (j := 0) rfl) j82.1 j82.2.1) (W.ln (Lo.storeSl0 (j := 0) (y0 := IntKind.wrap .u32 x69) (v := (.int .u32 (IntKind.wrap .u32 x69))) rfl j82.2.2  rfl z3y rfl rfl rfl O74) ?_)
  rintro v85 H86 ⟨O83, sm84⟩
  refine .nil (.region (W.q3 (.int .i64 (z02 .i64 (x12 + 1))) ((fr72 20 rfl).trans t20) rfl (W.p2 (.int .i64 (z02 .i64 (x12 + 1))) (.nil ?_))))
  exact ⟨k10, zAg _, ⟨(List.set x68 (Int.toNat (z02 .i64 (x12 + (p1.length : Int)))) (IntKind.wrap .u32 x69)), z02 .i64 (x12 + 1), _, h81, O83, (zAe s18 s75), rfl⟩⟩
 refine .block (AW.loop (α := Nat) (fun k' σ' H' => ∃ (y1 : List Int) (y2 : Int) (y3 : Int) (G' : GM), z2a K p1 x12 x23 k' y1 y2 y3 = some q27 /\ Ow G' H' (eSl v5 181 (rI .u32) y1 :: L) /\ GM.le G16 G' /\ σ' 8 = .int .u64 y2 /\ σ' 27 = .int .i64 y3) (fun k' => k') K ⟨x11, 0, 0, _, h28, O17, (zAf _), rfl, rfl⟩ ?_)
 rintro k30
 rintro σ34 H35 fr36 ⟨x31, x32, x33, G37, h40, O38, s39, t41, t42⟩
 rcases k30 with _ | k30
 .exact z07 h40
 rw [z2a] at h40
 refine .seq (.region (W.q3 (.bool (decide (x33 < (p1.length : Int)))) t42 ((fr36 26 rfl).trans rfl) (.nil (.seq (.cond (b := decide (x33 < (p1.length : Int))) rfl rfl (fun g43 => ?_) (fun g43 => ?_))))))
 rotate_left
 .have h67 := z0j g43 h40
  refine .exit ?_
  obtain rfl := zAa h67
  exact ⟨x31, x32, _, rfl, O38, s39, t41⟩
 have h44 := z05 g43 h40
 refine .skip (.seq (.block (.seq (.region (W.q2 _ t42 ?_)))))
 obtain ⟨x45, i46, h47⟩ := z01 h44
 have j48 := z0a i46
 refine W.pv (z1m v1 (x33.toNat * 1)) (z2e el94 z3y (ou ((fr36 25 rfl).trans rfl)) (ou t42) (z0c (RT.mono _ (zAe s18 s39) hp1)) j48.1 j48.2.1) (W.load1 (v := (.int .u32 x45)) (r := []) rfl rfl z98 (z0t rfl (At.int (At.le (At.le (z2f hp1 j48.2.2) (zAe s18 s39) (zAe s18 s39)) (zAf _) O38.fro))) (W.p1 (.int .i64 x33) (W.p1 (.int .u32 x45) (.nil (.seq (.region ?_))))))
 refine W.q2 (.int .u32 x23) ((fr36 7 rfl).trans rfl) (W.pv (.int .u64 (IntKind.wrap .u64 x23)) (z3n z8v zar ov) (W.p2 (.int .u32 x45) (W.pv (.int .u64 (IntKind.wrap .u64 x45)) (z3n z8v zar ov) (W.p3 (.int .u64 (z02 .u64 ((IntKind.wrap .u64 x23) * (IntKind.wrap .u64 x45)))) ?_))))
 obtain ⟨x49, e50, h51⟩ := z67 h47
 refine W.q2 v5 ((fr36 5 rfl).trans ((fr15 5 rfl).trans rfl)) (W.q2 (.int .i64 x12) ((fr36 6 rfl).trans rfl) (W.p2 (.int .i64 x33) (W.p3 (.int .i64 (z02 .i64 (x12 + x33))) ?_)))
 obtain ⟨x52, i53, h54⟩ := z01 h51
 have j55 := z0a i53
 refine W.pv (z1m v5 (Int.toNat (z02 .i64 (x12 + x33)) * 1)) (z2e el94 z3y ov ov (O38.slLen (j := 0) rfl) j55.1 j55.2.1) (W.load1 (v := (.int .u32 x52)) (r := []) rfl rfl z98 (z0t rfl (At.int (O38.atSl (j := 0) rfl j55.2.2))) (W.pv (.int .u64 (IntKind.wrap .u64 x52)) (z3n z8v zar ov) (W.q3 (.int .u64 (z02 .u64 (x49 + (IntKind.wrap .u64 x52)))) (congrArg (Value.int .u64) e50) rfl (W.q2 _ t41 (W.p3 (.int .u64 (z02 .u64 ((z02 .u64 (x49 + (IntKind.wrap .u64 x52))) + x32))) ?_)))))
 obtain ⟨x56, e57, h58⟩ := z67 h54
 refine W.q1 _ (congrArg (Value.int .u64) e57) (.nil (.seq (.region (W.q2 v5 ((fr36 5 rfl).trans ((fr15 5 rfl).trans rfl)) (W.q2 (.int .i64 x12) ((fr36 6 rfl).trans rfl) (W.p2 (.int .i64 x33) ?_))))))
 refine W.p3 (.int .i64 (z02 .i64 (x12 + x33))) (W.p2 (.int .u64 x56) (W.pv (.int .u64 (Int.tmod x56 1000000000)) (ziv (by decide) ov ov) (W.pv (.int .u32 (IntKind.wrap .u32 (Int.tmod x56 1000000000))) (z3n zar z8v ov) ?_)))
 obtain ⟨x59, i60, h61⟩ := z01 h58
 have j62 := z0a i60
 refine W.pv (z1m v5 (Int.toNat (z02 .i64 (x12 + x33)) * 1)) (z2e el94 z3y ov ov (O38.slLen (j := 0) rfl) j62.1 j62.2.1) (W.ln (Lo.storeSl0 (j := 0) (y0 := IntKind.wrap .u32 (Int.tmod x56 1000000000)) (v := (.int .u32 (IntKind.wrap .u32 (Int.tmod x56 1000000000)))) rfl j62.2.2  rfl z3y rfl rfl rfl O38) ?_)
 rintro v65 H66 ⟨O63, sm64⟩
 refine .nil (.region (W.p2 (.int .u64 x56) (W.pv (.int .u64 (z02 .u64 (Int.tdiv x56 1000000000))) (ziu (by decide) ov ov) (W.p1 (.int .u64 (z02 .u64 (Int.tdiv x56 1000000000))) (.nil (.region ?_))))))
 refine W.r3 (.int .i64 (z02 .i64 (x33 + 1))) t42 (W.p2 (.int .i64 (z02 .i64 (x33 + 1))) (.nil ?_))
 exact ⟨k30, zAg _, ⟨(List.set x31 (Int.toNat (z02 .i64 (x12 + x33))) (IntKind.wrap .u32 (Int.tmod x56 1000000000))), z02 .u64 (Int.tdiv x56 1000000000), z02 .i64 (x33 + 1), _, h61, O63, s39, rfl, rfl⟩⟩
def z16 (K : Nat) (p1 : List Int) (p2 : Int) (p3 : Int) : Nat -> List Int -> Int -> Int -> Int -> Option (List Int × Int)
  | 0, _, _, _, _ => none
  | k + 1, x5, x6, x7, x8 => (if (decide (x8 <= (p1.length : Int))) = true then (Option.bind ((if (decide (x8 < (p1.length : Int))) = true then ((idx p1 x8).bind fun x26 => (lt (z02 .u64 (x7 + (z02 .u64 (p3 * (IntKind.wrap .u64 x26))))) fun x30 => some x30)) else some x7)) (tu1 fun x34 => ((idx x5 (z02 .i64 (p2 + x8))).bind fun x44 => (lt (z02 .i64 ((IntKind.wrap .i64 x44) - (IntKind.wrap .i64 (Int.tmod x34 1000000000)))) fun x48 => (Option.bind ((if (decide ((z02 .i64 (x48 - x6)) < 0)) = true then some (1, z02 .i64 ((z02 .i64 (x48 - x6)) + 1000000000)) else some (0, z02 .i64 (x48 - x6)))) (tu2 fun x57 x58 => ((idx x5 (z02 .i64 (p2 + x8))).bind fun x69 => z16 K p1 p2 p3 k (List.set x5 (Int.toNat (z02 .i64 (p2 + x8))) (IntKind.wrap .u32 x58)) x57 (z02 .u64 (Int.tdiv x34 1000000000)) (z02 .i64 (x8 + 1))))))))) else some (x5, x6))
def z36 (K : Nat) (p0 : List Int) (p1 : List Int) (p2 : Int) (p3 : Int) : Option (Bool × List Int) := (Option.bind (z16 K p1 p2 p3 K p0 0 0 0) (tu2 fun x78 x79 => some (decide (x79 > 0), x78)))
theorem zaa (v0 : Value) (p0 : List Int) (v1 : Value) (p1 : List Int) (hp1 : (rSl (rI .u32)).rep G [v1] p1) (p2 : Int) (p3 : Int) (O : Ow G H (eSl v0 181 (rI .u32) p0 :: L)) (r : Bool × List Int) (h : z36 K p0 p1 p2 p3 = some r) :
    CR Tryz.prog 173 [v0, v1, (.int .i64 p2), (.int .u64 p3)] G H (eSl v0 181 (rI .u32) r.2 :: L) (fun v G' _ => v = .bool r.1) := by
 unfold z36 at h
 refine CR.og (n := 62) (fn := Tryz.f173) (by kernel_rfl) rfl rfl fun R kr => (.seq (.region (W.p1 (.bool false) (.nil (.seq (.region ?_))))))
 refine W.p1 (.int .i64 0) (.nil (.seq (.region (W.p1 (.int .u64 0) (.nil (.seq ?_))))))
 refine .seq (.region (W.p1 (.int .i64 0) (.nil ?_)))
 obtain ⟨q1, h2, h3⟩ := z01 h
 refine AW.midT (fun σ' H' => ∃ (y1 : List Int) (y2 : Int) (G' : GM), (y1, y2) = q1 /\ Ow G' H' (eSl v0 181 (rI .u32) y1 :: L) /\ GM.le G G' /\ σ' 9 = .int .i64 y2) ?_ ?_
 rotate_left
 .rintro σ80 H81 fr82 ⟨x78, x79, G83, rfl, O84, s85, t87⟩
  have h88 := z52 h3
  refine .seq (.region (W.q2 _ t87 (W.p3 (.bool (decide (x79 > 0))) (W.p1 (.bool (decide (x79 > 0))) (.nil (.ret ?_))))))
  obtain rfl := zAa h88
  exact z1q kr (v1 := (.bool (decide (x79 > 0)))) (by rfl) rt O84 s85 rfl
 refine .block (AW.loop (α := Nat) (fun k' σ' H' => ∃ (y1 : List Int) (y2 : Int) (y3 : Int) (y4 : Int) (G' : GM), z16 K p1 p2 p3 k' y1 y2 y3 y4 = some q1 /\ Ow G' H' (eSl v0 181 (rI .u32) y1 :: L) /\ GM.le G G' /\ σ' 9 = .int .i64 y2 /\ σ' 10 = .int .u64 y3 /\ σ' 11 = .int .i64 y4) (fun k' => k') K ⟨p0, 0, 0, 0, _, h2, O, (zAf _), rfl, rfl, rfl⟩ ?_)
 rintro k4
 rintro σ9 H10 fr11 ⟨x5, x6, x7, x8, G12, h15, O13, s14, t16, t17, t18⟩
 rcases k4 with _ | k4
 .exact z07 h15
 rw [z16] at h15
 refine .seq (.seq (.region (W.q2 _ t18 (W.q2 v1 ((fr11 1 rfl).trans rfl) (W.pv (.int .i64 (p1.length : Int)) (z0i ov (z0c (RT.mono _ s14 hp1)) (z04 el94)) (W.p3 (.bool (decide (x8 <= (p1.length : Int)))) ?_))))))
 refine .nil (.cond (b := decide (x8 <= (p1.length : Int))) rfl rfl (fun g19 => ?_) (fun g19 => ?_))
 rotate_left
 .have h77 := z0j g19 h15
  refine .exit ?_
  obtain rfl := zAa h77
  exact ⟨x5, x6, _, rfl, O13, s14, t16⟩
 have h20 := z05 g19 h15
 refine .skip (.seq (.block (.seq (.region (W.q2 _ t17 (W.p1 (.int .u64 x7) ?_))))))
 refine .nil (.seq (.seq (.region (W.q2 _ t18 (W.q2 v1 ((fr11 1 rfl).trans rfl) (W.pv (.int .i64 (p1.length : Int)) (z0i ov (z0c (RT.mono _ s14 hp1)) (z04 el94)) ?_))))))
 refine W.p3 (.bool (decide (x8 < (p1.length : Int)))) (.nil ?_)
 obtain ⟨q21, h22, h23⟩ := z01 h20
 refine AW.midT (fun σ' H' => ∃ (y1 : Int) (G' : GM), y1 = q21 /\ Ow G' H' (eSl v0 181 (rI .u32) x5 :: L) /\ GM.le G12 G' /\ σ' 12 = .int .u64 y1) ?_ ?_
 .refine .cond (b := decide (x8 < (p1.length : Int))) rfl rfl (fun g24 => ?_) (fun g24 => ?_)
  rotate_left
  .have h33 := z0j g24 h22
   refine .skip ?_
   obtain rfl := zAa h33
   exact ⟨x7, _, rfl, O13, (zAf _), rfl⟩
  have h25 := z05 g24 h22
  refine .region (W.p2 (.int .u64 x7) (W.q2 (.int .u64 p3) ((fr11 3 rfl).trans rfl) (W.q2 v1 ((fr11 1 rfl).trans rfl) (W.q2 _ t18 ?_))))
  obtain ⟨x26, i27, h28⟩ := z01 h25
  have j29 := z0a i27
  refine W.pv (z1m v1 (x8.toNat * 1)) (z2e el94 z3y ov ov (z0c (RT.mono _ s14 hp1)) j29.1 j29.2.1) (W.load1 (v := (.int .u32 x26)) (r := []) rfl rfl z98 (z0t rfl (At.int (At.le (At.le (z2f hp1 j29.2.2) s14 s14) (zAf _) O13.fro))) (W.pv (.int .u64 (IntKind.wrap .u64 x26)) (z3n z8v zar ov) (W.p3 (.int .u64 (z02 .u64 (p3 * (IntKind.wrap .u64 x26)))) (W.p3 (.int .u64 (z02 .u64 (x7 + (z02 .u64 (p3 * (IntKind.wrap .u64 x26)))))) ?_))))
  obtain ⟨x30, e31, h32⟩ := z67 h28
  refine W.q1 _ (congrArg (Value.int .u64) e31) (.nil ?_)
  obtain rfl := zAa h32
  exact ⟨x30, _, rfl, O13, (zAf _), rfl⟩
 rintro σ35 H36 fr37 ⟨x34, G38, rfl, O39, s40, t42⟩
 have h43 := z09 h23
 refine .seq (.region (W.q2 _ t42 (W.pv (.int .u64 (z02 .u64 (Int.tdiv x34 1000000000))) (ziu (by decide) ov ov) (W.p1 (.int .u64 (z02 .u64 (Int.tdiv x34 1000000000))) (.nil (.seq ?_))))))
 refine .region (W.q2 v0 ((fr37 0 rfl).trans ((fr11 0 rfl).trans rfl)) (W.q2 (.int .i64 p2) ((fr37 2 rfl).trans ((fr11 2 rfl).trans rfl)) (W.q2 _ ((fr37 11 rfl).trans t18) (W.p3 (.int .i64 (z02 .i64 (p2 + x8))) ?_))))
 obtain ⟨x44, i45, h46⟩ := z01 h43
 have j47 := z0a i45
 refine W.pv (z1m v0 (Int.toNat (z02 .i64 (p2 + x8)) * 1)) (z2e el94 z3y ov ov (O39.slLen (j := 0) rfl) j47.1 j47.2.1) (W.load1 (v := (.int .u32 x44)) (r := []) rfl rfl z98 (z0t rfl (At.int (O39.atSl (j := 0) rfl j47.2.2))) (W.pv (.int .i64 (IntKind.wrap .i64 x44)) (z3n z8v in2 ov) (W.q2 _ t42 (W.pv (.int .u64 (Int.tmod x34 1000000000)) (ziv (by decide) ov ov) (W.pv (.int .i64 (IntKind.wrap .i64 (Int.tmod x34 1000000000))) (z3n zar in2 ov) (W.p3 (.int .i64 (z02 .i64 ((IntKind.wrap .i64 x44) - (IntKind.wrap .i64 (Int.tmod x34 1000000000))))) ?_))))))
 obtain ⟨x48, e49, h50⟩ := z67 h46
 refine W.q2 _ ((fr37 9 rfl).trans t16) (W.q3 (.int .i64 (z02 .i64 (x48 - x6))) (congrArg (Value.int .i64) e49) rfl (W.p1 (.int .i64 (z02 .i64 (x48 - x6))) (.nil (.seq (.region (W.p1 (.int .i64 0) ?_))))))
 refine .nil (.seq (.seq (.region (W.p2 (.int .i64 (z02 .i64 (x48 - x6))) (W.p3 (.bool (decide ((z02 .i64 (x48 - x6)) < 0))) (.nil ?_))))))
 obtain ⟨q51, h52, h53⟩ := z01 h50
 refine AW.midT (fun σ' H' => ∃ (y1 : Int) (y2 : Int) (G' : GM), (y1, y2) = q51 /\ Ow G' H' (eSl v0 181 (rI .u32) x5 :: L) /\ GM.le G38 G' /\ σ' 9 = .int .i64 y1 /\ σ' 13 = .int .i64 y2) ?_ ?_
 .refine .cond (b := decide ((z02 .i64 (x48 - x6)) < 0)) rfl rfl (fun g54 => ?_) (fun g54 => ?_)
  rotate_left
  .have h56 := z0j g54 h52
   refine .skip ?_
   obtain rfl := zAa h56
   exact ⟨0, z02 .i64 (x48 - x6), _, rfl, O39, (zAf _), rfl, rfl⟩
  have h55 := z05 g54 h52
  refine .seq (.region (W.p2 (.int .i64 (z02 .i64 (x48 - x6))) (W.p3 (.int .i64 (z02 .i64 ((z02 .i64 (x48 - x6)) + 1000000000))) (W.p1 (.int .i64 (z02 .i64 ((z02 .i64 (x48 - x6)) + 1000000000))) (.nil (.region ?_))))))
  refine W.p1 (.int .i64 1) (.nil ?_)
  obtain rfl := zAa h55
  exact ⟨1, z02 .i64 ((z02 .i64 (x48 - x6)) + 1000000000), _, rfl, O39, (zAf _), rfl, rfl⟩
 rintro σ59 H60 fr61 ⟨x57, x58, G62, rfl, O63, s64, t66, t67⟩
 have h68 := z52 h53
 refine .region (W.q2 v0 ((fr61 0 rfl).trans ((fr37 0 rfl).trans ((fr11 0 rfl).trans rfl))) (W.q2 (.int .i64 p2) ((fr61 2 rfl).trans ((fr37 2 rfl).trans ((fr11 2 rfl).trans rfl))) (W.q2 _ ((fr61 11 rfl).trans ((fr37 11 rfl).trans t18)) (W.p3 (.int .i64 (z02 .i64 (p2 + x8))) (W.q2 _ t67 (W.pv (.int .u32 (IntKind.wrap .u32 x58)) (z3n in2 z8v ov) ?_))))))
 obtain ⟨x69, i70, h71⟩ := z01 h68
 have j72 := z0a i70
 refine W.pv (z1m v0 (Int.toNat (z02 .i64 (p2 + x8)) * 1)) (z2e el94 z3y ov ov (O63.slLen (j := 0) rfl) j72.1 j72.2.1) (W.ln (Lo.storeSl0 (j := 0) (y0 := IntKind.wrap .u32 x58) (v := (.int .u32 (IntKind.wrap .u32 x58))) rfl j72.2.2  rfl z3y rfl rfl rfl O63) ?_)
 rintro v75 H76 ⟨O73, sm74⟩
 refine .nil (.region (W.q2 _ ((fr61 11 rfl).trans ((fr37 11 rfl).trans t18)) (W.p3 (.int .i64 (z02 .i64 (x8 + 1))) (W.p1 (.int .i64 (z02 .i64 (x8 + 1))) (.nil ?_)))))
 exact ⟨k4, zAg _, ⟨(List.set x5 (Int.toNat (z02 .i64 (p2 + x8))) (IntKind.wrap .u32 x58)), x57, z02 .u64 (Int.tdiv x34 1000000000), z02 .i64 (x8 + 1), _, h71, O73, (zAe s14 (zAe s40 s64)), t66, ((fr61 10 rfl).trans rfl), rfl⟩⟩
def z1z (K : Nat) (p1 : List Int) (p2 : Int) : Nat -> List Int -> Int -> Int -> Option (List Int)
  | 0, _, _, _ => none
  | k + 1, x5, x6, x7 => (if (decide (x7 <= (p1.length : Int))) = true then ((idx x5 (z02 .i64 (p2 + x7))).bind fun x19 => (Option.bind ((if (decide (x7 < (p1.length : Int))) = true then ((idx p1 x7).bind fun x28 => some (z02 .u32 ((z02 .u32 (x19 + x6)) + x28))) else some (z02 .u32 (x19 + x6)))) (tu1 fun x33 => ((idx x5 (z02 .i64 (p2 + x7))).bind fun x43 => z1z K p1 p2 k (List.set x5 (Int.toNat (z02 .i64 (p2 + x7))) (Int.tmod x33 1000000000)) (z02 .u32 (Int.tdiv x33 1000000000)) (z02 .i64 (x7 + 1)))))) else some x5)
def z3p (K : Nat) (p0 : List Int) (p1 : List Int) (p2 : Int) : Option (List Int) := (Option.bind (z1z K p1 p2 K p0 0 0) (tu1 fun x52 => some x52))
theorem zau (v0 : Value) (p0 : List Int) (v1 : Value) (p1 : List Int) (hp1 : (rSl (rI .u32)).rep G [v1] p1) (p2 : Int) (O : Ow G H (eSl v0 181 (rI .u32) p0 :: L)) (r : List Int) (h : z3p K p0 p1 p2 = some r) :
    CR Tryz.prog 174 [v0, v1, (.int .i64 p2)] G H (eSl v0 181 (rI .u32) r :: L) (fun v G' _ => v = .tuple #[]) := by
 unfold z3p at h
 refine CR.og (n := 42) (fn := Tryz.f174) (by kernel_rfl) rfl rfl fun R kr => (.seq (.region (W.p1 (.int .u32 0) (.nil (.seq (.region ?_))))))
 refine W.p1 (.int .i64 0) (.nil ?_)
 obtain ⟨q1, h2, h3⟩ := z01 h
 refine AW.midT (fun σ' H' => ∃ (y1 : List Int) (G' : GM), y1 = q1 /\ Ow G' H' (eSl v0 181 (rI .u32) y1 :: L) /\ GM.le G G') ?_ ?_
 rotate_left
 .rintro σ53 H54 fr55 ⟨x52, G56, rfl, O57, s58⟩
  have h60 := z09 h3
  obtain rfl := zAa h60
  exact zmn kr  (by rfl)  O57 s58 rfl
 refine .block (AW.loop (α := Nat) (fun k' σ' H' => ∃ (y1 : List Int) (y2 : Int) (y3 : Int) (G' : GM), z1z K p1 p2 k' y1 y2 y3 = some q1 /\ Ow G' H' (eSl v0 181 (rI .u32) y1 :: L) /\ GM.le G G' /\ σ' 6 = .int .u32 y2 /\ σ' 7 = .int .i64 y3) (fun k' => k') K ⟨p0, 0, 0, _, h2, O, (zAf _), rfl, rfl⟩ ?_)
 rintro k4
 rintro σ8 H9 fr10 ⟨x5, x6, x7, G11, h14, O12, s13, t15, t16⟩
 rcases k4 with _ | k4
 .exact z07 h14
 rw [z1z] at h14
 refine .seq (.seq (.region (W.q2 _ t16 (W.q2 v1 ((fr10 1 rfl).trans rfl) (W.pv (.int .i64 (p1.length : Int)) (z0i ov (z0c (RT.mono _ s13 hp1)) (z04 el94)) (W.p3 (.bool (decide (x7 <= (p1.length : Int)))) ?_))))))
 refine .nil (.cond (b := decide (x7 <= (p1.length : Int))) rfl rfl (fun g17 => ?_) (fun g17 => ?_))
 rotate_left
 .have h51 := z0j g17 h14
  refine .exit ?_
  obtain rfl := zAa h51
  exact ⟨x5, _, rfl, O12, s13⟩
 have h18 := z05 g17 h14
 refine .skip (.seq (.block (.seq (.region (W.q2 v0 ((fr10 0 rfl).trans rfl) (W.q2 (.int .i64 p2) ((fr10 2 rfl).trans rfl) ?_))))))
 refine W.q2 _ t16 (W.p3 (.int .i64 (z02 .i64 (p2 + x7))) ?_)
 obtain ⟨x19, i20, h21⟩ := z01 h18
 have j22 := z0a i20
 refine W.pv (z1m v0 (Int.toNat (z02 .i64 (p2 + x7)) * 1)) (z2e el94 z3y ov ov (O12.slLen (j := 0) rfl) j22.1 j22.2.1) (W.load1 (v := (.int .u32 x19)) (r := []) rfl rfl z98 (z0t rfl (At.int (O12.atSl (j := 0) rfl j22.2.2))) (W.q2 _ t15 (W.p3 (.int .u32 (z02 .u32 (x19 + x6))) (W.p1 (.int .u32 (z02 .u32 (x19 + x6))) (.nil (.seq ?_))))))
 refine .seq (.region (W.q2 _ t16 (W.q2 v1 ((fr10 1 rfl).trans rfl) (W.pv (.int .i64 (p1.length : Int)) (z0i ov (z0c (RT.mono _ s13 hp1)) (z04 el94)) (W.p3 (.bool (decide (x7 < (p1.length : Int)))) (.nil ?_))))))
 obtain ⟨q23, h24, h25⟩ := z01 h21
 refine AW.midT (fun σ' H' => ∃ (y1 : Int) (G' : GM), y1 = q23 /\ Ow G' H' (eSl v0 181 (rI .u32) x5 :: L) /\ GM.le G11 G' /\ σ' 8 = .int .u32 y1) ?_ ?_
 .refine .cond (b := decide (x7 < (p1.length : Int))) rfl rfl (fun g26 => ?_) (fun g26 => ?_)
  rotate_left
  .have h32 := z0j g26 h24
   refine .skip ?_
   obtain rfl := zAa h32
   exact ⟨z02 .u32 (x19 + x6), _, rfl, O12, (zAf _), rfl⟩
  have h27 := z05 g26 h24
  refine .region (W.p2 (.int .u32 (z02 .u32 (x19 + x6))) (W.q2 v1 ((fr10 1 rfl).trans rfl) (W.q2 _ t16 ?_)))
  obtain ⟨x28, i29, h30⟩ := z01 h27
  have j31 := z0a i29
  refine W.pv (z1m v1 (x7.toNat * 1)) (z2e el94 z3y ov ov (z0c (RT.mono _ s13 hp1)) j31.1 j31.2.1) (W.load1 (v := (.int .u32 x28)) (r := []) rfl rfl z98 (z0t rfl (At.int (At.le (At.le (z2f hp1 j31.2.2) s13 s13) (zAf _) O12.fro))) (W.p3 (.int .u32 (z02 .u32 ((z02 .u32 (x19 + x6)) + x28))) (W.p1 (.int .u32 (z02 .u32 ((z02 .u32 (x19 + x6)) + x28))) (.nil ?_))))
  obtain rfl := zAa h30
  exact ⟨z02 .u32 ((z02 .u32 (x19 + x6)) + x28), _, rfl, O12, (zAf _), rfl⟩
 rintro σ34 H35 fr36 ⟨x33, G37, rfl, O38, s39, t41⟩
 have h42 := z09 h25
 refine .seq (.region (W.q2 _ t41 (W.pv (.int .u32 (z02 .u32 (Int.tdiv x33 1000000000))) (ziu (by decide) ov ov) (W.p1 (.int .u32 (z02 .u32 (Int.tdiv x33 1000000000))) (.nil (.region ?_))))))
 refine W.q2 v0 ((fr36 0 rfl).trans ((fr10 0 rfl).trans rfl)) (W.q2 (.int .i64 p2) ((fr36 2 rfl).trans ((fr10 2 rfl).trans rfl)) (W.q2 _ ((fr36 7 rfl).trans t16) (W.p3 (.int .i64 (z02 .i64 (p2 + x7))) (W.q2 _ t41 (W.pv (.int .u32 (Int.tmod x33 1000000000)) (ziv (by decide) ov ov) ?_)))))
 obtain ⟨x43, i44, h45⟩ := z01 h42
 have j46 := z0a i44
 refine W.pv (z1m v0 (Int.toNat (z02 .i64 (p2 + x7)) * 1)) (z2e el94 z3y ov ov (O38.slLen (j := 0) rfl) j46.1 j46.2.1) (W.ln (Lo.storeSl0 (j := 0) (y0 := Int.tmod x33 1000000000) (v := (.int .u32 (Int.tmod x33 1000000000))) rfl j46.2.2  rfl z3y rfl rfl rfl O38) ?_)
 rintro v49 H50 ⟨O47, sm48⟩
 refine .nil (.region (W.q2 _ ((fr36 7 rfl).trans t16) (W.p3 (.int .i64 (z02 .i64 (x7 + 1))) (W.p1 (.int .i64 (z02 .i64 (x7 + 1))) (.nil ?_)))))
 exact ⟨k4, zAg _, ⟨(List.set x5 (Int.toNat (z02 .i64 (p2 + x7))) (Int.tmod x33 1000000000)), z02 .u32 (Int.tdiv x33 1000000000), z02 .i64 (x7 + 1), _, h45, O47, (zAe s13 s39), rfl, rfl⟩⟩
def z3a (K : Nat) (p0 : List Int) : Nat -> List Int -> Option (List Int)
  | 0, _ => none
  | k + 1, x105 => (if (decide ((x105.length : Int) <= (p0.length : Int))) = true then (if x105.length + List.length [0] <= 16777216 then z3a K p0 k (x105 ++ [0]) else none) else some x105)
def z1v (K : Nat) (x88 : List Int) (x160 : List Int) (x161 : Int) : Nat -> Int -> Int -> Option (Int)
  | 0, _, _ => none
  | k + 1, x212, x213 => (Option.bind ((if (decide (x212 >= 1000000000)) = true then some true else ((idx x88 (z02 .i64 ((x88.length : Int) - 2))).bind fun x235 => (lt (z02 .i64 ((z02 .i64 (x161 + (x88.length : Int))) - 2)) fun x239 => ((idx x160 x239).bind fun x242 => (lt (z02 .u64 ((z02 .u64 (x213 * 1000000000)) + (IntKind.wrap .u64 x242))) fun x246 => (lt (decide ((z02 .u64 (x212 * (IntKind.wrap .u64 x235))) > x246)) fun x249 => some x249))))))) (tu1 fun x252 => (if x252 = true then ((idx x88 (z02 .i64 ((x88.length : Int) - 1))).bind fun x264 => (lt (decide ((z02 .u64 (x213 + (IntKind.wrap .u64 x264))) >= 1000000000)) fun x268 => (if x268 = true then some (z02 .u64 (x212 - 1)) else z1v K x88 x160 x161 k (z02 .u64 (x212 - 1)) (z02 .u64 (x213 + (IntKind.wrap .u64 x264)))))) else some x212)))
def z1g (K : Nat) (x88 : List Int) : Nat -> List Int -> List Int -> Int -> Option (List Int × List Int)
  | 0, _, _, _ => none
  | k + 1, x159, x160, x161 => (if (decide (x161 >= 0)) = true then ((idx x160 (z02 .i64 (x161 + (x88.length : Int)))).bind fun x177 => (lt (z02 .i64 ((z02 .i64 (x161 + (x88.length : Int))) - 1)) fun x181 => ((idx x160 x181).bind fun x184 => (lt (z02 .u64 ((z02 .u64 ((IntKind.wrap .u64 x177) * 1000000000)) + (IntKind.wrap .u64 x184))) fun x188 => ((idx x88 (z02 .i64 ((x88.length : Int) - 1))).bind fun x196 => (if (IntKind.wrap .u64 x196) ≠ 0 then ((idx x88 (z02 .i64 ((x88.length : Int) - 1))).bind fun x202 => (if (IntKind.wrap .u64 x202) ≠ 0 then (Option.bind (z1v K x88 x160 x161 K (z02 .u64 (Int.tdiv x188 (IntKind.wrap .u64 x196))) (Int.tmod x188 (IntKind.wrap .u64 x202))) (tu1 fun x275 => ((z36 K x160 x88 x161 x275).bind fun x286 => (Option.bind ((if x286.1 = true then ((z3p K x286.2 x88 x161).bind fun x302 => some (x302, z02 .u64 (x275 - 1))) else some (x286.2, x275))) (tu2 fun x314 x315 => ((idx x159 x161).bind fun x325 => z1g K x88 k (List.set x159 (x161.toNat) (IntKind.wrap .u32 x315)) x314 (z02 .i64 (x161 - 1)))))))) else none)) else none)))))) else some (x159, x160))
def z3v (K : Nat) (p0 : List Int) (p1 : List Int) : Option (List Int × List Int) := ((z3t K p0 p1).bind fun x1 => (if (decide (x1 < 0)) = true then some ([], p0) else (if ((p1.length : Int) == 1) = true then ((idx p1 0).bind fun x17 => ((z3u K p0 x17).bind fun x21 => some (x21.1, x21.2))) else ((idx p1 (z02 .i64 ((p1.length : Int) - 1))).bind fun x37 => (if (z02 .u64 ((IntKind.wrap .u64 x37) + 1)) ≠ 0 then (lt (z02 .u64 (Int.tdiv (1000000000 : Int) (z02 .u64 ((IntKind.wrap .u64 x37) + 1)))) fun x43 => ((z23 K p0 [IntKind.wrap .u32 x43]).bind fun x54 => (if x54.length + List.length [0] <= 16777216 then ((z23 K p1 [IntKind.wrap .u32 x43]).bind fun x88 => (Option.bind (z3a K p0 K (x54 ++ [0])) (tu1 fun x130 => (lt (z02 .i64 ((x130.length : Int) - (x88.length : Int))) fun x139 => (if 0 <= x139 /\ x139 <= x139 /\ x139 <= 16777216 then (lt (z02 .i64 ((x130.length : Int) - (x88.length : Int))) fun x148 => (Option.bind (z1g K x88 K (List.replicate (x139.toNat) 0) x130 (z02 .i64 (x148 - 1))) (tu2 fun x337 x338 => ((z1n K x338).bind fun x348 => ((z3u K x348 (IntKind.wrap .u32 x43)).bind fun x365 => ((z1n K x337).bind fun x380 => some (x380, x365.1))))))) else none))))) else none))) else none)))))
theorem z6q (v0 : Value) (p0 : List Int) (hp0 : (rSl (rI .u32)).rep G [v0] p0) (v1 : Value) (p1 : List Int) (hp1 : (rSl (rI .u32)).rep G [v1] p1) (O : Ow G H (L)) (r : List Int × List Int) (h : z3v K p0 p1 = some r) :
    CR Tryz.prog 166 [v0, v1] G H (L) (fun v G' _ => ∃ (w0 : Value), ∃ (w1 : Value), v = .tuple #[w0, w1] /\ (rSl (rI .u32)).rep G' [w0] r.1 /\ (rSl (rI .u32)).rep G' [w1] r.2) := by
 unfold z3v at h
 refine CR.og (n := 171) (fn := Tryz.f166) (by kernel_rfl) rfl rfl fun R kr => (.seq (.region (W.p1 (.slice none 0 0) (W.p1 (.slice none 0 0) (.nil (.seq ?_))))))
 refine .seq (.region (W.p2 v0 (W.p2 v1 ?_)))
 obtain ⟨x1, i2, h3⟩ := z01 h
 refine W.ln (Lo.cP rfl (fn := Tryz.f135) (by kernel_rfl) rfl (mc rfl (mc rfl mn)) O (fun L' O' => z54 K v0 p0 hp0 v1 p1 hp1 O' _ i2)) ?_
 rintro v10 H11 ⟨G4, O5, s6, sm9, rfl⟩
 refine W.p3 (.bool (decide (x1 < 0))) (.nil (.cond (b := decide (x1 < 0)) rfl rfl (fun g12 => ?_) (fun g12 => ?_)))
 .have h13 := z05 g12 h3
  refine .seq (.region (W.p2 v0 (W.p1 (.slice none 0 0) (W.p1 v0 (.nil (.ret ?_))))))
  obtain rfl := zAa h13
  exact ziw kr (v1 := (.slice none 0 0)) (v2 := v0) (by rfl) rt rt O5 s6 ⟨(.slice none 0 0), v0, rfl, zjj, (RT.mono _ s6 hp0)⟩
 have h14 := z0j g12 h3
 refine .skip (.seq (.seq (.region (W.p2 v1 (W.pv (.int .i64 (p1.length : Int)) (z0i ov (z0c (RT.mono _ s6 hp1)) (z04 el94)) (W.p3 (.bool ((p1.length : Int) == 1)) ?_))))))
 refine .nil (.cond (b := ((p1.length : Int) == 1)) rfl rfl (fun g15 => ?_) (fun g15 => ?_))
 .have h16 := z05 g15 h14
  refine .seq (.region (W.p2 v0 (W.p2 v1 ?_)))
  obtain ⟨x17, i18, h19⟩ := z01 h16
  have j20 := z0a i18
  refine W.pv (z1m v1 (Int.toNat 0 * 1)) (z2e el94 z3y ov ov (z0c (RT.mono _ s6 hp1)) j20.1 j20.2.1) (W.load1 (v := (.int .u32 x17)) (r := []) rfl rfl z98 (z0t rfl (At.int (At.le (At.le (z2f hp1 j20.2.2) s6 s6) (zAf _) O5.fro))) ?_)
  obtain ⟨x21, i22, h23⟩ := z01 h19
  refine W.ln (Lo.cP rfl (fn := Tryz.f172) (by kernel_rfl) rfl (mc rfl (mc rfl mn)) O5 (fun L' O' => z7b K v0 p0 (RT.mono _ s6 hp0) x17 O' _ i22)) ?_
  rintro v34 H35 ⟨G24, O25, s26, sm33, ⟨w28, w30, rfl, f29, f31⟩⟩
  refine W.pv w28 (z0b ov rfl) (W.pv w30 (z0b ov rfl) (W.p1 w28 (W.p1 w30 (.nil (.ret ?_)))))
  obtain rfl := zAa h23
  exact ziw kr (v1 := w28) (v2 := w30) (by rfl) rt rt O25 (zAe s6 s26) ⟨w28, w30, rfl, f29, f31⟩
 have h36 := z0j g15 h14
 refine .skip (.seq (.region (W.p2 v1 (W.p2 v1 (W.pv (.int .i64 (p1.length : Int)) (z0i ov (z0c (RT.mono _ s6 hp1)) (z04 el94)) (W.p3 (.int .i64 (z02 .i64 ((p1.length : Int) - 1))) ?_))))))
 obtain ⟨x37, i38, h39⟩ := z01 h36
 have j40 := z0a i38
 refine W.pv (z1m v1 (Int.toNat (z02 .i64 ((p1.length : Int) - 1)) * 1)) (z2e el94 z3y ov ov (z0c (RT.mono _ s6 hp1)) j40.1 j40.2.1) (W.load1 (v := (.int .u32 x37)) (r := []) rfl rfl z98 (z0t rfl (At.int (At.le (At.le (z2f hp1 j40.2.2) s6 s6) (zAf _) O5.fro))) (W.pv (.int .u64 (IntKind.wrap .u64 x37)) (z3n z8v zar ov) (W.p3 (.int .u64 (z02 .u64 ((IntKind.wrap .u64 x37) + 1))) ?_)))
 obtain ⟨g41, h42⟩ := z2l h39
 refine W.pv (.int .u64 (z02 .u64 (Int.tdiv (1000000000 : Int) (z02 .u64 ((IntKind.wrap .u64 x37) + 1))))) (ziu g41 ov ov) ?_
 obtain ⟨x43, e44, h45⟩ := z67 h42
 refine W.pv (.int .u32 (IntKind.wrap .u32 x43)) (z3n zar z8v (ou (congrArg (Value.int .u64) e44))) (W.p1 (.int .u32 (IntKind.wrap .u32 x43)) (.nil (.seq (.region (W.p2 v0 (W.p2 (.int .u32 (IntKind.wrap .u32 x43)) ?_))))))
 refine W.ln (Lo.buildSlice (r := (rI .u32)) (vs := [(.int .u32 (IntKind.wrap .u32 x43))]) (xs := [IntKind.wrap .u32 x43]) el94 zb9 z3y (by kernel_rfl) rfl (qc rfl qn) rfl (.cons rfl .nil) O5) ?_
 rintro v48 H49 ⟨O46, sm47⟩
 obtain ⟨G50, O51, s52, f53⟩ := O46.frzSl (j := 0) rfl
 obtain ⟨x54, i55, h56⟩ := z01 h45
 refine W.ln (Lo.callPF (ps := []) (pw := fun w => [eSl w 181 (rI .u32) x54]) rfl (fn := Tryz.f139) (by kernel_rfl) rfl (mc rfl (mc rfl mn)) O51 (fun L' O' => z1u K v0 p0 (RT.mono _ (zAe s6 s52) hp0) v48 [IntKind.wrap .u32 x43] f53 O' _ i55)) ?_
 rintro v65 H66 ⟨w62, G57, O58, s59, sm64, rfl⟩
 refine W.ln (Lo.buildSlice (r := (rI .u32)) (vs := [(.int .u32 0)]) (xs := [0]) el94 zb9 z3y (by kernel_rfl) rfl (qc rfl qn) rfl (.cons rfl .nil) O58) ?_
 rintro v69 H70 ⟨O67, sm68⟩
 obtain ⟨es72, e73, e74⟩ := z4p (j := 0) rfl O67
 obtain ⟨g75, h76⟩ := z2l h56
 refine W.ln (Lo.append (j := 1) (v := w62) rfl rfl el94 ni94 zb9 z3y zhc (by decide) (by decide) rfl e73 e74 g75 O67) ?_
 rintro v78 H79 ⟨O71, sm77⟩
 refine W.p2 v1 (W.p2 (.int .u32 (IntKind.wrap .u32 x43)) (W.ln (Lo.buildSlice (r := (rI .u32)) (vs := [(.int .u32 (IntKind.wrap .u32 x43))]) (xs := [IntKind.wrap .u32 x43]) el94 zb9 z3y (by kernel_rfl) rfl (qc rfl qn) rfl (.cons rfl .nil) O71) ?_))
 rintro v82 H83 ⟨O80, sm81⟩
 obtain ⟨G84, O85, s86, f87⟩ := O80.frzSl (j := 0) rfl
 obtain ⟨x88, i89, h90⟩ := z01 h76
 refine W.ln (Lo.callPF (ps := []) (pw := fun w => [eSl w 181 (rI .u32) x88]) rfl (fn := Tryz.f139) (by kernel_rfl) rfl (mc rfl (mc rfl mn)) O85 (fun L' O' => z1u K v1 p1 (RT.mono _ (zAe s6 (zAe s52 (zAe s59 s86))) hp1) v82 [IntKind.wrap .u32 x43] f87 O' _ i89)) ?_
 rintro v99 H100 ⟨w96, G91, O92, s93, sm98, rfl⟩
 refine W.p1 v78 (W.p1 w96 (.nil (.seq ?_)))
 obtain ⟨q101, h102, h103⟩ := z01 h90
 refine AW.midT (fun σ' H' => ∃ (y1 : List Int) (G' : GM), y1 = q101 /\ Ow G' H' (eSl w96 181 (rI .u32) x88 :: eSl v69 181 (rI .u32) [0] :: eSl (σ' 7) 181 (rI .u32) y1 :: L) /\ GM.le G91 G') ?_ ?_
 .refine .block (AW.loop (α := Nat) (fun k' σ' H' => ∃ (y1 : List Int) (G' : GM), z3a K p0 k' y1 = some q101 /\ Ow G' H' (eSl w96 181 (rI .u32) x88 :: eSl v69 181 (rI .u32) [0] :: eSl (σ' 7) 181 (rI .u32) y1 :: L) /\ GM.le G91 G') (fun k' => k') K ⟨(x54 ++ [0]), _, h102, O92, (zAf _)⟩ ?_)
  rintro k104
  rintro σ106 H107 fr108 ⟨x105, G109, h112, O110, s111⟩
  rcases k104 with _ | k104
  .exact z07 h112
  rw [z3a] at h112
  refine .seq (.seq (.region (W.p2 (σ106 7) (W.pv (.int .i64 (x105.length : Int)) (z0i ov (O110.slLen (j := 2) rfl) (z04 el94)) (W.q2 v0 ((fr108 0 rfl).trans rfl) (W.pv (.int .i64 (p0.length : Int)) (z0i ov (z0c (RT.mono _ (zAe s6 (zAe s52 (zAe s59 (zAe s86 (zAe s93 s111))))) hp0)) (z04 el94)) ?_))))))
  refine W.p3 (.bool (decide ((x105.length : Int) <= (p0.length : Int)))) (.nil (.cond (b := decide ((x105.length : Int) <= (p0.length : Int))) rfl rfl (fun g113 => ?_) (fun g113 => ?_)))
  rotate_left
  .have h129 := z0j g113 h112
   refine .exit ?_
   obtain rfl := zAa h129
   exact ⟨x105, _, rfl, O110, s111⟩
  have h114 := z05 g113 h112
  refine .skip (.block (.region (W.p2 (σ106 7) (W.ln (Lo.buildSlice (r := (rI .u32)) (vs := [(.int .u32 0)]) (xs := [0]) el94 zb9 z3y (by kernel_rfl) rfl (qc rfl qn) rfl (.cons rfl .nil) O110) ?_))))
  rintro v117 H118 ⟨O115, sm116⟩
  obtain ⟨es120, e121, e122⟩ := z4p (j := 0) rfl O115
  obtain ⟨g123, h124⟩ := z2l h114
  refine W.ln (Lo.append (j := 3) (v := (σ106 7)) rfl rfl el94 ni94 zb9 z3y zhc (by decide) (by decide) rfl e121 e122 g123 O115) ?_
  rintro v126 H127 ⟨O119, sm125⟩
  refine W.p1 v126 (.nil ?_)
  have O128 := O119.drop 0
  exact ⟨k104, zAg _, ⟨(x105 ++ [0]), _, h124, O128, s111⟩⟩
 rintro σ131 H132 fr133 ⟨x130, G134, rfl, O135, s136⟩
 have h138 := z09 h103
 refine .seq (.region (W.q2 w96 ((fr133 8 rfl).trans rfl) (W.pv (.int .i64 (x88.length : Int)) (z0i ov (O135.slLen (j := 0) rfl) (z04 el94)) (W.p1 (.int .i64 (x88.length : Int)) (.nil (.seq ?_))))))
 refine .region (W.p2 (σ131 7) (W.pv (.int .i64 (x130.length : Int)) (z0i ov (O135.slLen (j := 2) rfl) (z04 el94)) (W.p2 (.int .i64 (x88.length : Int)) (W.p3 (.int .i64 (z02 .i64 ((x130.length : Int) - (x88.length : Int)))) ?_))))
 obtain ⟨x139, e140, h141⟩ := z67 h138
 obtain ⟨g143, h144⟩ := z2l h141
 refine W.ln (Lo.makeSlice (r := (rI .u32)) (x0 := 0) (a := x139) (c := x139) rfl el94 zb9 z3y (by kernel_rfl) rfl zhc (by decide) (congrArg (Value.int .i64) e140) (congrArg (Value.int .i64) e140) g143 (zI .u32) O135) ?_
 rintro v146 H147 ⟨O142, sm145⟩
 refine W.p1 v146 (.nil (.seq (.seq (.region (W.p2 (σ131 7) (W.pv (.int .i64 (x130.length : Int)) (z0i ov (O142.slLen (j := 3) rfl) (z04 el94)) ?_))))))
 refine W.p2 (.int .i64 (x88.length : Int)) (W.p3 (.int .i64 (z02 .i64 ((x130.length : Int) - (x88.length : Int)))) ?_)
 obtain ⟨x148, e149, h150⟩ := z67 h144
 refine W.q3 (.int .i64 (z02 .i64 (x148 - 1))) (congrArg (Value.int .i64) e149) rfl (W.p1 (.int .i64 (z02 .i64 (x148 - 1))) (.nil ?_))
 obtain ⟨G151, O152, s153, f154⟩ := O142.frzSl (j := 1) rfl
 obtain ⟨q155, h156, h157⟩ := z01 h150
 refine AW.midT (fun σ' H' => ∃ (y1 : List Int) (y2 : List Int) (G' : GM), (y1, y2) = q155 /\ Ow G' H' (eSl v146 181 (rI .u32) y1 :: eSl v69 181 (rI .u32) [0] :: eSl (σ131 7) 181 (rI .u32) y2 :: L) /\ GM.le G151 G') ?_ ?_
 rotate_left
 .rintro σ339 H340 fr341 ⟨x337, x338, G342, rfl, O343, s344⟩
  have h346 := z52 h157
  refine .seq (.region (W.q2 (σ131 7) ((fr341 7 rfl).trans rfl) ?_))
  have O347 : Ow G342 H340 (eSl (σ131 7) 181 (rI .u32) x338 :: eSl v146 181 (rI .u32) x337 :: eSl v69 181 (rI .u32) [0] :: L) := O343.front (j := 2) rfl
  obtain ⟨x348, i349, h350⟩ := z01 h346
  refine W.ln (Lo.callPF (ps := [eSl (σ131 7) 181 (rI .u32) x338]) (pw := fun w => [eSl w 181 (rI .u32) x348]) rfl (fn := Tryz.f165) (by kernel_rfl) rfl (mc rfl mn) O347 (fun L' O' => z2h K (σ131 7) x338 O' _ i349)) ?_
  rintro v359 H360 ⟨w356, G351, O352, s353, sm358, rfl⟩
  refine W.q2 (.int .u32 (IntKind.wrap .u32 x43)) ((fr341 6 rfl).trans ((fr133 6 rfl).trans rfl)) ?_
  obtain ⟨G361, O362, s363, f364⟩ := O352.frzSl (j := 0) rfl
  obtain ⟨x365, i366, h367⟩ := z01 h350
  refine W.ln (Lo.cP rfl (fn := Tryz.f172) (by kernel_rfl) rfl (mc rfl (mc rfl mn)) O362 (fun L' O' => z7b K w356 x348 f364 (IntKind.wrap .u32 x43) O' _ i366)) ?_
  rintro v378 H379 ⟨G368, O369, s370, sm377, ⟨w372, w374, rfl, f373, f375⟩⟩
  refine W.p2 (.tuple #[w372, w374]) (W.pv w372 (z0b ov rfl) (W.pv w374 (z0b ov rfl) (W.p1 w372 (W.p1 w374 (.nil (.seq ?_))))))
  refine .region (W.q2 v146 ((fr341 10 rfl).trans rfl) ?_)
  obtain ⟨x380, i381, h382⟩ := z01 h367
  refine W.ln (Lo.callPF (ps := [eSl v146 181 (rI .u32) x337]) (pw := fun w => [eSl w 181 (rI .u32) x380]) rfl (fn := Tryz.f165) (by kernel_rfl) rfl (mc rfl mn) O369 (fun L' O' => z2h K v146 x337 O' _ i381)) ?_
  rintro v391 H392 ⟨w388, G383, O384, s385, sm390, rfl⟩
  refine W.p2 w372 (W.p1 w388 (W.p1 w372 (.nil (.ret ?_))))
  obtain ⟨G393, O394, s395, f396⟩ := O384.frzSl (j := 0) rfl
  have O397 := O394.drop 0
  obtain rfl := zAa h382
  exact ziw kr (v1 := w388) (v2 := w372) (by rfl) rt rt O397 (zAe s6 (zAe s52 (zAe s59 (zAe s86 (zAe s93 (zAe s136 (zAe s153 (zAe s344 (zAe s353 (zAe s363 (zAe s370 (zAe s385 s395)))))))))))) ⟨w388, w372, rfl, f396, (RT.mono _ (zAe s385 s395) f373)⟩
 refine .block (AW.loop (α := Nat) (fun k' σ' H' => ∃ (y1 : List Int) (y2 : List Int) (y3 : Int) (G' : GM), z1g K x88 k' y1 y2 y3 = some q155 /\ Ow G' H' (eSl v146 181 (rI .u32) y1 :: eSl v69 181 (rI .u32) [0] :: eSl (σ131 7) 181 (rI .u32) y2 :: L) /\ GM.le G151 G' /\ σ' 11 = .int .i64 y3) (fun k' => k') K ⟨(List.replicate (x139.toNat) 0), x130, z02 .i64 (x148 - 1), _, h156, O152, (zAf _), rfl⟩ ?_)
 rintro k158
 rintro σ162 H163 fr164 ⟨x159, x160, x161, G165, h168, O166, s167, t169⟩
 rcases k158 with _ | k158
 .exact z07 h168
 rw [z1g] at h168
 refine .seq (.seq (.region (W.q2 _ t169 (W.p3 (.bool (decide (x161 >= 0))) (.nil (.cond (b := decide (x161 >= 0)) rfl rfl (fun g170 => ?_) (fun g170 => ?_)))))))
 rotate_left
 .have h336 := z0j g170 h168
  refine .exit ?_
  obtain rfl := zAa h336
  exact ⟨x159, x160, _, rfl, O166, s167⟩
 have h171 := z05 g170 h168
 refine .skip (.seq (.block (.seq (.draw2 (M := [0, 0, 0, 6, 15, 31, 63, 127, 0, 0, 0, 1536, 3584, 7936, 16128, 32512, 65535, 131071]) mixed (by kernel_rfl) (by kernel_rfl) fun H172 N176 x173 F175 => ?_))))
 have O174 := O166.ext x173
 refine D2.q2 (σ131 7) ((fr164 7 rfl).trans rfl) (D2.q2 _ t169 (D2.q2 (.int .i64 (x88.length : Int)) ((fr164 9 rfl).trans rfl) (D2.p3 (.int .i64 (z02 .i64 (x161 + (x88.length : Int)))) ?_)))
 obtain ⟨x177, i178, h179⟩ := z01 h171
 have j180 := z0a i178
 refine D2.pv (z1m (σ131 7) (Int.toNat (z02 .i64 (x161 + (x88.length : Int))) * 1)) (z2e el94 z3y ov ov (O174.slLen (j := 2) rfl) j180.1 j180.2.1) (D2.load1' (v := (.int .u32 x177)) (r := []) rfl rfl z98 (z0t rfl (At.int (O174.atSl (j := 2) rfl j180.2.2))) z06 (D2.pv (.int .u64 (IntKind.wrap .u64 x177)) (z3n z8v zar ov) (D2.p3 (.int .u64 (z02 .u64 ((IntKind.wrap .u64 x177) * 1000000000))) (D2.q2 (σ131 7) ((fr164 7 rfl).trans rfl) (D2.q2 _ t169 (D2.q2 (.int .i64 (x88.length : Int)) ((fr164 9 rfl).trans rfl) ?_))))))
 refine D2.p3 (.int .i64 (z02 .i64 (x161 + (x88.length : Int)))) (D2.p3 (.int .i64 (z02 .i64 ((z02 .i64 (x161 + (x88.length : Int))) - 1))) ?_)
 obtain ⟨x181, e182, h183⟩ := z67 h179
 obtain ⟨x184, i185, h186⟩ := z01 h183
 have j187 := z0a i185
 refine D2.pv (z1m (σ131 7) (x181.toNat * 1)) (z2e el94 z3y ov (ou (congrArg (Value.int .i64) e182)) (O174.slLen (j := 2) rfl) j187.1 j187.2.1) (D2.load1' (v := (.int .u32 x184)) (r := []) rfl rfl z98 (z0t rfl (At.int (O174.atSl (j := 2) rfl j187.2.2))) z06 (D2.pv (.int .u64 (IntKind.wrap .u64 x184)) (z3n z8v zar ov) (D2.p3 (.int .u64 (z02 .u64 ((z02 .u64 ((IntKind.wrap .u64 x177) * 1000000000)) + (IntKind.wrap .u64 x184)))) ?_)))
 obtain ⟨x188, e189, h190⟩ := z67 h186
 refine D2.q1 _ (congrArg (Value.int .u64) e189) (.nil (.seq (.draw2 (M := [0, 0, 0, 4, 14, 30, 62, 127, 0, 0, 0, 1024, 3584, 7680, 15872, 32512, 255, 131071]) mixed (by kernel_rfl) (by kernel_rfl) fun H191 N195 x192 F194 => ?_)))
 have O193 := O174.ext x192
 refine D2.p2 (.int .u64 x188) (D2.q2 w96 ((fr164 8 rfl).trans ((fr133 8 rfl).trans rfl)) (D2.q2 (.int .i64 (x88.length : Int)) ((fr164 9 rfl).trans rfl) (D2.p3 (.int .i64 (z02 .i64 ((x88.length : Int) - 1))) ?_)))
 obtain ⟨x196, i197, h198⟩ := z01 h190
 have j199 := z0a i197
 refine D2.pv (z1m w96 (Int.toNat (z02 .i64 ((x88.length : Int) - 1)) * 1)) (z2e el94 z3y ov ov (z0c (RT.mono _ s167 f154)) j199.1 j199.2.1) (D2.load1' (v := (.int .u32 x196)) (r := []) rfl rfl z98 (z0t rfl (At.int (At.le (At.le (z2f f154 j199.2.2) s167 s167) (zAf _) O193.fro))) z06 (D2.pv (.int .u64 (IntKind.wrap .u64 x196)) (z3n z8v zar ov) ?_))
 obtain ⟨g200, h201⟩ := z2l h198
 refine D2.pv (.int .u64 (z02 .u64 (Int.tdiv x188 (IntKind.wrap .u64 x196)))) (ziu g200 ov ov) (D2.p2 (.int .u64 x188) (D2.q2 w96 ((fr164 8 rfl).trans ((fr133 8 rfl).trans rfl)) (D2.q2 (.int .i64 (x88.length : Int)) ((fr164 9 rfl).trans rfl) (D2.p3 (.int .i64 (z02 .i64 ((x88.length : Int) - 1))) ?_))))
 obtain ⟨x202, i203, h204⟩ := z01 h201
 have j205 := z0a i203
 refine D2.pv (z1m w96 (Int.toNat (z02 .i64 ((x88.length : Int) - 1)) * 1)) (z2e el94 z3y ov ov (z0c (RT.mono _ s167 f154)) j205.1 j205.2.1) (D2.load1' (v := (.int .u32 x202)) (r := []) rfl rfl z98 (z0t rfl (At.int (At.le (At.le (z2f f154 j205.2.2) s167 s167) (zAf _) O193.fro))) z06 (D2.pv (.int .u64 (IntKind.wrap .u64 x202)) (z3n z8v zar ov) ?_))
 obtain ⟨g206, h207⟩ := z2l h204
 refine D2.pv (.int .u64 (Int.tmod x188 (IntKind.wrap .u64 x202))) (ziv g206 ov ov) (D2.p1 (.int .u64 (z02 .u64 (Int.tdiv x188 (IntKind.wrap .u64 x196)))) (D2.p1 (.int .u64 (Int.tmod x188 (IntKind.wrap .u64 x202))) (.nil (.seq ?_))))
 obtain ⟨q208, h209, h210⟩ := z01 h207
 refine AW.midT (fun σ' H' => ∃ (y1 : Int) (G' : GM), y1 = q208 /\ Ow G' H' (eSl v146 181 (rI .u32) x159 :: eSl v69 181 (rI .u32) [0] :: eSl (σ131 7) 181 (rI .u32) x160 :: L) /\ GM.le G165 G' /\ σ' 13 = .int .u64 y1) ?_ ?_
 rotate_left
 .rintro σ276 H277 fr278 ⟨x275, G279, rfl, O280, s281, t283⟩
  have h284 := z09 h210
  refine .seq (.seq (.region (W.q2 (σ131 7) ((fr278 7 rfl).trans ((fr164 7 rfl).trans rfl)) (W.q2 w96 ((fr278 8 rfl).trans ((fr164 8 rfl).trans ((fr133 8 rfl).trans rfl))) (W.q2 _ ((fr278 11 rfl).trans t169) (W.q2 _ t283 ?_))))))
  have O285 : Ow G279 H277 (eSl (σ131 7) 181 (rI .u32) x160 :: eSl v146 181 (rI .u32) x159 :: eSl v69 181 (rI .u32) [0] :: L) := O280.front (j := 2) rfl
  obtain ⟨x286, i287, h288⟩ := z01 h284
  refine W.ln (Lo.callP (ps := [eSl (σ131 7) 181 (rI .u32) x160]) (ps' := [eSl (σ131 7) 181 (rI .u32) x286.2]) rfl (fn := Tryz.f173) (by kernel_rfl) rfl (mc rfl (mc rfl (mc rfl (mc rfl mn)))) O285 (fun L' O' => zaa K (σ131 7) x160 w96 x88 (RT.mono _ (zAe s167 s281) f154) x161 x275 O' _ i287)) ?_
  rintro v295 H296 ⟨G289, O290, s291, sm294, rfl⟩
  refine .nil ?_
  obtain ⟨q297, h298, h299⟩ := z01 h288
  refine AW.midT (fun σ' H' => ∃ (y1 : List Int) (y2 : Int) (G' : GM), (y1, y2) = q297 /\ Ow G' H' (eSl (σ131 7) 181 (rI .u32) y1 :: eSl v146 181 (rI .u32) x159 :: eSl v69 181 (rI .u32) [0] :: L) /\ GM.le G289 G' /\ σ' 13 = .int .u64 y2) ?_ ?_
  .refine .cond (b := x286.1) rfl rfl (fun g300 => ?_) (fun g300 => ?_)
   rotate_left
   .have h313 := z0j g300 h298
    refine .skip ?_
    obtain rfl := zAa h313
    exact ⟨x286.2, x275, _, rfl, O290, (zAf _), t283⟩
   have h301 := z05 g300 h298
   refine .seq (.region (W.q2 _ t283 (W.p3 (.int .u64 (z02 .u64 (x275 - 1))) (W.p1 (.int .u64 (z02 .u64 (x275 - 1))) (.nil (.region ?_))))))
   refine W.q2 (σ131 7) ((fr278 7 rfl).trans ((fr164 7 rfl).trans rfl)) (W.q2 w96 ((fr278 8 rfl).trans ((fr164 8 rfl).trans ((fr133 8 rfl).trans rfl))) (W.q2 _ ((fr278 11 rfl).trans t169) ?_))
   obtain ⟨x302, i303, h304⟩ := z01 h301
   refine W.ln (Lo.callP (ps := [eSl (σ131 7) 181 (rI .u32) x286.2]) (ps' := [eSl (σ131 7) 181 (rI .u32) x302]) rfl (fn := Tryz.f174) (by kernel_rfl) rfl (mc rfl (mc rfl (mc rfl mn))) O290 (fun L' O' => zau K (σ131 7) x286.2 w96 x88 (RT.mono _ (zAe s167 (zAe s281 s291)) f154) x161 O' _ i303)) ?_
   rintro v311 H312 ⟨G305, O306, s307, sm310, rfl⟩
   refine .nil ?_
   obtain rfl := zAa h304
   exact ⟨x302, z02 .u64 (x275 - 1), _, rfl, O306, s307, rfl⟩
  rintro σ316 H317 fr318 ⟨x314, x315, G319, rfl, O320, s321, t323⟩
  have h324 := z52 h299
  refine .region (W.q2 v146 ((fr318 10 rfl).trans ((fr278 10 rfl).trans ((fr164 10 rfl).trans rfl))) (W.q2 _ ((fr318 11 rfl).trans ((fr278 11 rfl).trans t169)) (W.q2 _ t323 (W.pv (.int .u32 (IntKind.wrap .u32 x315)) (z3n zar z8v ov) ?_))))
  obtain ⟨x325, i326, h327⟩ := z01 h324
  have j328 := z0a i326
  refine W.pv (z1m v146 (x161.toNat * 1)) (z2e el94 z3y ov ov (O320.slLen (j := 1) rfl) j328.1 j328.2.1) (W.ln (Lo.storeSl0 (j := 1) (y0 := IntKind.wrap .u32 x315) (v := (.int .u32 (IntKind.wrap .u32 x315))) rfl j328.2.2  rfl z3y rfl rfl rfl O320) ?_)
  rintro v331 H332 ⟨O329, sm330⟩
  refine .nil (.region (W.q2 _ ((fr318 11 rfl).trans ((fr278 11 rfl).trans t169)) (W.p3 (.int .i64 (z02 .i64 (x161 - 1))) (W.p1 (.int .i64 (z02 .i64 (x161 - 1))) (.nil ?_)))))
  have O333 : Ow G319 H332 (eSl (σ131 7) 181 (rI .u32) x314 :: eSl v146 181 (rI .u32) (List.set x159 (x161.toNat) (IntKind.wrap .u32 x315)) :: eSl v69 181 (rI .u32) [0] :: L) := O329.front (j := 0) rfl
  have O334 : Ow G319 H332 (eSl v69 181 (rI .u32) [0] :: eSl (σ131 7) 181 (rI .u32) x314 :: eSl v146 181 (rI .u32) (List.set x159 (x161.toNat) (IntKind.wrap .u32 x315)) :: L) := O333.front (j := 2) rfl
  have O335 : Ow G319 H332 (eSl v146 181 (rI .u32) (List.set x159 (x161.toNat) (IntKind.wrap .u32 x315)) :: eSl v69 181 (rI .u32) [0] :: eSl (σ131 7) 181 (rI .u32) x314 :: L) := O334.front (j := 2) rfl
  exact ⟨k158, zAg _, ⟨(List.set x159 (x161.toNat) (IntKind.wrap .u32 x315)), x314, z02 .i64 (x161 - 1), _, h327, O335, (zAe s167 (zAe s281 (zAe s291 s321))), rfl⟩⟩
 refine .block (AW.loop (α := Nat) (fun k' σ' H' => ∃ (y1 : Int) (y2 : Int) (G' : GM), z1v K x88 x160 x161 k' y1 y2 = some q208 /\ Ow G' H' (eSl v146 181 (rI .u32) x159 :: eSl v69 181 (rI .u32) [0] :: eSl (σ131 7) 181 (rI .u32) x160 :: L) /\ GM.le G165 G' /\ σ' 13 = .int .u64 y1 /\ σ' 14 = .int .u64 y2) (fun k' => k') K ⟨z02 .u64 (Int.tdiv x188 (IntKind.wrap .u64 x196)), Int.tmod x188 (IntKind.wrap .u64 x202), _, h209, O193, (zAf _), rfl, rfl⟩ ?_)
 rintro k211
 rintro σ214 H215 fr216 ⟨x212, x213, G217, h220, O218, s219, t221, t222⟩
 rcases k211 with _ | k211
 .exact z07 h220
 rw [z1v] at h220
 refine .seq (.seq ?_)
 obtain ⟨q223, h224, h225⟩ := z01 h220
 refine AW.midT (fun σ' H' => ∃ (y1 : Bool) (G' : GM), y1 = q223 /\ Ow G' H' (eSl v146 181 (rI .u32) x159 :: eSl v69 181 (rI .u32) [0] :: eSl (σ131 7) 181 (rI .u32) x160 :: L) /\ GM.le G217 G' /\ σ' 132 = .bool y1) ?_ ?_
 rotate_left
 .rintro σ253 H254 fr255 ⟨x252, G256, rfl, O257, s258, t260⟩
  have h261 := z09 h225
  refine .cond (b := x252) rfl t260 (fun g262 => ?_) (fun g262 => ?_)
  rotate_left
  .have h274 := z0j g262 h261
   refine .exit ?_
   obtain rfl := zAa h274
   exact ⟨x212, _, rfl, O257, (zAe s219 s258), ((fr255 13 rfl).trans t221)⟩
  have h263 := z05 g262 h261
  refine .skip (.block (.seq (.region (W.q2 _ ((fr255 13 rfl).trans t221) (W.p3 (.int .u64 (z02 .u64 (x212 - 1))) (W.p1 (.int .u64 (z02 .u64 (x212 - 1))) ?_))))))
  refine .nil (.seq (.region (W.q2 _ ((fr255 14 rfl).trans t222) (W.q2 w96 ((fr255 8 rfl).trans ((fr216 8 rfl).trans ((fr164 8 rfl).trans ((fr133 8 rfl).trans rfl)))) (W.q2 (.int .i64 (x88.length : Int)) ((fr255 9 rfl).trans ((fr216 9 rfl).trans ((fr164 9 rfl).trans rfl))) (W.p3 (.int .i64 (z02 .i64 ((x88.length : Int) - 1))) ?_))))))
  obtain ⟨x264, i265, h266⟩ := z01 h263
  have j267 := z0a i265
  refine W.pv (z1m w96 (Int.toNat (z02 .i64 ((x88.length : Int) - 1)) * 1)) (z2e el94 z3y ov ov (z0c (RT.mono _ (zAe s167 (zAe s219 s258)) f154)) j267.1 j267.2.1) (W.load1 (v := (.int .u32 x264)) (r := []) rfl rfl z98 (z0t rfl (At.int (At.le (At.le (z2f f154 j267.2.2) (zAe s167 (zAe s219 s258)) (zAe s167 (zAe s219 s258))) (zAf _) O257.fro))) (W.pv (.int .u64 (IntKind.wrap .u64 x264)) (z3n z8v zar ov) (W.p3 (.int .u64 (z02 .u64 (x213 + (IntKind.wrap .u64 x264)))) (W.p1 (.int .u64 (z02 .u64 (x213 + (IntKind.wrap .u64 x264)))) (.nil (.seq ?_))))))
  refine .region (W.p2 (.int .u64 (z02 .u64 (x213 + (IntKind.wrap .u64 x264)))) (W.p3 (.bool (decide ((z02 .u64 (x213 + (IntKind.wrap .u64 x264))) >= 1000000000))) ?_))
  obtain ⟨x268, e269, h270⟩ := z67 h266
  refine .nil (.cond (b := x268) rfl (congrArg (Value.bool) e269) (fun g271 => ?_) (fun g271 => ?_))
  .have h272 := z05 g271 h270
   refine .exit ?_
   obtain rfl := zAa h272
   exact ⟨z02 .u64 (x212 - 1), _, rfl, O257, (zAe s219 s258), rfl⟩
  have h273 := z0j g271 h270
  refine .skip ?_
  exact ⟨k211, zAg _, ⟨z02 .u64 (x212 - 1), z02 .u64 (x213 + (IntKind.wrap .u64 x264)), _, h273, O257, (zAe s219 s258), rfl, rfl⟩⟩
 refine .draw2 (M := [0, 1, 3, 7, 7, 7, 39, 119, 247, 503, 1023, 7, 2055, 7, 7, 7, 49159, 114695, 253959, 516103, 1040391, 2095111, 4194303, 8388607]) mixed (by kernel_rfl) (by kernel_rfl) fun H226 N230 x227 F229 => ?_
 have O228 := O218.ext x227
 refine D2.q2 _ t221 (D2.p3 (.bool (decide (x212 >= 1000000000))) (D2.p2 (.bool (decide (x212 >= 1000000000))) (D2.splitAt (t := 111) (b := decide (x212 >= 1000000000)) rfl (fun g231 gv232 => ?_) (fun g231 gv232 => ?_))))
 .have h233 := z05 g231 h224
  refine D2.skip (gk rfl rfl gv232 rfl) rfl (D2.skip (gk rfl rfl gv232 rfl) rfl (D2.skip (gk rfl rfl gv232 rfl) rfl (D2.skip (gk rfl rfl gv232 rfl) rfl (D2.skip (gk rfl rfl gv232 rfl) rfl (D2.skip (gk rfl rfl gv232 rfl) rfl (D2.skip (gk rfl rfl gv232 rfl) rfl ?_))))))
  refine D2.skip (gk rfl rfl gv232 rfl) rfl (D2.skip (gk rfl rfl gv232 rfl) rfl (D2.skip (gk rfl rfl gv232 rfl) rfl (D2.skip (gk rfl rfl gv232 rfl) rfl (D2.skip (gk rfl rfl gv232 rfl) rfl (D2.skip (gk rfl rfl gv232 rfl) rfl (D2.skip (gk rfl rfl gv232 rfl) rfl ?_))))))
  refine D2.skip (gk rfl rfl gv232 rfl) rfl (D2.skip (gk rfl rfl gv232 rfl) rfl (D2.skip (gk rfl rfl gv232 rfl) rfl (D2.skip (gk rfl rfl gv232 rfl) rfl (D2.skip (gk rfl rfl gv232 rfl) rfl (D2.skip (gk rfl rfl gv232 rfl) rfl (D2.pv (.bool true) (zkq (ou gv232) ov) ?_))))))
  refine .nil ?_
  obtain rfl := zAa h233
  exact ⟨true, _, rfl, O228, (zAf _), rfl⟩
 have h234 := z0j g231 h224
 refine D2.q2 (hg := gk rfl rfl gv232 rfl) _ t221 (D2.q2 (hg := gk rfl rfl gv232 rfl) w96 ((fr216 8 rfl).trans ((fr164 8 rfl).trans ((fr133 8 rfl).trans rfl))) (D2.q2 (hg := gk rfl rfl gv232 rfl) (.int .i64 (x88.length : Int)) ((fr216 9 rfl).trans ((fr164 9 rfl).trans rfl)) (D2.q3 (hg := gk rfl rfl gv232 rfl) (.int .i64 (z02 .i64 ((x88.length : Int) - 2))) rfl rfl ?_)))
 obtain ⟨x235, i236, h237⟩ := z01 h234
 have j238 := z0a i236
 refine D2.pure (v := (z1m w96 (Int.toNat (z02 .i64 ((x88.length : Int) - 2)) * 1))) (gk rfl rfl gv232 rfl) rfl (z2e el94 z3y ov ov (z0c (RT.mono _ (zAe s167 s219) f154)) j238.1 j238.2.1) (D2.load1' (v := (.int .u32 x235)) (r := []) (gk rfl rfl gv232 rfl) rfl z98 (z0t rfl (At.int (At.le (At.le (z2f f154 j238.2.2) (zAe s167 s219) (zAe s167 s219)) (zAf _) O228.fro))) z06 (D2.pure (v := (.int .u64 (IntKind.wrap .u64 x235))) (gk rfl rfl gv232 rfl) rfl (z3n z8v zar ov) (D2.q3 (hg := gk rfl rfl gv232 rfl) (.int .u64 (z02 .u64 (x212 * (IntKind.wrap .u64 x235)))) rfl rfl (D2.q2 (hg := gk rfl rfl gv232 rfl) _ t222 (D2.q3 (hg := gk rfl rfl gv232 rfl) (.int .u64 (z02 .u64 (x213 * 1000000000))) rfl rfl (D2.q2 (hg := gk rfl rfl gv232 rfl) (σ131 7) ((fr216 7 rfl).trans ((fr164 7 rfl).trans rfl)) ?_))))))
 refine D2.q2 (hg := gk rfl rfl gv232 rfl) _ ((fr216 11 rfl).trans t169) (D2.q2 (hg := gk rfl rfl gv232 rfl) (.int .i64 (x88.length : Int)) ((fr216 9 rfl).trans ((fr164 9 rfl).trans rfl)) (D2.q3 (hg := gk rfl rfl gv232 rfl) (.int .i64 (z02 .i64 (x161 + (x88.length : Int)))) rfl rfl (D2.q3 (hg := gk rfl rfl gv232 rfl) (.int .i64 (z02 .i64 ((z02 .i64 (x161 + (x88.length : Int))) - 2))) rfl rfl ?_)))
 obtain ⟨x239, e240, h241⟩ := z67 h237
 obtain ⟨x242, i243, h244⟩ := z01 h241
 have j245 := z0a i243
 refine D2.pure (v := (z1m (σ131 7) (x239.toNat * 1))) (gk rfl rfl gv232 rfl) rfl (z2e el94 z3y ov (ou (congrArg (Value.int .i64) e240)) (O228.slLen (j := 2) rfl) j245.1 j245.2.1) (D2.load1' (v := (.int .u32 x242)) (r := []) (gk rfl rfl gv232 rfl) rfl z98 (z0t rfl (At.int (O228.atSl (j := 2) rfl j245.2.2))) z06 (D2.pure (v := (.int .u64 (IntKind.wrap .u64 x242))) (gk rfl rfl gv232 rfl) rfl (z3n z8v zar ov) (D2.q3 (hg := gk rfl rfl gv232 rfl) (.int .u64 (z02 .u64 ((z02 .u64 (x213 * 1000000000)) + (IntKind.wrap .u64 x242)))) rfl rfl ?_)))
 obtain ⟨x246, e247, h248⟩ := z67 h244
 refine D2.q3 (hg := gk rfl rfl gv232 rfl) (.bool (decide ((z02 .u64 (x212 * (IntKind.wrap .u64 x235))) > x246))) rfl (congrArg (Value.int .u64) e247) ?_
 obtain ⟨x249, e250, h251⟩ := z67 h248
 refine D2.pv (.bool x249) (zkr (ou gv232) (ou (congrArg (Value.bool) e250))) (.nil ?_)
 obtain rfl := zAa h251
 exact ⟨x249, _, rfl, O228, (zAf _), rfl⟩
def z0z (K : Nat) : Nat -> List Int -> List Int -> Option (List Int)
  | 0, _, _ => none
  | k + 1, x5, x6 => (if (decide ((x6.length : Int) > 0)) = true then ((z3v K x5 x6).bind fun x18 => z0z K k x6 x18.2) else some x5)
def z5b (K : Nat) (p0 : List Int) (p1 : List Int) : Option (List Int) := (Option.bind (z0z K K p0 p1) (tu1 fun x34 => some x34))
theorem z8j (v0 : Value) (p0 : List Int) (hp0 : (rSl (rI .u32)).rep G [v0] p0) (v1 : Value) (p1 : List Int) (hp1 : (rSl (rI .u32)).rep G [v1] p1) (O : Ow G H (L)) (r : List Int) (h : z5b K p0 p1 = some r) :
    CR Tryz.prog 134 [v0, v1] G H (L) (fun v G' _ => ∃ (w0 : Value), w0 = v /\ (rSl (rI .u32)).rep G' [w0] r) := by
 unfold z5b at h
 refine CR.og (n := 19) (fn := Tryz.f134) (by kernel_rfl) rfl rfl fun R kr => (.seq (.region (W.p1 (.slice none 0 0) (.nil (.seq ?_)))))
 obtain ⟨q1, h2, h3⟩ := z01 h
 refine AW.midT (fun σ' H' => ∃ (y1 : List Int) (G' : GM), y1 = q1 /\ Ow G' H' (L) /\ GM.le G G' /\ (rSl (rI .u32)).rep G' [σ' 0] y1) ?_ ?_
 rotate_left
 .rintro σ35 H36 fr37 ⟨x34, G38, rfl, O39, s40, f42⟩
  have h43 := z09 h3
  refine .seq (.region (W.p2 (σ35 0) (W.p1 (σ35 0) (.nil (.ret ?_)))))
  obtain rfl := zAa h43
  exact z1q kr (v1 := (σ35 0)) (by rfl) rt O39 s40 ⟨(σ35 0), rfl, f42⟩
 refine .block (AW.loop (α := Nat) (fun k' σ' H' => ∃ (y1 : List Int) (y2 : List Int) (G' : GM), z0z K k' y1 y2 = some q1 /\ Ow G' H' (L) /\ GM.le G G' /\ (rSl (rI .u32)).rep G' [σ' 0] y1 /\ (rSl (rI .u32)).rep G' [σ' 1] y2) (fun k' => k') K ⟨p0, p1, _, h2, O, (zAf _), hp0, hp1⟩ ?_)
 rintro k4
 rintro σ7 H8 fr9 ⟨x5, x6, G10, h13, O11, s12, f14, f15⟩
 rcases k4 with _ | k4
 .exact z07 h13
 rw [z0z] at h13
 refine .seq (.seq (.region (W.p2 (σ7 1) (W.pv (.int .i64 (x6.length : Int)) (z0i ov (z0c f15) (z04 el94)) (W.p3 (.bool (decide ((x6.length : Int) > 0))) (.nil ?_))))))
 refine .cond (b := decide ((x6.length : Int) > 0)) rfl rfl (fun g16 => ?_) (fun g16 => ?_)
 rotate_left
 .have h33 := z0j g16 h13
  refine .exit ?_
  obtain rfl := zAa h33
  exact ⟨x5, _, rfl, O11, s12, f14⟩
 have h17 := z05 g16 h13
 refine .skip (.block (.seq (.region (W.p2 (σ7 0) (W.p2 (σ7 1) ?_)))))
 obtain ⟨x18, i19, h20⟩ := z01 h17
 refine W.ln (Lo.cP rfl (fn := Tryz.f166) (by kernel_rfl) rfl (mc rfl (mc rfl mn)) O11 (fun L' O' => z6q K (σ7 0) x5 f14 (σ7 1) x6 f15 O' _ i19)) ?_
 rintro v31 H32 ⟨G21, O22, s23, sm30, ⟨w25, w27, rfl, f26, f28⟩⟩
 refine W.p2 (.tuple #[w25, w27]) (W.pv w25 (z0b ov rfl) (W.pv w27 (z0b ov rfl) (W.p1 w25 (W.p1 w27 (.nil (.region ?_))))))
 refine W.p2 (σ7 1) (W.p2 w27 (W.p1 (σ7 1) (W.p1 w27 (.nil ?_))))
 exact ⟨k4, zAg _, ⟨x6, x18.2, _, h20, O22, (zAe s12 s23), (RT.mono _ s23 f15), f28⟩⟩
def z5c (K : Nat) : Nat -> List Int -> Int -> Option (List Int)
  | 0, _, _ => none
  | k + 1, x6, x7 => (if (decide (x7 > 0)) = true then (if x6.length + List.length [IntKind.wrap .u32 (Int.tmod x7 1000000000)] <= 16777216 then z5c K k (x6 ++ [IntKind.wrap .u32 (Int.tmod x7 1000000000)]) (z02 .i64 (Int.tdiv x7 1000000000)) else none) else some x6)
def z7c (K : Nat) (p0 : Int) : Option (List Int) := (Option.bind (z5c K K [] p0) (tu1 fun x33 => some x33))
theorem z7n (p0 : Int) (O : Ow G H (L)) (r : List Int) (h : z7c K p0 = some r) :
    CRF Tryz.prog 136 [(.int .i64 p0)] G H (fun w0 => (eSl w0 181 (rI .u32) r :: L)) (fun w0 v G' => w0 = v) := by
 unfold z7c at h
 refine CRF.og (n := 15) (fn := Tryz.f136) (by kernel_rfl) rfl rfl fun R kr => (.seq (.region (W.p1 (.slice none 0 0) (.nil (.seq (.region ?_))))))
 refine W.p1 (.slice none 0 0) (.nil (.seq ?_))
 obtain ⟨q1, h2, h3⟩ := z01 h
 refine AW.midT (fun σ' H' => ∃ (y1 : List Int) (G' : GM), y1 = q1 /\ Ow G' H' (eSl (σ' 3) 181 (rI .u32) y1 :: L) /\ GM.le G G') ?_ ?_
 rotate_left
 .rintro σ34 H35 fr36 ⟨x33, G37, rfl, O38, s39⟩
  have h41 := z09 h3
  refine .seq (.region (W.p2 (σ34 3) (W.p1 (σ34 3) (.nil (.ret ?_)))))
  obtain rfl := zAa h41
  exact zat kr (σ34 3) (v1 := (σ34 3)) (by rfl) rt O38 s39 rfl
 refine .block ?_
 have O4 := O.nilSl 181 (rI .u32)
 refine AW.loop (α := Nat) (fun k' σ' H' => ∃ (y1 : List Int) (y2 : Int) (G' : GM), z5c K k' y1 y2 = some q1 /\ Ow G' H' (eSl (σ' 3) 181 (rI .u32) y1 :: L) /\ GM.le G G' /\ σ' 0 = .int .i64 y2) (fun k' => k') K ⟨[], p0, _, h2, O4, (zAf _), rfl⟩ ?_
 rintro k5
 rintro σ8 H9 fr10 ⟨x6, x7, G11, h14, O12, s13, t15⟩
 rcases k5 with _ | k5
 .exact z07 h14
 rw [z5c] at h14
 refine .seq (.seq (.region (W.q2 _ t15 (W.p3 (.bool (decide (x7 > 0))) (.nil (.cond (b := decide (x7 > 0)) rfl rfl (fun g16 => ?_) (fun g16 => ?_)))))))
 rotate_left
 .have h32 := z0j g16 h14
  refine .exit ?_
  obtain rfl := zAa h32
  exact ⟨x6, _, rfl, O12, s13⟩
 have h17 := z05 g16 h14
 refine .skip (.block (.seq (.region (W.p2 (σ8 3) (W.q2 _ t15 (W.pv (.int .i64 (Int.tmod x7 1000000000)) (ziv (by decide) ov ov) ?_))))))
 refine W.pv (.int .u32 (IntKind.wrap .u32 (Int.tmod x7 1000000000))) (z3n in3 z8v ov) (W.ln (Lo.buildSlice (r := (rI .u32)) (vs := [(.int .u32 (IntKind.wrap .u32 (Int.tmod x7 1000000000)))]) (xs := [IntKind.wrap .u32 (Int.tmod x7 1000000000)]) el94 zb9 z3y (by kernel_rfl) rfl (qc rfl qn) rfl (.cons rfl .nil) O12) ?_)
 rintro v20 H21 ⟨O18, sm19⟩
 obtain ⟨es23, e24, e25⟩ := z4p (j := 0) rfl O18
 obtain ⟨g26, h27⟩ := z2l h17
 refine W.ln (Lo.append (j := 1) (v := (σ8 3)) rfl rfl el94 ni94 zb9 z3y zhc (by decide) (by decide) rfl e24 e25 g26 O18) ?_
 rintro v29 H30 ⟨O22, sm28⟩
 refine W.p1 v29 (.nil (.region (W.q2 _ t15 (W.pv (.int .i64 (z02 .i64 (Int.tdiv x7 1000000000))) (ziu (by decide) ov ov) (W.p1 (.int .i64 (z02 .i64 (Int.tdiv x7 1000000000))) (.nil ?_))))))
 have O31 := O22.drop 0
 exact ⟨k5, zAg _, ⟨(x6 ++ [IntKind.wrap .u32 (Int.tmod x7 1000000000)]), z02 .i64 (Int.tdiv x7 1000000000), _, h27, O31, s13, rfl⟩⟩
def z5d (K : Nat) (p0 : zAd) : Option Int := ((z14 K p0 (⟨#[45]⟩ : zAd)).bind fun x1 => ((z35 K x1.1 (⟨#[47]⟩ : zAd)).bind fun x12 => ((z5a K x12.1).bind fun x23 => (Option.bind ((if x12.2.2 = true then ((z5a K x12.2.1).bind fun x39 => some x39) else some 0)) (tu1 fun x51 => (Option.bind ((if (x23 == 5) = true then some true else (if (x51 == 5) = true then some true else (if x1.2 = true then some (sEq x12.1 (⟨#[48]⟩ : zAd)) else some false)))) (tu1 fun x76 => (if x76 = true then some 5 else (Option.bind ((if (x23 != 0) = true then some true else some (x51 != 0))) (tu1 fun x96 => (if x96 = true then some 2 else (Option.bind ((if x12.2.2 = true then (if (sEq x12.2.1 (⟨#[48]⟩ : zAd)) = true then some true else (if (sEq x12.2.1 (⟨#[49]⟩ : zAd)) = true then some true else ((z4t K x12.1).bind fun x123 => ((z4t K x12.2.1).bind fun x136 => ((z5b K x123 x136).bind fun x157 => ((z7c K 1).bind fun x170 => ((z3t K x157 x170).bind fun x183 => some (x183 != 0)))))))) else some false)) (tu1 fun x196 => (if x196 = true then some 3 else some 0))))))))))))))
theorem zby (p0 : zAd) (O : Ow G H (L)) (r : Int) (h : z5d K p0 = some r) :
    CR Tryz.prog 63 [(.string p0)] G H (L) (fun v G' _ => v = .int .i64 r) := by
 unfold z5d at h
 refine CR.og (n := 64) (fn := Tryz.f63) (by kernel_rfl) rfl rfl fun R kr => (.seq (.region (W.p1 (.int .i64 0) (.nil (.seq (.region ?_))))))
 refine W.p2 (.string p0) ?_
 obtain ⟨x1, i2, h3⟩ := z01 h
 refine W.ln (Lo.cP rfl (fn := Tryz.f130) (by kernel_rfl) rfl (mc rfl (mc rfl mn)) O (fun L' O' => z4r K p0 (⟨#[45]⟩ : zAd) O' _ i2)) ?_
 rintro v10 H11 ⟨G4, O5, s6, sm9, rfl⟩
 refine W.p2 (.tuple #[(.string x1.1), (.bool x1.2)]) (W.pv (.string x1.1) (z0b ov rfl) (W.pv (.bool x1.2) (z0b ov rfl) (W.p1 (.string x1.1) (W.p1 (.bool x1.2) (.nil (.seq ?_))))))
 refine .region (W.p2 (.string x1.1) ?_)
 obtain ⟨x12, i13, h14⟩ := z01 h3
 refine W.ln (Lo.cP rfl (fn := Tryz.f131) (by kernel_rfl) rfl (mc rfl (mc rfl mn)) O5 (fun L' O' => z7a K x1.1 (⟨#[47]⟩ : zAd) O' _ i13)) ?_
 rintro v21 H22 ⟨G15, O16, s17, sm20, rfl⟩
 refine W.p2 (.tuple #[(.string x12.1), (.string x12.2.1), (.bool x12.2.2)]) (W.pv (.string x12.1) (z0b ov rfl) (W.pv (.string x12.2.1) (z0b ov rfl) (W.pv (.bool x12.2.2) (z0b ov rfl) (W.p1 (.string x12.1) (W.p1 (.string x12.2.1) (W.p1 (.bool x12.2.2) ?_))))))
 refine .nil (.seq (.region (W.p2 (.string x12.1) ?_)))
 obtain ⟨x23, i24, h25⟩ := z01 h14
 refine W.ln (Lo.cP rfl (fn := Tryz.f132) (by kernel_rfl) rfl (mc rfl mn) O16 (fun L' O' => z8i K x12.1 O' _ i24)) ?_
 rintro v32 H33 ⟨G26, O27, s28, sm31, rfl⟩
 refine W.p1 (.int .i64 x23) (W.p1 (.int .i64 0) (.nil (.seq (.seq (.region (W.p2 (.bool x12.2.2) ?_))))))
 refine .nil ?_
 obtain ⟨q34, h35, h36⟩ := z01 h25
 refine AW.midT (fun σ' H' => ∃ (y1 : Int) (G' : GM), y1 = q34 /\ Ow G' H' (L) /\ GM.le G26 G' /\ σ' 9 = .int .i64 y1) ?_ ?_
 .refine .cond (b := x12.2.2) rfl rfl (fun g37 => ?_) (fun g37 => ?_)
  rotate_left
  .have h50 := z0j g37 h35
   refine .skip ?_
   obtain rfl := zAa h50
   exact ⟨0, _, rfl, O27, (zAf _), rfl⟩
  have h38 := z05 g37 h35
  refine .region (W.p2 (.string x12.2.1) ?_)
  obtain ⟨x39, i40, h41⟩ := z01 h38
  refine W.ln (Lo.cP rfl (fn := Tryz.f132) (by kernel_rfl) rfl (mc rfl mn) O27 (fun L' O' => z8i K x12.2.1 O' _ i40)) ?_
  rintro v48 H49 ⟨G42, O43, s44, sm47, rfl⟩
  refine W.p1 (.int .i64 x39) (.nil ?_)
  obtain rfl := zAa h41
  exact ⟨x39, _, rfl, O43, s44, rfl⟩
 rintro σ52 H53 fr54 ⟨x51, G55, rfl, O56, s57, t59⟩
 have h60 := z09 h36
 refine .seq (.seq ?_)
 obtain ⟨q61, h62, h63⟩ := z01 h60
 refine AW.midT (fun σ' H' => ∃ (y1 : Bool) (G' : GM), y1 = q61 /\ Ow G' H' (L) /\ GM.le G55 G' /\ σ' 38 = .bool y1) ?_ ?_
 .refine .region (W.q2 (.int .i64 x23) ((fr54 8 rfl).trans rfl) (W.p3 (.bool (x23 == 5)) (W.p2 (.bool (x23 == 5)) (W.splitAt (t := 28) (b := (x23 == 5)) rfl (fun g64 gv65 => ?_) (fun g64 gv65 => ?_)))))
  .have h66 := z05 g64 h62
   refine W.q6 rfl gv65 (W.q6 rfl gv65 (W.q4 (.bool true) gv65 rfl (W.p2 (.bool true) (W.q6 rfl rfl (W.q6 rfl rfl (W.skipU rfl rfl rfl rfl ?_))))))
   refine W.skipU rfl rfl rfl rfl (W.q6 rfl rfl (W.q4 (.bool true) rfl rfl (.nil ?_)))
   obtain rfl := zAa h66
   exact ⟨true, _, rfl, O56, (zAf _), rfl⟩
  have h67 := z0j g64 h62
  refine W.q2 (hg := gk rfl rfl gv65 rfl) _ t59 (W.q3 (hg := gk rfl rfl gv65 rfl) (.bool (x51 == 5)) rfl rfl (W.q5 (.bool (x51 == 5)) gv65 rfl (W.p2 (.bool (x51 == 5)) (W.splitAt (t := 32) (b := (x51 == 5)) rfl (fun g68 gv69 => ?_) (fun g68 gv69 => ?_)))))
  .have h70 := z05 g68 h67
   refine W.q6 rfl gv69 (W.q6 rfl gv69 (W.skipU rfl rfl rfl rfl (W.skipU rfl rfl rfl rfl (W.q6 rfl gv69 (W.q4 (.bool true) gv69 rfl (.nil ?_))))))
   obtain rfl := zAa h70
   exact ⟨true, _, rfl, O56, (zAf _), rfl⟩
  have h71 := z0j g68 h67
  refine W.q2 (hg := gk rfl rfl gv69 rfl) (.bool x1.2) ((fr54 4 rfl).trans rfl) (W.q2 (hg := gk rfl rfl gv69 rfl) (.bool x1.2) rfl (W.splitAt (t := 34) (b := x1.2) rfl (fun g72 gv73 => ?_) (fun g72 gv73 => ?_)))
  rotate_left
  .have h75 := z0j g72 h71
   refine W.q6 rfl gv73 (W.q6 rfl gv73 (W.q5 (hg := gk rfl rfl gv69 rfl) (.bool false) gv73 rfl (W.q5 (.bool false) gv69 rfl (.nil ?_))))
   obtain rfl := zAa h75
   exact ⟨false, _, rfl, O56, (zAf _), rfl⟩
  have h74 := z05 g72 h71
  refine W.q2 (hg := gk rfl rfl gv73 rfl) (.string x12.1) ((fr54 5 rfl).trans rfl) (W.pure (v := (.bool (sEq x12.1 (⟨#[48]⟩ : zAd)))) (gk rfl rfl gv73 rfl) rfl (z9j ov ov) (W.q4 (hg := gk rfl rfl gv69 rfl) (.bool (sEq x12.1 (⟨#[48]⟩ : zAd))) gv73 rfl (W.q5 (.bool (sEq x12.1 (⟨#[48]⟩ : zAd))) gv69 rfl (.nil ?_))))
  obtain rfl := zAa h74
  exact ⟨sEq x12.1 (⟨#[48]⟩ : zAd), _, rfl, O56, (zAf _), rfl⟩
 rintro σ77 H78 fr79 ⟨x76, G80, rfl, O81, s82, t84⟩
 have h85 := z09 h63
 refine .cond (b := x76) rfl t84 (fun g86 => ?_) (fun g86 => ?_)
 .have h87 := z05 g86 h85
  refine .seq (.region (W.p1 (.int .i64 5) (.nil (.ret ?_))))
  obtain rfl := zAa h87
  exact z1q kr (v1 := (.int .i64 5)) (by rfl) rt O81 (zAe s6 (zAe s17 (zAe s28 (zAe s57 s82)))) rfl
 have h88 := z0j g86 h85
 refine .skip (.seq (.seq ?_))
 obtain ⟨q89, h90, h91⟩ := z01 h88
 refine AW.midT (fun σ' H' => ∃ (y1 : Bool) (G' : GM), y1 = q89 /\ Ow G' H' (L) /\ GM.le G80 G' /\ σ' 44 = .bool y1) ?_ ?_
 .refine .region (W.q2 (.int .i64 x23) ((fr79 8 rfl).trans ((fr54 8 rfl).trans rfl)) (W.p3 (.bool (x23 != 0)) (W.p2 (.bool (x23 != 0)) (W.splitAt (t := 41) (b := (x23 != 0)) rfl (fun g92 gv93 => ?_) (fun g92 gv93 => ?_)))))
  .have h94 := z05 g92 h90
   refine W.q6 rfl gv93 (W.q6 rfl gv93 (W.q4 (.bool true) gv93 rfl (.nil ?_)))
   obtain rfl := zAa h94
   exact ⟨true, _, rfl, O81, (zAf _), rfl⟩
  have h95 := z0j g92 h90
  refine W.q2 (hg := gk rfl rfl gv93 rfl) _ ((fr79 9 rfl).trans t59) (W.q3 (hg := gk rfl rfl gv93 rfl) (.bool (x51 != 0)) rfl rfl (W.q5 (.bool (x51 != 0)) gv93 rfl (.nil ?_)))
  obtain rfl := zAa h95
  exact ⟨(x51 != 0), _, rfl, O81, (zAf _), rfl⟩
 rintro σ97 H98 fr99 ⟨x96, G100, rfl, O101, s102, t104⟩
 have h105 := z09 h91
 refine .cond (b := x96) rfl t104 (fun g106 => ?_) (fun g106 => ?_)
 .have h107 := z05 g106 h105
  refine .seq (.region (W.p1 (.int .i64 2) (.nil (.ret ?_))))
  obtain rfl := zAa h107
  exact z1q kr (v1 := (.int .i64 2)) (by rfl) rt O101 (zAe s6 (zAe s17 (zAe s28 (zAe s57 (zAe s82 s102))))) rfl
 have h108 := z0j g106 h105
 refine .skip (.seq (.seq ?_))
 obtain ⟨q109, h110, h111⟩ := z01 h108
 refine AW.midT (fun σ' H' => ∃ (y1 : Bool) (G' : GM), y1 = q109 /\ Ow G' H' (L) /\ GM.le G100 G' /\ σ' 63 = .bool y1) ?_ ?_
 rotate_left
 .rintro σ197 H198 fr199 ⟨x196, G200, rfl, O201, s202, t204⟩
  have h205 := z09 h111
  refine .cond (b := x196) rfl t204 (fun g206 => ?_) (fun g206 => ?_)
  .have h207 := z05 g206 h205
   refine .seq (.region (W.p1 (.int .i64 3) (.nil (.ret ?_))))
   obtain rfl := zAa h207
   exact z1q kr (v1 := (.int .i64 3)) (by rfl) rt O201 (zAe s6 (zAe s17 (zAe s28 (zAe s57 (zAe s82 (zAe s102 s202)))))) rfl
  have h208 := z0j g206 h205
  refine .skip (.seq (.region (W.p1 (.int .i64 0) (.nil (.ret ?_)))))
  obtain rfl := zAa h208
  exact z1q kr (v1 := (.int .i64 0)) (by rfl) rt O201 (zAe s6 (zAe s17 (zAe s28 (zAe s57 (zAe s82 (zAe s102 s202)))))) rfl
 refine .region (W.q2 (.bool x12.2.2) ((fr99 7 rfl).trans ((fr79 7 rfl).trans ((fr54 7 rfl).trans rfl))) (W.p2 (.bool x12.2.2) (W.splitAt (t := 46) (b := x12.2.2) rfl (fun g112 gv113 => ?_) (fun g112 gv113 => ?_))))
 rotate_left
 .have h195 := z0j g112 h110
  refine W.q6 rfl gv113 (W.q6 rfl gv113 (W.q6 rfl gv113 (W.skipU rfl rfl rfl rfl (W.skipU rfl rfl rfl rfl (W.q6 rfl gv113 (W.q6 rfl gv113 ?_))))))
  refine W.skipU rfl rfl rfl rfl (W.skipU rfl rfl rfl rfl (W.skipU rfl rfl rfl rfl (W.skipU rfl rfl rfl rfl (W.skipU rfl rfl rfl rfl (W.skipU rfl rfl rfl rfl (W.skipU rfl rfl rfl rfl ?_))))))
  refine W.skipU rfl rfl rfl rfl (W.q6 rfl gv113 (W.q5 (.bool false) gv113 rfl (.nil ?_)))
  obtain rfl := zAa h195
  exact ⟨false, _, rfl, O101, (zAf _), rfl⟩
 have h114 := z05 g112 h110
 refine W.q2 (hg := gk rfl rfl gv113 rfl) (.string x12.2.1) ((fr99 6 rfl).trans ((fr79 6 rfl).trans ((fr54 6 rfl).trans rfl))) (W.pure (v := (.bool (sEq x12.2.1 (⟨#[48]⟩ : zAd)))) (gk rfl rfl gv113 rfl) rfl (z9j ov ov) (W.q2 (hg := gk rfl rfl gv113 rfl) (.bool (sEq x12.2.1 (⟨#[48]⟩ : zAd))) rfl (W.splitAt (t := 49) (b := sEq x12.2.1 (⟨#[48]⟩ : zAd)) rfl (fun g115 gv116 => ?_) (fun g115 gv116 => ?_))))
 .have h117 := z05 g115 h114
  refine W.q6 rfl gv116 (W.q6 rfl gv116 (W.q4 (hg := gk rfl rfl gv113 rfl) (.bool true) gv116 rfl (W.q2 (hg := gk rfl rfl gv113 rfl) (.bool true) rfl (W.q6 rfl rfl (W.q6 rfl rfl (W.q6 rfl rfl ?_))))))
  refine W.q6 rfl rfl (W.q6 rfl rfl (W.q6 rfl rfl (W.q6 rfl rfl (W.q6 rfl rfl (W.q4 (hg := gk rfl rfl gv113 rfl) (.bool true) rfl rfl (W.q4 (.bool true) gv113 rfl ?_))))))
  refine .nil ?_
  obtain rfl := zAa h117
  exact ⟨true, _, rfl, O101, (zAf _), rfl⟩
 have h118 := z0j g115 h114
 refine W.q2 (hg := gk rfl rfl gv116 rfl) (.string x12.2.1) ((fr99 6 rfl).trans ((fr79 6 rfl).trans ((fr54 6 rfl).trans rfl))) (W.pure (v := (.bool (sEq x12.2.1 (⟨#[49]⟩ : zAd)))) (gk rfl rfl gv116 rfl) rfl (z9j ov ov) (W.q5 (hg := gk rfl rfl gv113 rfl) (.bool (sEq x12.2.1 (⟨#[49]⟩ : zAd))) gv116 rfl (W.q2 (hg := gk rfl rfl gv113 rfl) (.bool (sEq x12.2.1 (⟨#[49]⟩ : zAd))) rfl (W.splitAt (t := 53) (b := sEq x12.2.1 (⟨#[49]⟩ : zAd)) rfl (fun g119 gv120 => ?_) (fun g119 gv120 => ?_)))))
 .have h121 := z05 g119 h118
  refine W.q6 rfl gv120 (W.q6 rfl gv120 (W.q6 rfl gv120 (W.q6 rfl gv120 (W.q6 rfl gv120 (W.q6 rfl gv120 (W.q6 rfl gv120 ?_))))))
  refine W.q6 rfl gv120 (W.q4 (hg := gk rfl rfl gv113 rfl) (.bool true) gv120 rfl (W.q4 (.bool true) gv113 rfl (.nil ?_)))
  obtain rfl := zAa h121
  exact ⟨true, _, rfl, O101, (zAf _), rfl⟩
 have h122 := z0j g119 h118
 refine W.q2 (hg := gk rfl rfl gv120 rfl) (.string x12.1) ((fr99 5 rfl).trans ((fr79 5 rfl).trans ((fr54 5 rfl).trans rfl))) ?_
 obtain ⟨x123, i124, h125⟩ := z01 h122
 refine W.lo (gk rfl rfl gv120 rfl) rfl (Lo.callPF (ps := []) (pw := fun w => [eSl w 181 (rI .u32) x123]) rfl (fn := Tryz.f133) (by kernel_rfl) rfl (mc rfl mn) O101 (fun L' O' => z5s K x12.1 O' _ i124)) ?_
 rintro v134 H135 ⟨w131, G126, O127, s128, sm133, rfl⟩
 refine W.q2 (hg := gk rfl rfl gv120 rfl) (.string x12.2.1) ((fr99 6 rfl).trans ((fr79 6 rfl).trans ((fr54 6 rfl).trans rfl))) ?_
 obtain ⟨x136, i137, h138⟩ := z01 h125
 refine W.lo (gk rfl rfl gv120 rfl) rfl (Lo.callPF (ps := []) (pw := fun w => [eSl w 181 (rI .u32) x136]) rfl (fn := Tryz.f133) (by kernel_rfl) rfl (mc rfl mn) O127 (fun L' O' => z5s K x12.2.1 O' _ i137)) ?_
 rintro v147 H148 ⟨w144, G139, O140, s141, sm146, rfl⟩
 obtain ⟨G149, O150, s151, f152⟩ := O140.frzSl (j := 1) rfl
 obtain ⟨G153, O154, s155, f156⟩ := O150.frzSl (j := 0) rfl
 obtain ⟨x157, i158, h159⟩ := z01 h138
 refine W.lo (gk rfl rfl gv120 rfl) rfl (Lo.cP rfl (fn := Tryz.f134) (by kernel_rfl) rfl (mc rfl (mc rfl mn)) O154 (fun L' O' => z8j K w131 x123 (RT.mono _ s155 f152) w144 x136 f156 O' _ i158)) ?_
 rintro v168 H169 ⟨G160, O161, s162, sm167, ⟨w164, rfl, f165⟩⟩
 obtain ⟨x170, i171, h172⟩ := z01 h159
 refine W.lo (gk rfl rfl gv120 rfl) rfl (Lo.callPF (ps := []) (pw := fun w => [eSl w 181 (rI .u32) x170]) rfl (fn := Tryz.f136) (by kernel_rfl) rfl (mc rfl mn) O161 (fun L' O' => z7n K 1 O' _ i171)) ?_
 rintro v181 H182 ⟨w178, G173, O174, s175, sm180, rfl⟩
 obtain ⟨x183, i184, h185⟩ := z01 h172
 refine W.lo (gk rfl rfl gv120 rfl) rfl (Lo.callB (j := 0) rfl rfl (fn := Tryz.f135) (by kernel_rfl) rfl (mc rfl (mc rfl mn)) O174 (fun G' L' hG O' hB => z54 K w164 x157 (RT.mono _ hG (RT.mono _ s175 f165)) w178 x170 hB O' _ i184)) ?_
 rintro v192 H193 ⟨G186, O187, s188, sm191, rfl⟩
 refine W.q3 (hg := gk rfl rfl gv120 rfl) (.bool (x183 != 0)) rfl rfl (W.q5 (hg := gk rfl rfl gv113 rfl) (.bool (x183 != 0)) gv120 rfl (W.q4 (.bool (x183 != 0)) gv113 rfl (.nil ?_)))
 have O194 := O187.drop 0
 obtain rfl := zAa h185
 exact ⟨(x183 != 0), _, rfl, O194, (zAe s128 (zAe s141 (zAe s151 (zAe s155 (zAe s162 (zAe s175 s188)))))), rfl⟩
def z10 (K : Nat) (p0 : List zAd) : Nat -> Int -> Option (Int ⊕ Unit)
  | 0, _ => none
  | k + 1, x5 => (if (decide (x5 < (p0.length : Int))) = true then ((idx p0 x5).bind fun x16 => ((z5d K x16).bind fun x20 => (if (x20 != 0) = true then some (.inl x20) else z10 K p0 k (z02 .i64 (x5 + 1))))) else some (.inr ()))
def z44 (K : Nat) (p0 : List zAd) : Option Int := (zbw (z10 K p0 K 0) (tu1 fun a44 => some a44) (tu0 (some 0)))
theorem z9k (v0 : Value) (p0 : List zAd) (hp0 : (rSl rS).rep G [v0] p0) (O : Ow G H (L)) (r : Int) (h : z44 K p0 = some r) :
    CR Tryz.prog 75 [v0] G H (L) (fun v G' _ => v = .int .i64 r) := by
 unfold z44 at h
 refine CR.og (n := 18) (fn := Tryz.f75) (by kernel_rfl) rfl rfl fun R kr => (.seq (.region (W.p1 (.int .i64 0) (.nil (.seq (.seq ?_))))))
 refine .region (W.p2 v0 (W.pv (.int .i64 (p0.length : Int)) (z0i ov (z0c hp0) (z04 el23)) (W.p2 (.int .i64 0) (.nil ?_))))
 obtain ⟨q1, h2, h3⟩ := z3m h
 refine AW.midT (fun σ' H' => ∃  (G' : GM), (.inr ()) = q1 /\ Ow G' H' (L) /\ GM.le G G') ?_ ?_
 rotate_left
 .rintro σ36 H37 fr38 ⟨G39, rfl, O40, s41⟩
  have h43 := z6y (z9i h3)
  refine .seq (.region (W.p1 (.int .i64 0) (.nil (.ret ?_))))
  obtain rfl := zAa h43
  exact z1q kr (v1 := (.int .i64 0)) (by rfl) rt O40 s41 rfl
 refine .block (AW.loop (α := Nat) (fun k' σ' H' => ∃ (y1 : Int) (G' : GM), z10 K p0 k' y1 = some q1 /\ Ow G' H' (L) /\ GM.le G G' /\ σ' 8 = .int .i64 y1) (fun k' => k') K ⟨0, _, h2, O, (zAf _), rfl⟩ ?_)
 rintro k4
 rintro σ6 H7 fr8 ⟨x5, G9, h12, O10, s11, t13⟩
 rcases k4 with _ | k4
 .exact z07 h12
 rw [z10] at h12
 refine .seq (.region (W.q3 (.bool (decide (x5 < (p0.length : Int)))) t13 ((fr8 7 rfl).trans rfl) (.nil (.seq (.cond (b := decide (x5 < (p0.length : Int))) rfl rfl (fun g14 => ?_) (fun g14 => ?_))))))
 rotate_left
 .have h35 := z0j g14 h12
  refine .exit ?_
  obtain rfl := zAa h35
  exact ⟨_, rfl, O10, s11⟩
 have h15 := z05 g14 h12
 refine .skip (.seq (.block (.seq (.region ?_))))
 obtain ⟨x16, i17, h18⟩ := z01 h15
 have j19 := z0a i17
 refine W.pv (z1m v0 (x5.toNat * 1)) (z2e el23 sz22 (ou ((fr8 6 rfl).trans rfl)) (ou t13) (z0c (RT.mono _ s11 hp0)) j19.1 j19.2.1) (W.load1 (v := (.string x16)) (r := []) rfl rfl ag22 (z0t rfl (At.str (At.le (At.le (z2f hp0 j19.2.2) s11 s11) (zAf _) O10.fro))) (W.p1 (.string x16) (.nil (.seq (.region (W.p2 (.string x16) ?_))))))
 obtain ⟨x20, i21, h22⟩ := z01 h18
 refine W.ln (Lo.cP rfl (fn := Tryz.f63) (by kernel_rfl) rfl (mc rfl mn) O10 (fun L' O' => zby K x16 O' _ i21)) ?_
 rintro v29 H30 ⟨G23, O24, s25, sm28, rfl⟩
 refine W.p1 (.int .i64 x20) (.nil (.seq (.region (W.p2 (.int .i64 x20) (W.p3 (.bool (x20 != 0)) (.nil ?_))))))
 refine .cond (b := (x20 != 0)) rfl rfl (fun g31 => ?_) (fun g31 => ?_)
 rotate_left
 .have h34 := z0j g31 h22
  refine .skip (.region (W.r3 (.int .i64 (z02 .i64 (x5 + 1))) t13 (W.p2 (.int .i64 (z02 .i64 (x5 + 1))) (.nil ?_))))
  exact ⟨k4, zAg _, ⟨z02 .i64 (x5 + 1), _, h34, O24, (zAe s11 s25), rfl⟩⟩
 have h32 := z05 g31 h22
 refine .seq (.region (W.p2 (.int .i64 x20) (W.p1 (.int .i64 x20) (.nil (.ret ?_)))))
 obtain rfl := zAa h32
 have h33 := z09 (z7t h3)
 obtain rfl := zAa h33
 exact z1q kr (v1 := (.int .i64 x20)) (by rfl) rt O24 (zAe s11 s25) rfl
def z2z (K : Nat) (p0 : List zAd) : Option Int := (if (decide ((p0.length : Int) > 40)) = true then some 2 else ((z44 K p0).bind fun x4 => some x4))
theorem z84 (v0 : Value) (p0 : List zAd) (hp0 : (rSl rS).rep G [v0] p0) (O : Ow G H (L)) (r : Int) (h : z2z K p0 = some r) :
    CR Tryz.prog 79 [v0] G H (L) (fun v G' _ => v = .int .i64 r) := by
 unfold z2z at h
 refine CR.og (n := 8) (fn := Tryz.f79) (by kernel_rfl) rfl rfl fun R kr => (.seq (.region (W.p1 (.int .i64 0) (.nil (.seq (.seq ?_))))))
 refine .region (W.p2 v0 (W.pv (.int .i64 (p0.length : Int)) (z0i ov (z0c hp0) (z04 el45)) (W.p3 (.bool (decide ((p0.length : Int) > 40))) (.nil (.cond (b := decide ((p0.length : Int) > 40)) rfl rfl (fun g1 => ?_) (fun g1 => ?_))))))
 .have h2 := z05 g1 h
  refine .seq (.region (W.p1 (.int .i64 2) (.nil (.ret ?_))))
  obtain rfl := zAa h2
  exact z1q kr (v1 := (.int .i64 2)) (by rfl) rt O (zAf _) rfl
 have h3 := z0j g1 h
 refine .skip (.seq (.region (W.p2 v0 ?_)))
 obtain ⟨x4, i5, h6⟩ := z01 h3
 refine W.ln (Lo.cP rfl (fn := Tryz.f75) (by kernel_rfl) rfl (mc rfl mn) O (fun L' O' => z9k K v0 p0 hp0 O' _ i5)) ?_
 rintro v13 H14 ⟨G7, O8, s9, sm12, rfl⟩
 refine W.p1 (.int .i64 x4) (.nil (.ret ?_))
 obtain rfl := zAa h6
 exact z1q kr (v1 := (.int .i64 x4)) (by rfl) rt O8 s9 rfl
def z1o (K : Nat) (p0 : List (List zAd)) : Nat -> Int -> Option (Int ⊕ Unit)
  | 0, _ => none
  | k + 1, x8 => (if (decide (x8 < (p0.length : Int))) = true then ((idx p0 x8).bind fun x19 => ((idx p0 0).bind fun x26 => (if ((x19.length : Int) != (x26.length : Int)) = true then some (.inl 3) else ((z2z K x19).bind fun x37 => (if (x37 != 0) = true then some (.inl x37) else z1o K p0 k (z02 .i64 (x8 + 1))))))) else some (.inr ()))
def z45 (K : Nat) (p0 : List (List zAd)) : Option Int := (if (decide ((p0.length : Int) > 40)) = true then some 2 else (zbw (z1o K p0 K 0) (tu1 fun a61 => some a61) (tu0 (some 0))))
theorem z9l (v0 : Value) (p0 : List (List zAd)) (hp0 : (rSl (rSl rS)).rep G [v0] p0) (O : Ow G H (L)) (r : Int) (h : z45 K p0 = some r) :
    CR Tryz.prog 78 [v0] G H (L) (fun v G' _ => v = .int .i64 r) := by
 unfold z45 at h
 refine CR.og (n := 28) (fn := Tryz.f78) (by kernel_rfl) rfl rfl fun R kr => (.seq (.region (W.p1 (.int .i64 0) (.nil (.seq (.seq ?_))))))
 refine .region (W.p2 v0 (W.pv (.int .i64 (p0.length : Int)) (z0i ov (z0c hp0) (z04 el44)) (W.p3 (.bool (decide ((p0.length : Int) > 40))) (.nil (.cond (b := decide ((p0.length : Int) > 40)) rfl rfl (fun g1 => ?_) (fun g1 => ?_))))))
 .have h2 := z05 g1 h
  refine .seq (.region (W.p1 (.int .i64 2) (.nil (.ret ?_))))
  obtain rfl := zAa h2
  exact z1q kr (v1 := (.int .i64 2)) (by rfl) rt O (zAf _) rfl
 have h3 := z0j g1 h
 refine .skip (.seq (.seq (.region (W.p2 v0 (W.pv (.int .i64 (p0.length : Int)) (z0i ov (z0c hp0) (z04 el44)) (W.p2 (.int .i64 0) ?_))))))
 refine .nil ?_
 obtain ⟨q4, h5, h6⟩ := z3m h3
 refine AW.midT (fun σ' H' => ∃  (G' : GM), (.inr ()) = q4 /\ Ow G' H' (L) /\ GM.le G G') ?_ ?_
 rotate_left
 .rintro σ53 H54 fr55 ⟨G56, rfl, O57, s58⟩
  have h60 := z6y (z9i h6)
  refine .seq (.region (W.p1 (.int .i64 0) (.nil (.ret ?_))))
  obtain rfl := zAa h60
  exact z1q kr (v1 := (.int .i64 0)) (by rfl) rt O57 s58 rfl
 refine .block (AW.loop (α := Nat) (fun k' σ' H' => ∃ (y1 : Int) (G' : GM), z1o K p0 k' y1 = some q4 /\ Ow G' H' (L) /\ GM.le G G' /\ σ' 11 = .int .i64 y1) (fun k' => k') K ⟨0, _, h5, O, (zAf _), rfl⟩ ?_)
 rintro k7
 rintro σ9 H10 fr11 ⟨x8, G12, h15, O13, s14, t16⟩
 rcases k7 with _ | k7
 .exact z07 h15
 rw [z1o] at h15
 refine .seq (.region (W.q3 (.bool (decide (x8 < (p0.length : Int)))) t16 ((fr11 10 rfl).trans rfl) (.nil (.seq (.cond (b := decide (x8 < (p0.length : Int))) rfl rfl (fun g17 => ?_) (fun g17 => ?_))))))
 rotate_left
 .have h52 := z0j g17 h15
  refine .exit ?_
  obtain rfl := zAa h52
  exact ⟨_, rfl, O13, s14⟩
 have h18 := z05 g17 h15
 refine .skip (.seq (.block (.seq (.region ?_))))
 obtain ⟨x19, i20, h21⟩ := z01 h18
 have j22 := z0a i20
 refine W.pv (z1m v0 (x8.toNat * 1)) (z2e el44 sz45 (ou ((fr11 9 rfl).trans rfl)) (ou t16) (z0c (RT.mono _ s14 hp0)) j22.1 j22.2.1) ?_
 obtain ⟨w23, p24, f25⟩ := At.sl (At.le (z2f hp0 j22.2.2) s14 s14)
 replace p24 := PtG.le p24 O13.fro
 refine W.load1 (v := w23) (r := []) rfl rfl ag45 (z0t rfl p24) (W.p1 w23 (.nil (.seq (.seq (.region (W.p2 w23 ?_))))))
 refine W.pv (.int .i64 (x19.length : Int)) (z0i ov (z0c f25) (z04 el45)) (W.q2 v0 ((fr11 0 rfl).trans rfl) ?_)
 obtain ⟨x26, i27, h28⟩ := z01 h21
 have j29 := z0a i27
 refine W.pv (z1m v0 (Int.toNat 0 * 1)) (z2e el44 sz45 ov ov (z0c (RT.mono _ s14 hp0)) j29.1 j29.2.1) ?_
 obtain ⟨w30, p31, f32⟩ := At.sl (At.le (z2f hp0 j29.2.2) s14 s14)
 replace p31 := PtG.le p31 O13.fro
 refine W.load1 (v := w30) (r := []) rfl rfl ag45 (z0t rfl p31) (W.pv (.int .i64 (x26.length : Int)) (z0i ov (z0c f32) (z04 el45)) (W.p3 (.bool ((x19.length : Int) != (x26.length : Int))) (.nil (.cond (b := ((x19.length : Int) != (x26.length : Int))) rfl rfl (fun g33 => ?_) (fun g33 => ?_)))))
 .have h34 := z05 g33 h28
  refine .seq (.region (W.p1 (.int .i64 3) (.nil (.ret ?_))))
  obtain rfl := zAa h34
  have h35 := z09 (z7t h6)
  obtain rfl := zAa h35
  exact z1q kr (v1 := (.int .i64 3)) (by rfl) rt O13 s14 rfl
 have h36 := z0j g33 h28
 refine .skip (.seq (.region (W.p2 w23 ?_)))
 obtain ⟨x37, i38, h39⟩ := z01 h36
 refine W.ln (Lo.cP rfl (fn := Tryz.f79) (by kernel_rfl) rfl (mc rfl mn) O13 (fun L' O' => z84 K w23 x19 f25 O' _ i38)) ?_
 rintro v46 H47 ⟨G40, O41, s42, sm45, rfl⟩
 refine W.p1 (.int .i64 x37) (.nil (.seq (.region (W.p2 (.int .i64 x37) (W.p3 (.bool (x37 != 0)) (.nil ?_))))))
 refine .cond (b := (x37 != 0)) rfl rfl (fun g48 => ?_) (fun g48 => ?_)
 rotate_left
 .have h51 := z0j g48 h39
  refine .skip (.region (W.r3 (.int .i64 (z02 .i64 (x8 + 1))) t16 (W.p2 (.int .i64 (z02 .i64 (x8 + 1))) (.nil ?_))))
  exact ⟨k7, zAg _, ⟨z02 .i64 (x8 + 1), _, h51, O41, (zAe s14 s42), rfl⟩⟩
 have h49 := z05 g48 h39
 refine .seq (.region (W.p2 (.int .i64 x37) (W.p1 (.int .i64 x37) (.nil (.ret ?_)))))
 obtain rfl := zAa h49
 have h50 := z09 (z7t h6)
 obtain rfl := zAa h50
 exact z1q kr (v1 := (.int .i64 x37)) (by rfl) rt O41 (zAe s14 s42) rfl
structure Q where
  neg : Bool
  num : List Int
  den : List Int
  deriving DecidableEq, Inhabited
def T_Q : RT Q := rIso (rP rB (rP (rSl (rI .u32)) (rSl (rI .u32)))) (fun s : Q => (s.neg, s.num, s.den))
theorem z_Q (G : GM) : T_Q.rep G ([.bool false] ++ ([.slice none 0 0] ++ [.slice none 0 0])) ((Q.mk false [] [])) := ⟨_, _, rfl, zB G, ⟨_, _, rfl, zL G, (zL G)⟩⟩
theorem z7d : Proj T_Q 0 rB (fun x => x.neg) := by
  have h := (Proj.iso (rP rB (rP (rSl (rI .u32)) (rSl (rI .u32)))) (fun s : Q => (s.neg, s.num, s.den))).comp (Proj.fst _ _)
  exact h
theorem znc : Put T_Q 0 rB (fun x y => { x with neg := y }) := by
  have h := Put.comp (Proj.iso (rP rB (rP (rSl (rI .u32)) (rSl (rI .u32)))) (fun s : Q => (s.neg, s.num, s.den))) (Put.iso (rP rB (rP (rSl (rI .u32)) (rSl (rI .u32)))) (fun s : Q => (s.neg, s.num, s.den)) (fun _ q => ⟨q.1, q.2.1, q.2.2⟩) (fun _ _ => rfl)) (Put.fst _ _)
  exact h
theorem z5i : Proj T_Q 1 (rSl (rI .u32)) (fun x => x.num) := by
  have h := (Proj.iso (rP rB (rP (rSl (rI .u32)) (rSl (rI .u32)))) (fun s : Q => (s.neg, s.num, s.den))).comp ((Proj.snd _ _).comp (Proj.fst _ _))
  exact h
theorem znd : Put T_Q 1 (rSl (rI .u32)) (fun x y => { x with num := y }) := by
  have h := Put.comp (Proj.iso (rP rB (rP (rSl (rI .u32)) (rSl (rI .u32)))) (fun s : Q => (s.neg, s.num, s.den))) (Put.iso (rP rB (rP (rSl (rI .u32)) (rSl (rI .u32)))) (fun s : Q => (s.neg, s.num, s.den)) (fun _ q => ⟨q.1, q.2.1, q.2.2⟩) (fun _ _ => rfl)) (Put.comp (Proj.snd _ _) (Put.snd _ _) (Put.fst _ _))
  exact h
theorem zhf : Proj T_Q 2 (rSl (rI .u32)) (fun x => x.den) := by
  have h := (Proj.iso (rP rB (rP (rSl (rI .u32)) (rSl (rI .u32)))) (fun s : Q => (s.neg, s.num, s.den))).comp ((Proj.snd _ _).comp ((Proj.snd _ _).comp (Proj.self _)))
  exact h
theorem zkw : Put T_Q 2 (rSl (rI .u32)) (fun x y => { x with den := y }) := by
  have h := Put.comp (Proj.iso (rP rB (rP (rSl (rI .u32)) (rSl (rI .u32)))) (fun s : Q => (s.neg, s.num, s.den))) (Put.iso (rP rB (rP (rSl (rI .u32)) (rSl (rI .u32)))) (fun s : Q => (s.neg, s.num, s.den)) (fun _ q => ⟨q.1, q.2.1, q.2.2⟩) (fun _ _ => rfl)) (Put.comp (Proj.snd _ _) (Put.snd _ _) (Put.comp (Proj.snd _ _) (Put.snd _ _) (Put.self _)))
  exact h
theorem zab {G : GM} (v0 : Value) {x0 : Bool} (v1 : Value) {x1 : List Int} (v2 : Value) {x2 : List Int} (h0 : rB.rep G v0.cells.toList x0) (h1 : (rSl (rI .u32)).rep G v1.cells.toList x1) (h2 : (rSl (rI .u32)).rep G v2.cells.toList x2) : ∃ cs : List Value, (∀ {s : List Value} {d : Tmp} {ty : TypeId} {pos : String} {af : Array Edge} {g : Option (Nat × Bool)} {ps : Array (Nat × Operand)}, zfi s ps.toList = some [(0, v0), (1, v1), (2, v2)] -> z1t Tryz.prog s ⟨some d, .build 96 ps, ty, pos, af, g⟩ = some (.agg cs.toArray)) /\ T_Q.rep G cs (Q.mk x0 x1 x2) := by
  have k0 := (znc G _ _ _ _ (z_Q G) h0).1
  have k1 := (znd G _ _ _ _ (k0) h1).1
  have k2 := (zkw G _ _ _ _ (k1) h2).1
  refine ⟨_, fun {s d ty pos af g ps} hps => zh0 pl96 ze96 zo96 hps ?_, k2⟩
  refine (za6 (off := 0) (sz := 1) (cs := _) rfl (RT.len _ h0) (Nat.le_trans (Nat.le_of_ble_eq_true (m := 3) rfl) (Nat.le_of_eq (RT.len _ (z_Q G)).symm))).trans ?_
  refine (za6 (off := 1) (sz := 1) (cs := _) rfl (RT.len _ h1) (Nat.le_trans (Nat.le_of_ble_eq_true (m := 3) rfl) (Nat.le_of_eq (RT.len _ (k0)).symm))).trans ?_
  refine (za6 (off := 2) (sz := 1) (cs := _) rfl (RT.len _ h2) (Nat.le_trans (Nat.le_of_ble_eq_true (m := 3) rfl) (Nat.le_of_eq (RT.len _ (k1)).symm))).trans ?_
  rfl
def zac (K : Nat) (p0 : zAd) : Option Q := ((z14 K p0 (⟨#[45]⟩ : zAd)).bind fun x6 => ((z35 K x6.1 (⟨#[47]⟩ : zAd)).bind fun x17 => ((z4t K x17.1).bind fun x28 => ((z7c K 1).bind fun x41 => (Option.bind ((if x17.2.2 = true then ((z4t K x17.2.1).bind fun x79 => some ({ (Q.mk x6.2 x28 x41) with den := x79 })) else some (Q.mk x6.2 x28 x41))) (tu1 fun x101 => some x101))))))
theorem zfo (p0 : zAd) (O : Ow G H (L)) (r : Q) (h : zac K p0 = some r) :
    CR Tryz.prog 66 [(.string p0)] G H (L) (fun v G' _ => ∃ (w0 : List Value), v = .agg w0.toArray /\ T_Q.rep G' w0 r) := by
 unfold zac at h
 refine CR.og (n := 30) (fn := Tryz.f66) (by kernel_rfl) rfl rfl fun R kr => (.seq (.region (W.ln (Lo.alloc (r := T_Q) (x0 := (Q.mk false [] [])) ze96 (by kernel_rfl) z_Q O) ?_)))
 rintro v4 H5 ⟨b2, rfl, O1, sm3⟩
 refine .nil (.seq (.region (W.p2 (.string p0) ?_)))
 obtain ⟨x6, i7, h8⟩ := z01 h
 refine W.ln (Lo.cP rfl (fn := Tryz.f130) (by kernel_rfl) rfl (mc rfl (mc rfl mn)) O1 (fun L' O' => z4r K p0 (⟨#[45]⟩ : zAd) O' _ i7)) ?_
 rintro v15 H16 ⟨G9, O10, s11, sm14, rfl⟩
 refine W.p2 (.tuple #[(.string x6.1), (.bool x6.2)]) (W.pv (.string x6.1) (z0b ov rfl) (W.pv (.bool x6.2) (z0b ov rfl) (W.p1 (.string x6.1) (W.p1 (.bool x6.2) (.nil (.seq ?_))))))
 refine .region (W.p2 (.string x6.1) ?_)
 obtain ⟨x17, i18, h19⟩ := z01 h8
 refine W.ln (Lo.cP rfl (fn := Tryz.f131) (by kernel_rfl) rfl (mc rfl (mc rfl mn)) O10 (fun L' O' => z7a K x6.1 (⟨#[47]⟩ : zAd) O' _ i18)) ?_
 rintro v26 H27 ⟨G20, O21, s22, sm25, rfl⟩
 refine W.p2 (.tuple #[(.string x17.1), (.string x17.2.1), (.bool x17.2.2)]) (W.pv (.string x17.1) (z0b ov rfl) (W.pv (.string x17.2.1) (z0b ov rfl) (W.pv (.bool x17.2.2) (z0b ov rfl) (W.p1 (.string x17.1) (W.p1 (.string x17.2.1) (W.p1 (.bool x17.2.2) ?_))))))
 refine .nil (.seq (.region (W.p2 (.bool x6.2) (W.p2 (.string x17.1) ?_))))
 obtain ⟨x28, i29, h30⟩ := z01 h19
 refine W.ln (Lo.callPF (ps := []) (pw := fun w => [eSl w 181 (rI .u32) x28]) rfl (fn := Tryz.f133) (by kernel_rfl) rfl (mc rfl mn) O21 (fun L' O' => z5s K x17.1 O' _ i29)) ?_
 rintro v39 H40 ⟨w36, G31, O32, s33, sm38, rfl⟩
 obtain ⟨x41, i42, h43⟩ := z01 h30
 refine W.ln (Lo.callPF (ps := []) (pw := fun w => [eSl w 181 (rI .u32) x41]) rfl (fn := Tryz.f136) (by kernel_rfl) rfl (mc rfl mn) O32 (fun L' O' => z7n K 1 O' _ i42)) ?_
 rintro v52 H53 ⟨w49, G44, O45, s46, sm51, rfl⟩
 obtain ⟨G54, O55, s56, f57⟩ := O45.frzSl (j := 1) rfl
 obtain ⟨G58, O59, s60, f61⟩ := O55.frzSl (j := 0) rfl
 obtain ⟨c62, e64, f63⟩ := zab ((.bool x6.2)) (w36) (w49) (rfl) ((z4z (RT.mono _ s60 f57))) ((z4z f61))
 refine W.pv (.agg c62.toArray) (e64 (z76 rfl (qc' rfl (qc' rfl (qc' rfl qn'))))) (W.ln (Lo.alloc (r := T_Q) (x0 := (Q.mk false [] [])) ze96 (by kernel_rfl) z_Q O59) ?_)
 rintro v68 H69 ⟨b66, rfl, O65, sm67⟩
 refine W.ln (Lo.storeVar (j := 0) (s := T_Q) (y0 := (Q.mk x6.2 x28 x41)) (v := (.agg c62.toArray)) (o := 0) rfl ((Put.at (Put.self _) _ _)) rfl sz96 rfl (by omega) rfl f63 O65) ?_
 rintro v72 H73 ⟨O70, sm71⟩
 refine .nil (.seq (.seq (.region (W.p2 (.bool x17.2.2) (.nil ?_)))))
 obtain ⟨q74, h75, h76⟩ := z01 h43
 refine AW.midT (fun σ' H' => ∃ (y1 : Q) (G' : GM), y1 = q74 /\ Ow G' H' (eVar b66 96 T_Q y1 :: eVar b2 96 T_Q (Q.mk false [] []) :: L) /\ GM.le G58 G') ?_ ?_
 rotate_left
 .rintro σ102 H103 fr104 ⟨x101, G105, rfl, O106, s107⟩
  have h109 := z09 h76
  refine .seq (.region ?_)
  obtain ⟨c110, p111, f112⟩ := (O106.atVar (j := 0) rfl)
  refine W.loadA (cs := c110) rfl rfl ag96 sz96 (z0t ((fr104 8 rfl).trans rfl) p111) (RT.len _ f112) (W.ln (Lo.storeVar (j := 1) (s := T_Q) (y0 := x101) (v := (.agg c110.toArray)) (o := 0) rfl ((Put.at (Put.self _) _ _)) rfl sz96 ((fr104 2 rfl).trans rfl) (by omega) rfl f112 O106) ?_)
  rintro v115 H116 ⟨O113, sm114⟩
  refine .nil (.ret ?_)
  obtain ⟨c117, p118, f119⟩ := (O113.atVar (j := 1) rfl)
  have O121 := (O113.drop 0).drop 0
  obtain rfl := zAa h109
  exact z1q kr (v1 := (.agg c117.toArray)) (by rfl) (z3o (p := (.pointer (some ⟨b2, 0, none⟩))) (by rfl) ag96 sz96 (by exact ((fr104 2 rfl).trans rfl)) p118 (RT.len _ f119)) O121 (zAe s11 (zAe s22 (zAe s33 (zAe s46 (zAe s56 (zAe s60 s107)))))) ⟨c117, rfl, f119⟩
 refine .cond (b := x17.2.2) rfl rfl (fun g77 => ?_) (fun g77 => ?_)
 rotate_left
 .have h100 := z0j g77 h75
  refine .skip ?_
  obtain rfl := zAa h100
  exact ⟨(Q.mk x6.2 x28 x41), _, rfl, O70, (zAf _)⟩
 have h78 := z05 g77 h75
 refine .region (W.p2 (.string x17.2.1) ?_)
 obtain ⟨x79, i80, h81⟩ := z01 h78
 refine W.ln (Lo.callPF (ps := []) (pw := fun w => [eSl w 181 (rI .u32) x79]) rfl (fn := Tryz.f133) (by kernel_rfl) rfl (mc rfl mn) O70 (fun L' O' => z5s K x17.2.1 O' _ i80)) ?_
 rintro v90 H91 ⟨w87, G82, O83, s84, sm89, rfl⟩
 refine W.pv (padd (.pointer (some ⟨b66, 0, none⟩)) 2) (z3x zjm ov (O83.atVar (j := 1) rfl)) ?_
 obtain ⟨G92, O93, s94, f95⟩ := O83.frzSl (j := 0) rfl
 refine W.ln (Lo.storeVar (j := 0) (s := (rSl (rI .u32))) (y0 := x79) (v := w87) (o := 2) rfl ((Put.at zkw _ _)) rfl sz94 rfl (by omega) rfl (z4z f95) O93) ?_
 rintro v98 H99 ⟨O96, sm97⟩
 refine .nil ?_
 obtain rfl := zAa h81
 exact ⟨{ (Q.mk x6.2 x28 x41) with den := x79 }, _, rfl, O96, (zAe s84 s94)⟩
def z2i (K : Nat) (p0 : List zAd) : Nat -> List Q -> Int -> Option (List Q)
  | 0, _, _ => none
  | k + 1, x6, x7 => (if (decide (x7 < (p0.length : Int))) = true then ((idx p0 x7).bind fun x18 => ((zac K x18).bind fun x22 => (if x6.length + List.length [x22] <= 16777216 then z2i K p0 k (x6 ++ [x22]) (z02 .i64 (x7 + 1)) else none))) else some x6)
def z5j (K : Nat) (p0 : List zAd) : Option (List Q) := (Option.bind (z2i K p0 K [] 0) (tu1 fun x50 => some x50))
theorem zav (v0 : Value) (p0 : List zAd) (hp0 : (rSl rS).rep G [v0] p0) (O : Ow G H (L)) (r : List Q) (h : z5j K p0 = some r) :
    CRF Tryz.prog 85 [v0] G H (fun w0 => (eSl w0 96 T_Q r :: L)) (fun w0 v G' => w0 = v) := by
 unfold z5j at h
 refine CRF.og (n := 19) (fn := Tryz.f85) (by kernel_rfl) rfl rfl fun R kr => (.seq (.region (W.p1 (.slice none 0 0) (.nil (.seq (.region ?_))))))
 refine W.p1 (.slice none 0 0) (.nil (.seq (.seq (.region (W.p2 v0 (W.pv (.int .i64 (p0.length : Int)) (z0i ov (z0c hp0) (z04 el45)) ?_))))))
 refine W.p2 (.int .i64 0) (.nil ?_)
 obtain ⟨q1, h2, h3⟩ := z01 h
 refine AW.midT (fun σ' H' => ∃ (y1 : List Q) (G' : GM), y1 = q1 /\ Ow G' H' (eSl (σ' 3) 96 T_Q y1 :: L) /\ GM.le G G') ?_ ?_
 rotate_left
 .rintro σ51 H52 fr53 ⟨x50, G54, rfl, O55, s56⟩
  have h58 := z09 h3
  refine .seq (.region (W.p2 (σ51 3) (W.p1 (σ51 3) (.nil (.ret ?_)))))
  obtain rfl := zAa h58
  exact zat kr (σ51 3) (v1 := (σ51 3)) (by rfl) rt O55 s56 rfl
 refine .block ?_
 have O4 := O.nilSl 96 T_Q
 refine AW.loop (α := Nat) (fun k' σ' H' => ∃ (y1 : List Q) (y2 : Int) (G' : GM), z2i K p0 k' y1 y2 = some q1 /\ Ow G' H' (eSl (σ' 3) 96 T_Q y1 :: L) /\ GM.le G G' /\ σ' 8 = .int .i64 y2) (fun k' => k') K ⟨[], 0, _, h2, O4, (zAf _), rfl⟩ ?_
 rintro k5
 rintro σ8 H9 fr10 ⟨x6, x7, G11, h14, O12, s13, t15⟩
 rcases k5 with _ | k5
 .exact z07 h14
 rw [z2i] at h14
 refine .seq (.region (W.q3 (.bool (decide (x7 < (p0.length : Int)))) t15 ((fr10 7 rfl).trans rfl) (.nil (.seq (.cond (b := decide (x7 < (p0.length : Int))) rfl rfl (fun g16 => ?_) (fun g16 => ?_))))))
 rotate_left
 .have h49 := z0j g16 h14
  refine .exit ?_
  obtain rfl := zAa h49
  exact ⟨x6, _, rfl, O12, s13⟩
 have h17 := z05 g16 h14
 refine .skip (.seq (.block (.seq (.region ?_))))
 obtain ⟨x18, i19, h20⟩ := z01 h17
 have j21 := z0a i19
 refine W.pv (z1m v0 (x7.toNat * 1)) (z2e el45 sz22 (ou ((fr10 6 rfl).trans rfl)) (ou t15) (z0c (RT.mono _ s13 hp0)) j21.1 j21.2.1) (W.load1 (v := (.string x18)) (r := []) rfl rfl ag22 (z0t rfl (At.str (At.le (At.le (z2f hp0 j21.2.2) s13 s13) (zAf _) O12.fro))) (W.p1 (.string x18) (.nil (.region (W.p2 (σ8 3) (W.p2 (.string x18) ?_))))))
 obtain ⟨x22, i23, h24⟩ := z01 h20
 refine W.ln (Lo.cP rfl (fn := Tryz.f66) (by kernel_rfl) rfl (mc rfl mn) O12 (fun L' O' => zfo K x18 O' _ i23)) ?_
 rintro v33 H34 ⟨G25, O26, s27, sm32, ⟨c29, rfl, f30⟩⟩
 refine W.ln (Lo.buildSlice (r := T_Q) (vs := [(.agg c29.toArray)]) (xs := [x22]) zg3 ze96 sz96 (by kernel_rfl) rfl (qc rfl qn) rfl (.cons f30 .nil) O26) ?_
 rintro v37 H38 ⟨O35, sm36⟩
 obtain ⟨es40, e41, e42⟩ := z4p (j := 0) rfl O35
 obtain ⟨g43, h44⟩ := z2l h24
 refine W.ln (Lo.append (j := 1) (v := (σ8 3)) rfl rfl zg3 zqc ze96 sz96 by96 (by decide) (by decide) rfl e41 e42 g43 O35) ?_
 rintro v46 H47 ⟨O39, sm45⟩
 refine W.p1 v46 (.nil (.region (W.r3 (.int .i64 (z02 .i64 (x7 + 1))) t15 (W.p2 (.int .i64 (z02 .i64 (x7 + 1))) (.nil ?_)))))
 have O48 := O39.drop 0
 exact ⟨k5, zAg _, ⟨(x6 ++ [x22]), z02 .i64 (x7 + 1), _, h44, O48, (zAe s13 s27), rfl⟩⟩
def z2u (K : Nat) (p0 : List (List zAd)) : Nat -> List (List Q) -> Int -> Option (List (List Q))
  | 0, _, _ => none
  | k + 1, x6, x7 => (if (decide (x7 < (p0.length : Int))) = true then ((idx p0 x7).bind fun x19 => ((z5j K x19).bind fun x26 => (if x6.length + List.length [x26] <= 16777216 then z2u K p0 k (x6 ++ [x26]) (z02 .i64 (x7 + 1)) else none))) else some x6)
def z68 (K : Nat) (p0 : List (List zAd)) : Option (List (List Q)) := (Option.bind (z2u K p0 K [] 0) (tu1 fun x56 => some x56))
theorem zbz (v0 : Value) (p0 : List (List zAd)) (hp0 : (rSl (rSl rS)).rep G [v0] p0) (O : Ow G H (L)) (r : List (List Q)) (h : z68 K p0 = some r) :
    CRF Tryz.prog 82 [v0] G H (fun w0 => (z27 (hdT w0) 111 (tlT w0) [] 96 T_Q r :: L)) (fun w0 v G' => v = hdT w0) := by
 unfold z68 at h
 refine CRF.og (n := 19) (fn := Tryz.f82) (by kernel_rfl) rfl rfl fun R kr => (.seq (.region (W.p1 (.slice none 0 0) (.nil (.seq (.region ?_))))))
 refine W.p1 (.slice none 0 0) (.nil (.seq (.seq (.region (W.p2 v0 (W.pv (.int .i64 (p0.length : Int)) (z0i ov (z0c hp0) (z04 el44)) ?_))))))
 refine W.p2 (.int .i64 0) (.nil ?_)
 obtain ⟨q1, h2, h3⟩ := z01 h
 refine AW.midT (fun σ' H' => ∃ (y1 : List (List Q)) (ws_n3 : List Value) (G' : GM), y1 = q1 /\ Ow G' H' (z27 (σ' 3) 111 ws_n3 [] 96 T_Q y1 :: L) /\ GM.le G G') ?_ ?_
 rotate_left
 .rintro σ57 H58 fr59 ⟨x56, ws64, G60, rfl, O61, s62⟩
  have h65 := z09 h3
  refine .seq (.region (W.p2 (σ57 3) (W.p1 (σ57 3) (.nil (.ret ?_)))))
  obtain rfl := zAa h65
  exact zat kr (.tuple ⟨(σ57 3) :: ws64⟩) (v1 := (σ57 3)) (by rfl) rt O61 s62 rfl
 refine .block ?_
 have O4 := O.nilRows 111 96 T_Q
 refine AW.loop (α := Nat) (fun k' σ' H' => ∃ (y1 : List (List Q)) (y2 : Int) (ws_n3 : List Value) (G' : GM), z2u K p0 k' y1 y2 = some q1 /\ Ow G' H' (z27 (σ' 3) 111 ws_n3 [] 96 T_Q y1 :: L) /\ GM.le G G' /\ σ' 8 = .int .i64 y2) (fun k' => k') K ⟨[], 0, [], _, h2, O4, (zAf _), rfl⟩ ?_
 rintro k5
 rintro σ8 H9 fr10 ⟨x6, x7, ws15, G11, h14, O12, s13, t16⟩
 rcases k5 with _ | k5
 .exact z07 h14
 rw [z2u] at h14
 refine .seq (.region (W.q3 (.bool (decide (x7 < (p0.length : Int)))) t16 ((fr10 7 rfl).trans rfl) (.nil (.seq (.cond (b := decide (x7 < (p0.length : Int))) rfl rfl (fun g17 => ?_) (fun g17 => ?_))))))
 rotate_left
 .have h55 := z0j g17 h14
  refine .exit ?_
  obtain rfl := zAa h55
  exact ⟨x6, ws15, _, rfl, O12, s13⟩
 have h18 := z05 g17 h14
 refine .skip (.seq (.block (.seq (.region ?_))))
 obtain ⟨x19, i20, h21⟩ := z01 h18
 have j22 := z0a i20
 refine W.pv (z1m v0 (x7.toNat * 1)) (z2e el44 sz45 (ou ((fr10 6 rfl).trans rfl)) (ou t16) (z0c (RT.mono _ s13 hp0)) j22.1 j22.2.1) ?_
 obtain ⟨w23, p24, f25⟩ := At.sl (At.le (z2f hp0 j22.2.2) s13 s13)
 replace p24 := PtG.le p24 O12.fro
 refine W.load1 (v := w23) (r := []) rfl rfl ag45 (z0t rfl p24) (W.p1 w23 (.nil (.region (W.p2 (σ8 3) (W.p2 w23 ?_)))))
 obtain ⟨x26, i27, h28⟩ := z01 h21
 refine W.ln (Lo.callPF (ps := []) (pw := fun w => [eSl w 96 T_Q x26]) rfl (fn := Tryz.f85) (by kernel_rfl) rfl (mc rfl mn) O12 (fun L' O' => zav K w23 x19 f25 O' _ i27)) ?_
 rintro v37 H38 ⟨w34, G29, O30, s31, sm36, rfl⟩
 refine W.ln (Lo.buildSlice (r := rV) (vs := [w34]) (xs := [w34]) zb8 zq1 zci (by kernel_rfl) rfl (qc rfl qn) rfl (.cons (zq7 (O30.slLen (j := 0) rfl)) .nil) O30) ?_
 rintro v41 H42 ⟨O39, sm40⟩
 have O44 : Ow G29 H42 (eSl w34 96 T_Q x26 :: eSl v41 111 rV [w34] :: z27 (σ8 3) 111 ws15 [] 96 T_Q x6 :: L) := O39.front (j := 1) rfl
 obtain ⟨es45, e46, e47⟩ := z4p (j := 1) rfl O44
 obtain ⟨g49, h50⟩ := z2l h28
 refine W.ln (Lo.appRow (j := 1) (v := (σ8 3)) (w := w34) rfl rfl zb8 zqa zq1 zci zqb (by decide) (by decide) rfl e46 e47 g49 O44) ?_
 rintro v52 H53 ⟨O48, sm51⟩
 have O54 := O48.drop 0
 refine W.p1 v52 (.nil (.region (W.r3 (.int .i64 (z02 .i64 (x7 + 1))) t16 (W.p2 (.int .i64 (z02 .i64 (x7 + 1))) (.nil ?_)))))
 exact ⟨k5, zAg _, ⟨(x6 ++ [x26]), z02 .i64 (x7 + 1), (ws15 ++ [w34]), _, h50, O54, (zAe s13 s31), rfl⟩⟩
def z46 (K : Nat) (p0 : List (List zAd)) : Option Int := (if ((p0.length : Int) == 0) = true then some 0 else ((idx p0 0).bind fun x4 => some (x4.length : Int)))
theorem z9m (v0 : Value) (p0 : List (List zAd)) (hp0 : (rSl (rSl rS)).rep G [v0] p0) (O : Ow G H (L)) (r : Int) (h : z46 K p0 = some r) :
    CR Tryz.prog 80 [v0] G H (L) (fun v G' _ => v = .int .i64 r) := by
 unfold z46 at h
 refine CR.og (n := 10) (fn := Tryz.f80) (by kernel_rfl) rfl rfl fun R kr => (.seq (.region (W.p1 (.int .i64 0) (.nil (.seq (.seq ?_))))))
 refine .region (W.p2 v0 (W.pv (.int .i64 (p0.length : Int)) (z0i ov (z0c hp0) (z04 el44)) (W.p3 (.bool ((p0.length : Int) == 0)) (.nil (.cond (b := ((p0.length : Int) == 0)) rfl rfl (fun g1 => ?_) (fun g1 => ?_))))))
 .have h2 := z05 g1 h
  refine .seq (.region (W.p1 (.int .i64 0) (.nil (.ret ?_))))
  obtain rfl := zAa h2
  exact z1q kr (v1 := (.int .i64 0)) (by rfl) rt O (zAf _) rfl
 have h3 := z0j g1 h
 refine .skip (.seq (.region (W.p2 v0 ?_)))
 obtain ⟨x4, i5, h6⟩ := z01 h3
 have j7 := z0a i5
 refine W.pv (z1m v0 (Int.toNat 0 * 1)) (z2e el44 sz45 ov ov (z0c hp0) j7.1 j7.2.1) ?_
 obtain ⟨w8, p9, f10⟩ := At.sl (z2f hp0 j7.2.2)
 replace p9 := PtG.le p9 O.fro
 refine W.load1 (v := w8) (r := []) rfl rfl ag45 (z0t rfl p9) (W.pv (.int .i64 (x4.length : Int)) (z0i ov (z0c f10) (z04 el45)) (W.p1 (.int .i64 (x4.length : Int)) (.nil (.ret ?_))))
 obtain rfl := zAa h6
 exact z1q kr (v1 := (.int .i64 (x4.length : Int))) (by rfl) rt O (zAf _) rfl
def z37 (K : Nat) (p0 : Q) : Option Int := (if ((List.length p0.num : Int) == 0) = true then some 0 else (if p0.neg = true then some (-1) else some 1))
theorem z7w (v0 : List Value) (p0 : Q) (hp0 : T_Q.rep G v0 p0) (O : Ow G H (L)) (r : Int) (h : z37 K p0 = some r) :
    CR Tryz.prog 108 [.agg v0.toArray] G H (L) (fun v G' _ => v = .int .i64 r) := by
 unfold z37 at h
 refine CR.og (n := 11) (fn := Tryz.f108) (by kernel_rfl) rfl rfl fun R kr => (.seq (.region (W.ln (Lo.box (r := T_Q) (x0 := p0) (v := (.agg v0.toArray)) rfl rfl hp0 O) ?_)))
 rintro v4 H5 ⟨b2, rfl, O1, sm3⟩
 refine W.p1 (.int .i64 0) (.nil (.seq (.block (.seq (.region (W.pv (padd (.pointer (some ⟨b2, 0, none⟩)) 1) (z3x z83 ov (O1.atVar (j := 0) rfl)) ?_))))))
 obtain ⟨w6, p7, f8⟩ := At.sl (At.proj (O1.atVar (j := 0) rfl) z5i)
 refine W.load1 (v := w6) (r := []) rfl rfl ag94 (z0t rfl p7) (W.pv (.int .i64 (List.length p0.num : Int)) (z0i ov (z0c f8) (z04 el94)) (W.p3 (.bool ((List.length p0.num : Int) == 0)) (W.p1 (.bool ((List.length p0.num : Int) == 0)) (.nil (.cond (b := ((List.length p0.num : Int) == 0)) rfl rfl (fun g9 => ?_) (fun g9 => ?_))))))
 .have h10 := z05 g9 h
  refine .seq (.region (W.p1 (.int .i64 0) (.nil (.ret ?_))))
  have O11 := O1.drop 0
  obtain rfl := zAa h10
  exact z1q kr (v1 := (.int .i64 0)) (by rfl) rt O11 (zAf _) rfl
 have h12 := z0j g9 h
 refine .seq (.region (W.pv (padd (.pointer (some ⟨b2, 0, none⟩)) 0) (z3x za7 ov (O1.atVar (j := 0) rfl)) (W.load1 (v := (.bool p0.neg)) (r := []) rfl rfl ag4 (z0t rfl (At.bool (At.proj (O1.atVar (j := 0) rfl) z7d))) (W.p1 (.bool p0.neg) (.nil (.cond (b := p0.neg) rfl rfl (fun g13 => ?_) (fun g13 => ?_)))))))
 .have h14 := z05 g13 h12
  refine .seq (.region (W.p1 (.int .i64 (-1)) (.nil (.ret ?_))))
  have O15 := O1.drop 0
  obtain rfl := zAa h14
  exact z1q kr (v1 := (.int .i64 (-1))) (by rfl) rt O15 (zAf _) rfl
 have h16 := z0j g13 h12
 refine .skip (.seq (.region (W.p1 (.int .i64 1) (.nil (.ret ?_)))))
 have O17 := O1.drop 0
 obtain rfl := zAa h16
 exact z1q kr (v1 := (.int .i64 1)) (by rfl) rt O17 (zAf _) rfl
def z18 (K : Nat) (p0 : Q) : Option (List Int) := (if ((List.length p0.den : Int) == 0) = true then ((z7c K 1).bind fun x11 => some x11) else some p0.den)
theorem z1j (v0 : List Value) (p0 : Q) (hp0 : T_Q.rep G v0 p0) (O : Ow G H (L)) (r : List Int) (h : z18 K p0 = some r) :
    CR Tryz.prog 140 [.agg v0.toArray] G H (L) (fun v G' _ => ∃ (w0 : Value), w0 = v /\ (rSl (rI .u32)).rep G' [w0] r) := by
 unfold z18 at h
 refine CR.og (n := 10) (fn := Tryz.f140) (by kernel_rfl) rfl rfl fun R kr => (.seq (.region (W.ln (Lo.box (r := T_Q) (x0 := p0) (v := (.agg v0.toArray)) rfl rfl hp0 O) ?_)))
 rintro v4 H5 ⟨b2, rfl, O1, sm3⟩
 refine W.p1 (.slice none 0 0) (.nil (.seq (.seq (.region (W.pv (padd (.pointer (some ⟨b2, 0, none⟩)) 2) (z3x zjm ov (O1.atVar (j := 0) rfl)) ?_)))))
 obtain ⟨w6, p7, f8⟩ := At.sl (At.proj (O1.atVar (j := 0) rfl) zhf)
 refine W.load1 (v := w6) (r := []) rfl rfl ag94 (z0t rfl p7) (W.pv (.int .i64 (List.length p0.den : Int)) (z0i ov (z0c f8) (z04 el94)) (W.p3 (.bool ((List.length p0.den : Int) == 0)) (.nil (.cond (b := ((List.length p0.den : Int) == 0)) rfl rfl (fun g9 => ?_) (fun g9 => ?_)))))
 rotate_left
 .have h29 := z0j g9 h
  refine .skip (.seq (.region (W.pv (padd (.pointer (some ⟨b2, 0, none⟩)) 2) (z3x zjm ov (O1.atVar (j := 0) rfl)) ?_)))
  obtain ⟨w30, p31, f32⟩ := At.sl (At.proj (O1.atVar (j := 0) rfl) zhf)
  refine W.load1 (v := w30) (r := []) rfl rfl ag94 (z0t rfl p31) (W.p1 w30 (.nil (.ret ?_)))
  have O33 := O1.drop 0
  obtain rfl := zAa h29
  exact z1q kr (v1 := w30) (by rfl) rt O33 (zAf _) ⟨w30, rfl, f32⟩
 have h10 := z05 g9 h
 refine .seq (.region ?_)
 obtain ⟨x11, i12, h13⟩ := z01 h10
 refine W.ln (Lo.callPF (ps := []) (pw := fun w => [eSl w 181 (rI .u32) x11]) rfl (fn := Tryz.f136) (by kernel_rfl) rfl (mc rfl mn) O1 (fun L' O' => z7n K 1 O' _ i12)) ?_
 rintro v22 H23 ⟨w19, G14, O15, s16, sm21, rfl⟩
 refine W.p1 w19 (.nil (.ret ?_))
 obtain ⟨G24, O25, s26, f27⟩ := O15.frzSl (j := 0) rfl
 have O28 := O25.drop 0
 obtain rfl := zAa h13
 exact z1q kr (v1 := w19) (by rfl) rt O28 (zAe s16 s26) ⟨w19, rfl, f27⟩
end Go.Am.Tryz
