/- Typed functions with the same answers as the program's, and the walks that show it. -/
import Derived.Test.YtdogeclnbdldaaaGreatDoorG2Z5
import Derived.Test.YtdogeclnbdldaaaGreatDoorG4Z5
set_option maxRecDepth 100000
set_option maxHeartbeats 4000000
set_option linter.unusedVariables false
set_option linter.unusedSimpArgs false
namespace Go.Am.Tryz
open Go Go.Am Go.Proofs
variable (K : Nat) {G : GM} {H : AH} {L : List Pc}

def z2t (K : Nat) (p0 : List (List zAd)) (x33 : Int) : Nat -> List zAd -> Int -> Option (List zAd)
  | 0, _, _ => none
  | k + 1, x49, x50 => (if (decide (x50 < (List.length p0 : Int))) = true then ((idx p0 x50).bind fun x61 => ((idx x61 x33).bind fun x68 => (if List.length x49 + List.length [x68] <= 16777216 then z2t K p0 x33 k (x49 ++ [x68]) (z02 .i64 (x50 + 1)) else none))) else some x49)
def z2u (K : Nat) (x16 : Int) (p0 : List (List zAd)) : Nat -> List (List zAd) -> Int -> Option (List (List zAd))
  | 0, _, _ => none
  | k + 1, x32, x33 => (if (decide (x33 < x16)) = true then (Option.bind (z2t K p0 x33 K [] 0) (tu1 fun x89 => (if List.length x32 + List.length [x89] <= 16777216 then z2u K x16 p0 k (x32 ++ [x89]) (z02 .i64 (x33 + 1)) else none))) else some x32)
def z56 (K : Nat) (p0 : List (List zAd)) : Option (List (List zAd) × Int) := ((z1q K p0).bind fun x1 => (if (x1 != 0) = true then some ([], x1) else ((z3a K p0).bind fun x16 => (Option.bind (z2u K x16 p0 K [] 0) (tu1 fun x117 => some (x117, 0))))))
set_option maxHeartbeats 4000000 in
theorem z8r (v0 : Value) (p0 : List (List zAd)) (hp0 : (rSl (rSl rS)).rep G [v0] p0) (O : Ow G H (L)) (r : List (List zAd) × Int) (h : z56 K p0 = some r) :
    CRF Tryz.prog 29 [v0] G H (fun w0 => (eSl w0 45 (rSl rS) r.1 :: L)) (fun w0 v G' => v = .tuple #[w0, .int .i64 r.2]) := by
 unfold z56 at h
 refine CRF.of (z06 (n := 40) (fn := Tryz.f29) (R := fun v H' => ∃ w0 G', Ow G' H' (eSl w0 45 (rSl rS) r.1 :: L) /\ G.le G' /\ v = .tuple #[w0, .int .i64 r.2]) (by kernel_rfl) rfl rfl ?_)
 refine .seq (.region (W.q1 (.slice none 0 0) rfl (W.q1 (.int .i64 0) rfl (.nil (.seq (.seq ?_))))))
 refine .region (W.q2 v0 rfl ?_)
 obtain ⟨x1, i2, h3⟩ := z00 h
 refine W.lo rfl rfl (Lo.callP (ps := []) (ps' := []) rfl (fn := Tryz.f78) (by kernel_rfl) rfl (mc rfl mn) O (fun L' O' => z1i K v0 p0 hp0 O' _ i2)) ?_
 rintro v10 H11 ⟨G4, O5, s6, sm9, rfl⟩
 replace O5 : Ow G4 H11 (L) := O5
 refine W.q1 (.int .i64 x1) rfl (.nil (.seq (.region (W.q2 (.int .i64 x1) rfl (W.q3 (.bool (x1 != 0)) rfl rfl (.nil ?_))))))
 refine .cond (b := (x1 != 0)) rfl rfl (fun g12 => ?_) (fun g12 => ?_)
 .have h13 := z04 g12 h3
  refine .seq (.region (W.q2 (.int .i64 x1) rfl (W.q1 (.slice none 0 0) rfl (W.q1 (.int .i64 x1) rfl (.nil (.ret ?_))))))
  have O14 := O5.nilSl 45 (rSl rS)
  obtain rfl := zAa h13
  refine z7x (P := Tryz.prog) (fn := Tryz.f29) (n := 40) (R := fun v H' => ∃ w0 G', Ow G' H' (eSl w0 45 (rSl rS) ([], x1).1 :: L) /\ G.le G' /\ v = .tuple #[w0, .int .i64 ([], x1).2]) (v1 := (.slice none 0 0)) (v2 := (.int .i64 x1)) (by rfl) (z08 (by rfl) (by exact rfl)) (z08 (by rfl) (by exact rfl)) ?_
  exact ⟨(.slice none 0 0), _, O14, s6, rfl⟩
 have h15 := z0h g12 h3
 refine .skip (.seq (.region (W.q1 (.slice none 0 0) rfl (.nil (.seq (.seq ?_))))))
 refine .region (W.q2 v0 rfl ?_)
 obtain ⟨x16, i17, h18⟩ := z00 h15
 refine W.lo rfl rfl (Lo.callP (ps := []) (ps' := []) rfl (fn := Tryz.f80) (by kernel_rfl) rfl (mc rfl mn) O5 (fun L' O' => z3g K v0 p0 (RT.mono _ s6 hp0) O' _ i17)) ?_
 rintro v25 H26 ⟨G19, O20, s21, sm24, rfl⟩
 replace O20 : Ow G19 H26 (L) := O20
 refine W.q2 (.int .i64 0) rfl (.nil ?_)
 obtain ⟨q27, h28, h29⟩ := z00 h18
 refine AW.midT (fun σ' H' => ∃ (y1 : List (List zAd)) (G' : GM), y1 = q27 /\ Ow G' H' (eSl (σ' 5) 45 (rSl rS) y1 :: L) /\ GM.le G19 G') ?_ ?_
 rotate_left
 .rintro σ118 H119 fr120 ⟨x117, G121, rfl, O122, s123⟩
  have h125 := z0c h29
  refine .seq (.region (W.q2 (σ118 5) rfl (W.q1 (σ118 5) rfl (W.q1 (.int .i64 0) rfl (.nil (.ret ?_))))))
  obtain rfl := zAa h125
  refine z7x (P := Tryz.prog) (fn := Tryz.f29) (n := 40) (R := fun v H' => ∃ w0 G', Ow G' H' (eSl w0 45 (rSl rS) (x117, 0).1 :: L) /\ G.le G' /\ v = .tuple #[w0, .int .i64 (x117, 0).2]) (v1 := (σ118 5)) (v2 := (.int .i64 0)) (by rfl) (z08 (by rfl) (by exact rfl)) (z08 (by rfl) (by exact rfl)) ?_
  exact ⟨(σ118 5), _, O122, (zAe s6 (zAe s21 s123)), rfl⟩
 refine .block ?_
 have O30 := O20.nilSl 45 (rSl rS)
 refine AW.loop (α := Nat) (fun k' σ' H' => ∃ (y1 : List (List zAd)) (y2 : Int) (G' : GM), z2u K x16 p0 k' y1 y2 = some q27 /\ Ow G' H' (eSl (σ' 5) 45 (rSl rS) y1 :: L) /\ GM.le G19 G' /\ σ' 17 = .int .i64 y2) (fun k' => k') K ⟨[], 0, _, h28, O30, (zAf _), rfl⟩ ?_
 rintro k31
 rintro σ34 H35 fr36 ⟨x32, x33, G37, h40, O38, s39, t41⟩
 rcases k31 with _ | k31
 .exact z07 h40
 rw [z2u] at h40
 refine .seq (.region (W.q3 (.bool (decide (x33 < x16))) t41 ((fr36 16 rfl).trans rfl) (.nil (.seq (.cond (b := decide (x33 < x16)) rfl rfl (fun g42 => ?_) (fun g42 => ?_))))))
 rotate_left
 .have h116 := z0h g42 h40
  refine .exit ?_
  obtain rfl := zAa h116
  exact ⟨x32, _, rfl, O38, s39⟩
 have h43 := z04 g42 h40
 refine .skip (.seq (.block (.seq (.region (W.q2 (.int .i64 x33) t41 (W.q1 (.int .i64 x33) rfl ?_))))))
 refine .nil (.seq (.region (W.q1 (.slice none 0 0) rfl (.nil (.seq (.seq ?_))))))
 refine .region (W.q2 v0 ((fr36 0 rfl).trans rfl) (W.pure (v := (.int .i64 (List.length p0 : Int))) rfl rfl (z0i (oo rfl rfl) (z0d (RT.mono _ (zAe s6 (zAe s21 s39)) hp0)) (z03 el44)) (W.q2 (.int .i64 0) rfl (.nil ?_))))
 obtain ⟨q44, h45, h46⟩ := z00 h43
 refine AW.midT (fun σ' H' => ∃ (y1 : List zAd) (G' : GM), y1 = q44 /\ Ow G' H' (eSl (σ34 5) 45 (rSl rS) x32 :: eSl (σ' 7) 22 rS y1 :: L) /\ GM.le G37 G') ?_ ?_
 rotate_left
 .rintro σ90 H91 fr92 ⟨x89, G93, rfl, O94, s95⟩
  have h97 := z0c h46
  refine .region (W.q2 (σ34 5) ((fr92 5 rfl).trans rfl) (W.q2 (σ90 7) rfl ?_))
  obtain ⟨G99, O100, s101, f102⟩ := O94.frzSl (j := 1) rfl
  replace O100 : Ow G99 H91 (eSl (σ34 5) 45 (rSl rS) x32 :: L) := O100
  refine W.lo rfl rfl (Lo.buildSlice (r := (rSl rS)) (vs := [(σ90 7)]) (xs := [x89]) el44 ze45 sz45 (by kernel_rfl) rfl (qc rfl qn) rfl (.cons (z2h f102) .nil) O100) ?_
  rintro v104 H105 ⟨O98, sm103⟩
  obtain ⟨es107, e108, e109⟩ := z44 (j := 0) rfl O98
  obtain ⟨g110, h111⟩ := z2b h97
  refine W.lo rfl rfl (Lo.append (j := 1) (v := (σ34 5)) rfl rfl el44 ni44 ze45 sz45 by45 (by decide) (by decide) rfl e108 e109 g110 O98) ?_
  rintro v113 H114 ⟨O106, sm112⟩
  replace O106 : Ow G99 H114 (eSl v104 45 (rSl rS) [x89] :: eSl v113 45 (rSl rS) (x32 ++ [x89]) :: L) := O106
  refine W.q1 v113 rfl (.nil (.region (W.q3 (.int .i64 (z02 .i64 (x33 + 1))) ((fr92 17 rfl).trans t41) rfl (W.q2 (.int .i64 (z02 .i64 (x33 + 1))) rfl (.nil ?_)))))
  have O115 : Ow G99 H114 (eSl v113 45 (rSl rS) (x32 ++ [x89]) :: L) := O106.drop 0
  exact ⟨k31, zAg _, ⟨(x32 ++ [x89]), z02 .i64 (x33 + 1), _, h111, O115, (zAe s39 (zAe s95 s101)), rfl⟩⟩
 refine .block ?_
 have O47 := O38.nilSl 22 rS
 refine AW.loop (α := Nat) (fun k' σ' H' => ∃ (y1 : List zAd) (y2 : Int) (G' : GM), z2t K p0 x33 k' y1 y2 = some q44 /\ Ow G' H' (eSl (σ' 7) 22 rS y1 :: eSl (σ34 5) 45 (rSl rS) x32 :: L) /\ GM.le G37 G' /\ σ' 22 = .int .i64 y2) (fun k' => k') K ⟨[], 0, _, h45, O47, (zAf _), rfl⟩ ?_
 rintro k48
 rintro σ51 H52 fr53 ⟨x49, x50, G54, h57, O55, s56, t58⟩
 rcases k48 with _ | k48
 .exact z07 h57
 rw [z2t] at h57
 refine .seq (.region (W.q3 (.bool (decide (x50 < (List.length p0 : Int)))) t58 ((fr53 21 rfl).trans rfl) (.nil (.seq (.cond (b := decide (x50 < (List.length p0 : Int))) rfl rfl (fun g59 => ?_) (fun g59 => ?_))))))
 rotate_left
 .have h86 := z0h g59 h57
  refine .exit ?_
  have O87 : Ow G54 H52 (eSl (σ51 7) 22 rS x49 :: eSl (σ34 5) 45 (rSl rS) x32 :: L) := O55.front (j := 0) rfl
  have O88 : Ow G54 H52 (eSl (σ34 5) 45 (rSl rS) x32 :: eSl (σ51 7) 22 rS x49 :: L) := O87.front (j := 1) rfl
  obtain rfl := zAa h86
  exact ⟨x49, _, rfl, O88, s56⟩
 have h60 := z04 g59 h57
 refine .skip (.seq (.block (.seq (.region ?_))))
 obtain ⟨x61, i62, h63⟩ := z00 h60
 have j64 := z0e i62
 refine W.pure (v := (z1y v0 (Int.toNat x50 * 1))) rfl rfl (z2g el44 sz45 (oo rfl ((fr53 20 rfl).trans rfl)) (oo rfl t58) (z0d (RT.mono _ (zAe s6 (zAe s21 (zAe s39 s56))) hp0)) j64.1 j64.2.1) ?_
 obtain ⟨w65, p66, f67⟩ := At.sl (At.le (z1s hp0 j64.2.2) (zAe s6 (zAe s21 (zAe s39 s56))) (zAe s6 (zAe s21 (zAe s39 s56))))
 replace p66 := PtG.le p66 O55.fro
 refine W.load1 (v := w65) (r := []) rfl rfl ag45 (z1g rfl p66) (W.q1 w65 rfl (.nil (.region (W.q2 (σ51 7) rfl (W.q2 w65 rfl (W.q2 (.int .i64 x33) ((fr53 6 rfl).trans rfl) ?_))))))
 obtain ⟨x68, i69, h70⟩ := z00 h63
 have j71 := z0e i69
 refine W.pure (v := (z1y w65 (Int.toNat x33 * 1))) rfl rfl (z2g el45 sz22 (oo rfl rfl) (oo rfl rfl) (z0d f67) j71.1 j71.2.1) (W.load1 (v := (.string x68)) (r := []) rfl rfl ag22 (z1g rfl (At.str (At.le (z1s f67 j71.2.2) (zAf _) O55.fro))) (W.lo rfl rfl (Lo.buildSlice (r := rS) (vs := [(.string x68)]) (xs := [x68]) el45 ze22 sz22 (by kernel_rfl) rfl (qc rfl qn) rfl (.cons rfl .nil) O55) ?_))
 rintro v74 H75 ⟨O72, sm73⟩
 obtain ⟨es77, e78, e79⟩ := z44 (j := 0) rfl O72
 obtain ⟨g80, h81⟩ := z2b h70
 refine W.lo rfl rfl (Lo.append (j := 1) (v := (σ51 7)) rfl rfl el45 ni45 ze22 sz22 by22 (by decide) (by decide) rfl e78 e79 g80 O72) ?_
 rintro v83 H84 ⟨O76, sm82⟩
 replace O76 : Ow G54 H84 (eSl v74 22 rS [x68] :: eSl v83 22 rS (x49 ++ [x68]) :: eSl (σ34 5) 45 (rSl rS) x32 :: L) := O76
 refine W.q1 v83 rfl (.nil (.region (W.q3 (.int .i64 (z02 .i64 (x50 + 1))) t58 rfl (W.q2 (.int .i64 (z02 .i64 (x50 + 1))) rfl (.nil ?_)))))
 have O85 : Ow G54 H84 (eSl v83 22 rS (x49 ++ [x68]) :: eSl (σ34 5) 45 (rSl rS) x32 :: L) := O76.drop 0
 exact ⟨k48, zAg _, ⟨(x49 ++ [x68]), z02 .i64 (x50 + 1), _, h81, O85, s56, rfl⟩⟩
def z3b (K : Nat) (p0 : Int) : Nat -> List (List zAd) -> Int -> Option (List (List zAd))
  | 0, _, _ => none
  | k + 1, x27, x28 => (if (decide (x28 < p0)) = true then ((z1t K [(⟨#[48]⟩ : zAd)] p0).bind fun x47 => ((idx x47 x28).bind fun x60 => (if List.length x27 + List.length [(List.set x47 (Int.toNat x28) (⟨#[49]⟩ : zAd))] <= 16777216 then z3b K p0 k (x27 ++ [(List.set x47 (Int.toNat x28) (⟨#[49]⟩ : zAd))]) (z02 .i64 (x28 + 1)) else none))) else some x27)
def z5y (K : Nat) (p0 : Int) : Option (List (List zAd) × Int) := (Option.bind ((if (decide (p0 < 0)) = true then some true else some (decide (p0 > 40)))) (tu1 fun x8 => (if x8 = true then some ([], 4) else (Option.bind (z3b K p0 K [] 0) (tu1 fun x87 => some (x87, 0))))))
set_option maxHeartbeats 4000000 in
theorem z92 (p0 : Int) (O : Ow G H (L)) (r : List (List zAd) × Int) (h : z5y K p0 = some r) :
    CRF Tryz.prog 40 [(.int .i64 p0)] G H (fun w0 => (eSl w0 45 (rSl rS) r.1 :: L)) (fun w0 v G' => v = .tuple #[w0, .int .i64 r.2]) := by
 unfold z5y at h
 refine CRF.of (z06 (n := 29) (fn := Tryz.f40) (R := fun v H' => ∃ w0 G', Ow G' H' (eSl w0 45 (rSl rS) r.1 :: L) /\ G.le G' /\ v = .tuple #[w0, .int .i64 r.2]) (by kernel_rfl) rfl rfl ?_)
 refine .seq (.region (W.q1 (.slice none 0 0) rfl (W.q1 (.int .i64 0) rfl (.nil (.seq (.seq ?_))))))
 obtain ⟨q1, h2, h3⟩ := z00 h
 refine AW.midT (fun σ' H' => ∃ (y1 : Bool) (G' : GM), y1 = q1 /\ Ow G' H' (L) /\ GM.le G G' /\ σ' 12 = .bool y1) ?_ ?_
 .refine .region (W.q2 (.int .i64 p0) rfl (W.q3 (.bool (decide (p0 < 0))) rfl rfl (W.q2 (.bool (decide (p0 < 0))) rfl (W.splitAt (t := 9) (b := decide (p0 < 0)) rfl (fun g4 gv5 => ?_) (fun g4 gv5 => ?_)))))
  .have h6 := z04 g4 h2
   refine W.q6 rfl gv5 (W.q6 rfl gv5 (W.q4 (.bool true) gv5 rfl (.nil ?_)))
   obtain rfl := zAa h6
   exact ⟨true, _, rfl, O, (zAf _), rfl⟩
  have h7 := z0h g4 h2
  refine W.q2 (hg := gk rfl rfl gv5 rfl) (.int .i64 p0) rfl (W.q3 (hg := gk rfl rfl gv5 rfl) (.bool (decide (p0 > 40))) rfl rfl (W.q5 (.bool (decide (p0 > 40))) gv5 rfl (.nil ?_)))
  obtain rfl := zAa h7
  exact ⟨decide (p0 > 40), _, rfl, O, (zAf _), rfl⟩
 rintro σ9 H10 fr11 ⟨x8, G12, rfl, O13, s14, t16⟩
 have h17 := z0c h3
 refine .cond (b := x8) rfl t16 (fun g18 => ?_) (fun g18 => ?_)
 .have h19 := z04 g18 h17
  refine .seq (.region (W.q1 (.slice none 0 0) rfl (W.q1 (.int .i64 4) rfl (.nil (.ret ?_)))))
  have O20 := O13.nilSl 45 (rSl rS)
  obtain rfl := zAa h19
  refine z7x (P := Tryz.prog) (fn := Tryz.f40) (n := 29) (R := fun v H' => ∃ w0 G', Ow G' H' (eSl w0 45 (rSl rS) ([], 4).1 :: L) /\ G.le G' /\ v = .tuple #[w0, .int .i64 ([], 4).2]) (v1 := (.slice none 0 0)) (v2 := (.int .i64 4)) (by rfl) (z08 (by rfl) (by exact rfl)) (z08 (by rfl) (by exact rfl)) ?_
  exact ⟨(.slice none 0 0), _, O20, s14, rfl⟩
 have h21 := z0h g18 h17
 refine .skip (.seq (.region (W.q1 (.slice none 0 0) rfl (.nil (.seq (.seq ?_))))))
 refine .region (W.q2 (.int .i64 p0) ((fr11 0 rfl).trans rfl) (W.q2 (.int .i64 0) rfl (.nil ?_)))
 obtain ⟨q22, h23, h24⟩ := z00 h21
 refine AW.midT (fun σ' H' => ∃ (y1 : List (List zAd)) (G' : GM), y1 = q22 /\ Ow G' H' (eSl (σ' 4) 45 (rSl rS) y1 :: L) /\ GM.le G12 G') ?_ ?_
 rotate_left
 .rintro σ88 H89 fr90 ⟨x87, G91, rfl, O92, s93⟩
  have h95 := z0c h24
  refine .seq (.region (W.q2 (σ88 4) rfl (W.q1 (σ88 4) rfl (W.q1 (.int .i64 0) rfl (.nil (.ret ?_))))))
  obtain rfl := zAa h95
  refine z7x (P := Tryz.prog) (fn := Tryz.f40) (n := 29) (R := fun v H' => ∃ w0 G', Ow G' H' (eSl w0 45 (rSl rS) (x87, 0).1 :: L) /\ G.le G' /\ v = .tuple #[w0, .int .i64 (x87, 0).2]) (v1 := (σ88 4)) (v2 := (.int .i64 0)) (by rfl) (z08 (by rfl) (by exact rfl)) (z08 (by rfl) (by exact rfl)) ?_
  exact ⟨(σ88 4), _, O92, (zAe s14 s93), rfl⟩
 refine .block ?_
 have O25 := O13.nilSl 45 (rSl rS)
 refine AW.loop (α := Nat) (fun k' σ' H' => ∃ (y1 : List (List zAd)) (y2 : Int) (G' : GM), z3b K p0 k' y1 y2 = some q22 /\ Ow G' H' (eSl (σ' 4) 45 (rSl rS) y1 :: L) /\ GM.le G12 G' /\ σ' 14 = .int .i64 y2) (fun k' => k') K ⟨[], 0, _, h23, O25, (zAf _), rfl⟩ ?_
 rintro k26
 rintro σ29 H30 fr31 ⟨x27, x28, G32, h35, O33, s34, t36⟩
 rcases k26 with _ | k26
 .exact z07 h35
 rw [z3b] at h35
 refine .seq (.region (W.q3 (.bool (decide (x28 < p0))) t36 ((fr31 13 rfl).trans rfl) (.nil (.seq (.cond (b := decide (x28 < p0)) rfl rfl (fun g37 => ?_) (fun g37 => ?_))))))
 rotate_left
 .have h86 := z0h g37 h35
  refine .exit ?_
  obtain rfl := zAa h86
  exact ⟨x27, _, rfl, O33, s34⟩
 have h38 := z04 g37 h35
 refine .skip (.seq (.block (.seq (.region (W.q2 (.int .i64 x28) t36 (W.q1 (.int .i64 x28) rfl ?_))))))
 refine .nil (.seq (.region (W.lo rfl rfl (Lo.buildSlice (r := rS) (vs := [(.string (⟨#[48]⟩ : zAd))]) (xs := [(⟨#[48]⟩ : zAd)]) el23 ze22 sz22 (by kernel_rfl) rfl (qc rfl qn) rfl (.cons rfl .nil) O33) ?_)))
 rintro v41 H42 ⟨O39, sm40⟩
 refine W.q2 (.int .i64 p0) ((fr31 0 rfl).trans ((fr11 0 rfl).trans rfl)) ?_
 obtain ⟨G43, O44, s45, f46⟩ := O39.frzSl (j := 0) rfl
 replace O44 : Ow G43 H42 (eSl (σ29 4) 45 (rSl rS) x27 :: L) := O44
 obtain ⟨x47, i48, h49⟩ := z00 h38
 refine W.lo rfl rfl (Lo.callPF (ps := []) (pw := fun w => [eSl w 22 rS x47]) rfl (fn := Tryz.f93) (by kernel_rfl) rfl (mc rfl (mc rfl mn)) O44 (fun L' O' => z4t K v41 [(⟨#[48]⟩ : zAd)] f46 p0 O' _ i48)) ?_
 rintro v58 H59 ⟨w55, G50, O51, s52, sm57, rfl⟩
 replace O51 : Ow G50 H59 (eSl w55 22 rS x47 :: eSl (σ29 4) 45 (rSl rS) x27 :: L) := O51
 refine W.q1 w55 rfl (.nil (.seq (.region (W.q2 w55 rfl (W.q2 (.int .i64 x28) rfl ?_)))))
 obtain ⟨x60, i61, h62⟩ := z00 h49
 have j63 := z0e i61
 refine W.pure (v := (z1y w55 (Int.toNat x28 * 1))) rfl rfl (z2g el45 sz22 (oo rfl rfl) (oo rfl rfl) (O51.slLen (j := 0) rfl) j63.1 j63.2.1) (W.lo rfl rfl (Lo.storeSl0 (j := 0) (y0 := (⟨#[49]⟩ : zAd)) (v := (.string (⟨#[49]⟩ : zAd))) rfl j63.2.2  rfl sz22 rfl rfl rfl O51) ?_)
 rintro v66 H67 ⟨O64, sm65⟩
 replace O64 : Ow G50 H67 (eSl w55 22 rS (List.set x47 (Int.toNat x28) (⟨#[49]⟩ : zAd)) :: eSl (σ29 4) 45 (rSl rS) x27 :: L) := O64
 refine .nil (.region (W.q2 (σ29 4) rfl (W.q2 w55 rfl ?_)))
 obtain ⟨G69, O70, s71, f72⟩ := O64.frzSl (j := 0) rfl
 replace O70 : Ow G69 H67 (eSl (σ29 4) 45 (rSl rS) x27 :: L) := O70
 refine W.lo rfl rfl (Lo.buildSlice (r := (rSl rS)) (vs := [w55]) (xs := [(List.set x47 (Int.toNat x28) (⟨#[49]⟩ : zAd))]) el44 ze45 sz45 (by kernel_rfl) rfl (qc rfl qn) rfl (.cons (z2h f72) .nil) O70) ?_
 rintro v74 H75 ⟨O68, sm73⟩
 obtain ⟨es77, e78, e79⟩ := z44 (j := 0) rfl O68
 obtain ⟨g80, h81⟩ := z2b h62
 refine W.lo rfl rfl (Lo.append (j := 1) (v := (σ29 4)) rfl rfl el44 ni44 ze45 sz45 by45 (by decide) (by decide) rfl e78 e79 g80 O68) ?_
 rintro v83 H84 ⟨O76, sm82⟩
 replace O76 : Ow G69 H84 (eSl v74 45 (rSl rS) [(List.set x47 (Int.toNat x28) (⟨#[49]⟩ : zAd))] :: eSl v83 45 (rSl rS) (x27 ++ [(List.set x47 (Int.toNat x28) (⟨#[49]⟩ : zAd))]) :: L) := O76
 refine W.q1 v83 rfl (.nil (.region (W.q3 (.int .i64 (z02 .i64 (x28 + 1))) t36 rfl (W.q2 (.int .i64 (z02 .i64 (x28 + 1))) rfl (.nil ?_)))))
 have O85 : Ow G69 H84 (eSl v83 45 (rSl rS) (x27 ++ [(List.set x47 (Int.toNat x28) (⟨#[49]⟩ : zAd))]) :: L) := O76.drop 0
 exact ⟨k26, zAg _, ⟨(x27 ++ [(List.set x47 (Int.toNat x28) (⟨#[49]⟩ : zAd))]), z02 .i64 (x28 + 1), _, h81, O85, (zAe s34 (zAe s45 (zAe s52 s71))), rfl⟩⟩
def z5i (K : Nat) (x87 : List (List Q)) (x105 : Int) (x116 : List Q) : Nat -> List (List Q) -> Int -> Option (List (List Q))
  | 0, _, _ => none
  | k + 1, x130, x131 => (if (decide (x131 < (List.length x116 : Int))) = true then ((idx x130 x105).bind fun x147 => ((idx x130 x105).bind fun x155 => ((idx x155 x131).bind fun x164 => ((idx x87 x105).bind fun x171 => ((idx x171 x131).bind fun x180 => ((z6e K x164 x180).bind fun x187 => ((idx x147 x131).bind fun x206 => z5i K x87 x105 x116 k (List.set x130 (Int.toNat x105) (List.set x147 (Int.toNat x131) x187)) (z02 .i64 (x131 + 1))))))))) else some x130)
def z5j (K : Nat) (x74 : List (List Q)) (x87 : List (List Q)) : Nat -> List (List Q) -> Int -> Option (List (List Q))
  | 0, _, _ => none
  | k + 1, x104, x105 => (if (decide (x105 < (List.length x74 : Int))) = true then ((idx x104 x105).bind fun x116 => (Option.bind (z5i K x87 x105 x116 K x104 0) (tu1 fun x221 => z5j K x74 x87 k x221 (z02 .i64 (x105 + 1))))) else some x104)
def z93 (K : Nat) (p0 : List (List zAd)) (p1 : List (List zAd)) : Option (List (List zAd) × Int) := ((z1q K p0).bind fun x1 => (if (x1 != 0) = true then some ([], x1) else ((z1q K p1).bind fun x16 => (if (x16 != 0) = true then some ([], x16) else (Option.bind ((if ((List.length p0 : Int) != (List.length p1 : Int)) = true then some true else ((z3a K p0).bind fun x38 => ((z3a K p1).bind fun x49 => some (x38 != x49))))) (tu1 fun x60 => (if x60 = true then some ([], 3) else ((z4n K p0).bind fun x74 => ((z4n K p1).bind fun x87 => (Option.bind (z5j K x74 x87 K x74 0) (tu1 fun x231 => ((z46 K x231).bind fun x244 => some (x244.1, x244.2)))))))))))))
set_option maxHeartbeats 4000000 in
theorem zby (v0 : Value) (p0 : List (List zAd)) (hp0 : (rSl (rSl rS)).rep G [v0] p0) (v1 : Value) (p1 : List (List zAd)) (hp1 : (rSl (rSl rS)).rep G [v1] p1) (O : Ow G H (L)) (r : List (List zAd) × Int) (h : z93 K p0 p1 = some r) :
    CRF Tryz.prog 38 [v0, v1] G H (fun w0 => (eSl w0 45 (rSl rS) r.1 :: L)) (fun w0 v G' => v = .tuple #[w0, .int .i64 r.2]) := by
 unfold z93 at h
 refine CRF.of (z06 (n := 78) (fn := Tryz.f38) (R := fun v H' => ∃ w0 G', Ow G' H' (eSl w0 45 (rSl rS) r.1 :: L) /\ G.le G' /\ v = .tuple #[w0, .int .i64 r.2]) (by kernel_rfl) rfl rfl ?_)
 refine .seq (.region (W.q1 (.slice none 0 0) rfl (W.q1 (.int .i64 0) rfl (.nil (.seq (.seq ?_))))))
 refine .region (W.q2 v0 rfl ?_)
 obtain ⟨x1, i2, h3⟩ := z00 h
 refine W.lo rfl rfl (Lo.callP (ps := []) (ps' := []) rfl (fn := Tryz.f78) (by kernel_rfl) rfl (mc rfl mn) O (fun L' O' => z1i K v0 p0 hp0 O' _ i2)) ?_
 rintro v10 H11 ⟨G4, O5, s6, sm9, rfl⟩
 replace O5 : Ow G4 H11 (L) := O5
 refine W.q1 (.int .i64 x1) rfl (.nil (.seq (.region (W.q2 (.int .i64 x1) rfl (W.q3 (.bool (x1 != 0)) rfl rfl (.nil ?_))))))
 refine .cond (b := (x1 != 0)) rfl rfl (fun g12 => ?_) (fun g12 => ?_)
 .have h13 := z04 g12 h3
  refine .seq (.region (W.q2 (.int .i64 x1) rfl (W.q1 (.slice none 0 0) rfl (W.q1 (.int .i64 x1) rfl (.nil (.ret ?_))))))
  have O14 := O5.nilSl 45 (rSl rS)
  obtain rfl := zAa h13
  refine z7x (P := Tryz.prog) (fn := Tryz.f38) (n := 78) (R := fun v H' => ∃ w0 G', Ow G' H' (eSl w0 45 (rSl rS) ([], x1).1 :: L) /\ G.le G' /\ v = .tuple #[w0, .int .i64 ([], x1).2]) (v1 := (.slice none 0 0)) (v2 := (.int .i64 x1)) (by rfl) (z08 (by rfl) (by exact rfl)) (z08 (by rfl) (by exact rfl)) ?_
  exact ⟨(.slice none 0 0), _, O14, s6, rfl⟩
 have h15 := z0h g12 h3
 refine .skip (.seq (.seq (.region (W.q2 v1 rfl ?_))))
 obtain ⟨x16, i17, h18⟩ := z00 h15
 refine W.lo rfl rfl (Lo.callP (ps := []) (ps' := []) rfl (fn := Tryz.f78) (by kernel_rfl) rfl (mc rfl mn) O5 (fun L' O' => z1i K v1 p1 (RT.mono _ s6 hp1) O' _ i17)) ?_
 rintro v25 H26 ⟨G19, O20, s21, sm24, rfl⟩
 replace O20 : Ow G19 H26 (L) := O20
 refine W.q1 (.int .i64 x16) rfl (.nil (.seq (.region (W.q2 (.int .i64 x16) rfl (W.q3 (.bool (x16 != 0)) rfl rfl (.nil ?_))))))
 refine .cond (b := (x16 != 0)) rfl rfl (fun g27 => ?_) (fun g27 => ?_)
 .have h28 := z04 g27 h18
  refine .seq (.region (W.q2 (.int .i64 x16) rfl (W.q1 (.slice none 0 0) rfl (W.q1 (.int .i64 x16) rfl (.nil (.ret ?_))))))
  have O29 := O20.nilSl 45 (rSl rS)
  obtain rfl := zAa h28
  refine z7x (P := Tryz.prog) (fn := Tryz.f38) (n := 78) (R := fun v H' => ∃ w0 G', Ow G' H' (eSl w0 45 (rSl rS) ([], x16).1 :: L) /\ G.le G' /\ v = .tuple #[w0, .int .i64 ([], x16).2]) (v1 := (.slice none 0 0)) (v2 := (.int .i64 x16)) (by rfl) (z08 (by rfl) (by exact rfl)) (z08 (by rfl) (by exact rfl)) ?_
  exact ⟨(.slice none 0 0), _, O29, (zAe s6 s21), rfl⟩
 have h30 := z0h g27 h18
 refine .skip (.seq (.seq ?_))
 obtain ⟨q31, h32, h33⟩ := z00 h30
 refine AW.midT (fun σ' H' => ∃ (y1 : Bool) (G' : GM), y1 = q31 /\ Ow G' H' (L) /\ GM.le G19 G' /\ σ' 33 = .bool y1) ?_ ?_
 .refine .region (W.q2 v0 rfl (W.pure (v := (.int .i64 (List.length p0 : Int))) rfl rfl (z0i (oo rfl rfl) (z0d (RT.mono _ (zAe s6 s21) hp0)) (z03 el44)) (W.q2 v1 rfl (W.pure (v := (.int .i64 (List.length p1 : Int))) rfl rfl (z0i (oo rfl rfl) (z0d (RT.mono _ (zAe s6 s21) hp1)) (z03 el44)) (W.q3 (.bool ((List.length p0 : Int) != (List.length p1 : Int))) rfl rfl (W.q2 (.bool ((List.length p0 : Int) != (List.length p1 : Int))) rfl ?_))))))
  refine W.splitAt (t := 27) (b := ((List.length p0 : Int) != (List.length p1 : Int))) rfl (fun g34 gv35 => ?_) (fun g34 gv35 => ?_)
  .have h36 := z04 g34 h32
   refine W.q6 rfl gv35 (W.q6 rfl gv35 (W.q6 rfl gv35 (W.q6 rfl gv35 (W.q6 rfl gv35 (W.q4 (.bool true) gv35 rfl (.nil ?_))))))
   obtain rfl := zAa h36
   exact ⟨true, _, rfl, O20, (zAf _), rfl⟩
  have h37 := z0h g34 h32
  refine W.q2 (hg := gk rfl rfl gv35 rfl) v0 rfl ?_
  obtain ⟨x38, i39, h40⟩ := z00 h37
  refine W.lo (gk rfl rfl gv35 rfl) rfl (Lo.callP (ps := []) (ps' := []) rfl (fn := Tryz.f80) (by kernel_rfl) rfl (mc rfl mn) O20 (fun L' O' => z3g K v0 p0 (RT.mono _ (zAe s6 s21) hp0) O' _ i39)) ?_
  rintro v47 H48 ⟨G41, O42, s43, sm46, rfl⟩
  replace O42 : Ow G41 H48 (L) := O42
  refine W.q2 (hg := gk rfl rfl gv35 rfl) v1 rfl ?_
  obtain ⟨x49, i50, h51⟩ := z00 h40
  refine W.lo (gk rfl rfl gv35 rfl) rfl (Lo.callP (ps := []) (ps' := []) rfl (fn := Tryz.f80) (by kernel_rfl) rfl (mc rfl mn) O42 (fun L' O' => z3g K v1 p1 (RT.mono _ (zAe s6 (zAe s21 s43)) hp1) O' _ i50)) ?_
  rintro v58 H59 ⟨G52, O53, s54, sm57, rfl⟩
  replace O53 : Ow G52 H59 (L) := O53
  refine W.q3 (hg := gk rfl rfl gv35 rfl) (.bool (x38 != x49)) rfl rfl (W.q5 (.bool (x38 != x49)) gv35 rfl (.nil ?_))
  obtain rfl := zAa h51
  exact ⟨(x38 != x49), _, rfl, O53, (zAe s43 s54), rfl⟩
 rintro σ61 H62 fr63 ⟨x60, G64, rfl, O65, s66, t68⟩
 have h69 := z0c h33
 refine .cond (b := x60) rfl t68 (fun g70 => ?_) (fun g70 => ?_)
 .have h71 := z04 g70 h69
  refine .seq (.region (W.q1 (.slice none 0 0) rfl (W.q1 (.int .i64 3) rfl (.nil (.ret ?_)))))
  have O72 := O65.nilSl 45 (rSl rS)
  obtain rfl := zAa h71
  refine z7x (P := Tryz.prog) (fn := Tryz.f38) (n := 78) (R := fun v H' => ∃ w0 G', Ow G' H' (eSl w0 45 (rSl rS) ([], 3).1 :: L) /\ G.le G' /\ v = .tuple #[w0, .int .i64 ([], 3).2]) (v1 := (.slice none 0 0)) (v2 := (.int .i64 3)) (by rfl) (z08 (by rfl) (by exact rfl)) (z08 (by rfl) (by exact rfl)) ?_
  exact ⟨(.slice none 0 0), _, O72, (zAe s6 (zAe s21 s66)), rfl⟩
 have h73 := z0h g70 h69
 refine .skip (.seq (.region (W.q2 v0 ((fr63 0 rfl).trans rfl) ?_)))
 obtain ⟨x74, i75, h76⟩ := z00 h73
 refine W.lo rfl rfl (Lo.callPF (ps := []) (pw := fun w => [z18 (hdT w) 111 (tlT w) [] 96 T_Q x74]) rfl (fn := Tryz.f82) (by kernel_rfl) rfl (mc rfl mn) O65 (fun L' O' => z3u K v0 p0 (RT.mono _ (zAe s6 (zAe s21 s66)) hp0) O' _ i75)) ?_
 rintro v85 H86 ⟨w82, G77, O78, s79, sm84, rfl⟩
 replace O78 : Ow G77 H86 (z18 (hdT w82) 111 (tlT w82) [] 96 T_Q x74 :: L) := O78
 refine W.q2 v1 ((fr63 1 rfl).trans rfl) ?_
 obtain ⟨x87, i88, h89⟩ := z00 h76
 refine W.lo rfl rfl (Lo.callPF (ps := []) (pw := fun w => [z18 (hdT w) 111 (tlT w) [] 96 T_Q x87]) rfl (fn := Tryz.f82) (by kernel_rfl) rfl (mc rfl mn) O78 (fun L' O' => z3u K v1 p1 (RT.mono _ (zAe s6 (zAe s21 (zAe s66 s79))) hp1) O' _ i88)) ?_
 rintro v98 H99 ⟨w95, G90, O91, s92, sm97, rfl⟩
 replace O91 : Ow G90 H99 (z18 (hdT w95) 111 (tlT w95) [] 96 T_Q x87 :: z18 (hdT w82) 111 (tlT w82) [] 96 T_Q x74 :: L) := O91
 refine W.q1 (hdT w82) rfl (W.q1 (hdT w95) rfl (.nil (.seq (.seq (.region (W.q2 (hdT w82) rfl ?_))))))
 refine W.pure (v := (.int .i64 (List.length x74 : Int))) rfl rfl (z0i (oo rfl rfl) (O91.rowsLen (j := 1) rfl) (z03 z9y)) (W.q2 (.int .i64 0) rfl (.nil ?_))
 obtain ⟨q100, h101, h102⟩ := z00 h89
 refine AW.midT (fun σ' H' => ∃ (y1 : List (List Q)) (G' : GM), y1 = q100 /\ Ow G' H' (z18 (hdT w95) 111 (tlT w95) [] 96 T_Q x87 :: z18 (hdT w82) 111 (tlT w82) [] 96 T_Q y1 :: L) /\ GM.le G90 G') ?_ ?_
 rotate_left
 .rintro σ232 H233 fr234 ⟨x231, G235, rfl, O236, s237⟩
  have h239 := z0c h102
  refine .seq (.region (W.q2 (hdT w82) ((fr234 8 rfl).trans rfl) ?_))
  obtain ⟨G240, O241, s242, f243⟩ := O236.frzRows (j := 1) rfl
  replace O241 : Ow G240 H233 (z18 (hdT w95) 111 (tlT w95) [] 96 T_Q x87 :: L) := O241
  obtain ⟨x244, i245, h246⟩ := z00 h239
  refine W.lo rfl rfl (Lo.callPF (ps := []) (pw := fun w => [eSl w 45 (rSl rS) x244.1]) rfl (fn := Tryz.f84) (by kernel_rfl) rfl (mc rfl mn) O241 (fun L' O' => z55 K (hdT w82) x231 f243 O' _ i245)) ?_
  rintro v255 H256 ⟨w252, G247, O248, s249, sm254, rfl⟩
  replace O248 : Ow G247 H256 (eSl w252 45 (rSl rS) x244.1 :: z18 (hdT w95) 111 (tlT w95) [] 96 T_Q x87 :: L) := O248
  refine W.pure (v := w252) rfl rfl (z09 (oo rfl rfl) rfl) (W.pure (v := (.int .i64 x244.2)) rfl rfl (z09 (oo rfl rfl) rfl) (W.q1 w252 rfl (W.q1 (.int .i64 x244.2) rfl (.nil (.ret ?_)))))
  have O257 : Ow G247 H256 (eSl w252 45 (rSl rS) x244.1 :: L) := O248.drop 1
  obtain rfl := zAa h246
  refine z7x (P := Tryz.prog) (fn := Tryz.f38) (n := 78) (R := fun v H' => ∃ w0 G', Ow G' H' (eSl w0 45 (rSl rS) (x244.1, x244.2).1 :: L) /\ G.le G' /\ v = .tuple #[w0, .int .i64 (x244.1, x244.2).2]) (v1 := w252) (v2 := (.int .i64 x244.2)) (by rfl) (z08 (by rfl) (by exact rfl)) (z08 (by rfl) (by exact rfl)) ?_
  exact ⟨w252, _, O257, (zAe s6 (zAe s21 (zAe s66 (zAe s79 (zAe s92 (zAe s237 (zAe s242 s249))))))), rfl⟩
 refine .block (AW.loop (α := Nat) (fun k' σ' H' => ∃ (y1 : List (List Q)) (y2 : Int) (G' : GM), z5j K x74 x87 k' y1 y2 = some q100 /\ Ow G' H' (z18 (hdT w95) 111 (tlT w95) [] 96 T_Q x87 :: z18 (hdT w82) 111 (tlT w82) [] 96 T_Q y1 :: L) /\ GM.le G90 G' /\ σ' 40 = .int .i64 y2) (fun k' => k') K ⟨x74, 0, _, h101, O91, (zAf _), rfl⟩ ?_)
 rintro k103
 rintro σ106 H107 fr108 ⟨x104, x105, G109, h112, O110, s111, t113⟩
 rcases k103 with _ | k103
 .exact z07 h112
 rw [z5j] at h112
 refine .seq (.region (W.q3 (.bool (decide (x105 < (List.length x74 : Int)))) t113 ((fr108 39 rfl).trans rfl) (.nil (.seq (.cond (b := decide (x105 < (List.length x74 : Int))) rfl rfl (fun g114 => ?_) (fun g114 => ?_))))))
 rotate_left
 .have h230 := z0h g114 h112
  refine .exit ?_
  obtain rfl := zAa h230
  exact ⟨x104, _, rfl, O110, s111⟩
 have h115 := z04 g114 h112
 refine .skip (.seq (.block (.seq (.region (W.q2 (.int .i64 x105) t113 (W.q1 (.int .i64 x105) rfl ?_))))))
 refine .nil (.seq (.region (W.q2 (hdT w82) ((fr108 8 rfl).trans rfl) (W.q2 (.int .i64 x105) rfl ?_))))
 obtain ⟨x116, i117, h118⟩ := z00 h115
 have j119 := z0e i117
 refine W.pure (v := (z1y (hdT w82) (Int.toNat x105 * 1))) rfl rfl (z2g z9y zbv (oo rfl rfl) (oo rfl rfl) (O110.rowsLen (j := 1) rfl) j119.1 j119.2.1) ?_
 obtain ⟨w120, e121, p122, k123⟩ := O110.rowVal (j := 1) rfl j119.2.2
 refine W.load1 (v := w120) (r := []) rfl rfl zfc (z1g rfl p122) ?_
 have O124 := O110.takeRow (j := 1) rfl e121 j119.2.2 List.not_mem_nil
 replace O124 : Ow G109 H107 (eSl w120 96 T_Q x116 :: z18 (hdT w95) 111 (tlT w95) [] 96 T_Q x87 :: z18 (hdT w82) 111 (tlT w82) [Int.toNat x105] 96 T_Q x104 :: L) := O124
 refine W.pure (v := (.int .i64 (List.length x116 : Int))) rfl rfl (z0i (oo rfl rfl) (O124.slLen (j := 0) rfl) (z03 zbc)) (W.q2 (.int .i64 0) rfl (.nil ?_))
 have O125 := O124.putRow0 (j := 1) rfl e121 j119.2.2
 replace O125 : Ow G109 H107 (z18 (hdT w95) 111 (tlT w95) [] 96 T_Q x87 :: z18 (hdT w82) 111 (tlT w82) [] 96 T_Q x104 :: L) := O125
 obtain ⟨q126, h127, h128⟩ := z00 h118
 refine AW.midT (fun σ' H' => ∃ (y1 : List (List Q)) (G' : GM), y1 = q126 /\ Ow G' H' (z18 (hdT w95) 111 (tlT w95) [] 96 T_Q x87 :: z18 (hdT w82) 111 (tlT w82) [] 96 T_Q y1 :: L) /\ GM.le G109 G') ?_ ?_
 rotate_left
 .rintro σ222 H223 fr224 ⟨x221, G225, rfl, O226, s227⟩
  have h229 := z0c h128
  refine .region (W.q3 (.int .i64 (z02 .i64 (x105 + 1))) ((fr224 40 rfl).trans t113) rfl (W.q2 (.int .i64 (z02 .i64 (x105 + 1))) rfl (.nil ?_)))
  exact ⟨k103, zAg _, ⟨x221, z02 .i64 (x105 + 1), _, h229, O226, (zAe s111 s227), rfl⟩⟩
 refine .block (AW.loop (α := Nat) (fun k' σ' H' => ∃ (y1 : List (List Q)) (y2 : Int) (G' : GM), z5i K x87 x105 x116 k' y1 y2 = some q126 /\ Ow G' H' (z18 (hdT w95) 111 (tlT w95) [] 96 T_Q x87 :: z18 (hdT w82) 111 (tlT w82) [] 96 T_Q y1 :: L) /\ GM.le G109 G' /\ σ' 48 = .int .i64 y2) (fun k' => k') K ⟨x104, 0, _, h127, O125, (zAf _), rfl⟩ ?_)
 rintro k129
 rintro σ132 H133 fr134 ⟨x130, x131, G135, h138, O136, s137, t139⟩
 rcases k129 with _ | k129
 .exact z07 h138
 rw [z5i] at h138
 refine .seq (.region (W.q3 (.bool (decide (x131 < (List.length x116 : Int)))) t139 ((fr134 47 rfl).trans rfl) (.nil (.seq (.cond (b := decide (x131 < (List.length x116 : Int))) rfl rfl (fun g140 => ?_) (fun g140 => ?_))))))
 rotate_left
 .have h220 := z0h g140 h138
  refine .exit ?_
  obtain rfl := zAa h220
  exact ⟨x130, _, rfl, O136, s137⟩
 have h141 := z04 g140 h138
 refine .skip (.seq (.block (.seq (.region (W.q2 (.int .i64 x131) t139 (W.q1 (.int .i64 x131) rfl ?_))))))
 refine .nil (.draw2 (M := [0, 0, 3, 7, 0, 0, 0, 96, 224, 0, 992, 2016, 0, 0, 12288, 28672, 0, 126976, 258048, 524256, 1048575, 2097151]) mixed (by kernel_rfl) (by kernel_rfl) fun H142 N146 x143 F145 => ?_)
 have O144 := O136.ext x143
 refine D2.q2 (hdT w82) ((fr134 8 rfl).trans ((fr108 8 rfl).trans rfl)) (D2.q2 (.int .i64 x105) ((fr134 10 rfl).trans rfl) ?_)
 obtain ⟨x147, i148, h149⟩ := z00 h141
 have j150 := z0e i148
 refine D2.pure (v := (z1y (hdT w82) (Int.toNat x105 * 1))) rfl rfl (z2g z9y zbv (oo rfl rfl) (oo rfl rfl) (O144.rowsLen (j := 1) rfl) j150.1 j150.2.1) ?_
 obtain ⟨w151, e152, p153, k154⟩ := O144.rowVal (j := 1) rfl j150.2.2
 refine D2.load1' (v := w151) (r := []) rfl rfl zfc (z1g rfl p153) z0b (D2.q2 (.int .i64 x131) rfl (D2.q2 (hdT w82) ((fr134 8 rfl).trans ((fr108 8 rfl).trans rfl)) (D2.q2 (.int .i64 x105) ((fr134 10 rfl).trans rfl) ?_)))
 obtain ⟨x155, i156, h157⟩ := z00 h149
 have j158 := z0e i156
 refine D2.pure (v := (z1y (hdT w82) (Int.toNat x105 * 1))) rfl rfl (z2g z9y zbv (oo rfl rfl) (oo rfl rfl) (O144.rowsLen (j := 1) rfl) j158.1 j158.2.1) ?_
 obtain ⟨w159, e160, p161, k162⟩ := O144.rowVal (j := 1) rfl j158.2.2
 refine D2.load1' (v := w159) (r := []) rfl rfl zfc (z1g rfl p161) z0b (D2.q2 (.int .i64 x131) rfl ?_)
 have O163 := O144.takeRow (j := 1) rfl e160 j158.2.2 List.not_mem_nil
 replace O163 : Ow G135 H142 (eSl w159 96 T_Q x155 :: z18 (hdT w95) 111 (tlT w95) [] 96 T_Q x87 :: z18 (hdT w82) 111 (tlT w82) [Int.toNat x105] 96 T_Q x130 :: L) := O163
 obtain ⟨x164, i165, h166⟩ := z00 h157
 have j167 := z0e i165
 refine D2.pure (v := (z1y w159 (Int.toNat x131 * 3))) rfl rfl (z2g zbc sz96 (oo rfl rfl) (oo rfl rfl) (O163.slLen (j := 0) rfl) j167.1 j167.2.1) ?_
 obtain ⟨c168, p169, f170⟩ := (O163.atSl (j := 0) rfl j167.2.2)
 refine D2.loadA' (cs := c168) rfl rfl ag96 sz96 (z1g rfl p169) (RT.len _ f170) z0b (D2.q2 (hdT w95) ((fr134 9 rfl).trans ((fr108 9 rfl).trans rfl)) (D2.q2 (.int .i64 x105) ((fr134 10 rfl).trans rfl) ?_))
 obtain ⟨x171, i172, h173⟩ := z00 h166
 have j174 := z0e i172
 refine D2.pure (v := (z1y (hdT w95) (Int.toNat x105 * 1))) rfl rfl (z2g z9y zbv (oo rfl rfl) (oo rfl rfl) (O163.rowsLen (j := 1) rfl) j174.1 j174.2.1) ?_
 obtain ⟨w175, e176, p177, k178⟩ := O163.rowVal (j := 1) rfl j174.2.2
 refine D2.load1' (v := w175) (r := []) rfl rfl zfc (z1g rfl p177) z0b (D2.q2 (.int .i64 x131) rfl ?_)
 have O179 := O163.takeRow (j := 1) rfl e176 j174.2.2 List.not_mem_nil
 replace O179 : Ow G135 H142 (eSl w175 96 T_Q x171 :: eSl w159 96 T_Q x155 :: z18 (hdT w95) 111 (tlT w95) [Int.toNat x105] 96 T_Q x87 :: z18 (hdT w82) 111 (tlT w82) [Int.toNat x105] 96 T_Q x130 :: L) := O179
 obtain ⟨x180, i181, h182⟩ := z00 h173
 have j183 := z0e i181
 refine D2.pure (v := (z1y w175 (Int.toNat x131 * 3))) rfl rfl (z2g zbc sz96 (oo rfl rfl) (oo rfl rfl) (O179.slLen (j := 0) rfl) j183.1 j183.2.1) ?_
 obtain ⟨c184, p185, f186⟩ := (O179.atSl (j := 0) rfl j183.2.2)
 refine D2.loadA' (cs := c184) rfl rfl ag96 sz96 (z1g rfl p185) (RT.len _ f186) z0b ?_
 obtain ⟨x187, i188, h189⟩ := z00 h182
 refine D2.lo rfl rfl (Lo.callP (ps := []) (ps' := []) rfl (fn := Tryz.f91) (by kernel_rfl) rfl (mc rfl (mc rfl mn)) O179 (fun L' O' => z9n K c168 x164 f170 c184 x180 f186 O' _ i188)) ?_ z0b ?_ ?_
 .rintro v198 H199 ⟨G190, O191, s192, sm197, ⟨c194, rfl, f195⟩⟩; exact (faR1 (.inl (by decide)) (faR1 (.inl (by decide)) (faR1 (.inl (by decide)) (faR1 (.inl (by decide)) (faR1 (.inr (sm197 _ (Or.inr ⟨3, _, rfl, (O179.footRows (j := 3) rfl j150.2.2)⟩))) z0b)))))
 .rintro v198 H199 ⟨G190, O191, s192, sm197, ⟨c194, rfl, f195⟩⟩; exact z0b
 rintro v198 H199 ⟨G190, O191, s192, sm197, ⟨c194, rfl, f195⟩⟩
 replace O191 : Ow G190 H199 (eSl w175 96 T_Q x171 :: eSl w159 96 T_Q x155 :: z18 (hdT w95) 111 (tlT w95) [Int.toNat x105] 96 T_Q x87 :: z18 (hdT w82) 111 (tlT w82) [Int.toNat x105] 96 T_Q x130 :: L) := O191
 have O200 : Ow G190 H199 (z18 (hdT w82) 111 (tlT w82) [Int.toNat x105] 96 T_Q x130 :: eSl w175 96 T_Q x171 :: eSl w159 96 T_Q x155 :: z18 (hdT w95) 111 (tlT w95) [Int.toNat x105] 96 T_Q x87 :: L) := O191.front (j := 3) rfl
 have O201 : Ow G190 H199 (z18 (hdT w95) 111 (tlT w95) [Int.toNat x105] 96 T_Q x87 :: z18 (hdT w82) 111 (tlT w82) [Int.toNat x105] 96 T_Q x130 :: eSl w175 96 T_Q x171 :: eSl w159 96 T_Q x155 :: L) := O200.front (j := 3) rfl
 have O202 : Ow G190 H199 (eSl w175 96 T_Q x171 :: z18 (hdT w95) 111 (tlT w95) [Int.toNat x105] 96 T_Q x87 :: z18 (hdT w82) 111 (tlT w82) [Int.toNat x105] 96 T_Q x130 :: eSl w159 96 T_Q x155 :: L) := O201.front (j := 2) rfl
 have O203 : Ow G190 H199 (eSl w159 96 T_Q x155 :: eSl w175 96 T_Q x171 :: z18 (hdT w95) 111 (tlT w95) [Int.toNat x105] 96 T_Q x87 :: z18 (hdT w82) 111 (tlT w82) [Int.toNat x105] 96 T_Q x130 :: L) := O202.front (j := 3) rfl
 have O204 := O203.putRow0 (j := 2) rfl e160 j158.2.2
 replace O204 : Ow G190 H199 (eSl w175 96 T_Q x171 :: z18 (hdT w95) 111 (tlT w95) [Int.toNat x105] 96 T_Q x87 :: z18 (hdT w82) 111 (tlT w82) [] 96 T_Q x130 :: L) := O204
 have O205 := O204.takeRow (j := 2) rfl e152 j150.2.2 List.not_mem_nil
 replace O205 : Ow G190 H199 (eSl w151 96 T_Q x147 :: eSl w175 96 T_Q x171 :: z18 (hdT w95) 111 (tlT w95) [Int.toNat x105] 96 T_Q x87 :: z18 (hdT w82) 111 (tlT w82) [Int.toNat x105] 96 T_Q x130 :: L) := O205
 obtain ⟨x206, i207, h208⟩ := z00 h189
 have j209 := z0e i207
 refine D2.pure (v := (z1y w151 (Int.toNat x131 * 3))) rfl rfl (z2g zbc sz96 (oo rfl rfl) (oo rfl rfl) (O205.slLen (j := 0) rfl) j209.1 j209.2.1) (D2.lo rfl rfl (Lo.storeSl0 (j := 0) (y0 := x187) (v := (.agg (List.toArray c194))) rfl j209.2.2  rfl sz96 rfl rfl f195 O205) ?_ (z19 (by decide) z0b) ?_ ?_)
 .rintro v212 H213 ⟨O210, sm211⟩; exact (faR1 (.inl (by decide)) (faR1 (.inl (by decide)) (faR1 (.inl (by decide)) (faR1 (.inl (by decide)) (faR1 (.inl (by decide)) z0b)))))
 .rintro v212 H213 ⟨O210, sm211⟩; exact z0b
 rintro v212 H213 ⟨O210, sm211⟩
 replace O210 : Ow G190 H213 (eSl w151 96 T_Q (List.set x147 (Int.toNat x131) x187) :: eSl w175 96 T_Q x171 :: z18 (hdT w95) 111 (tlT w95) [Int.toNat x105] 96 T_Q x87 :: z18 (hdT w82) 111 (tlT w82) [Int.toNat x105] 96 T_Q x130 :: L) := O210
 refine .nil (.region (W.q3 (.int .i64 (z02 .i64 (x131 + 1))) t139 rfl (W.q2 (.int .i64 (z02 .i64 (x131 + 1))) rfl (.nil ?_))))
 have O214 : Ow G190 H213 (z18 (hdT w82) 111 (tlT w82) [Int.toNat x105] 96 T_Q x130 :: eSl w151 96 T_Q (List.set x147 (Int.toNat x131) x187) :: eSl w175 96 T_Q x171 :: z18 (hdT w95) 111 (tlT w95) [Int.toNat x105] 96 T_Q x87 :: L) := O210.front (j := 3) rfl
 have O215 : Ow G190 H213 (z18 (hdT w95) 111 (tlT w95) [Int.toNat x105] 96 T_Q x87 :: z18 (hdT w82) 111 (tlT w82) [Int.toNat x105] 96 T_Q x130 :: eSl w151 96 T_Q (List.set x147 (Int.toNat x131) x187) :: eSl w175 96 T_Q x171 :: L) := O214.front (j := 3) rfl
 have O216 : Ow G190 H213 (eSl w151 96 T_Q (List.set x147 (Int.toNat x131) x187) :: z18 (hdT w95) 111 (tlT w95) [Int.toNat x105] 96 T_Q x87 :: z18 (hdT w82) 111 (tlT w82) [Int.toNat x105] 96 T_Q x130 :: eSl w175 96 T_Q x171 :: L) := O215.front (j := 2) rfl
 have O217 : Ow G190 H213 (eSl w175 96 T_Q x171 :: eSl w151 96 T_Q (List.set x147 (Int.toNat x131) x187) :: z18 (hdT w95) 111 (tlT w95) [Int.toNat x105] 96 T_Q x87 :: z18 (hdT w82) 111 (tlT w82) [Int.toNat x105] 96 T_Q x130 :: L) := O216.front (j := 3) rfl
 have O218 := O217.putRow0 (j := 1) rfl e176 j174.2.2
 replace O218 : Ow G190 H213 (eSl w151 96 T_Q (List.set x147 (Int.toNat x131) x187) :: z18 (hdT w95) 111 (tlT w95) [] 96 T_Q x87 :: z18 (hdT w82) 111 (tlT w82) [Int.toNat x105] 96 T_Q x130 :: L) := O218
 have O219 := O218.putRow (j := 1) rfl e152
 replace O219 : Ow G190 H213 (z18 (hdT w95) 111 (tlT w95) [] 96 T_Q x87 :: z18 (hdT w82) 111 (tlT w82) [] 96 T_Q (List.set x130 (Int.toNat x105) (List.set x147 (Int.toNat x131) x187)) :: L) := O219
 exact ⟨k129, zAg _, ⟨(List.set x130 (Int.toNat x105) (List.set x147 (Int.toNat x131) x187)), z02 .i64 (x131 + 1), _, h208, O219, (zAe s137 s192), rfl⟩⟩
def z4b (K : Nat) (x44 : Q) (x71 : Int) (x82 : List Q) : Nat -> List (List Q) -> Int -> Option (List (List Q))
  | 0, _, _ => none
  | k + 1, x96, x97 => (if (decide (x97 < (List.length x82 : Int))) = true then ((idx x96 x71).bind fun x113 => ((idx x96 x71).bind fun x121 => ((idx x121 x97).bind fun x130 => ((z6c K x130 x44).bind fun x140 => ((idx x113 x97).bind fun x155 => z4b K x44 x71 x82 k (List.set x96 (Int.toNat x71) (List.set x113 (Int.toNat x97) x140)) (z02 .i64 (x97 + 1))))))) else some x96)
def z4c (K : Nat) (x31 : List (List Q)) (x44 : Q) : Nat -> List (List Q) -> Int -> Option (List (List Q))
  | 0, _, _ => none
  | k + 1, x70, x71 => (if (decide (x71 < (List.length x31 : Int))) = true then ((idx x70 x71).bind fun x82 => (Option.bind (z4b K x44 x71 x82 K x70 0) (tu1 fun x165 => z4c K x31 x44 k x165 (z02 .i64 (x71 + 1))))) else some x70)
def z7k (K : Nat) (p0 : List (List zAd)) (p1 : zAd) : Option (List (List zAd) × Int) := ((z1q K p0).bind fun x1 => (if (x1 != 0) = true then some ([], x1) else ((z54 K p1).bind fun x16 => (if (x16 != 0) = true then some ([], x16) else ((z4n K p0).bind fun x31 => ((za6 K p1).bind fun x44 => (Option.bind (z4c K x31 x44 K x31 0) (tu1 fun x175 => ((z46 K x175).bind fun x188 => some (x188.1, x188.2))))))))))
set_option maxHeartbeats 4000000 in
theorem zap (v0 : Value) (p0 : List (List zAd)) (hp0 : (rSl (rSl rS)).rep G [v0] p0) (p1 : zAd) (O : Ow G H (L)) (r : List (List zAd) × Int) (h : z7k K p0 p1 = some r) :
    CRF Tryz.prog 39 [v0, (.string p1)] G H (fun w0 => (eSl w0 45 (rSl rS) r.1 :: L)) (fun w0 v G' => v = .tuple #[w0, .int .i64 r.2]) := by
 unfold z7k at h
 refine CRF.of (z06 (n := 60) (fn := Tryz.f39) (R := fun v H' => ∃ w0 G', Ow G' H' (eSl w0 45 (rSl rS) r.1 :: L) /\ G.le G' /\ v = .tuple #[w0, .int .i64 r.2]) (by kernel_rfl) rfl rfl ?_)
 refine .seq (.region (W.q1 (.slice none 0 0) rfl (W.q1 (.int .i64 0) rfl (.nil (.seq (.seq ?_))))))
 refine .region (W.q2 v0 rfl ?_)
 obtain ⟨x1, i2, h3⟩ := z00 h
 refine W.lo rfl rfl (Lo.callP (ps := []) (ps' := []) rfl (fn := Tryz.f78) (by kernel_rfl) rfl (mc rfl mn) O (fun L' O' => z1i K v0 p0 hp0 O' _ i2)) ?_
 rintro v10 H11 ⟨G4, O5, s6, sm9, rfl⟩
 replace O5 : Ow G4 H11 (L) := O5
 refine W.q1 (.int .i64 x1) rfl (.nil (.seq (.region (W.q2 (.int .i64 x1) rfl (W.q3 (.bool (x1 != 0)) rfl rfl (.nil ?_))))))
 refine .cond (b := (x1 != 0)) rfl rfl (fun g12 => ?_) (fun g12 => ?_)
 .have h13 := z04 g12 h3
  refine .seq (.region (W.q2 (.int .i64 x1) rfl (W.q1 (.slice none 0 0) rfl (W.q1 (.int .i64 x1) rfl (.nil (.ret ?_))))))
  have O14 := O5.nilSl 45 (rSl rS)
  obtain rfl := zAa h13
  refine z7x (P := Tryz.prog) (fn := Tryz.f39) (n := 60) (R := fun v H' => ∃ w0 G', Ow G' H' (eSl w0 45 (rSl rS) ([], x1).1 :: L) /\ G.le G' /\ v = .tuple #[w0, .int .i64 ([], x1).2]) (v1 := (.slice none 0 0)) (v2 := (.int .i64 x1)) (by rfl) (z08 (by rfl) (by exact rfl)) (z08 (by rfl) (by exact rfl)) ?_
  exact ⟨(.slice none 0 0), _, O14, s6, rfl⟩
 have h15 := z0h g12 h3
 refine .skip (.seq (.seq (.region (W.q2 (.string p1) rfl ?_))))
 obtain ⟨x16, i17, h18⟩ := z00 h15
 refine W.lo rfl rfl (Lo.callP (ps := []) (ps' := []) rfl (fn := Tryz.f63) (by kernel_rfl) rfl (mc rfl mn) O5 (fun L' O' => z9k K p1 O' _ i17)) ?_
 rintro v25 H26 ⟨G19, O20, s21, sm24, rfl⟩
 replace O20 : Ow G19 H26 (L) := O20
 refine W.q1 (.int .i64 x16) rfl (.nil (.seq (.region (W.q2 (.int .i64 x16) rfl (W.q3 (.bool (x16 != 0)) rfl rfl (.nil ?_))))))
 refine .cond (b := (x16 != 0)) rfl rfl (fun g27 => ?_) (fun g27 => ?_)
 .have h28 := z04 g27 h18
  refine .seq (.region (W.q2 (.int .i64 x16) rfl (W.q1 (.slice none 0 0) rfl (W.q1 (.int .i64 x16) rfl (.nil (.ret ?_))))))
  have O29 := O20.nilSl 45 (rSl rS)
  obtain rfl := zAa h28
  refine z7x (P := Tryz.prog) (fn := Tryz.f39) (n := 60) (R := fun v H' => ∃ w0 G', Ow G' H' (eSl w0 45 (rSl rS) ([], x16).1 :: L) /\ G.le G' /\ v = .tuple #[w0, .int .i64 ([], x16).2]) (v1 := (.slice none 0 0)) (v2 := (.int .i64 x16)) (by rfl) (z08 (by rfl) (by exact rfl)) (z08 (by rfl) (by exact rfl)) ?_
  exact ⟨(.slice none 0 0), _, O29, (zAe s6 s21), rfl⟩
 have h30 := z0h g27 h18
 refine .skip (.seq (.region (W.q2 v0 rfl ?_)))
 obtain ⟨x31, i32, h33⟩ := z00 h30
 refine W.lo rfl rfl (Lo.callPF (ps := []) (pw := fun w => [z18 (hdT w) 111 (tlT w) [] 96 T_Q x31]) rfl (fn := Tryz.f82) (by kernel_rfl) rfl (mc rfl mn) O20 (fun L' O' => z3u K v0 p0 (RT.mono _ (zAe s6 s21) hp0) O' _ i32)) ?_
 rintro v42 H43 ⟨w39, G34, O35, s36, sm41, rfl⟩
 replace O35 : Ow G34 H43 (z18 (hdT w39) 111 (tlT w39) [] 96 T_Q x31 :: L) := O35
 refine W.q2 (.string p1) rfl ?_
 obtain ⟨x44, i45, h46⟩ := z00 h33
 refine W.lo rfl rfl (Lo.callP (ps := []) (ps' := []) rfl (fn := Tryz.f66) (by kernel_rfl) rfl (mc rfl mn) O35 (fun L' O' => zce K p1 O' _ i45)) ?_
 rintro v55 H56 ⟨G47, O48, s49, sm54, ⟨c51, rfl, f52⟩⟩
 replace O48 : Ow G47 H56 (z18 (hdT w39) 111 (tlT w39) [] 96 T_Q x31 :: L) := O48
 refine W.lo rfl rfl (Lo.alloc (r := T_Q) (x0 := (Q.mk false ([] : List Int) ([] : List Int))) ze96 (by kernel_rfl) z_Q O48) ?_
 rintro v60 H61 ⟨b58, rfl, O57, sm59⟩
 refine W.q1 (hdT w39) rfl (W.lo rfl rfl (Lo.storeVar (j := 0) (s := T_Q) (y0 := x44) (v := (.agg (List.toArray c51))) (o := 0) rfl ((Put.at (Put.self _) _ _)) rfl sz96 rfl (by omega) rfl f52 O57) ?_)
 rintro v64 H65 ⟨O62, sm63⟩
 replace O62 : Ow G47 H65 (eVar b58 96 T_Q x44 :: z18 (hdT w39) 111 (tlT w39) [] 96 T_Q x31 :: L) := O62
 refine .nil (.seq (.seq (.region (W.q2 (hdT w39) rfl (W.pure (v := (.int .i64 (List.length x31 : Int))) rfl rfl (z0i (oo rfl rfl) (O62.rowsLen (j := 1) rfl) (z03 z9y)) (W.q2 (.int .i64 0) rfl ?_))))))
 refine .nil ?_
 obtain ⟨q66, h67, h68⟩ := z00 h46
 refine AW.midT (fun σ' H' => ∃ (y1 : List (List Q)) (G' : GM), y1 = q66 /\ Ow G' H' (eVar b58 96 T_Q x44 :: z18 (hdT w39) 111 (tlT w39) [] 96 T_Q y1 :: L) /\ GM.le G47 G') ?_ ?_
 rotate_left
 .rintro σ176 H177 fr178 ⟨x175, G179, rfl, O180, s181⟩
  have h183 := z0c h68
  refine .seq (.region (W.q2 (hdT w39) ((fr178 8 rfl).trans rfl) ?_))
  obtain ⟨G184, O185, s186, f187⟩ := O180.frzRows (j := 1) rfl
  replace O185 : Ow G184 H177 (eVar b58 96 T_Q x44 :: L) := O185
  obtain ⟨x188, i189, h190⟩ := z00 h183
  refine W.lo rfl rfl (Lo.callPF (ps := []) (pw := fun w => [eSl w 45 (rSl rS) x188.1]) rfl (fn := Tryz.f84) (by kernel_rfl) rfl (mc rfl mn) O185 (fun L' O' => z55 K (hdT w39) x175 f187 O' _ i189)) ?_
  rintro v199 H200 ⟨w196, G191, O192, s193, sm198, rfl⟩
  replace O192 : Ow G191 H200 (eSl w196 45 (rSl rS) x188.1 :: eVar b58 96 T_Q x44 :: L) := O192
  refine W.pure (v := w196) rfl rfl (z09 (oo rfl rfl) rfl) (W.pure (v := (.int .i64 x188.2)) rfl rfl (z09 (oo rfl rfl) rfl) (W.q1 w196 rfl (W.q1 (.int .i64 x188.2) rfl (.nil (.ret ?_)))))
  have O201 : Ow G191 H200 (eSl w196 45 (rSl rS) x188.1 :: L) := O192.drop 1
  obtain rfl := zAa h190
  refine z7x (P := Tryz.prog) (fn := Tryz.f39) (n := 60) (R := fun v H' => ∃ w0 G', Ow G' H' (eSl w0 45 (rSl rS) (x188.1, x188.2).1 :: L) /\ G.le G' /\ v = .tuple #[w0, .int .i64 (x188.1, x188.2).2]) (v1 := w196) (v2 := (.int .i64 x188.2)) (by rfl) (z08 (by rfl) (by exact rfl)) (z08 (by rfl) (by exact rfl)) ?_
  exact ⟨w196, _, O201, (zAe s6 (zAe s21 (zAe s36 (zAe s49 (zAe s181 (zAe s186 s193)))))), rfl⟩
 refine .block (AW.loop (α := Nat) (fun k' σ' H' => ∃ (y1 : List (List Q)) (y2 : Int) (G' : GM), z4c K x31 x44 k' y1 y2 = some q66 /\ Ow G' H' (eVar b58 96 T_Q x44 :: z18 (hdT w39) 111 (tlT w39) [] 96 T_Q y1 :: L) /\ GM.le G47 G' /\ σ' 28 = .int .i64 y2) (fun k' => k') K ⟨x31, 0, _, h67, O62, (zAf _), rfl⟩ ?_)
 rintro k69
 rintro σ72 H73 fr74 ⟨x70, x71, G75, h78, O76, s77, t79⟩
 rcases k69 with _ | k69
 .exact z07 h78
 rw [z4c] at h78
 refine .seq (.region (W.q3 (.bool (decide (x71 < (List.length x31 : Int)))) t79 ((fr74 27 rfl).trans rfl) (.nil (.seq (.cond (b := decide (x71 < (List.length x31 : Int))) rfl rfl (fun g80 => ?_) (fun g80 => ?_))))))
 rotate_left
 .have h174 := z0h g80 h78
  refine .exit ?_
  obtain rfl := zAa h174
  exact ⟨x70, _, rfl, O76, s77⟩
 have h81 := z04 g80 h78
 refine .skip (.seq (.block (.seq (.region (W.q2 (.int .i64 x71) t79 (W.q1 (.int .i64 x71) rfl ?_))))))
 refine .nil (.seq (.region (W.q2 (hdT w39) ((fr74 8 rfl).trans rfl) (W.q2 (.int .i64 x71) rfl ?_))))
 obtain ⟨x82, i83, h84⟩ := z00 h81
 have j85 := z0e i83
 refine W.pure (v := (z1y (hdT w39) (Int.toNat x71 * 1))) rfl rfl (z2g z9y zbv (oo rfl rfl) (oo rfl rfl) (O76.rowsLen (j := 1) rfl) j85.1 j85.2.1) ?_
 obtain ⟨w86, e87, p88, k89⟩ := O76.rowVal (j := 1) rfl j85.2.2
 refine W.load1 (v := w86) (r := []) rfl rfl zfc (z1g rfl p88) ?_
 have O90 := O76.takeRow (j := 1) rfl e87 j85.2.2 List.not_mem_nil
 replace O90 : Ow G75 H73 (eSl w86 96 T_Q x82 :: eVar b58 96 T_Q x44 :: z18 (hdT w39) 111 (tlT w39) [Int.toNat x71] 96 T_Q x70 :: L) := O90
 refine W.pure (v := (.int .i64 (List.length x82 : Int))) rfl rfl (z0i (oo rfl rfl) (O90.slLen (j := 0) rfl) (z03 zbc)) (W.q2 (.int .i64 0) rfl (.nil ?_))
 have O91 := O90.putRow0 (j := 1) rfl e87 j85.2.2
 replace O91 : Ow G75 H73 (eVar b58 96 T_Q x44 :: z18 (hdT w39) 111 (tlT w39) [] 96 T_Q x70 :: L) := O91
 obtain ⟨q92, h93, h94⟩ := z00 h84
 refine AW.midT (fun σ' H' => ∃ (y1 : List (List Q)) (G' : GM), y1 = q92 /\ Ow G' H' (eVar b58 96 T_Q x44 :: z18 (hdT w39) 111 (tlT w39) [] 96 T_Q y1 :: L) /\ GM.le G75 G') ?_ ?_
 rotate_left
 .rintro σ166 H167 fr168 ⟨x165, G169, rfl, O170, s171⟩
  have h173 := z0c h94
  refine .region (W.q3 (.int .i64 (z02 .i64 (x71 + 1))) ((fr168 28 rfl).trans t79) rfl (W.q2 (.int .i64 (z02 .i64 (x71 + 1))) rfl (.nil ?_)))
  exact ⟨k69, zAg _, ⟨x165, z02 .i64 (x71 + 1), _, h173, O170, (zAe s77 s171), rfl⟩⟩
 refine .block (AW.loop (α := Nat) (fun k' σ' H' => ∃ (y1 : List (List Q)) (y2 : Int) (G' : GM), z4b K x44 x71 x82 k' y1 y2 = some q92 /\ Ow G' H' (eVar b58 96 T_Q x44 :: z18 (hdT w39) 111 (tlT w39) [] 96 T_Q y1 :: L) /\ GM.le G75 G' /\ σ' 36 = .int .i64 y2) (fun k' => k') K ⟨x70, 0, _, h93, O91, (zAf _), rfl⟩ ?_)
 rintro k95
 rintro σ98 H99 fr100 ⟨x96, x97, G101, h104, O102, s103, t105⟩
 rcases k95 with _ | k95
 .exact z07 h104
 rw [z4b] at h104
 refine .seq (.region (W.q3 (.bool (decide (x97 < (List.length x82 : Int)))) t105 ((fr100 35 rfl).trans rfl) (.nil (.seq (.cond (b := decide (x97 < (List.length x82 : Int))) rfl rfl (fun g106 => ?_) (fun g106 => ?_))))))
 rotate_left
 .have h164 := z0h g106 h104
  refine .exit ?_
  obtain rfl := zAa h164
  exact ⟨x96, _, rfl, O102, s103⟩
 have h107 := z04 g106 h104
 refine .skip (.seq (.block (.seq (.region (W.q2 (.int .i64 x97) t105 (W.q1 (.int .i64 x97) rfl ?_))))))
 refine .nil (.draw2 (M := [0, 0, 3, 7, 0, 0, 0, 96, 224, 0, 992, 2016, 0, 8160, 16383, 32767]) mixed (by kernel_rfl) (by kernel_rfl) fun H108 N112 x109 F111 => ?_)
 have O110 := O102.ext x109
 refine D2.q2 (hdT w39) ((fr100 8 rfl).trans ((fr74 8 rfl).trans rfl)) (D2.q2 (.int .i64 x71) ((fr100 10 rfl).trans rfl) ?_)
 obtain ⟨x113, i114, h115⟩ := z00 h107
 have j116 := z0e i114
 refine D2.pure (v := (z1y (hdT w39) (Int.toNat x71 * 1))) rfl rfl (z2g z9y zbv (oo rfl rfl) (oo rfl rfl) (O110.rowsLen (j := 1) rfl) j116.1 j116.2.1) ?_
 obtain ⟨w117, e118, p119, k120⟩ := O110.rowVal (j := 1) rfl j116.2.2
 refine D2.load1' (v := w117) (r := []) rfl rfl zfc (z1g rfl p119) z0b (D2.q2 (.int .i64 x97) rfl (D2.q2 (hdT w39) ((fr100 8 rfl).trans ((fr74 8 rfl).trans rfl)) (D2.q2 (.int .i64 x71) ((fr100 10 rfl).trans rfl) ?_)))
 obtain ⟨x121, i122, h123⟩ := z00 h115
 have j124 := z0e i122
 refine D2.pure (v := (z1y (hdT w39) (Int.toNat x71 * 1))) rfl rfl (z2g z9y zbv (oo rfl rfl) (oo rfl rfl) (O110.rowsLen (j := 1) rfl) j124.1 j124.2.1) ?_
 obtain ⟨w125, e126, p127, k128⟩ := O110.rowVal (j := 1) rfl j124.2.2
 refine D2.load1' (v := w125) (r := []) rfl rfl zfc (z1g rfl p127) z0b (D2.q2 (.int .i64 x97) rfl ?_)
 have O129 := O110.takeRow (j := 1) rfl e126 j124.2.2 List.not_mem_nil
 replace O129 : Ow G101 H108 (eSl w125 96 T_Q x121 :: eVar b58 96 T_Q x44 :: z18 (hdT w39) 111 (tlT w39) [Int.toNat x71] 96 T_Q x96 :: L) := O129
 obtain ⟨x130, i131, h132⟩ := z00 h123
 have j133 := z0e i131
 refine D2.pure (v := (z1y w125 (Int.toNat x97 * 3))) rfl rfl (z2g zbc sz96 (oo rfl rfl) (oo rfl rfl) (O129.slLen (j := 0) rfl) j133.1 j133.2.1) ?_
 obtain ⟨c134, p135, f136⟩ := (O129.atSl (j := 0) rfl j133.2.2)
 refine D2.loadA' (cs := c134) rfl rfl ag96 sz96 (z1g rfl p135) (RT.len _ f136) z0b ?_
 obtain ⟨c137, p138, f139⟩ := (O129.atVar (j := 1) rfl)
 refine D2.loadA' (cs := c137) rfl rfl ag96 sz96 (z1g ((fr100 9 rfl).trans ((fr74 9 rfl).trans rfl)) p138) (RT.len _ f139) z0b ?_
 obtain ⟨x140, i141, h142⟩ := z00 h132
 refine D2.lo rfl rfl (Lo.callP (ps := []) (ps' := []) rfl (fn := Tryz.f92) (by kernel_rfl) rfl (mc rfl (mc rfl mn)) O129 (fun L' O' => z9l K c134 x130 f136 c137 x44 f139 O' _ i141)) ?_ z0b ?_ ?_
 .rintro v151 H152 ⟨G143, O144, s145, sm150, ⟨c147, rfl, f148⟩⟩; exact (faR1 (.inl (by decide)) (faR1 (.inl (by decide)) (faR1 (.inl (by decide)) (faR1 (.inr (sm150 _ (Or.inr ⟨2, _, rfl, (O129.footRows (j := 2) rfl j116.2.2)⟩))) z0b))))
 .rintro v151 H152 ⟨G143, O144, s145, sm150, ⟨c147, rfl, f148⟩⟩; exact z0b
 rintro v151 H152 ⟨G143, O144, s145, sm150, ⟨c147, rfl, f148⟩⟩
 replace O144 : Ow G143 H152 (eSl w125 96 T_Q x121 :: eVar b58 96 T_Q x44 :: z18 (hdT w39) 111 (tlT w39) [Int.toNat x71] 96 T_Q x96 :: L) := O144
 have O153 := O144.putRow0 (j := 1) rfl e126 j124.2.2
 replace O153 : Ow G143 H152 (eVar b58 96 T_Q x44 :: z18 (hdT w39) 111 (tlT w39) [] 96 T_Q x96 :: L) := O153
 have O154 := O153.takeRow (j := 1) rfl e118 j116.2.2 List.not_mem_nil
 replace O154 : Ow G143 H152 (eSl w117 96 T_Q x113 :: eVar b58 96 T_Q x44 :: z18 (hdT w39) 111 (tlT w39) [Int.toNat x71] 96 T_Q x96 :: L) := O154
 obtain ⟨x155, i156, h157⟩ := z00 h142
 have j158 := z0e i156
 refine D2.pure (v := (z1y w117 (Int.toNat x97 * 3))) rfl rfl (z2g zbc sz96 (oo rfl rfl) (oo rfl rfl) (O154.slLen (j := 0) rfl) j158.1 j158.2.1) (D2.lo rfl rfl (Lo.storeSl0 (j := 0) (y0 := x140) (v := (.agg (List.toArray c147))) rfl j158.2.2  rfl sz96 rfl rfl f148 O154) ?_ (z19 (by decide) z0b) ?_ ?_)
 .rintro v161 H162 ⟨O159, sm160⟩; exact (faR1 (.inl (by decide)) (faR1 (.inl (by decide)) (faR1 (.inl (by decide)) (faR1 (.inl (by decide)) z0b))))
 .rintro v161 H162 ⟨O159, sm160⟩; exact z0b
 rintro v161 H162 ⟨O159, sm160⟩
 replace O159 : Ow G143 H162 (eSl w117 96 T_Q (List.set x113 (Int.toNat x97) x140) :: eVar b58 96 T_Q x44 :: z18 (hdT w39) 111 (tlT w39) [Int.toNat x71] 96 T_Q x96 :: L) := O159
 refine .nil (.region (W.q3 (.int .i64 (z02 .i64 (x97 + 1))) t105 rfl (W.q2 (.int .i64 (z02 .i64 (x97 + 1))) rfl (.nil ?_))))
 have O163 := O159.putRow (j := 1) rfl e118
 replace O163 : Ow G143 H162 (eVar b58 96 T_Q x44 :: z18 (hdT w39) 111 (tlT w39) [] 96 T_Q (List.set x96 (Int.toNat x71) (List.set x113 (Int.toNat x97) x140)) :: L) := O163
 exact ⟨k95, zAg _, ⟨(List.set x96 (Int.toNat x71) (List.set x113 (Int.toNat x97) x140)), z02 .i64 (x97 + 1), _, h157, O163, (zAe s103 s145), rfl⟩⟩
def z0o (K : Nat) (p0 : List Int) (p1 : Int -> Option Bool) : Nat -> Int -> Option (Int ⊕ Unit)
  | 0, _ => none
  | k + 1, x5 => (if (decide (x5 < (List.length p0 : Int))) = true then ((idx p0 x5).bind fun x16 => ((p1 x16).bind fun x20 => (if x20 = true then some (.inl x5) else z0o K p0 p1 k (z02 .i64 (x5 + 1))))) else some (.inr ()))
def z0x (K : Nat) (p0 : List Int) (p1 : Int -> Option Bool) : Option Int := (zb9 (z0o K p0 p1 K 0) (tu1 fun a42 => some a42) (tu0 (some (-1))))
set_option maxHeartbeats 4000000 in
theorem z3k (v0 : Value) (p0 : List Int) (hp0 : (rSl (rI .i64)).rep G [v0] p0) (v1 : Value) (p1 : Int -> Option Bool) (hp1 : FnOk Tryz.prog G v1 (fun _ vs (x : (Int)) => vs = [.int .i64 x]) (fun _ v (rr : (Bool)) => v = .bool rr) p1) (O : Ow G H (L)) (r : Int) (h : z0x K p0 p1 = some r) :
    CR Tryz.prog 161 [v0, v1] G H (L) (fun v G' _ => v = .int .i64 r) := by
 unfold z0x at h
 refine CR.of (z06 (n := 19) (fn := Tryz.f161) (R := fun v H' => ∃ G', Ow G' H' (L) /\ G.le G' /\ v = .int .i64 r) (by kernel_rfl) rfl rfl ?_)
 refine .seq (.region (W.q1 (.int .i64 0) rfl (.nil (.seq (.seq (.region ?_))))))
 refine W.q2 v0 rfl (W.pure (v := (.int .i64 (List.length p0 : Int))) rfl rfl (z0i (oo rfl rfl) (z0d hp0) (z03 el91)) (W.q2 (.int .i64 0) rfl (.nil ?_)))
 obtain ⟨q1, h2, h3⟩ := z2s h
 refine AW.midT (fun σ' H' => ∃  (G' : GM), (.inr ()) = q1 /\ Ow G' H' (L) /\ GM.le G G') ?_ ?_
 rotate_left
 .rintro σ34 H35 fr36 ⟨G37, rfl, O38, s39⟩
  have h41 := z6q (z8o h3)
  refine .seq (.region (W.q1 (.int .i64 (-1)) rfl (.nil (.ret ?_))))
  obtain rfl := zAa h41
  refine z1a (P := Tryz.prog) (fn := Tryz.f161) (n := 19) (R := fun v H' => ∃ G', Ow G' H' (L) /\ G.le G' /\ v = .int .i64 (-1)) (v1 := (.int .i64 (-1))) (by rfl) (z08 (by rfl) (by exact rfl)) ?_
  exact ⟨_, O38, s39, rfl⟩
 refine .block (AW.loop (α := Nat) (fun k' σ' H' => ∃ (y1 : Int) (G' : GM), z0o K p0 p1 k' y1 = some q1 /\ Ow G' H' (L) /\ GM.le G G' /\ σ' 8 = .int .i64 y1) (fun k' => k') K ⟨0, _, h2, O, (zAf _), rfl⟩ ?_)
 rintro k4
 rintro σ6 H7 fr8 ⟨x5, G9, h12, O10, s11, t13⟩
 rcases k4 with _ | k4
 .exact z07 h12
 rw [z0o] at h12
 refine .seq (.region (W.q3 (.bool (decide (x5 < (List.length p0 : Int)))) t13 ((fr8 7 rfl).trans rfl) (.nil (.seq (.cond (b := decide (x5 < (List.length p0 : Int))) rfl rfl (fun g14 => ?_) (fun g14 => ?_))))))
 rotate_left
 .have h33 := z0h g14 h12
  refine .exit ?_
  obtain rfl := zAa h33
  exact ⟨_, rfl, O10, s11⟩
 have h15 := z04 g14 h12
 refine .skip (.seq (.block (.seq (.region (W.q2 (.int .i64 x5) t13 (W.q1 (.int .i64 x5) rfl ?_))))))
 refine .nil (.seq (.region (W.q2 v1 ((fr8 1 rfl).trans rfl) (W.q2 v0 ((fr8 0 rfl).trans rfl) (W.q2 (.int .i64 x5) rfl ?_)))))
 obtain ⟨x16, i17, h18⟩ := z00 h15
 have j19 := z0e i17
 refine W.pure (v := (z1y v0 (Int.toNat x5 * 1))) rfl rfl (z2g el91 sz28 (oo rfl rfl) (oo rfl rfl) (z0d (RT.mono _ s11 hp0)) j19.1 j19.2.1) (W.load1 (v := (.int .i64 x16)) (r := []) rfl rfl ag28 (z1g rfl (At.int (At.le (At.le (z1s hp0 j19.2.2) s11 s11) (zAf _) O10.fro))) ?_)
 obtain ⟨x20, i21, h22⟩ := z00 h18
 refine W.lo rfl rfl (Lo.callF (x0 := x16) rfl rfl (FnOk.le hp1 s11) (mc rfl mn) rfl i21 O10) ?_
 rintro v27 H28 ⟨G23, O24, s25, sm26, rfl⟩
 refine .nil (.cond (b := x20) rfl rfl (fun g29 => ?_) (fun g29 => ?_))
 rotate_left
 .have h32 := z0h g29 h22
  refine .skip (.region (W.q3 (.int .i64 (z02 .i64 (x5 + 1))) t13 rfl (W.q2 (.int .i64 (z02 .i64 (x5 + 1))) rfl (.nil ?_))))
  exact ⟨k4, zAg _, ⟨z02 .i64 (x5 + 1), _, h32, O24, (zAe s11 s25), rfl⟩⟩
 have h30 := z04 g29 h22
 refine .seq (.region (W.q2 (.int .i64 x5) rfl (W.q1 (.int .i64 x5) rfl (.nil (.ret ?_)))))
 obtain rfl := zAa h30
 have h31 := z0c (z7f h3)
 obtain rfl := zAa h31
 refine z1a (P := Tryz.prog) (fn := Tryz.f161) (n := 19) (R := fun v H' => ∃ G', Ow G' H' (L) /\ G.le G' /\ v = .int .i64 x5) (v1 := (.int .i64 x5)) (by rfl) (z08 (by rfl) (by exact rfl)) ?_
 exact ⟨_, O24, (zAe s11 s25), rfl⟩
def z0r (K : Nat) (p0 : List Int) (p1 : Int -> Option Bool) : Option Bool := ((z0x K p0 p1).bind fun x1 => some (decide (x1 >= 0)))
set_option maxHeartbeats 4000000 in
theorem z3c (v0 : Value) (p0 : List Int) (hp0 : (rSl (rI .i64)).rep G [v0] p0) (v1 : Value) (p1 : Int -> Option Bool) (hp1 : FnOk Tryz.prog G v1 (fun _ vs (x : (Int)) => vs = [.int .i64 x]) (fun _ v (rr : (Bool)) => v = .bool rr) p1) (O : Ow G H (L)) (r : Bool) (h : z0r K p0 p1 = some r) :
    CR Tryz.prog 127 [v0, v1] G H (L) (fun v G' _ => v = .bool r) := by
 unfold z0r at h
 refine CR.of (z06 (n := 9) (fn := Tryz.f127) (R := fun v H' => ∃ G', Ow G' H' (L) /\ G.le G' /\ v = .bool r) (by kernel_rfl) rfl rfl ?_)
 refine .seq (.region (W.q1 (.bool false) rfl (.nil (.seq (.region (W.q2 v0 rfl ?_))))))
 refine W.q2 v1 rfl ?_
 obtain ⟨x1, i2, h3⟩ := z00 h
 refine W.lo rfl rfl (Lo.callP (ps := []) (ps' := []) rfl (fn := Tryz.f161) (by kernel_rfl) rfl (mc rfl (mc rfl mn)) O (fun L' O' => z3k K v0 p0 hp0 v1 p1 hp1 O' _ i2)) ?_
 rintro v10 H11 ⟨G4, O5, s6, sm9, rfl⟩
 replace O5 : Ow G4 H11 (L) := O5
 refine W.q3 (.bool (decide (x1 >= 0))) rfl rfl (W.q1 (.bool (decide (x1 >= 0))) rfl (.nil (.ret ?_)))
 obtain rfl := zAa h3
 refine z1a (P := Tryz.prog) (fn := Tryz.f127) (n := 9) (R := fun v H' => ∃ G', Ow G' H' (L) /\ G.le G' /\ v = .bool (decide (x1 >= 0))) (v1 := (.bool (decide (x1 >= 0)))) (by rfl) (z08 (by rfl) (by exact rfl)) ?_
 exact ⟨_, O5, s6, rfl⟩
def z7l (K : Nat) (p0 : Int) : Option Bool := some (p0 != 0)
set_option maxHeartbeats 4000000 in
theorem zbz (p0 : Int) (O : Ow G H (L)) (r : Bool) (h : z7l K p0 = some r) :
    CR Tryz.prog 128 [(.int .i64 p0)] G H (L) (fun v G' _ => v = .bool r) := by
 unfold z7l at h
 refine CR.of (z06 (n := 5) (fn := Tryz.f128) (R := fun v H' => ∃ G', Ow G' H' (L) /\ G.le G' /\ v = .bool r) (by kernel_rfl) rfl rfl ?_)
 refine .seq (.region (W.q1 (.bool false) rfl (.nil (.seq (.region (W.q2 (.int .i64 p0) rfl ?_))))))
 refine W.q3 (.bool (p0 != 0)) rfl rfl (W.q1 (.bool (p0 != 0)) rfl (.nil (.ret ?_)))
 obtain rfl := zAa h
 refine z1a (P := Tryz.prog) (fn := Tryz.f128) (n := 5) (R := fun v H' => ∃ G', Ow G' H' (L) /\ G.le G' /\ v = .bool (p0 != 0)) (v1 := (.bool (p0 != 0))) (by rfl) (z08 (by rfl) (by exact rfl)) ?_
 exact ⟨_, O, (zAf _), rfl⟩
def zbe (K : Nat) (p0 : List Int) : Option Bool := ((z0r K p0 (fun x => z7l K x)).bind fun x1 => some (!x1))
set_option maxHeartbeats 4000000 in
theorem zdw (v0 : Value) (p0 : List Int) (hp0 : (rSl (rI .i64)).rep G [v0] p0) (O : Ow G H (L)) (r : Bool) (h : zbe K p0 = some r) :
    CR Tryz.prog 55 [v0] G H (L) (fun v G' _ => v = .bool r) := by
 unfold zbe at h
 refine CR.of (z06 (n := 6) (fn := Tryz.f55) (R := fun v H' => ∃ G', Ow G' H' (L) /\ G.le G' /\ v = .bool r) (by kernel_rfl) rfl rfl ?_)
 refine .seq (.region (W.q1 (.bool false) rfl (.nil (.seq (.region (W.q2 v0 rfl ?_))))))
 obtain ⟨x1, i2, h3⟩ := z00 h
 refine W.lo rfl rfl (Lo.callP (ps := []) (ps' := []) rfl (fn := Tryz.f127) (by kernel_rfl) rfl (mc rfl (mc rfl mn)) O (fun L' O' => z3c K v0 p0 hp0 (.func (.func 128) #[] #[]) (fun x => z7l K x) ⟨128, _, _, Tryz.f128, rfl, by kernel_rfl, rfl, fun G1 H L vs x r hG O hA hF => by obtain rfl := hA; exact zbz K x O _ hF⟩ O' _ i2)) ?_
 rintro v10 H11 ⟨G4, O5, s6, sm9, rfl⟩
 replace O5 : Ow G4 H11 (L) := O5
 refine W.pure (v := (.bool (!x1))) rfl rfl (zb6 (a := x1) (oo rfl rfl)) (W.q1 (.bool (!x1)) rfl (.nil (.ret ?_)))
 obtain rfl := zAa h3
 refine z1a (P := Tryz.prog) (fn := Tryz.f55) (n := 6) (R := fun v H' => ∃ G', Ow G' H' (L) /\ G.le G' /\ v = .bool (!x1)) (v1 := (.bool (!x1))) (by rfl) (z08 (by rfl) (by exact rfl)) ?_
 exact ⟨_, O5, s6, rfl⟩
def z0s (K : Nat) (p0 : List zAd) (p1 : List zAd) : Nat -> Int -> Option (Bool ⊕ Unit)
  | 0, _ => none
  | k + 1, x8 => (if (decide (x8 < (List.length p0 : Int))) = true then ((idx p0 x8).bind fun x24 => ((idx p1 x8).bind fun x28 => (if (!(sEq x24 x28)) = true then some (.inl false) else z0s K p0 p1 k (z02 .i64 (x8 + 1))))) else some (.inr ()))
def z15 (K : Nat) (p0 : List zAd) (p1 : List zAd) : Option Bool := (if ((List.length p0 : Int) != (List.length p1 : Int)) = true then some false else (zb9 (z0s K p0 p1 K 0) (tu1 fun a45 => some a45) (tu0 (some true))))
set_option maxHeartbeats 4000000 in
theorem z2r (v0 : Value) (p0 : List zAd) (hp0 : (rSl rS).rep G [v0] p0) (v1 : Value) (p1 : List zAd) (hp1 : (rSl rS).rep G [v1] p1) (O : Ow G H (L)) (r : Bool) (h : z15 K p0 p1 = some r) :
    CR Tryz.prog 34 [v0, v1] G H (L) (fun v G' _ => v = .bool r) := by
 unfold z15 at h
 refine CR.of (z06 (n := 26) (fn := Tryz.f34) (R := fun v H' => ∃ G', Ow G' H' (L) /\ G.le G' /\ v = .bool r) (by kernel_rfl) rfl rfl ?_)
 refine .seq (.region (W.q1 (.bool false) rfl (.nil (.seq (.seq (.region ?_))))))
 refine W.q2 v0 rfl (W.pure (v := (.int .i64 (List.length p0 : Int))) rfl rfl (z0i (oo rfl rfl) (z0d hp0) (z03 el45)) (W.q2 v1 rfl (W.pure (v := (.int .i64 (List.length p1 : Int))) rfl rfl (z0i (oo rfl rfl) (z0d hp1) (z03 el45)) (W.q3 (.bool ((List.length p0 : Int) != (List.length p1 : Int))) rfl rfl (.nil (.cond (b := ((List.length p0 : Int) != (List.length p1 : Int))) rfl rfl (fun g1 => ?_) (fun g1 => ?_)))))))
 .have h2 := z04 g1 h
  refine .seq (.region (W.q1 (.bool false) rfl (.nil (.ret ?_))))
  obtain rfl := zAa h2
  refine z1a (P := Tryz.prog) (fn := Tryz.f34) (n := 26) (R := fun v H' => ∃ G', Ow G' H' (L) /\ G.le G' /\ v = .bool false) (v1 := (.bool false)) (by rfl) (z08 (by rfl) (by exact rfl)) ?_
  exact ⟨_, O, (zAf _), rfl⟩
 have h3 := z0h g1 h
 refine .skip (.seq (.seq (.region (W.q2 v0 rfl (W.pure (v := (.int .i64 (List.length p0 : Int))) rfl rfl (z0i (oo rfl rfl) (z0d hp0) (z03 el45)) (W.q2 (.int .i64 0) rfl ?_))))))
 refine .nil ?_
 obtain ⟨q4, h5, h6⟩ := z2s h3
 refine AW.midT (fun σ' H' => ∃  (G' : GM), (.inr ()) = q4 /\ Ow G' H' (L) /\ GM.le G G') ?_ ?_
 rotate_left
 .rintro σ37 H38 fr39 ⟨G40, rfl, O41, s42⟩
  have h44 := z6q (z8o h6)
  refine .seq (.region (W.q1 (.bool true) rfl (.nil (.ret ?_))))
  obtain rfl := zAa h44
  refine z1a (P := Tryz.prog) (fn := Tryz.f34) (n := 26) (R := fun v H' => ∃ G', Ow G' H' (L) /\ G.le G' /\ v = .bool true) (v1 := (.bool true)) (by rfl) (z08 (by rfl) (by exact rfl)) ?_
  exact ⟨_, O41, s42, rfl⟩
 refine .block (AW.loop (α := Nat) (fun k' σ' H' => ∃ (y1 : Int) (G' : GM), z0s K p0 p1 k' y1 = some q4 /\ Ow G' H' (L) /\ GM.le G G' /\ σ' 13 = .int .i64 y1) (fun k' => k') K ⟨0, _, h5, O, (zAf _), rfl⟩ ?_)
 rintro k7
 rintro σ9 H10 fr11 ⟨x8, G12, h15, O13, s14, t16⟩
 rcases k7 with _ | k7
 .exact z07 h15
 rw [z0s] at h15
 refine .seq (.region (W.q3 (.bool (decide (x8 < (List.length p0 : Int)))) t16 ((fr11 12 rfl).trans rfl) (.nil (.seq (.cond (b := decide (x8 < (List.length p0 : Int))) rfl rfl (fun g17 => ?_) (fun g17 => ?_))))))
 rotate_left
 .have h36 := z0h g17 h15
  refine .exit ?_
  obtain rfl := zAa h36
  exact ⟨_, rfl, O13, s14⟩
 have h18 := z04 g17 h15
 refine .skip (.seq (.block (.seq (.region (W.q2 (.int .i64 x8) t16 (W.q1 (.int .i64 x8) rfl ?_))))))
 refine .nil (.seq (.draw2 (M := [0, 0, 3, 7, 0, 0, 48, 112, 255]) mixed (by kernel_rfl) (by kernel_rfl) fun H19 N23 x20 F22 => ?_))
 have O21 := O13.ext x20
 refine D2.q2 v0 ((fr11 0 rfl).trans rfl) (D2.q2 (.int .i64 x8) rfl ?_)
 obtain ⟨x24, i25, h26⟩ := z00 h18
 have j27 := z0e i25
 refine D2.pure (v := (z1y v0 (Int.toNat x8 * 1))) rfl rfl (z2g el45 sz22 (oo rfl rfl) (oo rfl rfl) (z0d (RT.mono _ s14 hp0)) j27.1 j27.2.1) (D2.load1' (v := (.string x24)) (r := []) rfl rfl ag22 (z1g rfl (At.str (At.le (At.le (z1s hp0 j27.2.2) s14 s14) (zAf _) O21.fro))) z0b (D2.q2 v1 ((fr11 1 rfl).trans rfl) (D2.q2 (.int .i64 x8) rfl ?_)))
 obtain ⟨x28, i29, h30⟩ := z00 h26
 have j31 := z0e i29
 refine D2.pure (v := (z1y v1 (Int.toNat x8 * 1))) rfl rfl (z2g el45 sz22 (oo rfl rfl) (oo rfl rfl) (z0d (RT.mono _ s14 hp1)) j31.1 j31.2.1) (D2.load1' (v := (.string x28)) (r := []) rfl rfl ag22 (z1g rfl (At.str (At.le (At.le (z1s hp1 j31.2.2) s14 s14) (zAf _) O21.fro))) z0b (D2.pure (v := (.bool (!(sEq x24 x28)))) rfl rfl (zjm (oo rfl rfl) (oo rfl rfl)) (.nil (.cond (b := (!(sEq x24 x28))) rfl rfl (fun g32 => ?_) (fun g32 => ?_)))))
 rotate_left
 .have h35 := z0h g32 h30
  refine .skip (.region (W.q3 (.int .i64 (z02 .i64 (x8 + 1))) t16 rfl (W.q2 (.int .i64 (z02 .i64 (x8 + 1))) rfl (.nil ?_))))
  exact ⟨k7, zAg _, ⟨z02 .i64 (x8 + 1), _, h35, O21, s14, rfl⟩⟩
 have h33 := z04 g32 h30
 refine .seq (.region (W.q1 (.bool false) rfl (.nil (.ret ?_))))
 obtain rfl := zAa h33
 have h34 := z0c (z7f h6)
 obtain rfl := zAa h34
 refine z1a (P := Tryz.prog) (fn := Tryz.f34) (n := 26) (R := fun v H' => ∃ G', Ow G' H' (L) /\ G.le G' /\ v = .bool false) (v1 := (.bool false)) (by rfl) (z08 (by rfl) (by exact rfl)) ?_
 exact ⟨_, O21, s14, rfl⟩
def z0f (K : Nat) (p0 : List (List zAd)) (p1 : List (List zAd)) (p2 : List zAd × List zAd -> Option Bool) : Nat -> Int -> Option (Bool ⊕ Unit)
  | 0, _ => none
  | k + 1, x8 => (if (decide (x8 < (List.length p0 : Int))) = true then ((idx p0 x8).bind fun x19 => ((idx p1 x8).bind fun x26 => ((p2 (x19, x26)).bind fun x33 => (if (!x33) = true then some (.inl false) else z0f K p0 p1 p2 k (z02 .i64 (x8 + 1)))))) else some (.inr ()))
def z0j (K : Nat) (p0 : List (List zAd)) (p1 : List (List zAd)) (p2 : List zAd × List zAd -> Option Bool) : Option Bool := (if ((List.length p0 : Int) != (List.length p1 : Int)) = true then some false else (zb9 (z0f K p0 p1 p2 K 0) (tu1 fun a55 => some a55) (tu0 (some true))))
set_option maxHeartbeats 4000000 in
theorem z1r (v0 : Value) (p0 : List (List zAd)) (hp0 : (rSl (rSl rS)).rep G [v0] p0) (v1 : Value) (p1 : List (List zAd)) (hp1 : (rSl (rSl rS)).rep G [v1] p1) (v2 : Value) (p2 : List zAd × List zAd -> Option Bool) (hp2 : FnOk Tryz.prog G v2 (fun G vs (x : (List zAd × List zAd)) => ∃ (v0 : Value), ∃ (v1 : Value), vs = [v0, v1] /\ (rSl rS).rep G [v0] x.1 /\ (rSl rS).rep G [v1] x.2) (fun _ v (rr : (Bool)) => v = .bool rr) p2) (O : Ow G H (L)) (r : Bool) (h : z0j K p0 p1 p2 = some r) :
    CR Tryz.prog 141 [v0, v1, v2] G H (L) (fun v G' _ => v = .bool r) := by
 unfold z0j at h
 refine CR.of (z06 (n := 32) (fn := Tryz.f141) (R := fun v H' => ∃ G', Ow G' H' (L) /\ G.le G' /\ v = .bool r) (by kernel_rfl) rfl rfl ?_)
 refine .seq (.region (W.q1 (.bool false) rfl (.nil (.seq (.seq (.region ?_))))))
 refine W.q2 v0 rfl (W.pure (v := (.int .i64 (List.length p0 : Int))) rfl rfl (z0i (oo rfl rfl) (z0d hp0) (z03 el44)) (W.q2 v1 rfl (W.pure (v := (.int .i64 (List.length p1 : Int))) rfl rfl (z0i (oo rfl rfl) (z0d hp1) (z03 el44)) (W.q3 (.bool ((List.length p0 : Int) != (List.length p1 : Int))) rfl rfl (.nil (.cond (b := ((List.length p0 : Int) != (List.length p1 : Int))) rfl rfl (fun g1 => ?_) (fun g1 => ?_)))))))
 .have h2 := z04 g1 h
  refine .seq (.region (W.q1 (.bool false) rfl (.nil (.ret ?_))))
  obtain rfl := zAa h2
  refine z1a (P := Tryz.prog) (fn := Tryz.f141) (n := 32) (R := fun v H' => ∃ G', Ow G' H' (L) /\ G.le G' /\ v = .bool false) (v1 := (.bool false)) (by rfl) (z08 (by rfl) (by exact rfl)) ?_
  exact ⟨_, O, (zAf _), rfl⟩
 have h3 := z0h g1 h
 refine .skip (.seq (.seq (.region (W.q2 v0 rfl (W.pure (v := (.int .i64 (List.length p0 : Int))) rfl rfl (z0i (oo rfl rfl) (z0d hp0) (z03 el44)) (W.q2 (.int .i64 0) rfl ?_))))))
 refine .nil ?_
 obtain ⟨q4, h5, h6⟩ := z2s h3
 refine AW.midT (fun σ' H' => ∃  (G' : GM), (.inr ()) = q4 /\ Ow G' H' (L) /\ GM.le G G') ?_ ?_
 rotate_left
 .rintro σ47 H48 fr49 ⟨G50, rfl, O51, s52⟩
  have h54 := z6q (z8o h6)
  refine .seq (.region (W.q1 (.bool true) rfl (.nil (.ret ?_))))
  obtain rfl := zAa h54
  refine z1a (P := Tryz.prog) (fn := Tryz.f141) (n := 32) (R := fun v H' => ∃ G', Ow G' H' (L) /\ G.le G' /\ v = .bool true) (v1 := (.bool true)) (by rfl) (z08 (by rfl) (by exact rfl)) ?_
  exact ⟨_, O51, s52, rfl⟩
 refine .block (AW.loop (α := Nat) (fun k' σ' H' => ∃ (y1 : Int) (G' : GM), z0f K p0 p1 p2 k' y1 = some q4 /\ Ow G' H' (L) /\ GM.le G G' /\ σ' 17 = .int .i64 y1) (fun k' => k') K ⟨0, _, h5, O, (zAf _), rfl⟩ ?_)
 rintro k7
 rintro σ9 H10 fr11 ⟨x8, G12, h15, O13, s14, t16⟩
 rcases k7 with _ | k7
 .exact z07 h15
 rw [z0f] at h15
 refine .seq (.region (W.q3 (.bool (decide (x8 < (List.length p0 : Int)))) t16 ((fr11 16 rfl).trans rfl) (.nil (.seq (.cond (b := decide (x8 < (List.length p0 : Int))) rfl rfl (fun g17 => ?_) (fun g17 => ?_))))))
 rotate_left
 .have h46 := z0h g17 h15
  refine .exit ?_
  obtain rfl := zAa h46
  exact ⟨_, rfl, O13, s14⟩
 have h18 := z04 g17 h15
 refine .skip (.seq (.block (.seq (.region (W.q2 (.int .i64 x8) t16 ?_)))))
 obtain ⟨x19, i20, h21⟩ := z00 h18
 have j22 := z0e i20
 refine W.pure (v := (z1y v0 (Int.toNat x8 * 1))) rfl rfl (z2g el44 sz45 (oo rfl ((fr11 15 rfl).trans rfl)) (oo rfl t16) (z0d (RT.mono _ s14 hp0)) j22.1 j22.2.1) ?_
 obtain ⟨w23, p24, f25⟩ := At.sl (At.le (z1s hp0 j22.2.2) s14 s14)
 replace p24 := PtG.le p24 O13.fro
 refine W.load1 (v := w23) (r := []) rfl rfl ag45 (z1g rfl p24) (W.q1 (.int .i64 x8) rfl (W.q1 w23 rfl (.nil (.seq (.region (W.q2 v1 ((fr11 1 rfl).trans rfl) ?_))))))
 refine W.q2 (.int .i64 x8) rfl ?_
 obtain ⟨x26, i27, h28⟩ := z00 h21
 have j29 := z0e i27
 refine W.pure (v := (z1y v1 (Int.toNat x8 * 1))) rfl rfl (z2g el44 sz45 (oo rfl rfl) (oo rfl rfl) (z0d (RT.mono _ s14 hp1)) j29.1 j29.2.1) ?_
 obtain ⟨w30, p31, f32⟩ := At.sl (At.le (z1s hp1 j29.2.2) s14 s14)
 replace p31 := PtG.le p31 O13.fro
 refine W.load1 (v := w30) (r := []) rfl rfl ag45 (z1g rfl p31) (W.q1 w30 rfl (.nil (.seq (.region (W.q2 v2 ((fr11 2 rfl).trans rfl) (W.q2 w23 rfl ?_))))))
 refine W.q2 w30 rfl ?_
 obtain ⟨x33, i34, h35⟩ := z00 h28
 refine W.lo rfl rfl (Lo.callF (x0 := (x19, x26)) rfl rfl (FnOk.le hp2 s14) (mc rfl (mc rfl mn)) ⟨w23, w30, rfl, f25, f32⟩ i34 O13) ?_
 rintro v40 H41 ⟨G36, O37, s38, sm39, rfl⟩
 refine W.pure (v := (.bool (!x33))) rfl rfl (zb6 (a := x33) (oo rfl rfl)) (.nil (.cond (b := (!x33)) rfl rfl (fun g42 => ?_) (fun g42 => ?_)))
 rotate_left
 .have h45 := z0h g42 h35
  refine .skip (.region (W.q3 (.int .i64 (z02 .i64 (x8 + 1))) t16 rfl (W.q2 (.int .i64 (z02 .i64 (x8 + 1))) rfl (.nil ?_))))
  exact ⟨k7, zAg _, ⟨z02 .i64 (x8 + 1), _, h45, O37, (zAe s14 s38), rfl⟩⟩
 have h43 := z04 g42 h35
 refine .seq (.region (W.q1 (.bool false) rfl (.nil (.ret ?_))))
 obtain rfl := zAa h43
 have h44 := z0c (z7f h6)
 obtain rfl := zAa h44
 refine z1a (P := Tryz.prog) (fn := Tryz.f141) (n := 32) (R := fun v H' => ∃ G', Ow G' H' (L) /\ G.le G' /\ v = .bool false) (v1 := (.bool false)) (by rfl) (z08 (by rfl) (by exact rfl)) ?_
 exact ⟨_, O37, (zAe s14 s38), rfl⟩
def z5k (K : Nat) (p0 : List zAd) (p1 : List zAd) : Option Bool := ((z15 K p0 p1).bind fun x1 => some x1)
set_option maxHeartbeats 4000000 in
theorem za8 (v0 : Value) (p0 : List zAd) (hp0 : (rSl rS).rep G [v0] p0) (v1 : Value) (p1 : List zAd) (hp1 : (rSl rS).rep G [v1] p1) (O : Ow G H (L)) (r : Bool) (h : z5k K p0 p1 = some r) :
    CR Tryz.prog 142 [v0, v1] G H (L) (fun v G' _ => v = .bool r) := by
 unfold z5k at h
 refine CR.of (z06 (n := 8) (fn := Tryz.f142) (R := fun v H' => ∃ G', Ow G' H' (L) /\ G.le G' /\ v = .bool r) (by kernel_rfl) rfl rfl ?_)
 refine .seq (.region (W.q1 (.bool false) rfl (.nil (.seq (.region (W.q2 v0 rfl ?_))))))
 refine W.q2 v1 rfl ?_
 obtain ⟨x1, i2, h3⟩ := z00 h
 refine W.lo rfl rfl (Lo.callP (ps := []) (ps' := []) rfl (fn := Tryz.f34) (by kernel_rfl) rfl (mc rfl (mc rfl mn)) O (fun L' O' => z2r K v0 p0 hp0 v1 p1 hp1 O' _ i2)) ?_
 rintro v10 H11 ⟨G4, O5, s6, sm9, rfl⟩
 replace O5 : Ow G4 H11 (L) := O5
 refine W.q1 (.bool x1) rfl (.nil (.ret ?_))
 obtain rfl := zAa h3
 refine z1a (P := Tryz.prog) (fn := Tryz.f142) (n := 8) (R := fun v H' => ∃ G', Ow G' H' (L) /\ G.le G' /\ v = .bool x1) (v1 := (.bool x1)) (by rfl) (z08 (by rfl) (by exact rfl)) ?_
 exact ⟨_, O5, s6, rfl⟩
def z3p (K : Nat) (p0 : List (List zAd)) (p1 : List (List zAd)) : Option Bool := ((z0j K p0 p1 (fun x => z5k K x.1 x.2)).bind fun x5 => some x5)
set_option maxHeartbeats 4000000 in
theorem z3q (v0 : Value) (p0 : List (List zAd)) (hp0 : (rSl (rSl rS)).rep G [v0] p0) (v1 : Value) (p1 : List (List zAd)) (hp1 : (rSl (rSl rS)).rep G [v1] p1) (O : Ow G H (L)) (r : Bool) (h : z3p K p0 p1 = some r) :
    CR Tryz.prog 77 [v0, v1] G H (L) (fun v G' _ => v = .bool r) := by
 unfold z3p at h
 refine CR.of (z06 (n := 8) (fn := Tryz.f77) (R := fun v H' => ∃ G', Ow G' H' (L) /\ G.le G' /\ v = .bool r) (by kernel_rfl) rfl rfl ?_)
 refine .seq (.region (W.q1 (.bool false) rfl (.nil (.seq (.region (W.q2 v0 rfl ?_))))))
 refine W.q2 v1 rfl ?_
 obtain ⟨x5, i6, h7⟩ := z00 h
 refine W.lo rfl rfl (Lo.callP (ps := []) (ps' := []) rfl (fn := Tryz.f141) (by kernel_rfl) rfl (mc rfl (mc rfl (mc rfl mn))) O (fun L' O' => z1r K v0 p0 hp0 v1 p1 hp1 (.func (.func 142) #[] #[]) (fun x => z5k K x.1 x.2) ⟨142, _, _, Tryz.f142, rfl, by kernel_rfl, rfl, fun G1 H L vs x r hG O hA hF => by obtain ⟨w1, w3, rfl, f2, f4⟩ := hA; exact za8 K w1 x.1 f2 w3 x.2 f4 O _ hF⟩ O' _ i6)) ?_
 rintro v14 H15 ⟨G8, O9, s10, sm13, rfl⟩
 replace O9 : Ow G8 H15 (L) := O9
 refine W.q1 (.bool x5) rfl (.nil (.ret ?_))
 obtain rfl := zAa h7
 refine z1a (P := Tryz.prog) (fn := Tryz.f77) (n := 8) (R := fun v H' => ∃ G', Ow G' H' (L) /\ G.le G' /\ v = .bool x5) (v1 := (.bool x5)) (by rfl) (z08 (by rfl) (by exact rfl)) ?_
 exact ⟨_, O9, s10, rfl⟩
def z4w (K : Nat) : Option Bool := ((z39 K [(⟨#[49]⟩ : zAd), (⟨#[50]⟩ : zAd)] [(⟨#[51]⟩ : zAd), (⟨#[52]⟩ : zAd)]).bind fun x17 => ((z45 K ).bind fun x28 => ((z7j K x28 [(⟨#[49]⟩ : zAd), (⟨#[49]⟩ : zAd)]).bind fun x53 => ((z45 K ).bind fun x66 => ((z45 K ).bind fun x79 => ((z91 K x66 x79).bind fun x100 => ((z45 K ).bind fun x113 => ((z56 K x113).bind fun x130 => ((z5y K 2).bind fun x143 => ((z45 K ).bind fun x156 => ((z45 K ).bind fun x169 => ((z93 K x156 x169).bind fun x190 => ((z45 K ).bind fun x203 => ((z7k K x203 (⟨#[50]⟩ : zAd)).bind fun x220 => (Option.bind (((zbe K [x17.2, x53.2, x100.2, x130.2, x143.2, x190.2, x220.2]).bind fun x240 => (if x240 = true then (if (sEq x17.1 (⟨#[49, 49]⟩ : zAd)) = true then ((z15 K x53.1 [(⟨#[51]⟩ : zAd), (⟨#[55]⟩ : zAd)]).bind fun x269 => (if x269 = true then ((z3p K x100.1 [[(⟨#[55]⟩ : zAd), (⟨#[49, 48]⟩ : zAd)], [(⟨#[49, 53]⟩ : zAd), (⟨#[50, 50]⟩ : zAd)]]).bind fun x311 => (if x311 = true then ((z3p K x130.1 [[(⟨#[49]⟩ : zAd), (⟨#[51]⟩ : zAd)], [(⟨#[50]⟩ : zAd), (⟨#[52]⟩ : zAd)]]).bind fun x353 => (if x353 = true then ((z3p K x143.1 [[(⟨#[49]⟩ : zAd), (⟨#[48]⟩ : zAd)], [(⟨#[48]⟩ : zAd), (⟨#[49]⟩ : zAd)]]).bind fun x395 => (if x395 = true then ((z3p K x190.1 x220.1).bind fun x417 => (if x417 = true then (if ((List.length x190.1 : Int) == 2) = true then ((z45 K ).bind fun x434 => ((z3p K x190.1 x434).bind fun x447 => (if (!x447) = true then ((z1q K [[(⟨#[49]⟩ : zAd)], []]).bind fun x481 => (if (x481 == 3) = true then ((z14 K [(⟨#[]⟩ : zAd)]).bind fun x499 => some (x499 == 5)) else some false)) else some false))) else some false) else some false)) else some false)) else some false)) else some false)) else some false)) else some false) else some false))) (tu1 fun x641 => some x641))))))))))))))))
set_option maxHeartbeats 4000000 in
theorem z9p  (O : Ow G H (L)) (r : Bool) (h : z4w K = some r) :
    CR Tryz.prog 26 [] G H (L) (fun v G' _ => v = .bool r) := by
 unfold z4w at h
 refine CR.of (z06 (n := 120) (fn := Tryz.f26) (R := fun v H' => ∃ G', Ow G' H' (L) /\ G.le G' /\ v = .bool r) (by kernel_rfl) rfl rfl ?_)
 refine .seq (.region (W.q1 (.bool false) rfl (.nil (.seq (.region (W.lo rfl rfl (Lo.buildSlice (r := rS) (vs := [(.string (⟨#[49]⟩ : zAd)), (.string (⟨#[50]⟩ : zAd))]) (xs := [(⟨#[49]⟩ : zAd), (⟨#[50]⟩ : zAd)]) el45 ze22 sz22 (by kernel_rfl) rfl (qc rfl (qc rfl qn)) rfl (.cons rfl (.cons rfl .nil)) O) ?_))))))
 rintro v3 H4 ⟨O1, sm2⟩
 refine W.lo rfl rfl (Lo.buildSlice (r := rS) (vs := [(.string (⟨#[51]⟩ : zAd)), (.string (⟨#[52]⟩ : zAd))]) (xs := [(⟨#[51]⟩ : zAd), (⟨#[52]⟩ : zAd)]) el45 ze22 sz22 (by kernel_rfl) rfl (qc rfl (qc rfl qn)) rfl (.cons rfl (.cons rfl .nil)) O1) ?_
 rintro v7 H8 ⟨O5, sm6⟩
 obtain ⟨G9, O10, s11, f12⟩ := O5.frzSl (j := 1) rfl
 replace O10 : Ow G9 H8 (eSl v7 22 rS [(⟨#[51]⟩ : zAd), (⟨#[52]⟩ : zAd)] :: L) := O10
 obtain ⟨G13, O14, s15, f16⟩ := O10.frzSl (j := 0) rfl
 replace O14 : Ow G13 H8 (L) := O14
 obtain ⟨x17, i18, h19⟩ := z00 h
 refine W.lo rfl rfl (Lo.callP (ps := []) (ps' := []) rfl (fn := Tryz.f37) (by kernel_rfl) rfl (mc rfl (mc rfl mn)) O14 (fun L' O' => z8u K v3 [(⟨#[49]⟩ : zAd), (⟨#[50]⟩ : zAd)] (RT.mono _ s15 f12) v7 [(⟨#[51]⟩ : zAd), (⟨#[52]⟩ : zAd)] f16 O' _ i18)) ?_
 rintro v26 H27 ⟨G20, O21, s22, sm25, rfl⟩
 replace O21 : Ow G20 H27 (L) := O21
 refine W.q2 (.tuple #[(.string x17.1), (.int .i64 x17.2)]) rfl (W.pure (v := (.string x17.1)) rfl rfl (z09 (oo rfl rfl) rfl) (W.pure (v := (.int .i64 x17.2)) rfl rfl (z09 (oo rfl rfl) rfl) (W.q1 (.string x17.1) rfl (W.q1 (.int .i64 x17.2) rfl (.nil (.seq ?_))))))
 refine .region ?_
 obtain ⟨x28, i29, h30⟩ := z00 h19
 refine W.lo rfl rfl (Lo.callPF (ps := []) (pw := fun w => [eSl w 45 (rSl rS) x28]) rfl (fn := Tryz.f76) (by kernel_rfl) rfl mn O21 (fun L' O' => z31 K  O' _ i29)) ?_
 rintro v39 H40 ⟨w36, G31, O32, s33, sm38, rfl⟩
 replace O32 : Ow G31 H40 (eSl w36 45 (rSl rS) x28 :: L) := O32
 refine W.lo rfl rfl (Lo.buildSlice (r := rS) (vs := [(.string (⟨#[49]⟩ : zAd)), (.string (⟨#[49]⟩ : zAd))]) (xs := [(⟨#[49]⟩ : zAd), (⟨#[49]⟩ : zAd)]) el45 ze22 sz22 (by kernel_rfl) rfl (qc rfl (qc rfl qn)) rfl (.cons rfl (.cons rfl .nil)) O32) ?_
 rintro v43 H44 ⟨O41, sm42⟩
 obtain ⟨G45, O46, s47, f48⟩ := O41.frzSl (j := 1) rfl
 replace O46 : Ow G45 H44 (eSl v43 22 rS [(⟨#[49]⟩ : zAd), (⟨#[49]⟩ : zAd)] :: L) := O46
 obtain ⟨G49, O50, s51, f52⟩ := O46.frzSl (j := 0) rfl
 replace O50 : Ow G49 H44 (L) := O50
 obtain ⟨x53, i54, h55⟩ := z00 h30
 refine W.lo rfl rfl (Lo.callPF (ps := []) (pw := fun w => [eSl w 22 rS x53.1]) rfl (fn := Tryz.f28) (by kernel_rfl) rfl (mc rfl (mc rfl mn)) O50 (fun L' O' => zao K w36 x28 (RT.mono _ s51 f48) v43 [(⟨#[49]⟩ : zAd), (⟨#[49]⟩ : zAd)] f52 O' _ i54)) ?_
 rintro v64 H65 ⟨w61, G56, O57, s58, sm63, rfl⟩
 replace O57 : Ow G56 H65 (eSl w61 22 rS x53.1 :: L) := O57
 refine W.q2 (.tuple #[w61, (.int .i64 x53.2)]) rfl (W.pure (v := w61) rfl rfl (z09 (oo rfl rfl) rfl) (W.pure (v := (.int .i64 x53.2)) rfl rfl (z09 (oo rfl rfl) rfl) (W.q1 w61 rfl (W.q1 (.int .i64 x53.2) rfl (.nil (.seq ?_))))))
 refine .region ?_
 obtain ⟨x66, i67, h68⟩ := z00 h55
 refine W.lo rfl rfl (Lo.callPF (ps := []) (pw := fun w => [eSl w 45 (rSl rS) x66]) rfl (fn := Tryz.f76) (by kernel_rfl) rfl mn O57 (fun L' O' => z31 K  O' _ i67)) ?_
 rintro v77 H78 ⟨w74, G69, O70, s71, sm76, rfl⟩
 replace O70 : Ow G69 H78 (eSl w74 45 (rSl rS) x66 :: eSl w61 22 rS x53.1 :: L) := O70
 obtain ⟨x79, i80, h81⟩ := z00 h68
 refine W.lo rfl rfl (Lo.callPF (ps := []) (pw := fun w => [eSl w 45 (rSl rS) x79]) rfl (fn := Tryz.f76) (by kernel_rfl) rfl mn O70 (fun L' O' => z31 K  O' _ i80)) ?_
 rintro v90 H91 ⟨w87, G82, O83, s84, sm89, rfl⟩
 replace O83 : Ow G82 H91 (eSl w87 45 (rSl rS) x79 :: eSl w74 45 (rSl rS) x66 :: eSl w61 22 rS x53.1 :: L) := O83
 obtain ⟨G92, O93, s94, f95⟩ := O83.frzSl (j := 1) rfl
 replace O93 : Ow G92 H91 (eSl w87 45 (rSl rS) x79 :: eSl w61 22 rS x53.1 :: L) := O93
 obtain ⟨G96, O97, s98, f99⟩ := O93.frzSl (j := 0) rfl
 replace O97 : Ow G96 H91 (eSl w61 22 rS x53.1 :: L) := O97
 obtain ⟨x100, i101, h102⟩ := z00 h81
 refine W.lo rfl rfl (Lo.callPF (ps := []) (pw := fun w => [eSl w 45 (rSl rS) x100.1]) rfl (fn := Tryz.f27) (by kernel_rfl) rfl (mc rfl (mc rfl mn)) O97 (fun L' O' => zbx K w74 x66 (RT.mono _ s98 f95) w87 x79 f99 O' _ i101)) ?_
 rintro v111 H112 ⟨w108, G103, O104, s105, sm110, rfl⟩
 replace O104 : Ow G103 H112 (eSl w108 45 (rSl rS) x100.1 :: eSl w61 22 rS x53.1 :: L) := O104
 refine W.q2 (.tuple #[w108, (.int .i64 x100.2)]) rfl (W.pure (v := w108) rfl rfl (z09 (oo rfl rfl) rfl) (W.pure (v := (.int .i64 x100.2)) rfl rfl (z09 (oo rfl rfl) rfl) (W.q1 w108 rfl (W.q1 (.int .i64 x100.2) rfl (.nil (.seq ?_))))))
 refine .region ?_
 obtain ⟨x113, i114, h115⟩ := z00 h102
 refine W.lo rfl rfl (Lo.callPF (ps := []) (pw := fun w => [eSl w 45 (rSl rS) x113]) rfl (fn := Tryz.f76) (by kernel_rfl) rfl mn O104 (fun L' O' => z31 K  O' _ i114)) ?_
 rintro v124 H125 ⟨w121, G116, O117, s118, sm123, rfl⟩
 replace O117 : Ow G116 H125 (eSl w121 45 (rSl rS) x113 :: eSl w108 45 (rSl rS) x100.1 :: eSl w61 22 rS x53.1 :: L) := O117
 obtain ⟨G126, O127, s128, f129⟩ := O117.frzSl (j := 0) rfl
 replace O127 : Ow G126 H125 (eSl w108 45 (rSl rS) x100.1 :: eSl w61 22 rS x53.1 :: L) := O127
 obtain ⟨x130, i131, h132⟩ := z00 h115
 refine W.lo rfl rfl (Lo.callPF (ps := []) (pw := fun w => [eSl w 45 (rSl rS) x130.1]) rfl (fn := Tryz.f29) (by kernel_rfl) rfl (mc rfl mn) O127 (fun L' O' => z8r K w121 x113 f129 O' _ i131)) ?_
 rintro v141 H142 ⟨w138, G133, O134, s135, sm140, rfl⟩
 replace O134 : Ow G133 H142 (eSl w138 45 (rSl rS) x130.1 :: eSl w108 45 (rSl rS) x100.1 :: eSl w61 22 rS x53.1 :: L) := O134
 refine W.q2 (.tuple #[w138, (.int .i64 x130.2)]) rfl (W.pure (v := w138) rfl rfl (z09 (oo rfl rfl) rfl) (W.pure (v := (.int .i64 x130.2)) rfl rfl (z09 (oo rfl rfl) rfl) (W.q1 w138 rfl (W.q1 (.int .i64 x130.2) rfl (.nil (.seq ?_))))))
 refine .region ?_
 obtain ⟨x143, i144, h145⟩ := z00 h132
 refine W.lo rfl rfl (Lo.callPF (ps := []) (pw := fun w => [eSl w 45 (rSl rS) x143.1]) rfl (fn := Tryz.f40) (by kernel_rfl) rfl (mc rfl mn) O134 (fun L' O' => z92 K 2 O' _ i144)) ?_
 rintro v154 H155 ⟨w151, G146, O147, s148, sm153, rfl⟩
 replace O147 : Ow G146 H155 (eSl w151 45 (rSl rS) x143.1 :: eSl w138 45 (rSl rS) x130.1 :: eSl w108 45 (rSl rS) x100.1 :: eSl w61 22 rS x53.1 :: L) := O147
 refine W.q2 (.tuple #[w151, (.int .i64 x143.2)]) rfl (W.pure (v := w151) rfl rfl (z09 (oo rfl rfl) rfl) (W.pure (v := (.int .i64 x143.2)) rfl rfl (z09 (oo rfl rfl) rfl) (W.q1 w151 rfl (W.q1 (.int .i64 x143.2) rfl (.nil (.seq ?_))))))
 refine .region ?_
 obtain ⟨x156, i157, h158⟩ := z00 h145
 refine W.lo rfl rfl (Lo.callPF (ps := []) (pw := fun w => [eSl w 45 (rSl rS) x156]) rfl (fn := Tryz.f76) (by kernel_rfl) rfl mn O147 (fun L' O' => z31 K  O' _ i157)) ?_
 rintro v167 H168 ⟨w164, G159, O160, s161, sm166, rfl⟩
 replace O160 : Ow G159 H168 (eSl w164 45 (rSl rS) x156 :: eSl w151 45 (rSl rS) x143.1 :: eSl w138 45 (rSl rS) x130.1 :: eSl w108 45 (rSl rS) x100.1 :: eSl w61 22 rS x53.1 :: L) := O160
 obtain ⟨x169, i170, h171⟩ := z00 h158
 refine W.lo rfl rfl (Lo.callPF (ps := []) (pw := fun w => [eSl w 45 (rSl rS) x169]) rfl (fn := Tryz.f76) (by kernel_rfl) rfl mn O160 (fun L' O' => z31 K  O' _ i170)) ?_
 rintro v180 H181 ⟨w177, G172, O173, s174, sm179, rfl⟩
 replace O173 : Ow G172 H181 (eSl w177 45 (rSl rS) x169 :: eSl w164 45 (rSl rS) x156 :: eSl w151 45 (rSl rS) x143.1 :: eSl w138 45 (rSl rS) x130.1 :: eSl w108 45 (rSl rS) x100.1 :: eSl w61 22 rS x53.1 :: L) := O173
 obtain ⟨G182, O183, s184, f185⟩ := O173.frzSl (j := 1) rfl
 replace O183 : Ow G182 H181 (eSl w177 45 (rSl rS) x169 :: eSl w151 45 (rSl rS) x143.1 :: eSl w138 45 (rSl rS) x130.1 :: eSl w108 45 (rSl rS) x100.1 :: eSl w61 22 rS x53.1 :: L) := O183
 obtain ⟨G186, O187, s188, f189⟩ := O183.frzSl (j := 0) rfl
 replace O187 : Ow G186 H181 (eSl w151 45 (rSl rS) x143.1 :: eSl w138 45 (rSl rS) x130.1 :: eSl w108 45 (rSl rS) x100.1 :: eSl w61 22 rS x53.1 :: L) := O187
 obtain ⟨x190, i191, h192⟩ := z00 h171
 refine W.lo rfl rfl (Lo.callPF (ps := []) (pw := fun w => [eSl w 45 (rSl rS) x190.1]) rfl (fn := Tryz.f38) (by kernel_rfl) rfl (mc rfl (mc rfl mn)) O187 (fun L' O' => zby K w164 x156 (RT.mono _ s188 f185) w177 x169 f189 O' _ i191)) ?_
 rintro v201 H202 ⟨w198, G193, O194, s195, sm200, rfl⟩
 replace O194 : Ow G193 H202 (eSl w198 45 (rSl rS) x190.1 :: eSl w151 45 (rSl rS) x143.1 :: eSl w138 45 (rSl rS) x130.1 :: eSl w108 45 (rSl rS) x100.1 :: eSl w61 22 rS x53.1 :: L) := O194
 refine W.q2 (.tuple #[w198, (.int .i64 x190.2)]) rfl (W.pure (v := w198) rfl rfl (z09 (oo rfl rfl) rfl) (W.pure (v := (.int .i64 x190.2)) rfl rfl (z09 (oo rfl rfl) rfl) (W.q1 w198 rfl (W.q1 (.int .i64 x190.2) rfl (.nil (.seq ?_))))))
 refine .region ?_
 obtain ⟨x203, i204, h205⟩ := z00 h192
 refine W.lo rfl rfl (Lo.callPF (ps := []) (pw := fun w => [eSl w 45 (rSl rS) x203]) rfl (fn := Tryz.f76) (by kernel_rfl) rfl mn O194 (fun L' O' => z31 K  O' _ i204)) ?_
 rintro v214 H215 ⟨w211, G206, O207, s208, sm213, rfl⟩
 replace O207 : Ow G206 H215 (eSl w211 45 (rSl rS) x203 :: eSl w198 45 (rSl rS) x190.1 :: eSl w151 45 (rSl rS) x143.1 :: eSl w138 45 (rSl rS) x130.1 :: eSl w108 45 (rSl rS) x100.1 :: eSl w61 22 rS x53.1 :: L) := O207
 obtain ⟨G216, O217, s218, f219⟩ := O207.frzSl (j := 0) rfl
 replace O217 : Ow G216 H215 (eSl w198 45 (rSl rS) x190.1 :: eSl w151 45 (rSl rS) x143.1 :: eSl w138 45 (rSl rS) x130.1 :: eSl w108 45 (rSl rS) x100.1 :: eSl w61 22 rS x53.1 :: L) := O217
 obtain ⟨x220, i221, h222⟩ := z00 h205
 refine W.lo rfl rfl (Lo.callPF (ps := []) (pw := fun w => [eSl w 45 (rSl rS) x220.1]) rfl (fn := Tryz.f39) (by kernel_rfl) rfl (mc rfl (mc rfl mn)) O217 (fun L' O' => zap K w211 x203 f219 (⟨#[50]⟩ : zAd) O' _ i221)) ?_
 rintro v231 H232 ⟨w228, G223, O224, s225, sm230, rfl⟩
 replace O224 : Ow G223 H232 (eSl w228 45 (rSl rS) x220.1 :: eSl w198 45 (rSl rS) x190.1 :: eSl w151 45 (rSl rS) x143.1 :: eSl w138 45 (rSl rS) x130.1 :: eSl w108 45 (rSl rS) x100.1 :: eSl w61 22 rS x53.1 :: L) := O224
 refine W.q2 (.tuple #[w228, (.int .i64 x220.2)]) rfl (W.pure (v := w228) rfl rfl (z09 (oo rfl rfl) rfl) (W.pure (v := (.int .i64 x220.2)) rfl rfl (z09 (oo rfl rfl) rfl) (W.q1 w228 rfl (W.q1 (.int .i64 x220.2) rfl (.nil (.seq ?_))))))
 obtain ⟨q233, h234, h235⟩ := z00 h222
 refine AW.midT (fun σ' H' => ∃ (y1 : Bool) (G' : GM), y1 = q233 /\ Ow G' H' (L) /\ GM.le G223 G' /\ σ' 0 = .bool y1) ?_ ?_
 rotate_left
 .rintro σ642 H643 fr644 ⟨x641, G645, rfl, O646, s647, t649⟩
  have h650 := z0c h235
  refine .ret ?_
  obtain rfl := zAa h650
  refine z1a (P := Tryz.prog) (fn := Tryz.f26) (n := 120) (R := fun v H' => ∃ G', Ow G' H' (L) /\ G.le G' /\ v = .bool x641) (v1 := (.bool x641)) (by rfl) (z08 (by rfl) (by exact t649)) ?_
  exact ⟨_, O646, (zAe s11 (zAe s15 (zAe s22 (zAe s33 (zAe s47 (zAe s51 (zAe s58 (zAe s71 (zAe s84 (zAe s94 (zAe s98 (zAe s105 (zAe s118 (zAe s128 (zAe s135 (zAe s148 (zAe s161 (zAe s174 (zAe s184 (zAe s188 (zAe s195 (zAe s208 (zAe s218 (zAe s225 s647)))))))))))))))))))))))), rfl⟩
 refine .region (W.q2 (.int .i64 x17.2) rfl (W.q2 (.int .i64 x53.2) rfl (W.q2 (.int .i64 x100.2) rfl (W.q2 (.int .i64 x130.2) rfl (W.q2 (.int .i64 x143.2) rfl (W.q2 (.int .i64 x190.2) rfl ?_))))))
 refine W.q2 (.int .i64 x220.2) rfl (W.lo rfl rfl (Lo.buildSlice (r := (rI .i64)) (vs := [(.int .i64 x17.2), (.int .i64 x53.2), (.int .i64 x100.2), (.int .i64 x130.2), (.int .i64 x143.2), (.int .i64 x190.2), (.int .i64 x220.2)]) (xs := [x17.2, x53.2, x100.2, x130.2, x143.2, x190.2, x220.2]) el91 ze28 sz28 (by kernel_rfl) rfl (qc rfl (qc rfl (qc rfl (qc rfl (qc rfl (qc rfl (qc rfl qn))))))) rfl (.cons rfl (.cons rfl (.cons rfl (.cons rfl (.cons rfl (.cons rfl (.cons rfl .nil))))))) O224) ?_)
 rintro v238 H239 ⟨O236, sm237⟩
 obtain ⟨x240, i241, h242⟩ := z00 h234
 refine W.lo rfl rfl (Lo.callB (j := 0) rfl rfl (fn := Tryz.f55) (by kernel_rfl) rfl (mc rfl mn) O236 (fun G' L' hG O' hB => zdw K v238 [x17.2, x53.2, x100.2, x130.2, x143.2, x190.2, x220.2] hB O' _ i241)) ?_
 rintro v249 H250 ⟨G243, O244, s245, sm248, rfl⟩
 replace O244 : Ow G243 H250 (eSl v238 28 (rI .i64) [x17.2, x53.2, x100.2, x130.2, x143.2, x190.2, x220.2] :: eSl w228 45 (rSl rS) x220.1 :: eSl w198 45 (rSl rS) x190.1 :: eSl w151 45 (rSl rS) x143.1 :: eSl w138 45 (rSl rS) x130.1 :: eSl w108 45 (rSl rS) x100.1 :: eSl w61 22 rS x53.1 :: L) := O244
 refine W.q2 (.bool x240) rfl (W.splitAt (t := 62) (b := x240) rfl (fun g251 gv252 => ?_) (fun g251 gv252 => ?_))
 rotate_left
 .have h615 := z0h g251 h242
  refine W.q6 rfl gv252 (W.q6 rfl gv252 (W.q5 (.bool false) gv252 rfl (W.q2 (.bool false) rfl (W.q6 rfl rfl (W.q6 rfl rfl (W.q6 rfl rfl ?_))))))
  refine W.q5 (.bool false) rfl rfl (W.q2 (.bool false) rfl (W.q6 rfl rfl (W.q6 rfl rfl (W.q6 rfl rfl (W.q6 rfl rfl (W.q6 rfl rfl ?_))))))
  refine W.q5 (.bool false) rfl rfl (W.q2 (.bool false) rfl (W.q6 rfl rfl (W.q6 rfl rfl (W.q6 rfl rfl (W.q6 rfl rfl (W.q6 rfl rfl ?_))))))
  refine W.q5 (.bool false) rfl rfl (W.q2 (.bool false) rfl (W.q6 rfl rfl (W.q6 rfl rfl (W.q6 rfl rfl (W.q6 rfl rfl (W.q6 rfl rfl ?_))))))
  refine W.q5 (.bool false) rfl rfl (W.q2 (.bool false) rfl (W.q6 rfl rfl (W.q6 rfl rfl (W.q6 rfl rfl (W.q5 (.bool false) rfl rfl (W.q2 (.bool false) rfl ?_))))))
  refine W.q6 rfl rfl (W.q6 rfl rfl (W.q6 rfl rfl (W.q5 (.bool false) rfl rfl (W.q2 (.bool false) rfl (W.q6 rfl rfl (W.q6 rfl rfl ?_))))))
  refine W.q6 rfl rfl (W.q6 rfl rfl (W.q5 (.bool false) rfl rfl (W.q2 (.bool false) rfl (W.q6 rfl rfl (W.q6 rfl rfl (W.q6 rfl rfl ?_))))))
  refine W.q6 rfl rfl (W.q6 rfl rfl (W.q5 (.bool false) rfl rfl (W.q2 (.bool false) rfl (W.q6 rfl rfl (W.q6 rfl rfl (W.q6 rfl rfl ?_))))))
  refine W.q5 (.bool false) rfl rfl (W.q1 (.bool false) rfl (.nil ?_))
  obtain ⟨G616, O617, s618, f619⟩ := O244.frzSl (j := 1) rfl
  replace O617 : Ow G616 H250 (eSl v238 28 (rI .i64) [x17.2, x53.2, x100.2, x130.2, x143.2, x190.2, x220.2] :: eSl w198 45 (rSl rS) x190.1 :: eSl w151 45 (rSl rS) x143.1 :: eSl w138 45 (rSl rS) x130.1 :: eSl w108 45 (rSl rS) x100.1 :: eSl w61 22 rS x53.1 :: L) := O617
  obtain ⟨G620, O621, s622, f623⟩ := O617.frzSl (j := 1) rfl
  replace O621 : Ow G620 H250 (eSl v238 28 (rI .i64) [x17.2, x53.2, x100.2, x130.2, x143.2, x190.2, x220.2] :: eSl w151 45 (rSl rS) x143.1 :: eSl w138 45 (rSl rS) x130.1 :: eSl w108 45 (rSl rS) x100.1 :: eSl w61 22 rS x53.1 :: L) := O621
  obtain ⟨G624, O625, s626, f627⟩ := O621.frzSl (j := 1) rfl
  replace O625 : Ow G624 H250 (eSl v238 28 (rI .i64) [x17.2, x53.2, x100.2, x130.2, x143.2, x190.2, x220.2] :: eSl w138 45 (rSl rS) x130.1 :: eSl w108 45 (rSl rS) x100.1 :: eSl w61 22 rS x53.1 :: L) := O625
  obtain ⟨G628, O629, s630, f631⟩ := O625.frzSl (j := 1) rfl
  replace O629 : Ow G628 H250 (eSl v238 28 (rI .i64) [x17.2, x53.2, x100.2, x130.2, x143.2, x190.2, x220.2] :: eSl w108 45 (rSl rS) x100.1 :: eSl w61 22 rS x53.1 :: L) := O629
  obtain ⟨G632, O633, s634, f635⟩ := O629.frzSl (j := 1) rfl
  replace O633 : Ow G632 H250 (eSl v238 28 (rI .i64) [x17.2, x53.2, x100.2, x130.2, x143.2, x190.2, x220.2] :: eSl w61 22 rS x53.1 :: L) := O633
  obtain ⟨G636, O637, s638, f639⟩ := O633.frzSl (j := 1) rfl
  replace O637 : Ow G636 H250 (eSl v238 28 (rI .i64) [x17.2, x53.2, x100.2, x130.2, x143.2, x190.2, x220.2] :: L) := O637
  have O640 : Ow G636 H250 (L) := O637.drop 0
  obtain rfl := zAa h615
  exact ⟨false, _, rfl, O640, (zAe s245 (zAe s618 (zAe s622 (zAe s626 (zAe s630 (zAe s634 s638)))))), rfl⟩
 have h253 := z04 g251 h242
 refine W.q2 (hg := gk rfl rfl gv252 rfl) (.string x17.1) rfl (W.pure (v := (.bool (sEq x17.1 (⟨#[49, 49]⟩ : zAd)))) (gk rfl rfl gv252 rfl) rfl (z8p (oo rfl rfl) (oo rfl rfl)) (W.q4 (.bool (sEq x17.1 (⟨#[49, 49]⟩ : zAd))) gv252 rfl (W.q2 (.bool (sEq x17.1 (⟨#[49, 49]⟩ : zAd))) rfl (W.splitAt (t := 66) (b := sEq x17.1 (⟨#[49, 49]⟩ : zAd)) rfl (fun g254 gv255 => ?_) (fun g254 gv255 => ?_)))))
 rotate_left
 .have h589 := z0h g254 h253
  refine W.q6 rfl gv255 (W.q6 rfl gv255 (W.q6 rfl gv255 (W.q5 (.bool false) gv255 rfl (W.q2 (.bool false) rfl (W.q6 rfl rfl (W.q6 rfl rfl ?_))))))
  refine W.q6 rfl rfl (W.q6 rfl rfl (W.q6 rfl rfl (W.q5 (.bool false) rfl rfl (W.q2 (.bool false) rfl (W.q6 rfl rfl (W.q6 rfl rfl ?_))))))
  refine W.q6 rfl rfl (W.q6 rfl rfl (W.q6 rfl rfl (W.q5 (.bool false) rfl rfl (W.q2 (.bool false) rfl (W.q6 rfl rfl (W.q6 rfl rfl ?_))))))
  refine W.q6 rfl rfl (W.q6 rfl rfl (W.q6 rfl rfl (W.q5 (.bool false) rfl rfl (W.q2 (.bool false) rfl (W.q6 rfl rfl (W.q6 rfl rfl ?_))))))
  refine W.q6 rfl rfl (W.q5 (.bool false) rfl rfl (W.q2 (.bool false) rfl (W.q6 rfl rfl (W.q6 rfl rfl (W.q6 rfl rfl (W.q5 (.bool false) rfl rfl ?_))))))
  refine W.q2 (.bool false) rfl (W.q6 rfl rfl (W.q6 rfl rfl (W.q6 rfl rfl (W.q6 rfl rfl (W.q5 (.bool false) rfl rfl (W.q2 (.bool false) rfl ?_))))))
  refine W.q6 rfl rfl (W.q6 rfl rfl (W.q6 rfl rfl (W.q6 rfl rfl (W.q6 rfl rfl (W.q5 (.bool false) rfl rfl (W.q2 (.bool false) rfl ?_))))))
  refine W.q6 rfl rfl (W.q6 rfl rfl (W.q6 rfl rfl (W.q5 (.bool false) rfl rfl (W.q1 (.bool false) rfl (.nil ?_)))))
  obtain ⟨G590, O591, s592, f593⟩ := O244.frzSl (j := 1) rfl
  replace O591 : Ow G590 H250 (eSl v238 28 (rI .i64) [x17.2, x53.2, x100.2, x130.2, x143.2, x190.2, x220.2] :: eSl w198 45 (rSl rS) x190.1 :: eSl w151 45 (rSl rS) x143.1 :: eSl w138 45 (rSl rS) x130.1 :: eSl w108 45 (rSl rS) x100.1 :: eSl w61 22 rS x53.1 :: L) := O591
  obtain ⟨G594, O595, s596, f597⟩ := O591.frzSl (j := 1) rfl
  replace O595 : Ow G594 H250 (eSl v238 28 (rI .i64) [x17.2, x53.2, x100.2, x130.2, x143.2, x190.2, x220.2] :: eSl w151 45 (rSl rS) x143.1 :: eSl w138 45 (rSl rS) x130.1 :: eSl w108 45 (rSl rS) x100.1 :: eSl w61 22 rS x53.1 :: L) := O595
  obtain ⟨G598, O599, s600, f601⟩ := O595.frzSl (j := 1) rfl
  replace O599 : Ow G598 H250 (eSl v238 28 (rI .i64) [x17.2, x53.2, x100.2, x130.2, x143.2, x190.2, x220.2] :: eSl w138 45 (rSl rS) x130.1 :: eSl w108 45 (rSl rS) x100.1 :: eSl w61 22 rS x53.1 :: L) := O599
  obtain ⟨G602, O603, s604, f605⟩ := O599.frzSl (j := 1) rfl
  replace O603 : Ow G602 H250 (eSl v238 28 (rI .i64) [x17.2, x53.2, x100.2, x130.2, x143.2, x190.2, x220.2] :: eSl w108 45 (rSl rS) x100.1 :: eSl w61 22 rS x53.1 :: L) := O603
  obtain ⟨G606, O607, s608, f609⟩ := O603.frzSl (j := 1) rfl
  replace O607 : Ow G606 H250 (eSl v238 28 (rI .i64) [x17.2, x53.2, x100.2, x130.2, x143.2, x190.2, x220.2] :: eSl w61 22 rS x53.1 :: L) := O607
  obtain ⟨G610, O611, s612, f613⟩ := O607.frzSl (j := 1) rfl
  replace O611 : Ow G610 H250 (eSl v238 28 (rI .i64) [x17.2, x53.2, x100.2, x130.2, x143.2, x190.2, x220.2] :: L) := O611
  have O614 : Ow G610 H250 (L) := O611.drop 0
  obtain rfl := zAa h589
  exact ⟨false, _, rfl, O614, (zAe s245 (zAe s592 (zAe s596 (zAe s600 (zAe s604 (zAe s608 s612)))))), rfl⟩
 have h256 := z04 g254 h253
 refine W.q2 (hg := gk rfl rfl gv255 rfl) w61 rfl (W.lo (gk rfl rfl gv255 rfl) rfl (Lo.buildSlice (r := rS) (vs := [(.string (⟨#[51]⟩ : zAd)), (.string (⟨#[55]⟩ : zAd))]) (xs := [(⟨#[51]⟩ : zAd), (⟨#[55]⟩ : zAd)]) el45 ze22 sz22 (by kernel_rfl) rfl (qc rfl (qc rfl qn)) rfl (.cons rfl (.cons rfl .nil)) O244) ?_)
 rintro v259 H260 ⟨O257, sm258⟩
 obtain ⟨G261, O262, s263, f264⟩ := O257.frzSl (j := 7) rfl
 replace O262 : Ow G261 H260 (eSl v259 22 rS [(⟨#[51]⟩ : zAd), (⟨#[55]⟩ : zAd)] :: eSl v238 28 (rI .i64) [x17.2, x53.2, x100.2, x130.2, x143.2, x190.2, x220.2] :: eSl w228 45 (rSl rS) x220.1 :: eSl w198 45 (rSl rS) x190.1 :: eSl w151 45 (rSl rS) x143.1 :: eSl w138 45 (rSl rS) x130.1 :: eSl w108 45 (rSl rS) x100.1 :: L) := O262
 obtain ⟨G265, O266, s267, f268⟩ := O262.frzSl (j := 0) rfl
 replace O266 : Ow G265 H260 (eSl v238 28 (rI .i64) [x17.2, x53.2, x100.2, x130.2, x143.2, x190.2, x220.2] :: eSl w228 45 (rSl rS) x220.1 :: eSl w198 45 (rSl rS) x190.1 :: eSl w151 45 (rSl rS) x143.1 :: eSl w138 45 (rSl rS) x130.1 :: eSl w108 45 (rSl rS) x100.1 :: L) := O266
 obtain ⟨x269, i270, h271⟩ := z00 h256
 refine W.lo (gk rfl rfl gv255 rfl) rfl (Lo.callP (ps := []) (ps' := []) rfl (fn := Tryz.f34) (by kernel_rfl) rfl (mc rfl (mc rfl mn)) O266 (fun L' O' => z2r K w61 x53.1 (RT.mono _ s267 f264) v259 [(⟨#[51]⟩ : zAd), (⟨#[55]⟩ : zAd)] f268 O' _ i270)) ?_
 rintro v278 H279 ⟨G272, O273, s274, sm277, rfl⟩
 replace O273 : Ow G272 H279 (eSl v238 28 (rI .i64) [x17.2, x53.2, x100.2, x130.2, x143.2, x190.2, x220.2] :: eSl w228 45 (rSl rS) x220.1 :: eSl w198 45 (rSl rS) x190.1 :: eSl w151 45 (rSl rS) x143.1 :: eSl w138 45 (rSl rS) x130.1 :: eSl w108 45 (rSl rS) x100.1 :: L) := O273
 refine W.q4 (.bool x269) gv255 rfl (W.q2 (.bool x269) rfl (W.splitAt (t := 71) (b := x269) rfl (fun g280 gv281 => ?_) (fun g280 gv281 => ?_)))
 rotate_left
 .have h567 := z0h g280 h271
  refine W.q6 rfl gv281 (W.q6 rfl gv281 (W.q6 rfl gv281 (W.q6 rfl gv281 (W.q6 rfl gv281 (W.q5 (.bool false) gv281 rfl (W.q2 (.bool false) rfl ?_))))))
  refine W.q6 rfl rfl (W.q6 rfl rfl (W.q6 rfl rfl (W.q6 rfl rfl (W.q6 rfl rfl (W.q5 (.bool false) rfl rfl (W.q2 (.bool false) rfl ?_))))))
  refine W.q6 rfl rfl (W.q6 rfl rfl (W.q6 rfl rfl (W.q6 rfl rfl (W.q6 rfl rfl (W.q5 (.bool false) rfl rfl (W.q2 (.bool false) rfl ?_))))))
  refine W.q6 rfl rfl (W.q6 rfl rfl (W.q6 rfl rfl (W.q5 (.bool false) rfl rfl (W.q2 (.bool false) rfl (W.q6 rfl rfl (W.q6 rfl rfl ?_))))))
  refine W.q6 rfl rfl (W.q5 (.bool false) rfl rfl (W.q2 (.bool false) rfl (W.q6 rfl rfl (W.q6 rfl rfl (W.q6 rfl rfl (W.q6 rfl rfl ?_))))))
  refine W.q5 (.bool false) rfl rfl (W.q2 (.bool false) rfl (W.q6 rfl rfl (W.q6 rfl rfl (W.q6 rfl rfl (W.q6 rfl rfl (W.q6 rfl rfl ?_))))))
  refine W.q5 (.bool false) rfl rfl (W.q2 (.bool false) rfl (W.q6 rfl rfl (W.q6 rfl rfl (W.q6 rfl rfl (W.q5 (.bool false) rfl rfl (W.q1 (.bool false) rfl ?_))))))
  refine .nil ?_
  obtain ⟨G568, O569, s570, f571⟩ := O273.frzSl (j := 1) rfl
  replace O569 : Ow G568 H279 (eSl v238 28 (rI .i64) [x17.2, x53.2, x100.2, x130.2, x143.2, x190.2, x220.2] :: eSl w198 45 (rSl rS) x190.1 :: eSl w151 45 (rSl rS) x143.1 :: eSl w138 45 (rSl rS) x130.1 :: eSl w108 45 (rSl rS) x100.1 :: L) := O569
  obtain ⟨G572, O573, s574, f575⟩ := O569.frzSl (j := 1) rfl
  replace O573 : Ow G572 H279 (eSl v238 28 (rI .i64) [x17.2, x53.2, x100.2, x130.2, x143.2, x190.2, x220.2] :: eSl w151 45 (rSl rS) x143.1 :: eSl w138 45 (rSl rS) x130.1 :: eSl w108 45 (rSl rS) x100.1 :: L) := O573
  obtain ⟨G576, O577, s578, f579⟩ := O573.frzSl (j := 1) rfl
  replace O577 : Ow G576 H279 (eSl v238 28 (rI .i64) [x17.2, x53.2, x100.2, x130.2, x143.2, x190.2, x220.2] :: eSl w138 45 (rSl rS) x130.1 :: eSl w108 45 (rSl rS) x100.1 :: L) := O577
  obtain ⟨G580, O581, s582, f583⟩ := O577.frzSl (j := 1) rfl
  replace O581 : Ow G580 H279 (eSl v238 28 (rI .i64) [x17.2, x53.2, x100.2, x130.2, x143.2, x190.2, x220.2] :: eSl w108 45 (rSl rS) x100.1 :: L) := O581
  obtain ⟨G584, O585, s586, f587⟩ := O581.frzSl (j := 1) rfl
  replace O585 : Ow G584 H279 (eSl v238 28 (rI .i64) [x17.2, x53.2, x100.2, x130.2, x143.2, x190.2, x220.2] :: L) := O585
  have O588 : Ow G584 H279 (L) := O585.drop 0
  obtain rfl := zAa h567
  exact ⟨false, _, rfl, O588, (zAe s245 (zAe s263 (zAe s267 (zAe s274 (zAe s570 (zAe s574 (zAe s578 (zAe s582 s586)))))))), rfl⟩
 have h282 := z04 g280 h271
 refine W.q2 (hg := gk rfl rfl gv281 rfl) w108 rfl (W.lo (gk rfl rfl gv281 rfl) rfl (Lo.buildSlice (r := rS) (vs := [(.string (⟨#[55]⟩ : zAd)), (.string (⟨#[49, 48]⟩ : zAd))]) (xs := [(⟨#[55]⟩ : zAd), (⟨#[49, 48]⟩ : zAd)]) el45 ze22 sz22 (by kernel_rfl) rfl (qc rfl (qc rfl qn)) rfl (.cons rfl (.cons rfl .nil)) O273) ?_)
 rintro v285 H286 ⟨O283, sm284⟩
 refine W.lo (gk rfl rfl gv281 rfl) rfl (Lo.buildSlice (r := rS) (vs := [(.string (⟨#[49, 53]⟩ : zAd)), (.string (⟨#[50, 50]⟩ : zAd))]) (xs := [(⟨#[49, 53]⟩ : zAd), (⟨#[50, 50]⟩ : zAd)]) el45 ze22 sz22 (by kernel_rfl) rfl (qc rfl (qc rfl qn)) rfl (.cons rfl (.cons rfl .nil)) O283) ?_
 rintro v289 H290 ⟨O287, sm288⟩
 obtain ⟨G292, O293, s294, f295⟩ := O287.frzSl (j := 1) rfl
 replace O293 : Ow G292 H290 (eSl v289 22 rS [(⟨#[49, 53]⟩ : zAd), (⟨#[50, 50]⟩ : zAd)] :: eSl v238 28 (rI .i64) [x17.2, x53.2, x100.2, x130.2, x143.2, x190.2, x220.2] :: eSl w228 45 (rSl rS) x220.1 :: eSl w198 45 (rSl rS) x190.1 :: eSl w151 45 (rSl rS) x143.1 :: eSl w138 45 (rSl rS) x130.1 :: eSl w108 45 (rSl rS) x100.1 :: L) := O293
 obtain ⟨G296, O297, s298, f299⟩ := O293.frzSl (j := 0) rfl
 replace O297 : Ow G296 H290 (eSl v238 28 (rI .i64) [x17.2, x53.2, x100.2, x130.2, x143.2, x190.2, x220.2] :: eSl w228 45 (rSl rS) x220.1 :: eSl w198 45 (rSl rS) x190.1 :: eSl w151 45 (rSl rS) x143.1 :: eSl w138 45 (rSl rS) x130.1 :: eSl w108 45 (rSl rS) x100.1 :: L) := O297
 refine W.lo (gk rfl rfl gv281 rfl) rfl (Lo.buildSlice (r := (rSl rS)) (vs := [v285, v289]) (xs := [[(⟨#[55]⟩ : zAd), (⟨#[49, 48]⟩ : zAd)], [(⟨#[49, 53]⟩ : zAd), (⟨#[50, 50]⟩ : zAd)]]) el44 ze45 sz45 (by kernel_rfl) rfl (qc rfl (qc rfl qn)) rfl (.cons (z2h (RT.mono _ s298 f295)) (.cons (z2h f299) .nil)) O297) ?_
 rintro v301 H302 ⟨O291, sm300⟩
 obtain ⟨G303, O304, s305, f306⟩ := O291.frzSl (j := 6) rfl
 replace O304 : Ow G303 H302 (eSl v301 45 (rSl rS) [[(⟨#[55]⟩ : zAd), (⟨#[49, 48]⟩ : zAd)], [(⟨#[49, 53]⟩ : zAd), (⟨#[50, 50]⟩ : zAd)]] :: eSl v238 28 (rI .i64) [x17.2, x53.2, x100.2, x130.2, x143.2, x190.2, x220.2] :: eSl w228 45 (rSl rS) x220.1 :: eSl w198 45 (rSl rS) x190.1 :: eSl w151 45 (rSl rS) x143.1 :: eSl w138 45 (rSl rS) x130.1 :: L) := O304
 obtain ⟨G307, O308, s309, f310⟩ := O304.frzSl (j := 0) rfl
 replace O308 : Ow G307 H302 (eSl v238 28 (rI .i64) [x17.2, x53.2, x100.2, x130.2, x143.2, x190.2, x220.2] :: eSl w228 45 (rSl rS) x220.1 :: eSl w198 45 (rSl rS) x190.1 :: eSl w151 45 (rSl rS) x143.1 :: eSl w138 45 (rSl rS) x130.1 :: L) := O308
 obtain ⟨x311, i312, h313⟩ := z00 h282
 refine W.lo (gk rfl rfl gv281 rfl) rfl (Lo.callP (ps := []) (ps' := []) rfl (fn := Tryz.f77) (by kernel_rfl) rfl (mc rfl (mc rfl mn)) O308 (fun L' O' => z3q K w108 x100.1 (RT.mono _ s309 f306) v301 [[(⟨#[55]⟩ : zAd), (⟨#[49, 48]⟩ : zAd)], [(⟨#[49, 53]⟩ : zAd), (⟨#[50, 50]⟩ : zAd)]] f310 O' _ i312)) ?_
 rintro v320 H321 ⟨G314, O315, s316, sm319, rfl⟩
 replace O315 : Ow G314 H321 (eSl v238 28 (rI .i64) [x17.2, x53.2, x100.2, x130.2, x143.2, x190.2, x220.2] :: eSl w228 45 (rSl rS) x220.1 :: eSl w198 45 (rSl rS) x190.1 :: eSl w151 45 (rSl rS) x143.1 :: eSl w138 45 (rSl rS) x130.1 :: L) := O315
 refine W.q4 (.bool x311) gv281 rfl (W.q2 (.bool x311) rfl (W.splitAt (t := 78) (b := x311) rfl (fun g322 gv323 => ?_) (fun g322 gv323 => ?_)))
 rotate_left
 .have h549 := z0h g322 h313
  refine W.q6 rfl gv323 (W.q6 rfl gv323 (W.q6 rfl gv323 (W.q6 rfl gv323 (W.q6 rfl gv323 (W.q5 (.bool false) gv323 rfl (W.q2 (.bool false) rfl ?_))))))
  refine W.q6 rfl rfl (W.q6 rfl rfl (W.q6 rfl rfl (W.q6 rfl rfl (W.q6 rfl rfl (W.q5 (.bool false) rfl rfl (W.q2 (.bool false) rfl ?_))))))
  refine W.q6 rfl rfl (W.q6 rfl rfl (W.q6 rfl rfl (W.q5 (.bool false) rfl rfl (W.q2 (.bool false) rfl (W.q6 rfl rfl (W.q6 rfl rfl ?_))))))
  refine W.q6 rfl rfl (W.q5 (.bool false) rfl rfl (W.q2 (.bool false) rfl (W.q6 rfl rfl (W.q6 rfl rfl (W.q6 rfl rfl (W.q6 rfl rfl ?_))))))
  refine W.q5 (.bool false) rfl rfl (W.q2 (.bool false) rfl (W.q6 rfl rfl (W.q6 rfl rfl (W.q6 rfl rfl (W.q6 rfl rfl (W.q6 rfl rfl ?_))))))
  refine W.q5 (.bool false) rfl rfl (W.q2 (.bool false) rfl (W.q6 rfl rfl (W.q6 rfl rfl (W.q6 rfl rfl (W.q5 (.bool false) rfl rfl (W.q1 (.bool false) rfl ?_))))))
  refine .nil ?_
  obtain ⟨G550, O551, s552, f553⟩ := O315.frzSl (j := 1) rfl
  replace O551 : Ow G550 H321 (eSl v238 28 (rI .i64) [x17.2, x53.2, x100.2, x130.2, x143.2, x190.2, x220.2] :: eSl w198 45 (rSl rS) x190.1 :: eSl w151 45 (rSl rS) x143.1 :: eSl w138 45 (rSl rS) x130.1 :: L) := O551
  obtain ⟨G554, O555, s556, f557⟩ := O551.frzSl (j := 1) rfl
  replace O555 : Ow G554 H321 (eSl v238 28 (rI .i64) [x17.2, x53.2, x100.2, x130.2, x143.2, x190.2, x220.2] :: eSl w151 45 (rSl rS) x143.1 :: eSl w138 45 (rSl rS) x130.1 :: L) := O555
  obtain ⟨G558, O559, s560, f561⟩ := O555.frzSl (j := 1) rfl
  replace O559 : Ow G558 H321 (eSl v238 28 (rI .i64) [x17.2, x53.2, x100.2, x130.2, x143.2, x190.2, x220.2] :: eSl w138 45 (rSl rS) x130.1 :: L) := O559
  obtain ⟨G562, O563, s564, f565⟩ := O559.frzSl (j := 1) rfl
  replace O563 : Ow G562 H321 (eSl v238 28 (rI .i64) [x17.2, x53.2, x100.2, x130.2, x143.2, x190.2, x220.2] :: L) := O563
  have O566 : Ow G562 H321 (L) := O563.drop 0
  obtain rfl := zAa h549
  exact ⟨false, _, rfl, O566, (zAe s245 (zAe s263 (zAe s267 (zAe s274 (zAe s294 (zAe s298 (zAe s305 (zAe s309 (zAe s316 (zAe s552 (zAe s556 (zAe s560 s564)))))))))))), rfl⟩
 have h324 := z04 g322 h313
 refine W.q2 (hg := gk rfl rfl gv323 rfl) w138 rfl (W.lo (gk rfl rfl gv323 rfl) rfl (Lo.buildSlice (r := rS) (vs := [(.string (⟨#[49]⟩ : zAd)), (.string (⟨#[51]⟩ : zAd))]) (xs := [(⟨#[49]⟩ : zAd), (⟨#[51]⟩ : zAd)]) el45 ze22 sz22 (by kernel_rfl) rfl (qc rfl (qc rfl qn)) rfl (.cons rfl (.cons rfl .nil)) O315) ?_)
 rintro v327 H328 ⟨O325, sm326⟩
 refine W.lo (gk rfl rfl gv323 rfl) rfl (Lo.buildSlice (r := rS) (vs := [(.string (⟨#[50]⟩ : zAd)), (.string (⟨#[52]⟩ : zAd))]) (xs := [(⟨#[50]⟩ : zAd), (⟨#[52]⟩ : zAd)]) el45 ze22 sz22 (by kernel_rfl) rfl (qc rfl (qc rfl qn)) rfl (.cons rfl (.cons rfl .nil)) O325) ?_
 rintro v331 H332 ⟨O329, sm330⟩
 obtain ⟨G334, O335, s336, f337⟩ := O329.frzSl (j := 1) rfl
 replace O335 : Ow G334 H332 (eSl v331 22 rS [(⟨#[50]⟩ : zAd), (⟨#[52]⟩ : zAd)] :: eSl v238 28 (rI .i64) [x17.2, x53.2, x100.2, x130.2, x143.2, x190.2, x220.2] :: eSl w228 45 (rSl rS) x220.1 :: eSl w198 45 (rSl rS) x190.1 :: eSl w151 45 (rSl rS) x143.1 :: eSl w138 45 (rSl rS) x130.1 :: L) := O335
 obtain ⟨G338, O339, s340, f341⟩ := O335.frzSl (j := 0) rfl
 replace O339 : Ow G338 H332 (eSl v238 28 (rI .i64) [x17.2, x53.2, x100.2, x130.2, x143.2, x190.2, x220.2] :: eSl w228 45 (rSl rS) x220.1 :: eSl w198 45 (rSl rS) x190.1 :: eSl w151 45 (rSl rS) x143.1 :: eSl w138 45 (rSl rS) x130.1 :: L) := O339
 refine W.lo (gk rfl rfl gv323 rfl) rfl (Lo.buildSlice (r := (rSl rS)) (vs := [v327, v331]) (xs := [[(⟨#[49]⟩ : zAd), (⟨#[51]⟩ : zAd)], [(⟨#[50]⟩ : zAd), (⟨#[52]⟩ : zAd)]]) el44 ze45 sz45 (by kernel_rfl) rfl (qc rfl (qc rfl qn)) rfl (.cons (z2h (RT.mono _ s340 f337)) (.cons (z2h f341) .nil)) O339) ?_
 rintro v343 H344 ⟨O333, sm342⟩
 obtain ⟨G345, O346, s347, f348⟩ := O333.frzSl (j := 5) rfl
 replace O346 : Ow G345 H344 (eSl v343 45 (rSl rS) [[(⟨#[49]⟩ : zAd), (⟨#[51]⟩ : zAd)], [(⟨#[50]⟩ : zAd), (⟨#[52]⟩ : zAd)]] :: eSl v238 28 (rI .i64) [x17.2, x53.2, x100.2, x130.2, x143.2, x190.2, x220.2] :: eSl w228 45 (rSl rS) x220.1 :: eSl w198 45 (rSl rS) x190.1 :: eSl w151 45 (rSl rS) x143.1 :: L) := O346
 obtain ⟨G349, O350, s351, f352⟩ := O346.frzSl (j := 0) rfl
 replace O350 : Ow G349 H344 (eSl v238 28 (rI .i64) [x17.2, x53.2, x100.2, x130.2, x143.2, x190.2, x220.2] :: eSl w228 45 (rSl rS) x220.1 :: eSl w198 45 (rSl rS) x190.1 :: eSl w151 45 (rSl rS) x143.1 :: L) := O350
 obtain ⟨x353, i354, h355⟩ := z00 h324
 refine W.lo (gk rfl rfl gv323 rfl) rfl (Lo.callP (ps := []) (ps' := []) rfl (fn := Tryz.f77) (by kernel_rfl) rfl (mc rfl (mc rfl mn)) O350 (fun L' O' => z3q K w138 x130.1 (RT.mono _ s351 f348) v343 [[(⟨#[49]⟩ : zAd), (⟨#[51]⟩ : zAd)], [(⟨#[50]⟩ : zAd), (⟨#[52]⟩ : zAd)]] f352 O' _ i354)) ?_
 rintro v362 H363 ⟨G356, O357, s358, sm361, rfl⟩
 replace O357 : Ow G356 H363 (eSl v238 28 (rI .i64) [x17.2, x53.2, x100.2, x130.2, x143.2, x190.2, x220.2] :: eSl w228 45 (rSl rS) x220.1 :: eSl w198 45 (rSl rS) x190.1 :: eSl w151 45 (rSl rS) x143.1 :: L) := O357
 refine W.q4 (.bool x353) gv323 rfl (W.q2 (.bool x353) rfl (W.splitAt (t := 85) (b := x353) rfl (fun g364 gv365 => ?_) (fun g364 gv365 => ?_)))
 rotate_left
 .have h535 := z0h g364 h355
  refine W.q6 rfl gv365 (W.q6 rfl gv365 (W.q6 rfl gv365 (W.q6 rfl gv365 (W.q6 rfl gv365 (W.q5 (.bool false) gv365 rfl (W.q2 (.bool false) rfl ?_))))))
  refine W.q6 rfl rfl (W.q6 rfl rfl (W.q6 rfl rfl (W.q5 (.bool false) rfl rfl (W.q2 (.bool false) rfl (W.q6 rfl rfl (W.q6 rfl rfl ?_))))))
  refine W.q6 rfl rfl (W.q5 (.bool false) rfl rfl (W.q2 (.bool false) rfl (W.q6 rfl rfl (W.q6 rfl rfl (W.q6 rfl rfl (W.q6 rfl rfl ?_))))))
  refine W.q5 (.bool false) rfl rfl (W.q2 (.bool false) rfl (W.q6 rfl rfl (W.q6 rfl rfl (W.q6 rfl rfl (W.q6 rfl rfl (W.q6 rfl rfl ?_))))))
  refine W.q5 (.bool false) rfl rfl (W.q2 (.bool false) rfl (W.q6 rfl rfl (W.q6 rfl rfl (W.q6 rfl rfl (W.q5 (.bool false) rfl rfl (W.q1 (.bool false) rfl ?_))))))
  refine .nil ?_
  obtain ⟨G536, O537, s538, f539⟩ := O357.frzSl (j := 1) rfl
  replace O537 : Ow G536 H363 (eSl v238 28 (rI .i64) [x17.2, x53.2, x100.2, x130.2, x143.2, x190.2, x220.2] :: eSl w198 45 (rSl rS) x190.1 :: eSl w151 45 (rSl rS) x143.1 :: L) := O537
  obtain ⟨G540, O541, s542, f543⟩ := O537.frzSl (j := 1) rfl
  replace O541 : Ow G540 H363 (eSl v238 28 (rI .i64) [x17.2, x53.2, x100.2, x130.2, x143.2, x190.2, x220.2] :: eSl w151 45 (rSl rS) x143.1 :: L) := O541
  obtain ⟨G544, O545, s546, f547⟩ := O541.frzSl (j := 1) rfl
  replace O545 : Ow G544 H363 (eSl v238 28 (rI .i64) [x17.2, x53.2, x100.2, x130.2, x143.2, x190.2, x220.2] :: L) := O545
  have O548 : Ow G544 H363 (L) := O545.drop 0
  obtain rfl := zAa h535
  exact ⟨false, _, rfl, O548, (zAe s245 (zAe s263 (zAe s267 (zAe s274 (zAe s294 (zAe s298 (zAe s305 (zAe s309 (zAe s316 (zAe s336 (zAe s340 (zAe s347 (zAe s351 (zAe s358 (zAe s538 (zAe s542 s546)))))))))))))))), rfl⟩
 have h366 := z04 g364 h355
 refine W.q2 (hg := gk rfl rfl gv365 rfl) w151 rfl (W.lo (gk rfl rfl gv365 rfl) rfl (Lo.buildSlice (r := rS) (vs := [(.string (⟨#[49]⟩ : zAd)), (.string (⟨#[48]⟩ : zAd))]) (xs := [(⟨#[49]⟩ : zAd), (⟨#[48]⟩ : zAd)]) el45 ze22 sz22 (by kernel_rfl) rfl (qc rfl (qc rfl qn)) rfl (.cons rfl (.cons rfl .nil)) O357) ?_)
 rintro v369 H370 ⟨O367, sm368⟩
 refine W.lo (gk rfl rfl gv365 rfl) rfl (Lo.buildSlice (r := rS) (vs := [(.string (⟨#[48]⟩ : zAd)), (.string (⟨#[49]⟩ : zAd))]) (xs := [(⟨#[48]⟩ : zAd), (⟨#[49]⟩ : zAd)]) el45 ze22 sz22 (by kernel_rfl) rfl (qc rfl (qc rfl qn)) rfl (.cons rfl (.cons rfl .nil)) O367) ?_
 rintro v373 H374 ⟨O371, sm372⟩
 obtain ⟨G376, O377, s378, f379⟩ := O371.frzSl (j := 1) rfl
 replace O377 : Ow G376 H374 (eSl v373 22 rS [(⟨#[48]⟩ : zAd), (⟨#[49]⟩ : zAd)] :: eSl v238 28 (rI .i64) [x17.2, x53.2, x100.2, x130.2, x143.2, x190.2, x220.2] :: eSl w228 45 (rSl rS) x220.1 :: eSl w198 45 (rSl rS) x190.1 :: eSl w151 45 (rSl rS) x143.1 :: L) := O377
 obtain ⟨G380, O381, s382, f383⟩ := O377.frzSl (j := 0) rfl
 replace O381 : Ow G380 H374 (eSl v238 28 (rI .i64) [x17.2, x53.2, x100.2, x130.2, x143.2, x190.2, x220.2] :: eSl w228 45 (rSl rS) x220.1 :: eSl w198 45 (rSl rS) x190.1 :: eSl w151 45 (rSl rS) x143.1 :: L) := O381
 refine W.lo (gk rfl rfl gv365 rfl) rfl (Lo.buildSlice (r := (rSl rS)) (vs := [v369, v373]) (xs := [[(⟨#[49]⟩ : zAd), (⟨#[48]⟩ : zAd)], [(⟨#[48]⟩ : zAd), (⟨#[49]⟩ : zAd)]]) el44 ze45 sz45 (by kernel_rfl) rfl (qc rfl (qc rfl qn)) rfl (.cons (z2h (RT.mono _ s382 f379)) (.cons (z2h f383) .nil)) O381) ?_
 rintro v385 H386 ⟨O375, sm384⟩
 obtain ⟨G387, O388, s389, f390⟩ := O375.frzSl (j := 4) rfl
 replace O388 : Ow G387 H386 (eSl v385 45 (rSl rS) [[(⟨#[49]⟩ : zAd), (⟨#[48]⟩ : zAd)], [(⟨#[48]⟩ : zAd), (⟨#[49]⟩ : zAd)]] :: eSl v238 28 (rI .i64) [x17.2, x53.2, x100.2, x130.2, x143.2, x190.2, x220.2] :: eSl w228 45 (rSl rS) x220.1 :: eSl w198 45 (rSl rS) x190.1 :: L) := O388
 obtain ⟨G391, O392, s393, f394⟩ := O388.frzSl (j := 0) rfl
 replace O392 : Ow G391 H386 (eSl v238 28 (rI .i64) [x17.2, x53.2, x100.2, x130.2, x143.2, x190.2, x220.2] :: eSl w228 45 (rSl rS) x220.1 :: eSl w198 45 (rSl rS) x190.1 :: L) := O392
 obtain ⟨x395, i396, h397⟩ := z00 h366
 refine W.lo (gk rfl rfl gv365 rfl) rfl (Lo.callP (ps := []) (ps' := []) rfl (fn := Tryz.f77) (by kernel_rfl) rfl (mc rfl (mc rfl mn)) O392 (fun L' O' => z3q K w151 x143.1 (RT.mono _ s393 f390) v385 [[(⟨#[49]⟩ : zAd), (⟨#[48]⟩ : zAd)], [(⟨#[48]⟩ : zAd), (⟨#[49]⟩ : zAd)]] f394 O' _ i396)) ?_
 rintro v404 H405 ⟨G398, O399, s400, sm403, rfl⟩
 replace O399 : Ow G398 H405 (eSl v238 28 (rI .i64) [x17.2, x53.2, x100.2, x130.2, x143.2, x190.2, x220.2] :: eSl w228 45 (rSl rS) x220.1 :: eSl w198 45 (rSl rS) x190.1 :: L) := O399
 refine W.q4 (.bool x395) gv365 rfl (W.q2 (.bool x395) rfl (W.splitAt (t := 92) (b := x395) rfl (fun g406 gv407 => ?_) (fun g406 gv407 => ?_)))
 rotate_left
 .have h525 := z0h g406 h397
  refine W.q6 rfl gv407 (W.q6 rfl gv407 (W.q6 rfl gv407 (W.q5 (.bool false) gv407 rfl (W.q2 (.bool false) rfl (W.q6 rfl rfl (W.q6 rfl rfl ?_))))))
  refine W.q6 rfl rfl (W.q5 (.bool false) rfl rfl (W.q2 (.bool false) rfl (W.q6 rfl rfl (W.q6 rfl rfl (W.q6 rfl rfl (W.q6 rfl rfl ?_))))))
  refine W.q5 (.bool false) rfl rfl (W.q2 (.bool false) rfl (W.q6 rfl rfl (W.q6 rfl rfl (W.q6 rfl rfl (W.q6 rfl rfl (W.q6 rfl rfl ?_))))))
  refine W.q5 (.bool false) rfl rfl (W.q2 (.bool false) rfl (W.q6 rfl rfl (W.q6 rfl rfl (W.q6 rfl rfl (W.q5 (.bool false) rfl rfl (W.q1 (.bool false) rfl ?_))))))
  refine .nil ?_
  obtain ⟨G526, O527, s528, f529⟩ := O399.frzSl (j := 1) rfl
  replace O527 : Ow G526 H405 (eSl v238 28 (rI .i64) [x17.2, x53.2, x100.2, x130.2, x143.2, x190.2, x220.2] :: eSl w198 45 (rSl rS) x190.1 :: L) := O527
  obtain ⟨G530, O531, s532, f533⟩ := O527.frzSl (j := 1) rfl
  replace O531 : Ow G530 H405 (eSl v238 28 (rI .i64) [x17.2, x53.2, x100.2, x130.2, x143.2, x190.2, x220.2] :: L) := O531
  have O534 : Ow G530 H405 (L) := O531.drop 0
  obtain rfl := zAa h525
  exact ⟨false, _, rfl, O534, (zAe s245 (zAe s263 (zAe s267 (zAe s274 (zAe s294 (zAe s298 (zAe s305 (zAe s309 (zAe s316 (zAe s336 (zAe s340 (zAe s347 (zAe s351 (zAe s358 (zAe s378 (zAe s382 (zAe s389 (zAe s393 (zAe s400 (zAe s528 s532)))))))))))))))))))), rfl⟩
 have h408 := z04 g406 h397
 refine W.q2 (hg := gk rfl rfl gv407 rfl) w198 rfl (W.q2 (hg := gk rfl rfl gv407 rfl) w228 rfl ?_)
 obtain ⟨G409, O410, s411, f412⟩ := O399.frzSl (j := 2) rfl
 replace O410 : Ow G409 H405 (eSl v238 28 (rI .i64) [x17.2, x53.2, x100.2, x130.2, x143.2, x190.2, x220.2] :: eSl w228 45 (rSl rS) x220.1 :: L) := O410
 obtain ⟨G413, O414, s415, f416⟩ := O410.frzSl (j := 1) rfl
 replace O414 : Ow G413 H405 (eSl v238 28 (rI .i64) [x17.2, x53.2, x100.2, x130.2, x143.2, x190.2, x220.2] :: L) := O414
 obtain ⟨x417, i418, h419⟩ := z00 h408
 refine W.lo (gk rfl rfl gv407 rfl) rfl (Lo.callP (ps := []) (ps' := []) rfl (fn := Tryz.f77) (by kernel_rfl) rfl (mc rfl (mc rfl mn)) O414 (fun L' O' => z3q K w198 x190.1 (RT.mono _ s415 f412) w228 x220.1 f416 O' _ i418)) ?_
 rintro v426 H427 ⟨G420, O421, s422, sm425, rfl⟩
 replace O421 : Ow G420 H427 (eSl v238 28 (rI .i64) [x17.2, x53.2, x100.2, x130.2, x143.2, x190.2, x220.2] :: L) := O421
 refine W.q4 (.bool x417) gv407 rfl (W.q2 (.bool x417) rfl (W.splitAt (t := 97) (b := x417) rfl (fun g428 gv429 => ?_) (fun g428 gv429 => ?_)))
 rotate_left
 .have h523 := z0h g428 h419
  refine W.q6 rfl gv429 (W.q6 rfl gv429 (W.q6 rfl gv429 (W.q5 (.bool false) gv429 rfl (W.q2 (.bool false) rfl (W.q6 rfl rfl (W.q6 rfl rfl ?_))))))
  refine W.q6 rfl rfl (W.q6 rfl rfl (W.q5 (.bool false) rfl rfl (W.q2 (.bool false) rfl (W.q6 rfl rfl (W.q6 rfl rfl (W.q6 rfl rfl ?_))))))
  refine W.q6 rfl rfl (W.q6 rfl rfl (W.q5 (.bool false) rfl rfl (W.q2 (.bool false) rfl (W.q6 rfl rfl (W.q6 rfl rfl (W.q6 rfl rfl ?_))))))
  refine W.q5 (.bool false) rfl rfl (W.q1 (.bool false) rfl (.nil ?_))
  have O524 : Ow G420 H427 (L) := O421.drop 0
  obtain rfl := zAa h523
  exact ⟨false, _, rfl, O524, (zAe s245 (zAe s263 (zAe s267 (zAe s274 (zAe s294 (zAe s298 (zAe s305 (zAe s309 (zAe s316 (zAe s336 (zAe s340 (zAe s347 (zAe s351 (zAe s358 (zAe s378 (zAe s382 (zAe s389 (zAe s393 (zAe s400 (zAe s411 (zAe s415 s422))))))))))))))))))))), rfl⟩
 have h430 := z04 g428 h419
 refine W.q2 (hg := gk rfl rfl gv429 rfl) w198 rfl (W.pure (v := (.int .i64 (List.length x190.1 : Int))) (gk rfl rfl gv429 rfl) rfl (z0i (oo rfl rfl) (z0d (RT.mono _ (zAe s415 s422) f412)) (z03 el44)) (W.q3 (hg := gk rfl rfl gv429 rfl) (.bool ((List.length x190.1 : Int) == 2)) rfl rfl (W.q4 (.bool ((List.length x190.1 : Int) == 2)) gv429 rfl (W.q2 (.bool ((List.length x190.1 : Int) == 2)) rfl (W.splitAt (t := 102) (b := ((List.length x190.1 : Int) == 2)) rfl (fun g431 gv432 => ?_) (fun g431 gv432 => ?_))))))
 rotate_left
 .have h521 := z0h g431 h430
  refine W.q6 rfl gv432 (W.q6 rfl gv432 (W.q6 rfl gv432 (W.q6 rfl gv432 (W.q5 (.bool false) gv432 rfl (W.q2 (.bool false) rfl (W.q6 rfl rfl ?_))))))
  refine W.q6 rfl rfl (W.q6 rfl rfl (W.q6 rfl rfl (W.q6 rfl rfl (W.q5 (.bool false) rfl rfl (W.q2 (.bool false) rfl (W.q6 rfl rfl ?_))))))
  refine W.q6 rfl rfl (W.q6 rfl rfl (W.q5 (.bool false) rfl rfl (W.q1 (.bool false) rfl (.nil ?_))))
  have O522 : Ow G420 H427 (L) := O421.drop 0
  obtain rfl := zAa h521
  exact ⟨false, _, rfl, O522, (zAe s245 (zAe s263 (zAe s267 (zAe s274 (zAe s294 (zAe s298 (zAe s305 (zAe s309 (zAe s316 (zAe s336 (zAe s340 (zAe s347 (zAe s351 (zAe s358 (zAe s378 (zAe s382 (zAe s389 (zAe s393 (zAe s400 (zAe s411 (zAe s415 s422))))))))))))))))))))), rfl⟩
 have h433 := z04 g431 h430
 refine W.q2 (hg := gk rfl rfl gv432 rfl) w198 rfl ?_
 obtain ⟨x434, i435, h436⟩ := z00 h433
 refine W.lo (gk rfl rfl gv432 rfl) rfl (Lo.callPF (ps := []) (pw := fun w => [eSl w 45 (rSl rS) x434]) rfl (fn := Tryz.f76) (by kernel_rfl) rfl mn O421 (fun L' O' => z31 K  O' _ i435)) ?_
 rintro v445 H446 ⟨w442, G437, O438, s439, sm444, rfl⟩
 replace O438 : Ow G437 H446 (eSl w442 45 (rSl rS) x434 :: eSl v238 28 (rI .i64) [x17.2, x53.2, x100.2, x130.2, x143.2, x190.2, x220.2] :: L) := O438
 obtain ⟨x447, i448, h449⟩ := z00 h436
 refine W.lo (gk rfl rfl gv432 rfl) rfl (Lo.callB (j := 0) rfl rfl (fn := Tryz.f77) (by kernel_rfl) rfl (mc rfl (mc rfl mn)) O438 (fun G' L' hG O' hB => z3q K w198 x190.1 (RT.mono _ hG (RT.mono _ (zAe s415 (zAe s422 s439)) f412)) w442 x434 hB O' _ i448)) ?_
 rintro v456 H457 ⟨G450, O451, s452, sm455, rfl⟩
 replace O451 : Ow G450 H457 (eSl w442 45 (rSl rS) x434 :: eSl v238 28 (rI .i64) [x17.2, x53.2, x100.2, x130.2, x143.2, x190.2, x220.2] :: L) := O451
 refine W.pure (v := (.bool (!x447))) (gk rfl rfl gv432 rfl) rfl (zb6 (a := x447) (oo rfl rfl)) (W.q4 (.bool (!x447)) gv432 rfl (W.q2 (.bool (!x447)) rfl (W.splitAt (t := 108) (b := (!x447)) rfl (fun g458 gv459 => ?_) (fun g458 gv459 => ?_))))
 rotate_left
 .have h518 := z0h g458 h449
  refine W.q6 rfl gv459 (W.q6 rfl gv459 (W.q6 rfl gv459 (W.q6 rfl gv459 (W.q6 rfl gv459 (W.q5 (.bool false) gv459 rfl (W.q2 (.bool false) rfl ?_))))))
  refine W.q6 rfl rfl (W.q6 rfl rfl (W.q6 rfl rfl (W.q5 (.bool false) rfl rfl (W.q1 (.bool false) rfl (.nil ?_)))))
  have O519 : Ow G450 H457 (eSl v238 28 (rI .i64) [x17.2, x53.2, x100.2, x130.2, x143.2, x190.2, x220.2] :: L) := O451.drop 0
  have O520 : Ow G450 H457 (L) := O519.drop 0
  obtain rfl := zAa h518
  exact ⟨false, _, rfl, O520, (zAe s245 (zAe s263 (zAe s267 (zAe s274 (zAe s294 (zAe s298 (zAe s305 (zAe s309 (zAe s316 (zAe s336 (zAe s340 (zAe s347 (zAe s351 (zAe s358 (zAe s378 (zAe s382 (zAe s389 (zAe s393 (zAe s400 (zAe s411 (zAe s415 (zAe s422 (zAe s439 s452))))))))))))))))))))))), rfl⟩
 have h460 := z04 g458 h449
 refine W.lo (gk rfl rfl gv459 rfl) rfl (Lo.buildSlice (r := rS) (vs := [(.string (⟨#[49]⟩ : zAd))]) (xs := [(⟨#[49]⟩ : zAd)]) el45 ze22 sz22 (by kernel_rfl) rfl (qc rfl qn) rfl (.cons rfl .nil) O451) ?_
 rintro v463 H464 ⟨O461, sm462⟩
 refine W.lo (gk rfl rfl gv459 rfl) rfl (Lo.buildSlice (r := rS) (vs := []) (xs := []) el45 ze22 sz22 (by kernel_rfl) rfl qn rfl .nil O461) ?_
 rintro v467 H468 ⟨O465, sm466⟩
 obtain ⟨G470, O471, s472, f473⟩ := O465.frzSl (j := 1) rfl
 replace O471 : Ow G470 H468 (eSl v467 22 rS [] :: eSl w442 45 (rSl rS) x434 :: eSl v238 28 (rI .i64) [x17.2, x53.2, x100.2, x130.2, x143.2, x190.2, x220.2] :: L) := O471
 obtain ⟨G474, O475, s476, f477⟩ := O471.frzSl (j := 0) rfl
 replace O475 : Ow G474 H468 (eSl w442 45 (rSl rS) x434 :: eSl v238 28 (rI .i64) [x17.2, x53.2, x100.2, x130.2, x143.2, x190.2, x220.2] :: L) := O475
 refine W.lo (gk rfl rfl gv459 rfl) rfl (Lo.buildSlice (r := (rSl rS)) (vs := [v463, v467]) (xs := [[(⟨#[49]⟩ : zAd)], []]) el44 ze45 sz45 (by kernel_rfl) rfl (qc rfl (qc rfl qn)) rfl (.cons (z2h (RT.mono _ s476 f473)) (.cons (z2h f477) .nil)) O475) ?_
 rintro v479 H480 ⟨O469, sm478⟩
 obtain ⟨x481, i482, h483⟩ := z00 h460
 refine W.lo (gk rfl rfl gv459 rfl) rfl (Lo.callB (j := 0) rfl rfl (fn := Tryz.f78) (by kernel_rfl) rfl (mc rfl mn) O469 (fun G' L' hG O' hB => z1i K v479 [[(⟨#[49]⟩ : zAd)], []] hB O' _ i482)) ?_
 rintro v490 H491 ⟨G484, O485, s486, sm489, rfl⟩
 replace O485 : Ow G484 H491 (eSl v479 45 (rSl rS) [[(⟨#[49]⟩ : zAd)], []] :: eSl w442 45 (rSl rS) x434 :: eSl v238 28 (rI .i64) [x17.2, x53.2, x100.2, x130.2, x143.2, x190.2, x220.2] :: L) := O485
 refine W.q3 (hg := gk rfl rfl gv459 rfl) (.bool (x481 == 3)) rfl rfl (W.q4 (.bool (x481 == 3)) gv459 rfl (W.q2 (.bool (x481 == 3)) rfl (W.splitAt (t := 115) (b := (x481 == 3)) rfl (fun g492 gv493 => ?_) (fun g492 gv493 => ?_))))
 rotate_left
 .have h514 := z0h g492 h483
  refine W.q6 rfl gv493 (W.q6 rfl gv493 (W.q6 rfl gv493 (W.q5 (.bool false) gv493 rfl (W.q1 (.bool false) rfl (.nil ?_)))))
  have O515 : Ow G484 H491 (eSl w442 45 (rSl rS) x434 :: eSl v238 28 (rI .i64) [x17.2, x53.2, x100.2, x130.2, x143.2, x190.2, x220.2] :: L) := O485.drop 0
  have O516 : Ow G484 H491 (eSl v238 28 (rI .i64) [x17.2, x53.2, x100.2, x130.2, x143.2, x190.2, x220.2] :: L) := O515.drop 0
  have O517 : Ow G484 H491 (L) := O516.drop 0
  obtain rfl := zAa h514
  exact ⟨false, _, rfl, O517, (zAe s245 (zAe s263 (zAe s267 (zAe s274 (zAe s294 (zAe s298 (zAe s305 (zAe s309 (zAe s316 (zAe s336 (zAe s340 (zAe s347 (zAe s351 (zAe s358 (zAe s378 (zAe s382 (zAe s389 (zAe s393 (zAe s400 (zAe s411 (zAe s415 (zAe s422 (zAe s439 (zAe s452 (zAe s472 (zAe s476 s486)))))))))))))))))))))))))), rfl⟩
 have h494 := z04 g492 h483
 refine W.lo (gk rfl rfl gv493 rfl) rfl (Lo.buildSlice (r := rS) (vs := [(.string (⟨#[]⟩ : zAd))]) (xs := [(⟨#[]⟩ : zAd)]) el45 ze22 sz22 (by kernel_rfl) rfl (qc rfl qn) rfl (.cons rfl .nil) O485) ?_
 rintro v497 H498 ⟨O495, sm496⟩
 obtain ⟨x499, i500, h501⟩ := z00 h494
 refine W.lo (gk rfl rfl gv493 rfl) rfl (Lo.callB (j := 0) rfl rfl (fn := Tryz.f79) (by kernel_rfl) rfl (mc rfl mn) O495 (fun G' L' hG O' hB => z2c K v497 [(⟨#[]⟩ : zAd)] hB O' _ i500)) ?_
 rintro v508 H509 ⟨G502, O503, s504, sm507, rfl⟩
 replace O503 : Ow G502 H509 (eSl v497 22 rS [(⟨#[]⟩ : zAd)] :: eSl v479 45 (rSl rS) [[(⟨#[49]⟩ : zAd)], []] :: eSl w442 45 (rSl rS) x434 :: eSl v238 28 (rI .i64) [x17.2, x53.2, x100.2, x130.2, x143.2, x190.2, x220.2] :: L) := O503
 refine W.q3 (hg := gk rfl rfl gv493 rfl) (.bool (x499 == 5)) rfl rfl (W.q4 (.bool (x499 == 5)) gv493 rfl (W.q1 (.bool (x499 == 5)) rfl (.nil ?_)))
 have O510 : Ow G502 H509 (eSl v479 45 (rSl rS) [[(⟨#[49]⟩ : zAd)], []] :: eSl w442 45 (rSl rS) x434 :: eSl v238 28 (rI .i64) [x17.2, x53.2, x100.2, x130.2, x143.2, x190.2, x220.2] :: L) := O503.drop 0
 have O511 : Ow G502 H509 (eSl w442 45 (rSl rS) x434 :: eSl v238 28 (rI .i64) [x17.2, x53.2, x100.2, x130.2, x143.2, x190.2, x220.2] :: L) := O510.drop 0
 have O512 : Ow G502 H509 (eSl v238 28 (rI .i64) [x17.2, x53.2, x100.2, x130.2, x143.2, x190.2, x220.2] :: L) := O511.drop 0
 have O513 : Ow G502 H509 (L) := O512.drop 0
 obtain rfl := zAa h501
 exact ⟨(x499 == 5), _, rfl, O513, (zAe s245 (zAe s263 (zAe s267 (zAe s274 (zAe s294 (zAe s298 (zAe s305 (zAe s309 (zAe s316 (zAe s336 (zAe s340 (zAe s347 (zAe s351 (zAe s358 (zAe s378 (zAe s382 (zAe s389 (zAe s393 (zAe s400 (zAe s411 (zAe s415 (zAe s422 (zAe s439 (zAe s452 (zAe s472 (zAe s476 (zAe s486 s504))))))))))))))))))))))))))), rfl⟩
def z11 (K : Nat) (p0 : zAd) : Nat -> Int -> Option (Int ⊕ Unit)
  | 0, _ => none
  | k + 1, x8 => (if (decide (x8 < (p0.size : Int))) = true then (Option.bind (((bidx p0 x8).bind fun x22 => (if (decide (x22 < 48)) = true then some true else ((bidx p0 x8).bind fun x29 => some (decide (x29 > 57)))))) (tu1 fun x32 => (if x32 = true then some (.inl 5) else z11 K p0 k (z02 .i64 (x8 + 1))))) else some (.inr ()))
def z57 (K : Nat) (p0 : zAd) : Option Int := (if ((p0.size : Int) == 0) = true then some 5 else (zb9 (z11 K p0 K 0) (tu1 fun a81 => some a81) (tu0 (Option.bind ((if (decide ((p0.size : Int) > 1)) = true then ((bidx p0 0).bind fun x61 => some (x61 == 48)) else some false)) (tu1 fun x65 => (if x65 = true then some 5 else (if (decide ((p0.size : Int) > 2000)) = true then some 2 else some 0)))))))
set_option maxHeartbeats 4000000 in
theorem z8w (p0 : zAd) (O : Ow G H (L)) (r : Int) (h : z57 K p0 = some r) :
    CR Tryz.prog 59 [(.string p0)] G H (L) (fun v G' _ => v = .int .i64 r) := by
 unfold z57 at h
 refine CR.of (z06 (n := 34) (fn := Tryz.f59) (R := fun v H' => ∃ G', Ow G' H' (L) /\ G.le G' /\ v = .int .i64 r) (by kernel_rfl) rfl rfl ?_)
 refine .seq (.region (W.q1 (.int .i64 0) rfl (.nil (.seq (.seq (.region ?_))))))
 refine W.q2 (.string p0) rfl (W.pure (v := (.int .i64 (p0.size : Int))) rfl rfl (z1h (oo rfl rfl) un9) (W.q3 (.bool ((p0.size : Int) == 0)) rfl rfl (.nil (.cond (b := ((p0.size : Int) == 0)) rfl rfl (fun g1 => ?_) (fun g1 => ?_)))))
 .have h2 := z04 g1 h
  refine .seq (.region (W.q1 (.int .i64 5) rfl (.nil (.ret ?_))))
  obtain rfl := zAa h2
  refine z1a (P := Tryz.prog) (fn := Tryz.f59) (n := 34) (R := fun v H' => ∃ G', Ow G' H' (L) /\ G.le G' /\ v = .int .i64 5) (v1 := (.int .i64 5)) (by rfl) (z08 (by rfl) (by exact rfl)) ?_
  exact ⟨_, O, (zAf _), rfl⟩
 have h3 := z0h g1 h
 refine .skip (.seq (.seq (.region (W.q1 (.int .i64 0) rfl (.nil ?_)))))
 obtain ⟨q4, h5, h6⟩ := z2s h3
 refine AW.midT (fun σ' H' => ∃  (G' : GM), (.inr ()) = q4 /\ Ow G' H' (L) /\ GM.le G G') ?_ ?_
 rotate_left
 .rintro σ47 H48 fr49 ⟨G50, rfl, O51, s52⟩
  have h54 := z6q (z8o h6)
  refine .seq (.seq ?_)
  obtain ⟨q55, h56, h57⟩ := z00 h54
  refine AW.midT (fun σ' H' => ∃ (y1 : Bool) (G' : GM), y1 = q55 /\ Ow G' H' (L) /\ GM.le G50 G' /\ σ' 30 = .bool y1) ?_ ?_
  .refine .region (W.q2 (.string p0) ((fr49 0 rfl).trans rfl) (W.pure (v := (.int .i64 (p0.size : Int))) rfl rfl (z1h (oo rfl rfl) un9) (W.q3 (.bool (decide ((p0.size : Int) > 1))) rfl rfl (W.q2 (.bool (decide ((p0.size : Int) > 1))) rfl (W.splitAt (t := 26) (b := decide ((p0.size : Int) > 1)) rfl (fun g58 gv59 => ?_) (fun g58 gv59 => ?_))))))
   rotate_left
   .have h64 := z0h g58 h56
    refine W.q6 rfl gv59 (W.q6 rfl gv59 (W.q6 rfl gv59 (W.q5 (.bool false) gv59 rfl (.nil ?_))))
    obtain rfl := zAa h64
    exact ⟨false, _, rfl, O51, (zAf _), rfl⟩
   have h60 := z04 g58 h56
   refine W.q2 (hg := gk rfl rfl gv59 rfl) (.string p0) ((fr49 0 rfl).trans rfl) ?_
   obtain ⟨x61, i62, h63⟩ := z00 h60
   refine W.pure (v := (.int .u8 x61)) (gk rfl rfl gv59 rfl) rfl (z9g un9 (oo rfl rfl) (oo rfl rfl) i62) (W.q3 (hg := gk rfl rfl gv59 rfl) (.bool (x61 == 48)) rfl rfl (W.q4 (.bool (x61 == 48)) gv59 rfl (.nil ?_)))
   obtain rfl := zAa h63
   exact ⟨(x61 == 48), _, rfl, O51, (zAf _), rfl⟩
  rintro σ66 H67 fr68 ⟨x65, G69, rfl, O70, s71, t73⟩
  have h74 := z0c h57
  refine .cond (b := x65) rfl t73 (fun g75 => ?_) (fun g75 => ?_)
  .have h76 := z04 g75 h74
   refine .seq (.region (W.q1 (.int .i64 5) rfl (.nil (.ret ?_))))
   obtain rfl := zAa h76
   refine z1a (P := Tryz.prog) (fn := Tryz.f59) (n := 34) (R := fun v H' => ∃ G', Ow G' H' (L) /\ G.le G' /\ v = .int .i64 5) (v1 := (.int .i64 5)) (by rfl) (z08 (by rfl) (by exact rfl)) ?_
   exact ⟨_, O70, (zAe s52 s71), rfl⟩
  have h77 := z0h g75 h74
  refine .skip (.seq (.seq (.region (W.q2 (.string p0) ((fr68 0 rfl).trans ((fr49 0 rfl).trans rfl)) (W.pure (v := (.int .i64 (p0.size : Int))) rfl rfl (z1h (oo rfl rfl) un9) (W.q3 (.bool (decide ((p0.size : Int) > 2000))) rfl rfl ?_))))))
  refine .nil (.cond (b := decide ((p0.size : Int) > 2000)) rfl rfl (fun g78 => ?_) (fun g78 => ?_))
  .have h79 := z04 g78 h77
   refine .seq (.region (W.q1 (.int .i64 2) rfl (.nil (.ret ?_))))
   obtain rfl := zAa h79
   refine z1a (P := Tryz.prog) (fn := Tryz.f59) (n := 34) (R := fun v H' => ∃ G', Ow G' H' (L) /\ G.le G' /\ v = .int .i64 2) (v1 := (.int .i64 2)) (by rfl) (z08 (by rfl) (by exact rfl)) ?_
   exact ⟨_, O70, (zAe s52 s71), rfl⟩
  have h80 := z0h g78 h77
  refine .skip (.seq (.region (W.q1 (.int .i64 0) rfl (.nil (.ret ?_)))))
  obtain rfl := zAa h80
  refine z1a (P := Tryz.prog) (fn := Tryz.f59) (n := 34) (R := fun v H' => ∃ G', Ow G' H' (L) /\ G.le G' /\ v = .int .i64 0) (v1 := (.int .i64 0)) (by rfl) (z08 (by rfl) (by exact rfl)) ?_
  exact ⟨_, O70, (zAe s52 s71), rfl⟩
 refine .block (AW.loop (α := Nat) (fun k' σ' H' => ∃ (y1 : Int) (G' : GM), z11 K p0 k' y1 = some q4 /\ Ow G' H' (L) /\ GM.le G G' /\ σ' 3 = .int .i64 y1) (fun k' => k') K ⟨0, _, h5, O, (zAf _), rfl⟩ ?_)
 rintro k7
 rintro σ9 H10 fr11 ⟨x8, G12, h15, O13, s14, t16⟩
 rcases k7 with _ | k7
 .exact z07 h15
 rw [z11] at h15
 refine .seq (.seq (.region (W.q2 (.int .i64 x8) t16 (W.q2 (.string p0) ((fr11 0 rfl).trans rfl) (W.pure (v := (.int .i64 (p0.size : Int))) rfl rfl (z1h (oo rfl rfl) un9) (W.q3 (.bool (decide (x8 < (p0.size : Int)))) rfl rfl ?_))))))
 refine .nil (.cond (b := decide (x8 < (p0.size : Int))) rfl rfl (fun g17 => ?_) (fun g17 => ?_))
 rotate_left
 .have h46 := z0h g17 h15
  refine .exit ?_
  obtain rfl := zAa h46
  exact ⟨_, rfl, O13, s14⟩
 have h18 := z04 g17 h15
 refine .skip (.seq (.block (.seq ?_)))
 obtain ⟨q19, h20, h21⟩ := z00 h18
 refine AW.midT (fun σ' H' => ∃ (y1 : Bool) (G' : GM), y1 = q19 /\ Ow G' H' (L) /\ GM.le G12 G' /\ σ' 22 = .bool y1) ?_ ?_
 rotate_left
 .rintro σ33 H34 fr35 ⟨x32, G36, rfl, O37, s38, t40⟩
  have h41 := z0c h21
  refine .cond (b := x32) rfl t40 (fun g42 => ?_) (fun g42 => ?_)
  rotate_left
  .have h45 := z0h g42 h41
   refine .skip (.region (W.q2 (.int .i64 x8) ((fr35 3 rfl).trans t16) (W.q3 (.int .i64 (z02 .i64 (x8 + 1))) rfl rfl (W.q1 (.int .i64 (z02 .i64 (x8 + 1))) rfl (.nil ?_)))))
   exact ⟨k7, zAg _, ⟨z02 .i64 (x8 + 1), _, h45, O37, (zAe s14 s38), rfl⟩⟩
  have h43 := z04 g42 h41
  refine .seq (.region (W.q1 (.int .i64 5) rfl (.nil (.ret ?_))))
  obtain rfl := zAa h43
  have h44 := z0c (z7f h6)
  obtain rfl := zAa h44
  refine z1a (P := Tryz.prog) (fn := Tryz.f59) (n := 34) (R := fun v H' => ∃ G', Ow G' H' (L) /\ G.le G' /\ v = .int .i64 5) (v1 := (.int .i64 5)) (by rfl) (z08 (by rfl) (by exact rfl)) ?_
  exact ⟨_, O37, (zAe s14 s38), rfl⟩
 refine .region (W.q2 (.string p0) ((fr11 0 rfl).trans rfl) (W.q2 (.int .i64 x8) t16 ?_))
 obtain ⟨x22, i23, h24⟩ := z00 h20
 refine W.pure (v := (.int .u8 x22)) rfl rfl (z9g un9 (oo rfl rfl) (oo rfl rfl) i23) (W.q3 (.bool (decide (x22 < 48))) rfl rfl (W.q2 (.bool (decide (x22 < 48))) rfl (W.splitAt (t := 17) (b := decide (x22 < 48)) rfl (fun g25 gv26 => ?_) (fun g25 gv26 => ?_))))
 .have h27 := z04 g25 h24
  refine W.q6 rfl gv26 (W.q6 rfl gv26 (W.q6 rfl gv26 (W.q6 rfl gv26 (W.q4 (.bool true) gv26 rfl (.nil ?_)))))
  obtain rfl := zAa h27
  exact ⟨true, _, rfl, O13, (zAf _), rfl⟩
 have h28 := z0h g25 h24
 refine W.q2 (hg := gk rfl rfl gv26 rfl) (.string p0) ((fr11 0 rfl).trans rfl) (W.q2 (hg := gk rfl rfl gv26 rfl) (.int .i64 x8) t16 ?_)
 obtain ⟨x29, i30, h31⟩ := z00 h28
 refine W.pure (v := (.int .u8 x29)) (gk rfl rfl gv26 rfl) rfl (z9g un9 (oo rfl rfl) (oo rfl rfl) i30) (W.q3 (hg := gk rfl rfl gv26 rfl) (.bool (decide (x29 > 57))) rfl rfl (W.q5 (.bool (decide (x29 > 57))) gv26 rfl (.nil ?_)))
 obtain rfl := zAa h31
 exact ⟨decide (x29 > 57), _, rfl, O13, (zAf _), rfl⟩
def z58 (K : Nat) : Nat -> zAd -> Option (zAd)
  | 0, _ => none
  | k + 1, x5 => (Option.bind ((if (decide ((x5.size : Int) > 1)) = true then ((bidx x5 0).bind fun x20 => some (x20 == 48)) else some false)) (tu1 fun x24 => (if x24 = true then ((ssl x5 1 (x5.size : Int)).bind fun x36 => z58 K k x36) else some x5)))
def z6t (K : Nat) (p0 : zAd) : Option zAd := (Option.bind (z58 K K p0) (tu1 fun x40 => some x40))
set_option maxHeartbeats 4000000 in
theorem z7m (p0 : zAd) (O : Ow G H (L)) (r : zAd) (h : z6t K p0 = some r) :
    CR Tryz.prog 162 [(.string p0)] G H (L) (fun v G' _ => v = .string r) := by
 unfold z6t at h
 refine CR.of (z06 (n := 14) (fn := Tryz.f162) (R := fun v H' => ∃ G', Ow G' H' (L) /\ G.le G' /\ v = .string r) (by kernel_rfl) rfl rfl ?_)
 refine .seq (.region (W.q1 (.string (⟨#[]⟩ : zAd)) rfl (.nil (.seq ?_))))
 obtain ⟨q1, h2, h3⟩ := z00 h
 refine AW.midT (fun σ' H' => ∃ (y1 : zAd) (G' : GM), y1 = q1 /\ Ow G' H' (L) /\ GM.le G G' /\ σ' 0 = .string y1) ?_ ?_
 rotate_left
 .rintro σ41 H42 fr43 ⟨x40, G44, rfl, O45, s46, t48⟩
  have h49 := z0c h3
  refine .seq (.region (W.q2 (.string x40) t48 (W.q1 (.string x40) rfl (.nil (.ret ?_)))))
  obtain rfl := zAa h49
  refine z1a (P := Tryz.prog) (fn := Tryz.f162) (n := 14) (R := fun v H' => ∃ G', Ow G' H' (L) /\ G.le G' /\ v = .string x40) (v1 := (.string x40)) (by rfl) (z08 (by rfl) (by exact rfl)) ?_
  exact ⟨_, O45, s46, rfl⟩
 refine .block (AW.loop (α := Nat) (fun k' σ' H' => ∃ (y1 : zAd) (G' : GM), z58 K k' y1 = some q1 /\ Ow G' H' (L) /\ GM.le G G' /\ σ' 0 = .string y1) (fun k' => k') K ⟨p0, _, h2, O, (zAf _), rfl⟩ ?_)
 rintro k4
 rintro σ6 H7 fr8 ⟨x5, G9, h12, O10, s11, t13⟩
 rcases k4 with _ | k4
 .exact z07 h12
 rw [z58] at h12
 refine .seq (.seq ?_)
 obtain ⟨q14, h15, h16⟩ := z00 h12
 refine AW.midT (fun σ' H' => ∃ (y1 : Bool) (G' : GM), y1 = q14 /\ Ow G' H' (L) /\ GM.le G9 G' /\ σ' 10 = .bool y1) ?_ ?_
 rotate_left
 .rintro σ25 H26 fr27 ⟨x24, G28, rfl, O29, s30, t32⟩
  have h33 := z0c h16
  refine .cond (b := x24) rfl t32 (fun g34 => ?_) (fun g34 => ?_)
  rotate_left
  .have h39 := z0h g34 h33
   refine .exit ?_
   obtain rfl := zAa h39
   exact ⟨x5, _, rfl, O29, (zAe s11 s30), ((fr27 0 rfl).trans t13)⟩
  have h35 := z04 g34 h33
  refine .skip (.block (.region (W.q2 (.string x5) ((fr27 0 rfl).trans t13) ?_)))
  obtain ⟨x36, i37, h38⟩ := z00 h35
  refine W.pure (v := (.string x36)) rfl rfl (zds un9 (oo rfl rfl) (oo rfl rfl) i37) (W.q1 (.string x36) rfl (.nil ?_))
  exact ⟨k4, zAg _, ⟨x36, _, h38, O29, (zAe s11 s30), rfl⟩⟩
 refine .region (W.q2 (.string x5) t13 (W.pure (v := (.int .i64 (x5.size : Int))) rfl rfl (z1h (oo rfl rfl) un9) (W.q3 (.bool (decide ((x5.size : Int) > 1))) rfl rfl (W.q2 (.bool (decide ((x5.size : Int) > 1))) rfl (W.splitAt (t := 6) (b := decide ((x5.size : Int) > 1)) rfl (fun g17 gv18 => ?_) (fun g17 gv18 => ?_))))))
 rotate_left
 .have h23 := z0h g17 h15
  refine W.q6 rfl gv18 (W.q6 rfl gv18 (W.q6 rfl gv18 (W.q5 (.bool false) gv18 rfl (.nil ?_))))
  obtain rfl := zAa h23
  exact ⟨false, _, rfl, O10, (zAf _), rfl⟩
 have h19 := z04 g17 h15
 refine W.q2 (hg := gk rfl rfl gv18 rfl) (.string x5) t13 ?_
 obtain ⟨x20, i21, h22⟩ := z00 h19
 refine W.pure (v := (.int .u8 x20)) (gk rfl rfl gv18 rfl) rfl (z9g un9 (oo rfl rfl) (oo rfl rfl) i21) (W.q3 (hg := gk rfl rfl gv18 rfl) (.bool (x20 == 48)) rfl rfl (W.q4 (.bool (x20 == 48)) gv18 rfl (.nil ?_)))
 obtain rfl := zAa h22
 exact ⟨(x20 == 48), _, rfl, O10, (zAf _), rfl⟩
def z78 (K : Nat) (p0 : zAd) (p1 : zAd) : Option Int := (if (decide ((p0.size : Int) < (p1.size : Int))) = true then some (-1) else (if (decide ((p0.size : Int) > (p1.size : Int))) = true then some 1 else (if (sLt p0 p1) = true then some (-1) else (if (!(sLt p0 p1 || sEq p0 p1)) = true then some 1 else some 0))))
set_option maxHeartbeats 4000000 in
theorem zaf (p0 : zAd) (p1 : zAd) (O : Ow G H (L)) (r : Int) (h : z78 K p0 p1 = some r) :
    CR Tryz.prog 97 [(.string p0), (.string p1)] G H (L) (fun v G' _ => v = .int .i64 r) := by
 unfold z78 at h
 refine CR.of (z06 (n := 25) (fn := Tryz.f97) (R := fun v H' => ∃ G', Ow G' H' (L) /\ G.le G' /\ v = .int .i64 r) (by kernel_rfl) rfl rfl ?_)
 refine .seq (.region (W.q1 (.int .i64 0) rfl (.nil (.seq (.block (.seq ?_))))))
 refine .region (W.q2 (.string p0) rfl (W.pure (v := (.int .i64 (p0.size : Int))) rfl rfl (z1h (oo rfl rfl) un9) (W.q2 (.string p1) rfl (W.pure (v := (.int .i64 (p1.size : Int))) rfl rfl (z1h (oo rfl rfl) un9) (W.q3 (.bool (decide ((p0.size : Int) < (p1.size : Int)))) rfl rfl (W.q1 (.bool (decide ((p0.size : Int) < (p1.size : Int)))) rfl ?_))))))
 refine .nil (.cond (b := decide ((p0.size : Int) < (p1.size : Int))) rfl rfl (fun g1 => ?_) (fun g1 => ?_))
 .have h2 := z04 g1 h
  refine .seq (.region (W.q1 (.int .i64 (-1)) rfl (.nil (.ret ?_))))
  obtain rfl := zAa h2
  refine z1a (P := Tryz.prog) (fn := Tryz.f97) (n := 25) (R := fun v H' => ∃ G', Ow G' H' (L) /\ G.le G' /\ v = .int .i64 (-1)) (v1 := (.int .i64 (-1))) (by rfl) (z08 (by rfl) (by exact rfl)) ?_
  exact ⟨_, O, (zAf _), rfl⟩
 have h3 := z0h g1 h
 refine .seq (.region (W.q2 (.string p0) rfl (W.pure (v := (.int .i64 (p0.size : Int))) rfl rfl (z1h (oo rfl rfl) un9) (W.q2 (.string p1) rfl (W.pure (v := (.int .i64 (p1.size : Int))) rfl rfl (z1h (oo rfl rfl) un9) (W.q3 (.bool (decide ((p0.size : Int) > (p1.size : Int)))) rfl rfl ?_))))))
 refine W.q1 (.bool (decide ((p0.size : Int) > (p1.size : Int)))) rfl (.nil (.cond (b := decide ((p0.size : Int) > (p1.size : Int))) rfl rfl (fun g4 => ?_) (fun g4 => ?_)))
 .have h5 := z04 g4 h3
  refine .seq (.region (W.q1 (.int .i64 1) rfl (.nil (.ret ?_))))
  obtain rfl := zAa h5
  refine z1a (P := Tryz.prog) (fn := Tryz.f97) (n := 25) (R := fun v H' => ∃ G', Ow G' H' (L) /\ G.le G' /\ v = .int .i64 1) (v1 := (.int .i64 1)) (by rfl) (z08 (by rfl) (by exact rfl)) ?_
  exact ⟨_, O, (zAf _), rfl⟩
 have h6 := z0h g4 h3
 refine .seq (.region (W.q2 (.string p0) rfl (W.q2 (.string p1) rfl (W.pure (v := (.bool (sLt p0 p1))) rfl rfl (znk (oo rfl rfl) (oo rfl rfl)) (W.q1 (.bool (sLt p0 p1)) rfl (.nil ?_))))))
 refine .cond (b := sLt p0 p1) rfl rfl (fun g7 => ?_) (fun g7 => ?_)
 .have h8 := z04 g7 h6
  refine .seq (.region (W.q1 (.int .i64 (-1)) rfl (.nil (.ret ?_))))
  obtain rfl := zAa h8
  refine z1a (P := Tryz.prog) (fn := Tryz.f97) (n := 25) (R := fun v H' => ∃ G', Ow G' H' (L) /\ G.le G' /\ v = .int .i64 (-1)) (v1 := (.int .i64 (-1))) (by rfl) (z08 (by rfl) (by exact rfl)) ?_
  exact ⟨_, O, (zAf _), rfl⟩
 have h9 := z0h g7 h6
 refine .seq (.region (W.q2 (.string p0) rfl (W.q2 (.string p1) rfl (W.pure (v := (.bool (!(sLt p0 p1 || sEq p0 p1)))) rfl rfl (znl (oo rfl rfl) (oo rfl rfl)) (W.q1 (.bool (!(sLt p0 p1 || sEq p0 p1))) rfl (.nil ?_))))))
 refine .cond (b := (!(sLt p0 p1 || sEq p0 p1))) rfl rfl (fun g10 => ?_) (fun g10 => ?_)
 .have h11 := z04 g10 h9
  refine .seq (.region (W.q1 (.int .i64 1) rfl (.nil (.ret ?_))))
  obtain rfl := zAa h11
  refine z1a (P := Tryz.prog) (fn := Tryz.f97) (n := 25) (R := fun v H' => ∃ G', Ow G' H' (L) /\ G.le G' /\ v = .int .i64 1) (v1 := (.int .i64 1)) (by rfl) (z08 (by rfl) (by exact rfl)) ?_
  exact ⟨_, O, (zAf _), rfl⟩
 have h12 := z0h g10 h9
 refine .skip (.seq (.region (W.q1 (.int .i64 0) rfl (.nil (.ret ?_)))))
 obtain rfl := zAa h12
 refine z1a (P := Tryz.prog) (fn := Tryz.f97) (n := 25) (R := fun v H' => ∃ G', Ow G' H' (L) /\ G.le G' /\ v = .int .i64 0) (v1 := (.int .i64 0)) (by rfl) (z08 (by rfl) (by exact rfl)) ?_
 exact ⟨_, O, (zAf _), rfl⟩
def z5l (K : Nat) (p0 : zAd) (p1 : Int) : Option Int := (if (decide (p1 < (p0.size : Int))) = true then ((bidx p0 (z02 .i64 ((z02 .i64 ((p0.size : Int) - 1)) - p1))).bind fun x3 => some (IntKind.wrap .i64 (z02 .u8 (x3 - 48)))) else some 0)
set_option maxHeartbeats 4000000 in
theorem z59 (p0 : zAd) (p1 : Int) (O : Ow G H (L)) (r : Int) (h : z5l K p0 p1 = some r) :
    CR Tryz.prog 149 [(.string p0), (.int .i64 p1)] G H (L) (fun v G' _ => v = .int .i64 r) := by
 unfold z5l at h
 refine CR.of (z06 (n := 18) (fn := Tryz.f149) (R := fun v H' => ∃ G', Ow G' H' (L) /\ G.le G' /\ v = .int .i64 r) (by kernel_rfl) rfl rfl ?_)
 refine .seq (.region (W.q1 (.int .i64 0) rfl (.nil (.seq (.seq (.region ?_))))))
 refine W.q2 (.int .i64 p1) rfl (W.q2 (.string p0) rfl (W.pure (v := (.int .i64 (p0.size : Int))) rfl rfl (z1h (oo rfl rfl) un9) (W.q3 (.bool (decide (p1 < (p0.size : Int)))) rfl rfl (.nil (.cond (b := decide (p1 < (p0.size : Int))) rfl rfl (fun g1 => ?_) (fun g1 => ?_))))))
 rotate_left
 .have h6 := z0h g1 h
  refine .skip (.seq (.region (W.q1 (.int .i64 0) rfl (.nil (.ret ?_)))))
  obtain rfl := zAa h6
  refine z1a (P := Tryz.prog) (fn := Tryz.f149) (n := 18) (R := fun v H' => ∃ G', Ow G' H' (L) /\ G.le G' /\ v = .int .i64 0) (v1 := (.int .i64 0)) (by rfl) (z08 (by rfl) (by exact rfl)) ?_
  exact ⟨_, O, (zAf _), rfl⟩
 have h2 := z04 g1 h
 refine .seq (.region (W.q2 (.string p0) rfl (W.q2 (.string p0) rfl (W.pure (v := (.int .i64 (p0.size : Int))) rfl rfl (z1h (oo rfl rfl) un9) (W.q3 (.int .i64 (z02 .i64 ((p0.size : Int) - 1))) rfl rfl (W.q2 (.int .i64 p1) rfl ?_))))))
 refine W.q3 (.int .i64 (z02 .i64 ((z02 .i64 ((p0.size : Int) - 1)) - p1))) rfl rfl ?_
 obtain ⟨x3, i4, h5⟩ := z00 h2
 refine W.pure (v := (.int .u8 x3)) rfl rfl (z9g un9 (oo rfl rfl) (oo rfl rfl) i4) (W.q3 (.int .u8 (z02 .u8 (x3 - 48))) rfl rfl (W.pure (v := (.int .i64 (IntKind.wrap .i64 (z02 .u8 (x3 - 48))))) rfl rfl (z42 in5 in3 (oo rfl rfl)) (W.q1 (.int .i64 (IntKind.wrap .i64 (z02 .u8 (x3 - 48)))) rfl (.nil (.ret ?_)))))
 obtain rfl := zAa h5
 refine z1a (P := Tryz.prog) (fn := Tryz.f149) (n := 18) (R := fun v H' => ∃ G', Ow G' H' (L) /\ G.le G' /\ v = .int .i64 (IntKind.wrap .i64 (z02 .u8 (x3 - 48)))) (v1 := (.int .i64 (IntKind.wrap .i64 (z02 .u8 (x3 - 48))))) (by rfl) (z08 (by rfl) (by exact rfl)) ?_
 exact ⟨_, O, (zAf _), rfl⟩
def z2y (K : Nat) (p0 : List Int) : Nat -> List Int -> Int -> Option (List Int)
  | 0, _, _ => none
  | k + 1, x11, x12 => (if (decide (x12 < (List.length p0 : Int))) = true then ((idx p0 x12).bind fun x23 => ((idx x11 (z02 .i64 ((z02 .i64 ((List.length p0 : Int) - 1)) - x12))).bind fun x27 => z2y K p0 k (List.set x11 (Int.toNat (z02 .i64 ((z02 .i64 ((List.length p0 : Int) - 1)) - x12))) (IntKind.wrap .u8 (z02 .i64 ((48 : Int) + x23)))) (z02 .i64 (x12 + 1)))) else some x11)
def z94 (K : Nat) (p0 : List Int) : Option zAd := (if 0 <= (List.length p0 : Int) /\ (List.length p0 : Int) <= (List.length p0 : Int) /\ (List.length p0 : Int) <= 16777216 then (Option.bind (z2y K p0 K (List.replicate (Int.toNat (List.length p0 : Int)) 0) 0) (tu1 fun x36 => (if 0 < List.length x36 then (if ((⟨#[48]⟩ : zAd)).size + ((strOfNums x36)).size <= 4611686018427387904 then ((z6t K ((⟨#[48]⟩ : zAd) ++ (strOfNums x36))).bind fun x52 => some x52) else none) else none))) else none)
set_option maxHeartbeats 4000000 in
theorem za9 (v0 : Value) (p0 : List Int) (hp0 : (rSl (rI .i64)).rep G [v0] p0) (O : Ow G H (L)) (r : zAd) (h : z94 K p0 = some r) :
    CR Tryz.prog 150 [v0] G H (L) (fun v G' _ => v = .string r) := by
 unfold z94 at h
 refine CR.of (z06 (n := 31) (fn := Tryz.f150) (R := fun v H' => ∃ G', Ow G' H' (L) /\ G.le G' /\ v = .string r) (by kernel_rfl) rfl rfl ?_)
 refine .seq (.region (W.q1 (.string (⟨#[]⟩ : zAd)) rfl (.nil (.seq (.region (W.q2 v0 rfl ?_))))))
 refine W.pure (v := (.int .i64 (List.length p0 : Int))) rfl rfl (z0i (oo rfl rfl) (z0d hp0) (z03 zcc)) ?_
 obtain ⟨g2, h3⟩ := z2b h
 refine W.lo rfl rfl (Lo.makeSlice (r := (rI .u8)) (x0 := 0) (a := (List.length p0 : Int)) (c := (List.length p0 : Int)) rfl zgc ze5 sz5 (by kernel_rfl) rfl by5 (by decide) rfl rfl g2 (zI .u8) O) ?_
 rintro v5 H6 ⟨O1, sm4⟩
 refine W.q1 v5 rfl (.nil (.seq (.seq (.region (W.q2 v0 rfl (W.pure (v := (.int .i64 (List.length p0 : Int))) rfl rfl (z0i (oo rfl rfl) (z0d hp0) (z03 zcc)) ?_))))))
 refine W.q2 (.int .i64 0) rfl (.nil ?_)
 obtain ⟨q7, h8, h9⟩ := z00 h3
 refine AW.midT (fun σ' H' => ∃ (y1 : List Int) (G' : GM), y1 = q7 /\ Ow G' H' (eSl v5 5 (rI .u8) y1 :: L) /\ GM.le G G') ?_ ?_
 rotate_left
 .rintro σ37 H38 fr39 ⟨x36, G40, rfl, O41, s42⟩
  have h44 := z0c h9
  refine .seq (.region (W.q2 v5 ((fr39 3 rfl).trans rfl) ?_))
  obtain ⟨es45, e46, e47⟩ := z44 (j := 0) rfl O41
  obtain ⟨g48, h49⟩ := z2b h44
  refine W.bytesStr rfl rfl zgc in5 un9 e46 e47 g48 ?_
  obtain ⟨g50, h51⟩ := z2b h49
  refine W.pure (v := (.string ((⟨#[48]⟩ : zAd) ++ (strOfNums x36)))) rfl rfl (zbu g50 (oo rfl rfl) (oo rfl rfl)) ?_
  obtain ⟨x52, i53, h54⟩ := z00 h51
  refine W.lo rfl rfl (Lo.callP (ps := []) (ps' := []) rfl (fn := Tryz.f162) (by kernel_rfl) rfl (mc rfl mn) O41 (fun L' O' => z7m K ((⟨#[48]⟩ : zAd) ++ (strOfNums x36)) O' _ i53)) ?_
  rintro v61 H62 ⟨G55, O56, s57, sm60, rfl⟩
  replace O56 : Ow G55 H62 (eSl v5 5 (rI .u8) x36 :: L) := O56
  refine W.q1 (.string x52) rfl (.nil (.ret ?_))
  have O63 : Ow G55 H62 (L) := O56.drop 0
  obtain rfl := zAa h54
  refine z1a (P := Tryz.prog) (fn := Tryz.f150) (n := 31) (R := fun v H' => ∃ G', Ow G' H' (L) /\ G.le G' /\ v = .string x52) (v1 := (.string x52)) (by rfl) (z08 (by rfl) (by exact rfl)) ?_
  exact ⟨_, O63, (zAe s42 s57), rfl⟩
 refine .block (AW.loop (α := Nat) (fun k' σ' H' => ∃ (y1 : List Int) (y2 : Int) (G' : GM), z2y K p0 k' y1 y2 = some q7 /\ Ow G' H' (eSl v5 5 (rI .u8) y1 :: L) /\ GM.le G G' /\ σ' 11 = .int .i64 y2) (fun k' => k') K ⟨(List.replicate (Int.toNat (List.length p0 : Int)) 0), 0, _, h8, O1, (zAf _), rfl⟩ ?_)
 rintro k10
 rintro σ13 H14 fr15 ⟨x11, x12, G16, h19, O17, s18, t20⟩
 rcases k10 with _ | k10
 .exact z07 h19
 rw [z2y] at h19
 refine .seq (.region (W.q3 (.bool (decide (x12 < (List.length p0 : Int)))) t20 ((fr15 10 rfl).trans rfl) (.nil (.seq (.cond (b := decide (x12 < (List.length p0 : Int))) rfl rfl (fun g21 => ?_) (fun g21 => ?_))))))
 rotate_left
 .have h35 := z0h g21 h19
  refine .exit ?_
  obtain rfl := zAa h35
  exact ⟨x11, _, rfl, O17, s18⟩
 have h22 := z04 g21 h19
 refine .skip (.seq (.block (.seq (.region (W.q2 (.int .i64 x12) t20 ?_)))))
 obtain ⟨x23, i24, h25⟩ := z00 h22
 have j26 := z0e i24
 refine W.pure (v := (z1y v0 (Int.toNat x12 * 1))) rfl rfl (z2g zcc sz3 (oo rfl ((fr15 9 rfl).trans rfl)) (oo rfl t20) (z0d (RT.mono _ s18 hp0)) j26.1 j26.2.1) (W.load1 (v := (.int .i64 x23)) (r := []) rfl rfl ag3 (z1g rfl (At.int (At.le (At.le (z1s hp0 j26.2.2) s18 s18) (zAf _) O17.fro))) (W.q1 (.int .i64 x12) rfl (W.q1 (.int .i64 x23) rfl (.nil (.region (W.q2 v5 ((fr15 3 rfl).trans rfl) ?_))))))
 refine W.q2 v0 ((fr15 0 rfl).trans rfl) (W.pure (v := (.int .i64 (List.length p0 : Int))) rfl rfl (z0i (oo rfl rfl) (z0d (RT.mono _ s18 hp0)) (z03 zcc)) (W.q3 (.int .i64 (z02 .i64 ((List.length p0 : Int) - 1))) rfl rfl (W.q2 (.int .i64 x12) rfl (W.q3 (.int .i64 (z02 .i64 ((z02 .i64 ((List.length p0 : Int) - 1)) - x12))) rfl rfl (W.q2 (.int .i64 x23) rfl (W.q3 (.int .i64 (z02 .i64 ((48 : Int) + x23))) rfl rfl ?_))))))
 refine W.pure (v := (.int .u8 (IntKind.wrap .u8 (z02 .i64 ((48 : Int) + x23))))) rfl rfl (z42 in3 in5 (oo rfl rfl)) ?_
 obtain ⟨x27, i28, h29⟩ := z00 h25
 have j30 := z0e i28
 refine W.pure (v := (z1y v5 (Int.toNat (z02 .i64 ((z02 .i64 ((List.length p0 : Int) - 1)) - x12)) * 1))) rfl rfl (z2g zgc sz5 (oo rfl rfl) (oo rfl rfl) (O17.slLen (j := 0) rfl) j30.1 j30.2.1) (W.lo rfl rfl (Lo.storeSl0 (j := 0) (y0 := IntKind.wrap .u8 (z02 .i64 ((48 : Int) + x23))) (v := (.int .u8 (IntKind.wrap .u8 (z02 .i64 ((48 : Int) + x23))))) rfl j30.2.2  rfl sz5 rfl rfl rfl O17) ?_)
 rintro v33 H34 ⟨O31, sm32⟩
 replace O31 : Ow G16 H34 (eSl v5 5 (rI .u8) (List.set x11 (Int.toNat (z02 .i64 ((z02 .i64 ((List.length p0 : Int) - 1)) - x12))) (IntKind.wrap .u8 (z02 .i64 ((48 : Int) + x23)))) :: L) := O31
 refine .nil (.region (W.q3 (.int .i64 (z02 .i64 (x12 + 1))) t20 rfl (W.q2 (.int .i64 (z02 .i64 (x12 + 1))) rfl (.nil ?_))))
 exact ⟨k10, zAg _, ⟨(List.set x11 (Int.toNat (z02 .i64 ((z02 .i64 ((List.length p0 : Int) - 1)) - x12))) (IntKind.wrap .u8 (z02 .i64 ((48 : Int) + x23)))), z02 .i64 (x12 + 1), _, h29, O31, s18, rfl⟩⟩
def z28 (K : Nat) (p0 : zAd) (p1 : zAd) : Nat -> List Int -> Int -> Int -> Option (List Int)
  | 0, _, _, _ => none
  | k + 1, x6, x7, x8 => (if (decide (x8 < (p0.size : Int))) = true then ((z5l K p0 x8).bind fun x20 => ((z5l K p1 x8).bind fun x31 => (Option.bind ((if (decide ((z02 .i64 ((z02 .i64 (x20 - x31)) - x7)) < 0)) = true then (lt (z02 .i64 ((z02 .i64 ((z02 .i64 (x20 - x31)) - x7)) + 10)) fun x47 => some (1, x47)) else some (0, z02 .i64 ((z02 .i64 (x20 - x31)) - x7)))) (tu2 fun x51 x52 => (if List.length x6 + List.length [x52] <= 16777216 then z28 K p0 p1 k (x6 ++ [x52]) x51 (z02 .i64 (x8 + 1)) else none))))) else some x6)
def z79 (K : Nat) (p0 : zAd) (p1 : zAd) : Option zAd := (Option.bind (z28 K p0 p1 K [] 0 0) (tu1 fun x78 => ((z94 K x78).bind fun x87 => some x87)))
set_option maxHeartbeats 4000000 in
theorem zag (p0 : zAd) (p1 : zAd) (O : Ow G H (L)) (r : zAd) (h : z79 K p0 p1 = some r) :
    CR Tryz.prog 98 [(.string p0), (.string p1)] G H (L) (fun v G' _ => v = .string r) := by
 unfold z79 at h
 refine CR.of (z06 (n := 34) (fn := Tryz.f98) (R := fun v H' => ∃ G', Ow G' H' (L) /\ G.le G' /\ v = .string r) (by kernel_rfl) rfl rfl ?_)
 refine .seq (.region (W.q1 (.string (⟨#[]⟩ : zAd)) rfl (.nil (.seq (.region (W.q1 (.slice none 0 0) rfl ?_))))))
 refine .nil (.seq (.region (W.q1 (.int .i64 0) rfl (.nil (.seq (.seq ?_))))))
 refine .region (W.q2 (.string p0) rfl (W.pure (v := (.int .i64 (p0.size : Int))) rfl rfl (z1h (oo rfl rfl) un9) (W.q2 (.int .i64 0) rfl (.nil ?_))))
 obtain ⟨q1, h2, h3⟩ := z00 h
 refine AW.midT (fun σ' H' => ∃ (y1 : List Int) (G' : GM), y1 = q1 /\ Ow G' H' (eSl (σ' 5) 3 (rI .i64) y1 :: L) /\ GM.le G G') ?_ ?_
 rotate_left
 .rintro σ79 H80 fr81 ⟨x78, G82, rfl, O83, s84⟩
  have h86 := z0c h3
  refine .seq (.region (W.q2 (σ79 5) rfl ?_))
  obtain ⟨x87, i88, h89⟩ := z00 h86
  refine W.lo rfl rfl (Lo.callB (j := 0) rfl rfl (fn := Tryz.f150) (by kernel_rfl) rfl (mc rfl mn) O83 (fun G' L' hG O' hB => za9 K (σ79 5) x78 hB O' _ i88)) ?_
  rintro v96 H97 ⟨G90, O91, s92, sm95, rfl⟩
  replace O91 : Ow G90 H97 (eSl (σ79 5) 3 (rI .i64) x78 :: L) := O91
  refine W.q1 (.string x87) rfl (.nil (.ret ?_))
  have O98 : Ow G90 H97 (L) := O91.drop 0
  obtain rfl := zAa h89
  refine z1a (P := Tryz.prog) (fn := Tryz.f98) (n := 34) (R := fun v H' => ∃ G', Ow G' H' (L) /\ G.le G' /\ v = .string x87) (v1 := (.string x87)) (by rfl) (z08 (by rfl) (by exact rfl)) ?_
  exact ⟨_, O98, (zAe s84 s92), rfl⟩
 refine .block ?_
 have O4 := O.nilSl 3 (rI .i64)
 refine AW.loop (α := Nat) (fun k' σ' H' => ∃ (y1 : List Int) (y2 : Int) (y3 : Int) (G' : GM), z28 K p0 p1 k' y1 y2 y3 = some q1 /\ Ow G' H' (eSl (σ' 5) 3 (rI .i64) y1 :: L) /\ GM.le G G' /\ σ' 6 = .int .i64 y2 /\ σ' 11 = .int .i64 y3) (fun k' => k') K ⟨[], 0, 0, _, h2, O4, (zAf _), rfl, rfl⟩ ?_
 rintro k5
 rintro σ9 H10 fr11 ⟨x6, x7, x8, G12, h15, O13, s14, t16, t17⟩
 rcases k5 with _ | k5
 .exact z07 h15
 rw [z28] at h15
 refine .seq (.region (W.q3 (.bool (decide (x8 < (p0.size : Int)))) t17 ((fr11 10 rfl).trans rfl) (.nil (.seq (.cond (b := decide (x8 < (p0.size : Int))) rfl rfl (fun g18 => ?_) (fun g18 => ?_))))))
 rotate_left
 .have h77 := z0h g18 h15
  refine .exit ?_
  obtain rfl := zAa h77
  exact ⟨x6, _, rfl, O13, s14⟩
 have h19 := z04 g18 h15
 refine .skip (.seq (.block (.seq (.region (W.q2 (.int .i64 x8) t17 (W.q1 (.int .i64 x8) rfl ?_))))))
 refine .nil (.seq (.region (W.q2 (.string p0) ((fr11 0 rfl).trans rfl) (W.q2 (.int .i64 x8) rfl ?_))))
 obtain ⟨x20, i21, h22⟩ := z00 h19
 refine W.lo rfl rfl (Lo.callP (ps := []) (ps' := []) rfl (fn := Tryz.f149) (by kernel_rfl) rfl (mc rfl (mc rfl mn)) O13 (fun L' O' => z59 K p0 x8 O' _ i21)) ?_
 rintro v29 H30 ⟨G23, O24, s25, sm28, rfl⟩
 replace O24 : Ow G23 H30 (eSl (σ9 5) 3 (rI .i64) x6 :: L) := O24
 refine W.q2 (.string p1) ((fr11 1 rfl).trans rfl) (W.q2 (.int .i64 x8) rfl ?_)
 obtain ⟨x31, i32, h33⟩ := z00 h22
 refine W.lo rfl rfl (Lo.callP (ps := []) (ps' := []) rfl (fn := Tryz.f149) (by kernel_rfl) rfl (mc rfl (mc rfl mn)) O24 (fun L' O' => z59 K p1 x8 O' _ i32)) ?_
 rintro v40 H41 ⟨G34, O35, s36, sm39, rfl⟩
 replace O35 : Ow G34 H41 (eSl (σ9 5) 3 (rI .i64) x6 :: L) := O35
 refine W.q3 (.int .i64 (z02 .i64 (x20 - x31))) rfl rfl (W.q2 (.int .i64 x7) t16 (W.q3 (.int .i64 (z02 .i64 ((z02 .i64 (x20 - x31)) - x7))) rfl rfl (W.q1 (.int .i64 (z02 .i64 ((z02 .i64 (x20 - x31)) - x7))) rfl (.nil (.seq (.region ?_))))))
 refine W.q1 (.int .i64 0) rfl (.nil (.seq (.seq (.region (W.q2 (.int .i64 (z02 .i64 ((z02 .i64 (x20 - x31)) - x7))) rfl (W.q3 (.bool (decide ((z02 .i64 ((z02 .i64 (x20 - x31)) - x7)) < 0))) rfl rfl ?_))))))
 refine .nil ?_
 obtain ⟨q42, h43, h44⟩ := z00 h33
 refine AW.midT (fun σ' H' => ∃ (y1 : Int) (y2 : Int) (G' : GM), (y1, y2) = q42 /\ Ow G' H' (eSl (σ9 5) 3 (rI .i64) x6 :: L) /\ GM.le G34 G' /\ σ' 6 = .int .i64 y1 /\ σ' 8 = .int .i64 y2) ?_ ?_
 .refine .cond (b := decide ((z02 .i64 ((z02 .i64 (x20 - x31)) - x7)) < 0)) rfl rfl (fun g45 => ?_) (fun g45 => ?_)
  rotate_left
  .have h50 := z0h g45 h43
   refine .skip ?_
   obtain rfl := zAa h50
   exact ⟨0, z02 .i64 ((z02 .i64 (x20 - x31)) - x7), _, rfl, O35, (zAf _), rfl, rfl⟩
  have h46 := z04 g45 h43
  refine .region (W.q2 (.int .i64 (z02 .i64 ((z02 .i64 (x20 - x31)) - x7))) rfl (W.q3 (.int .i64 (z02 .i64 ((z02 .i64 ((z02 .i64 (x20 - x31)) - x7)) + 10))) rfl rfl ?_))
  obtain ⟨x47, e48, h49⟩ := z6z h46
  refine W.q1 (.int .i64 x47) (congrArg (Value.int .i64) e48) (W.q1 (.int .i64 1) rfl (.nil ?_))
  obtain rfl := zAa h49
  exact ⟨1, x47, _, rfl, O35, (zAf _), rfl, rfl⟩
 rintro σ53 H54 fr55 ⟨x51, x52, G56, rfl, O57, s58, t60, t61⟩
 have h62 := z61 h44
 refine .region (W.q2 (σ9 5) ((fr55 5 rfl).trans rfl) (W.q2 (.int .i64 x52) t61 (W.lo rfl rfl (Lo.buildSlice (r := (rI .i64)) (vs := [(.int .i64 x52)]) (xs := [x52]) zcc ze3 sz3 (by kernel_rfl) rfl (qc rfl qn) rfl (.cons rfl .nil) O57) ?_)))
 rintro v65 H66 ⟨O63, sm64⟩
 obtain ⟨es68, e69, e70⟩ := z44 (j := 0) rfl O63
 obtain ⟨g71, h72⟩ := z2b h62
 refine W.lo rfl rfl (Lo.append (j := 1) (v := (σ9 5)) rfl rfl zcc zo2 ze3 sz3 by3 (by decide) (by decide) rfl e69 e70 g71 O63) ?_
 rintro v74 H75 ⟨O67, sm73⟩
 replace O67 : Ow G56 H75 (eSl v65 3 (rI .i64) [x52] :: eSl v74 3 (rI .i64) (x6 ++ [x52]) :: L) := O67
 refine W.q1 v74 rfl (.nil (.region (W.q3 (.int .i64 (z02 .i64 (x8 + 1))) ((fr55 11 rfl).trans t17) rfl (W.q2 (.int .i64 (z02 .i64 (x8 + 1))) rfl (.nil ?_)))))
 have O76 : Ow G56 H75 (eSl v74 3 (rI .i64) (x6 ++ [x52]) :: L) := O67.drop 0
 exact ⟨k5, zAg _, ⟨(x6 ++ [x52]), x51, z02 .i64 (x8 + 1), _, h72, O76, (zAe s14 (zAe s25 (zAe s36 s58))), t60, rfl⟩⟩
def z32 (K : Nat) (p1 : zAd) : Nat -> zAd -> Int -> Option (zAd × Int)
  | 0, _, _ => none
  | k + 1, x56, x57 => ((z78 K x56 p1).bind fun x67 => (if (decide (x67 >= 0)) = true then ((z79 K x56 p1).bind fun x80 => z32 K p1 k x80 (z02 .u8 (x57 + 1))) else some (x56, x57)))
def z33 (K : Nat) (p0 : zAd) (p1 : zAd) : Nat -> zAd -> zAd -> Int -> Option (zAd × zAd)
  | 0, _, _, _ => none
  | k + 1, x21, x22, x23 => (if (decide (x23 < (p0.size : Int))) = true then ((ssl p0 x23 (z02 .i64 (x23 + 1))).bind fun x36 => (if (x22).size + (x36).size <= 4611686018427387904 then ((z6t K (x22 ++ x36)).bind fun x41 => (Option.bind (z32 K p1 K x41 48) (tu2 fun x92 x93 => (if (x21).size + ((Utf8.encode x93)).size <= 4611686018427387904 then z33 K p0 p1 k (x21 ++ (Utf8.encode x93)) x92 (z02 .i64 (x23 + 1)) else none)))) else none)) else some (x21, x22))
def z6n (K : Nat) (p0 : zAd) (p1 : zAd) : Option (zAd × zAd) := ((ssl p0 0 (imin (p0.size : Int) (z02 .i64 ((p1.size : Int) - 1)))).bind fun x1 => (if ((⟨#[48]⟩ : zAd)).size + (x1).size <= 4611686018427387904 then ((z6t K ((⟨#[48]⟩ : zAd) ++ x1)).bind fun x6 => (Option.bind (z33 K p0 p1 K (⟨#[48]⟩ : zAd) x6 (imin (p0.size : Int) (z02 .i64 ((p1.size : Int) - 1)))) (tu2 fun x107 x108 => ((z6t K x107).bind fun x119 => some (x119, x108))))) else none))
set_option maxHeartbeats 4000000 in
theorem z89 (p0 : zAd) (p1 : zAd) (O : Ow G H (L)) (r : zAd × zAd) (h : z6n K p0 p1 = some r) :
    CR Tryz.prog 129 [(.string p0), (.string p1)] G H (L) (fun v G' _ => v = .tuple #[.string r.1, .string r.2]) := by
 unfold z6n at h
 refine CR.of (z06 (n := 53) (fn := Tryz.f129) (R := fun v H' => ∃ G', Ow G' H' (L) /\ G.le G' /\ v = .tuple #[.string r.1, .string r.2]) (by kernel_rfl) rfl rfl ?_)
 refine .seq (.region (W.q1 (.string (⟨#[]⟩ : zAd)) rfl (W.q1 (.string (⟨#[]⟩ : zAd)) rfl (.nil (.seq (.region ?_))))))
 refine W.q2 (.string p0) rfl (W.pure (v := (.int .i64 (p0.size : Int))) rfl rfl (z1h (oo rfl rfl) un9) (W.q2 (.string p1) rfl (W.pure (v := (.int .i64 (p1.size : Int))) rfl rfl (z1h (oo rfl rfl) un9) (W.q3 (.int .i64 (z02 .i64 ((p1.size : Int) - 1))) rfl rfl (W.pure (v := (.int .i64 (imin (p0.size : Int) (z02 .i64 ((p1.size : Int) - 1))))) rfl rfl (znj (oo rfl rfl) (oo rfl rfl)) (W.q1 (.int .i64 (imin (p0.size : Int) (z02 .i64 ((p1.size : Int) - 1)))) rfl ?_))))))
 refine .nil (.seq (.region (W.q2 (.string p0) rfl (W.q2 (.int .i64 (imin (p0.size : Int) (z02 .i64 ((p1.size : Int) - 1)))) rfl ?_))))
 obtain ⟨x1, i2, h3⟩ := z00 h
 refine W.pure (v := (.string x1)) rfl rfl (zhp un9 (oo rfl rfl) (oo rfl rfl) i2) ?_
 obtain ⟨g4, h5⟩ := z2b h3
 refine W.pure (v := (.string ((⟨#[48]⟩ : zAd) ++ x1))) rfl rfl (zbu g4 (oo rfl rfl) (oo rfl rfl)) ?_
 obtain ⟨x6, i7, h8⟩ := z00 h5
 refine W.lo rfl rfl (Lo.callP (ps := []) (ps' := []) rfl (fn := Tryz.f162) (by kernel_rfl) rfl (mc rfl mn) O (fun L' O' => z7m K ((⟨#[48]⟩ : zAd) ++ x1) O' _ i7)) ?_
 rintro v15 H16 ⟨G9, O10, s11, sm14, rfl⟩
 replace O10 : Ow G9 H16 (L) := O10
 refine W.q1 (.string (⟨#[48]⟩ : zAd)) rfl (W.q1 (.string x6) rfl (.nil (.seq (.seq (.region (W.q2 (.int .i64 (imin (p0.size : Int) (z02 .i64 ((p1.size : Int) - 1)))) rfl ?_))))))
 refine W.q1 (.int .i64 (imin (p0.size : Int) (z02 .i64 ((p1.size : Int) - 1)))) rfl (.nil ?_)
 obtain ⟨q17, h18, h19⟩ := z00 h8
 refine AW.midT (fun σ' H' => ∃ (y1 : zAd) (y2 : zAd) (G' : GM), (y1, y2) = q17 /\ Ow G' H' (L) /\ GM.le G9 G' /\ σ' 7 = .string y1 /\ σ' 8 = .string y2) ?_ ?_
 rotate_left
 .rintro σ109 H110 fr111 ⟨x107, x108, G112, rfl, O113, s114, t116, t117⟩
  have h118 := z61 h19
  refine .seq (.region (W.q2 (.string x107) t116 ?_))
  obtain ⟨x119, i120, h121⟩ := z00 h118
  refine W.lo rfl rfl (Lo.callP (ps := []) (ps' := []) rfl (fn := Tryz.f162) (by kernel_rfl) rfl (mc rfl mn) O113 (fun L' O' => z7m K x107 O' _ i120)) ?_
  rintro v128 H129 ⟨G122, O123, s124, sm127, rfl⟩
  replace O123 : Ow G122 H129 (L) := O123
  refine W.q2 (.string x108) t117 (W.q1 (.string x119) rfl (W.q1 (.string x108) rfl (.nil (.ret ?_))))
  obtain rfl := zAa h121
  refine z7x (P := Tryz.prog) (fn := Tryz.f129) (n := 53) (R := fun v H' => ∃ G', Ow G' H' (L) /\ G.le G' /\ v = .tuple #[.string (x119, x108).1, .string (x119, x108).2]) (v1 := (.string x119)) (v2 := (.string x108)) (by rfl) (z08 (by rfl) (by exact rfl)) (z08 (by rfl) (by exact rfl)) ?_
  exact ⟨_, O123, (zAe s11 (zAe s114 s124)), rfl⟩
 refine .block (AW.loop (α := Nat) (fun k' σ' H' => ∃ (y1 : zAd) (y2 : zAd) (y3 : Int) (G' : GM), z33 K p0 p1 k' y1 y2 y3 = some q17 /\ Ow G' H' (L) /\ GM.le G9 G' /\ σ' 7 = .string y1 /\ σ' 8 = .string y2 /\ σ' 9 = .int .i64 y3) (fun k' => k') K ⟨(⟨#[48]⟩ : zAd), x6, imin (p0.size : Int) (z02 .i64 ((p1.size : Int) - 1)), _, h18, O10, (zAf _), rfl, rfl, rfl⟩ ?_)
 rintro k20
 rintro σ24 H25 fr26 ⟨x21, x22, x23, G27, h30, O28, s29, t31, t32, t33⟩
 rcases k20 with _ | k20
 .exact z07 h30
 rw [z33] at h30
 refine .seq (.seq (.region (W.q2 (.int .i64 x23) t33 (W.q2 (.string p0) ((fr26 0 rfl).trans rfl) (W.pure (v := (.int .i64 (p0.size : Int))) rfl rfl (z1h (oo rfl rfl) un9) (W.q3 (.bool (decide (x23 < (p0.size : Int)))) rfl rfl ?_))))))
 refine .nil (.cond (b := decide (x23 < (p0.size : Int))) rfl rfl (fun g34 => ?_) (fun g34 => ?_))
 rotate_left
 .have h106 := z0h g34 h30
  refine .exit ?_
  obtain rfl := zAa h106
  exact ⟨x21, x22, _, rfl, O28, s29, t31, t32⟩
 have h35 := z04 g34 h30
 refine .skip (.seq (.block (.seq (.region (W.q2 (.string x22) t32 (W.q2 (.string p0) ((fr26 0 rfl).trans rfl) ?_))))))
 refine W.q2 (.int .i64 x23) t33 (W.q2 (.int .i64 x23) t33 (W.q3 (.int .i64 (z02 .i64 (x23 + 1))) rfl rfl ?_))
 obtain ⟨x36, i37, h38⟩ := z00 h35
 refine W.pure (v := (.string x36)) rfl rfl (zkl un9 (oo rfl rfl) (oo rfl rfl) (oo rfl rfl) i37) ?_
 obtain ⟨g39, h40⟩ := z2b h38
 refine W.pure (v := (.string (x22 ++ x36))) rfl rfl (zbu g39 (oo rfl rfl) (oo rfl rfl)) ?_
 obtain ⟨x41, i42, h43⟩ := z00 h40
 refine W.lo rfl rfl (Lo.callP (ps := []) (ps' := []) rfl (fn := Tryz.f162) (by kernel_rfl) rfl (mc rfl mn) O28 (fun L' O' => z7m K (x22 ++ x36) O' _ i42)) ?_
 rintro v50 H51 ⟨G44, O45, s46, sm49, rfl⟩
 replace O45 : Ow G44 H51 (L) := O45
 refine W.q1 (.string x41) rfl (.nil (.seq (.region (W.q1 (.int .u8 48) rfl (.nil (.seq ?_))))))
 obtain ⟨q52, h53, h54⟩ := z00 h43
 refine AW.midT (fun σ' H' => ∃ (y1 : zAd) (y2 : Int) (G' : GM), (y1, y2) = q52 /\ Ow G' H' (L) /\ GM.le G44 G' /\ σ' 8 = .string y1 /\ σ' 10 = .int .u8 y2) ?_ ?_
 rotate_left
 .rintro σ94 H95 fr96 ⟨x92, x93, G97, rfl, O98, s99, t101, t102⟩
  have h103 := z61 h54
  refine .region (W.q2 (.string x21) ((fr96 7 rfl).trans t31) (W.q2 (.int .u8 x93) t102 (W.pure (v := (.string (Utf8.encode x93))) rfl rfl (zla in5 un9 (oo rfl rfl)) ?_)))
  obtain ⟨g104, h105⟩ := z2b h103
  refine W.pure (v := (.string (x21 ++ (Utf8.encode x93)))) rfl rfl (zbu g104 (oo rfl rfl) (oo rfl rfl)) (W.q1 (.string (x21 ++ (Utf8.encode x93))) rfl (.nil (.region (W.q2 (.int .i64 x23) ((fr96 9 rfl).trans t33) (W.q3 (.int .i64 (z02 .i64 (x23 + 1))) rfl rfl (W.q1 (.int .i64 (z02 .i64 (x23 + 1))) rfl ?_))))))
  refine .nil ?_
  exact ⟨k20, zAg _, ⟨(x21 ++ (Utf8.encode x93)), x92, z02 .i64 (x23 + 1), _, h105, O98, (zAe s29 (zAe s46 s99)), rfl, t101, rfl⟩⟩
 refine .block (AW.loop (α := Nat) (fun k' σ' H' => ∃ (y1 : zAd) (y2 : Int) (G' : GM), z32 K p1 k' y1 y2 = some q52 /\ Ow G' H' (L) /\ GM.le G44 G' /\ σ' 8 = .string y1 /\ σ' 10 = .int .u8 y2) (fun k' => k') K ⟨x41, 48, _, h53, O45, (zAf _), rfl, rfl⟩ ?_)
 rintro k55
 rintro σ58 H59 fr60 ⟨x56, x57, G61, h64, O62, s63, t65, t66⟩
 rcases k55 with _ | k55
 .exact z07 h64
 rw [z32] at h64
 refine .seq (.seq (.region (W.q2 (.string x56) t65 (W.q2 (.string p1) ((fr60 1 rfl).trans ((fr26 1 rfl).trans rfl)) ?_))))
 obtain ⟨x67, i68, h69⟩ := z00 h64
 refine W.lo rfl rfl (Lo.callP (ps := []) (ps' := []) rfl (fn := Tryz.f97) (by kernel_rfl) rfl (mc rfl (mc rfl mn)) O62 (fun L' O' => zaf K x56 p1 O' _ i68)) ?_
 rintro v76 H77 ⟨G70, O71, s72, sm75, rfl⟩
 replace O71 : Ow G70 H77 (L) := O71
 refine W.q3 (.bool (decide (x67 >= 0))) rfl rfl (.nil (.cond (b := decide (x67 >= 0)) rfl rfl (fun g78 => ?_) (fun g78 => ?_)))
 rotate_left
 .have h91 := z0h g78 h69
  refine .exit ?_
  obtain rfl := zAa h91
  exact ⟨x56, x57, _, rfl, O71, (zAe s63 s72), t65, t66⟩
 have h79 := z04 g78 h69
 refine .skip (.block (.seq (.region (W.q2 (.string x56) t65 (W.q2 (.string p1) ((fr60 1 rfl).trans ((fr26 1 rfl).trans rfl)) ?_)))))
 obtain ⟨x80, i81, h82⟩ := z00 h79
 refine W.lo rfl rfl (Lo.callP (ps := []) (ps' := []) rfl (fn := Tryz.f98) (by kernel_rfl) rfl (mc rfl (mc rfl mn)) O71 (fun L' O' => zag K x56 p1 O' _ i81)) ?_
 rintro v89 H90 ⟨G83, O84, s85, sm88, rfl⟩
 replace O84 : Ow G83 H90 (L) := O84
 refine W.q1 (.string x80) rfl (.nil (.region (W.q2 (.int .u8 x57) t66 (W.q3 (.int .u8 (z02 .u8 (x57 + 1))) rfl rfl (W.q1 (.int .u8 (z02 .u8 (x57 + 1))) rfl (.nil ?_))))))
 exact ⟨k55, zAg _, ⟨x80, z02 .u8 (x57 + 1), _, h82, O84, (zAe s63 (zAe s72 s85)), rfl, rfl⟩⟩
end Go.Am.Tryz
