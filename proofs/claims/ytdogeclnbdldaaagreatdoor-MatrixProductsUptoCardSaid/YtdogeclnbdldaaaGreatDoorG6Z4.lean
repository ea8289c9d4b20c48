/- Typed functions with the same answers as the program's, and the walks that show it. -/
import Derived.Test.YtdogeclnbdldaaaGreatDoorG2Z4
import Derived.Test.YtdogeclnbdldaaaGreatDoorG5Z4
import Derived.Laws.Strings
set_option maxRecDepth 100000
set_option maxHeartbeats 8000000
set_option linter.unusedVariables false
set_option linter.unusedSimpArgs false
namespace Go.Am.Tryz
open Go Go.Am Go.Proofs
def z4e (K : Nat) (p0 : List (List zAd)) (p1 : Int) : Nat -> List zAd -> Int -> Option (List zAd)
  | 0, _, _ => none
  | k + 1, x6, x7 => (if (decide (x7 < (List.length p0 : Int))) = true then ((idx p0 x7).bind fun x18 => ((idx x18 p1).bind fun x25 => (if List.length x6 + List.length [x25] <= 16777216 then z4e K p0 p1 k (x6 ++ [x25]) (z04 .i64 (x7 + 1)) else none))) else some x6)
def z7t (K : Nat) (p0 : List (List zAd)) (p1 : Int) : Option (List zAd) := (Option.bind (z4e K p0 p1 K [] 0) (tu1 fun x44 => some x44))
theorem zb3 (K : Nat) {G : GM} {H : AH} {L : List Pc} (v0 : Value) (p0 : List (List zAd)) (hp0 : (rSl (rSl rS)).rep G [v0] p0) (p1 : Int) (O : Ow G H (L)) (r : List zAd) (h : z7t K p0 p1 = some r) :
    CRF Tryz.prog 35 [v0, (.int .i64 p1)] G H (fun w0 => (eSl w0 22 rS r :: L)) (fun w0 v G' => w0 = v) := by
 unfold z7t at h
 refine CRF.og (n := 23) (fn := Tryz.f35) (by kernel_rfl) rfl rfl fun R kr => (.seq (.region (W.q1 (.slice none 0 0) rfl (.nil (.seq (.region ?_))))))
 refine W.q1 (.slice none 0 0) rfl (.nil (.seq (.seq (.region (W.q2 v0 rfl (W.pure (v := (.int .i64 (List.length p0 : Int))) rfl rfl (z0g (oo rfl rfl) (z0b hp0) (z02 el44)) ?_))))))
 refine W.q2 (.int .i64 0) rfl (.nil ?_)
 obtain ⟨q1, h2, h3⟩ := z00 h
 refine AW.midT (fun σ' H' => ∃ (y1 : List zAd) (G' : GM), y1 = q1 /\ Ow G' H' (eSl (σ' 5) 22 rS y1 :: L) /\ GM.le G G') ?_ ?_
 rotate_left
 .rintro σ45 H46 fr47 ⟨x44, G48, rfl, O49, s50⟩
  have h52 := z09 h3
  refine .seq (.region (W.q2 (σ45 5) rfl (W.q1 (σ45 5) rfl (.nil (.ret ?_)))))
  obtain rfl := zAa h52
  exact zcd kr (σ45 5) (v1 := (σ45 5)) (by rfl) (z07 (by rfl) (by exact rfl)) O49 s50 rfl
 refine .block ?_
 have O4 := O.nilSl 22 rS
 refine AW.loop (α := Nat) (fun k' σ' H' => ∃ (y1 : List zAd) (y2 : Int) (G' : GM), z4e K p0 p1 k' y1 y2 = some q1 /\ Ow G' H' (eSl (σ' 5) 22 rS y1 :: L) /\ GM.le G G' /\ σ' 10 = .int .i64 y2) (fun k' => k') K ⟨[], 0, _, h2, O4, (zAf _), rfl⟩ ?_
 rintro k5
 rintro σ8 H9 fr10 ⟨x6, x7, G11, h14, O12, s13, t15⟩
 rcases k5 with _ | k5
 .exact z06 h14
 rw [z4e] at h14
 refine .seq (.region (W.q3 (.bool (decide (x7 < (List.length p0 : Int)))) t15 ((fr10 9 rfl).trans rfl) (.nil (.seq (.cond (b := decide (x7 < (List.length p0 : Int))) rfl rfl (fun g16 => ?_) (fun g16 => ?_))))))
 rotate_left
 .have h43 := z0i g16 h14
  refine .exit ?_
  obtain rfl := zAa h43
  exact ⟨x6, _, rfl, O12, s13⟩
 have h17 := z03 g16 h14
 refine .skip (.seq (.block (.seq (.region ?_))))
 obtain ⟨x18, i19, h20⟩ := z00 h17
 have j21 := z0d i19
 refine W.pure (v := (z1t v0 (Int.toNat x7 * 1))) rfl rfl (z2f el44 sz45 (oo rfl ((fr10 8 rfl).trans rfl)) (oo rfl t15) (z0b (RT.mono _ s13 hp0)) j21.1 j21.2.1) ?_
 obtain ⟨w22, p23, f24⟩ := At.sl (At.le (z1h hp0 j21.2.2) s13 s13)
 replace p23 := PtG.le p23 O12.fro
 refine W.load1 (v := w22) (r := []) rfl rfl ag45 (z19 rfl p23) (W.q1 w22 rfl (.nil (.region (W.q2 (σ8 5) rfl (W.q2 w22 rfl (W.q2 (.int .i64 p1) ((fr10 1 rfl).trans rfl) ?_))))))
 obtain ⟨x25, i26, h27⟩ := z00 h20
 have j28 := z0d i26
 refine W.pure (v := (z1t w22 (Int.toNat p1 * 1))) rfl rfl (z2f el45 sz22 (oo rfl rfl) (oo rfl rfl) (z0b f24) j28.1 j28.2.1) (W.load1 (v := (.string x25)) (r := []) rfl rfl ag22 (z19 rfl (At.str (At.le (z1h f24 j28.2.2) (zAf _) O12.fro))) (W.lo rfl rfl (Lo.buildSlice (r := rS) (vs := [(.string x25)]) (xs := [x25]) el45 ze22 sz22 (by kernel_rfl) rfl (qc rfl qn) rfl (.cons rfl .nil) O12) ?_))
 rintro v31 H32 ⟨O29, sm30⟩
 obtain ⟨es34, e35, e36⟩ := z4k (j := 0) rfl O29
 obtain ⟨g37, h38⟩ := z2w h27
 refine W.lo rfl rfl (Lo.append (j := 1) (v := (σ8 5)) rfl rfl el45 ni45 ze22 sz22 by22 (by decide) (by decide) rfl e35 e36 g37 O29) ?_
 rintro v40 H41 ⟨O33, sm39⟩
 refine W.q1 v40 rfl (.nil (.region (W.q3 (.int .i64 (z04 .i64 (x7 + 1))) t15 rfl (W.q2 (.int .i64 (z04 .i64 (x7 + 1))) rfl (.nil ?_)))))
 have O42 : Ow G11 H41 (eSl v40 22 rS (x6 ++ [x25]) :: L) := O33.drop 0
 exact ⟨k5, zAg _, ⟨(x6 ++ [x25]), z04 .i64 (x7 + 1), _, h38, O42, s13, rfl⟩⟩
def z6c (K : Nat) (p0 : List zAd) (p1 : List zAd) : Nat -> zAd -> Int -> Option (zAd)
  | 0, _, _ => none
  | k + 1, x5, x6 => (if (decide (x6 >= 0)) = true then ((idx p0 x6).bind fun x23 => ((idx p1 x6).bind fun x27 => ((z8t K x23 x27).bind fun x31 => ((z8s K x31 x5).bind fun x42 => z6c K p0 p1 k x42 (z04 .i64 (x6 - 1)))))) else some x5)
def zcv (K : Nat) (p0 : List zAd) (p1 : List zAd) : Option zAd := (Option.bind (z6c K p0 p1 K (⟨#[48]⟩ : zAd) (z04 .i64 ((List.length p0 : Int) - 1))) (tu1 fun x54 => some x54))
theorem zel (K : Nat) {G : GM} {H : AH} {L : List Pc} (v0 : Value) (p0 : List zAd) (hp0 : (rSl rS).rep G [v0] p0) (v1 : Value) (p1 : List zAd) (hp1 : (rSl rS).rep G [v1] p1) (O : Ow G H (L)) (r : zAd) (h : zcv K p0 p1 = some r) :
    CR Tryz.prog 36 [v0, v1] G H (L) (fun v G' _ => v = .string r) := by
 unfold zcv at h
 refine CR.og (n := 26) (fn := Tryz.f36) (by kernel_rfl) rfl rfl fun R kr => (.seq (.region (W.q1 (.string (⟨#[]⟩ : zAd)) rfl (.nil (.seq (.region ?_))))))
 refine W.q1 (.string (⟨#[48]⟩ : zAd)) rfl (.nil (.seq (.seq (.region (W.q2 v0 rfl (W.pure (v := (.int .i64 (List.length p0 : Int))) rfl rfl (z0g (oo rfl rfl) (z0b hp0) (z02 el45)) ?_))))))
 refine W.q3 (.int .i64 (z04 .i64 ((List.length p0 : Int) - 1))) rfl rfl (W.q1 (.int .i64 (z04 .i64 ((List.length p0 : Int) - 1))) rfl (.nil ?_))
 obtain ⟨q1, h2, h3⟩ := z00 h
 refine AW.midT (fun σ' H' => ∃ (y1 : zAd) (G' : GM), y1 = q1 /\ Ow G' H' (L) /\ GM.le G G' /\ σ' 5 = .string y1) ?_ ?_
 rotate_left
 .rintro σ55 H56 fr57 ⟨x54, G58, rfl, O59, s60, t62⟩
  have h63 := z09 h3
  refine .seq (.region (W.q2 _ t62 (W.q1 (.string x54) rfl (.nil (.ret ?_)))))
  obtain rfl := zAa h63
  exact z1a kr (v1 := (.string x54)) (by rfl) (z07 (by rfl) (by exact rfl)) O59 s60 rfl
 refine .block (AW.loop (α := Nat) (fun k' σ' H' => ∃ (y1 : zAd) (y2 : Int) (G' : GM), z6c K p0 p1 k' y1 y2 = some q1 /\ Ow G' H' (L) /\ GM.le G G' /\ σ' 5 = .string y1 /\ σ' 6 = .int .i64 y2) (fun k' => k') K ⟨(⟨#[48]⟩ : zAd), z04 .i64 ((List.length p0 : Int) - 1), _, h2, O, (zAf _), rfl, rfl⟩ ?_)
 rintro k4
 rintro σ7 H8 fr9 ⟨x5, x6, G10, h13, O11, s12, t14, t15⟩
 rcases k4 with _ | k4
 .exact z06 h13
 rw [z6c] at h13
 refine .seq (.seq (.region (W.q2 _ t15 (W.q3 (.bool (decide (x6 >= 0))) rfl rfl (.nil (.cond (b := decide (x6 >= 0)) rfl rfl (fun g16 => ?_) (fun g16 => ?_)))))))
 rotate_left
 .have h53 := z0i g16 h13
  refine .exit ?_
  obtain rfl := zAa h53
  exact ⟨x5, _, rfl, O11, s12, t14⟩
 have h17 := z03 g16 h13
 refine .skip (.seq (.block (.draw2 (M := [0, 0, 3, 7, 0, 0, 48, 112, 255, 0, 1023, 2047]) mixed (by kernel_rfl) (by kernel_rfl) fun H18 N22 x19 F21 => ?_)))
 have O20 := O11.ext x19
 refine D2.q2 v0 ((fr9 0 rfl).trans rfl) (D2.q2 _ t15 ?_)
 obtain ⟨x23, i24, h25⟩ := z00 h17
 have j26 := z0d i24
 refine D2.pure (v := (z1t v0 (Int.toNat x6 * 1))) rfl rfl (z2f el45 sz22 (oo rfl rfl) (oo rfl rfl) (z0b (RT.mono _ s12 hp0)) j26.1 j26.2.1) (D2.load1' (v := (.string x23)) (r := []) rfl rfl ag22 (z19 rfl (At.str (At.le (At.le (z1h hp0 j26.2.2) s12 s12) (zAf _) O20.fro))) z0a (D2.q2 v1 ((fr9 1 rfl).trans rfl) (D2.q2 _ t15 ?_)))
 obtain ⟨x27, i28, h29⟩ := z00 h25
 have j30 := z0d i28
 refine D2.pure (v := (z1t v1 (Int.toNat x6 * 1))) rfl rfl (z2f el45 sz22 (oo rfl rfl) (oo rfl rfl) (z0b (RT.mono _ s12 hp1)) j30.1 j30.2.1) (D2.load1' (v := (.string x27)) (r := []) rfl rfl ag22 (z19 rfl (At.str (At.le (At.le (z1h hp1 j30.2.2) s12 s12) (zAf _) O20.fro))) z0a ?_)
 obtain ⟨x31, i32, h33⟩ := z00 h29
 refine D2.lo rfl rfl (Lo.cP rfl (fn := Tryz.f42) (by kernel_rfl) rfl (mc rfl (mc rfl mn)) O20 (fun L' O' => zek K x23 x27 O' _ i32)) ?_ z0a ?_ ?_
 .rintro v40 H41 ⟨G34, O35, s36, sm39, rfl⟩; exact (faR1 (.inl (by decide)) (faR1 (.inl (by decide)) z0a))
 .rintro v40 H41 ⟨G34, O35, s36, sm39, rfl⟩; exact z0a
 rintro v40 H41 ⟨G34, O35, s36, sm39, rfl⟩
 refine D2.q2 _ t14 ?_
 obtain ⟨x42, i43, h44⟩ := z00 h33
 refine D2.lo rfl rfl (Lo.cP rfl (fn := Tryz.f41) (by kernel_rfl) rfl (mc rfl (mc rfl mn)) O35 (fun L' O' => zej K x31 x5 O' _ i43)) ?_ (z1g (by decide) z0a) ?_ ?_
 .rintro v51 H52 ⟨G45, O46, s47, sm50, rfl⟩; exact (faR1 (.inl (by decide)) (faR1 (.inl (by decide)) z0a))
 .rintro v51 H52 ⟨G45, O46, s47, sm50, rfl⟩; exact z0a
 rintro v51 H52 ⟨G45, O46, s47, sm50, rfl⟩
 refine D2.q1 (.string x42) rfl (.nil (.region (W.q2 _ t15 (W.q3 (.int .i64 (z04 .i64 (x6 - 1))) rfl rfl (W.q1 (.int .i64 (z04 .i64 (x6 - 1))) rfl (.nil ?_))))))
 exact ⟨k4, zAg _, ⟨x42, z04 .i64 (x6 - 1), _, h44, O46, (zAe s12 (zAe s36 s47)), rfl, rfl⟩⟩
def z0t (K : Nat) (p0 : List (List zAd)) (x41 : List (List zAd) × Int) : Nat -> Int -> Option (Bool ⊕ Unit)
  | 0, _ => none
  | k + 1, x402 => (if (decide (x402 < (List.length x41.1 : Int))) = true then ((idx x41.1 x402).bind fun x413 => ((z7t K p0 x402).bind fun x420 => ((z0l K x413 x420).bind fun x433 => (if (!x433) = true then some (.inl false) else z0t K p0 x41 k (z04 .i64 (x402 + 1)))))) else some (.inr ()))
def z0p (K : Nat) (p0 : List (List zAd)) (p2 : List zAd) (x28 : List zAd × Int) : Nat -> Int -> Option (Bool ⊕ Unit)
  | 0, _ => none
  | k + 1, x499 => (if (decide (x499 < (List.length p0 : Int))) = true then ((idx p0 x499).bind fun x510 => ((idx x28.1 x499).bind fun x522 => ((zcv K x510 p2).bind fun x526 => (if (!(sEq x522 x526)) = true then some (.inl false) else z0p K p0 p2 x28 k (z04 .i64 (x499 + 1)))))) else some (.inr ()))
def z0u (K : Nat) (p1 : List (List zAd)) (x597 : List zAd) (x636 : List zAd) : Nat -> Int -> Option (Bool ⊕ Unit)
  | 0, _ => none
  | k + 1, x647 => (if (decide (x647 < (List.length x636 : Int))) = true then ((idx x636 x647).bind fun x658 => ((z7t K p1 x647).bind fun x662 => ((zcv K x597 x662).bind fun x675 => (if (!(sEq x658 x675)) = true then some (.inl false) else z0u K p1 x597 x636 k (z04 .i64 (x647 + 1)))))) else some (.inr ()))
def z0q (K : Nat) (p0 : List (List zAd)) (p1 : List (List zAd)) (x15 : List (List zAd) × Int) : Nat -> Int -> Option (Bool ⊕ Unit)
  | 0, _ => none
  | k + 1, x586 => (if (decide (x586 < (List.length p0 : Int))) = true then ((idx p0 x586).bind fun x597 => ((idx x15.1 x586).bind fun x609 => ((z7b K p1).bind fun x616 => (if ((List.length x609 : Int) != x616) = true then some (.inl false) else ((idx x15.1 x586).bind fun x636 => (z9w (z0u K p1 x597 x636 K 0) (tu1 fun a707 => some (.inl a707)) (tu0 (z0q K p0 p1 x15 k (z04 .i64 (x586 + 1)))))))))) else some (.inr ()))
def z3x (K : Nat) (p0 : List (List zAd)) (p1 : List (List zAd)) (p2 : List zAd) : Option Bool := ((z5e K ).bind fun x1 => (if (!x1) = true then some false else ((z31 K p0 p1).bind fun x15 => ((z1q K p0 p2).bind fun x28 => ((z1l K p0).bind fun x41 => ((z2u K p0).bind fun x54 => (if (x41.2 != x54) = true then some false else ((z2u K p0).bind fun x71 => ((z2u K p1).bind fun x82 => ((z5u K [x71, x82]).bind fun x97 => (Option.bind ((if (x97 == 0) = true then ((z7b K p0).bind fun x114 => some (x114 != (List.length p1 : Int))) else some false)) (tu1 fun x126 => (Option.bind ((if x126 = true then some 3 else some x97)) (tu1 fun x142 => (Option.bind ((if (x15.2 != x142) = true then ((z6a K 6 [p0, p1]).bind fun x162 => (if (!x162) = true then some true else (if (x142 != 0) = true then (if (x15.2 != x142) = true then some true else some (decide ((List.length x15.1 : Int) > 0))) else some false))) else (if (x142 != 0) = true then (if (x15.2 != x142) = true then some true else some (decide ((List.length x15.1 : Int) > 0))) else some false))) (tu1 fun x198 => (if x198 = true then some false else ((z2u K p0).bind fun x215 => ((z5t K p2).bind fun x226 => ((z5u K [x215, x226]).bind fun x241 => (Option.bind ((if (x241 == 0) = true then (if (decide ((List.length p0 : Int) > 0)) = true then ((z7b K p0).bind fun x261 => some (x261 != (List.length p2 : Int))) else some false) else some false)) (tu1 fun x274 => (Option.bind ((if x274 = true then some 3 else some x241)) (tu1 fun x290 => (Option.bind ((if (x290 != 0) = true then (if (x28.2 != x290) = true then some true else some (decide ((List.length x28.1 : Int) > 0))) else some false)) (tu1 fun x311 => (if x311 = true then some false else (Option.bind (((z6a K 6 [p0, p1, [p2]]).bind fun x344 => (if x344 = true then some true else some (x41.2 != 0)))) (tu1 fun x361 => (if x361 = true then some true else ((z7b K p0).bind fun x379 => (if ((List.length x41.1 : Int) != x379) = true then some false else (z9w (z0t K p0 x41 K 0) (tu1 fun a724 => some a724) (tu0 (z9w ((if (x290 == 0) = true then (Option.bind ((if (x28.2 != 0) = true then some true else some ((List.length x28.1 : Int) != (List.length p0 : Int)))) (tu1 fun x476 => (if x476 = true then some (.inl false) else (z9w (z0p K p0 p2 x28 K 0) (tu1 fun a556 => some (.inl a556)) (tu0 (some (.inr ()))))))) else some (.inr ()))) (tu1 fun a723 => some a723) (tu0 (if (x142 != 0) = true then some true else (if ((List.length x15.1 : Int) != (List.length p0 : Int)) = true then some false else (z9w (z0q K p0 p1 x15 K 0) (tu1 fun a722 => some a722) (tu0 (some true)))))))))))))))))))))))))))))))))))))))))
theorem z8e (K : Nat) {G : GM} {H : AH} {L : List Pc} (v0 : Value) (p0 : List (List zAd)) (hp0 : (rSl (rSl rS)).rep G [v0] p0) (v1 : Value) (p1 : List (List zAd)) (hp1 : (rSl (rSl rS)).rep G [v1] p1) (v2 : Value) (p2 : List zAd) (hp2 : (rSl rS).rep G [v2] p2) (O : Ow G H (L)) (r : Bool) (h : z3x K p0 p1 p2 = some r) :
    CR Tryz.prog 4 [v0, v1, v2] G H (L) (fun v G' _ => v = .bool r) := by
 unfold z3x at h
 refine CR.og (n := 214) (fn := Tryz.f4) (by kernel_rfl) rfl rfl fun R kr => (.seq (.region (W.q1 (.bool false) rfl (.nil (.seq (.seq ?_))))))
 refine .region ?_
 obtain ⟨x1, i2, h3⟩ := z00 h
 refine W.lo rfl rfl (Lo.cP rfl (fn := Tryz.f26) (by kernel_rfl) rfl mn O (fun L' O' => za7 K  O' _ i2)) ?_
 rintro v10 H11 ⟨G4, O5, s6, sm9, rfl⟩
 refine W.pure (v := (.bool (!x1))) rfl rfl (z9e (a := x1) (oo rfl rfl)) (.nil (.cond (b := (!x1)) rfl rfl (fun g12 => ?_) (fun g12 => ?_)))
 .have h13 := z03 g12 h3
  refine .seq (.region (W.q1 (.bool false) rfl (.nil (.ret ?_))))
  obtain rfl := zAa h13
  exact z1a kr (v1 := (.bool false)) (by rfl) (z07 (by rfl) (by exact rfl)) O5 s6 rfl
 have h14 := z0i g12 h3
 refine .skip (.seq (.region (W.q2 v0 rfl (W.q2 v1 rfl ?_))))
 obtain ⟨x15, i16, h17⟩ := z00 h14
 refine W.lo rfl rfl (Lo.callPF (ps := []) (pw := fun w => [eSl w 45 (rSl rS) x15.1]) rfl (fn := Tryz.f27) (by kernel_rfl) rfl (mc rfl (mc rfl mn)) O5 (fun L' O' => z9b K v0 p0 (RT.mono _ s6 hp0) v1 p1 (RT.mono _ s6 hp1) O' _ i16)) ?_
 rintro v26 H27 ⟨w23, G18, O19, s20, sm25, rfl⟩
 refine W.q2 (.tuple #[w23, (.int .i64 x15.2)]) rfl (W.pure (v := w23) rfl rfl (z08 (oo rfl rfl) rfl) (W.pure (v := (.int .i64 x15.2)) rfl rfl (z08 (oo rfl rfl) rfl) (W.q1 w23 rfl (W.q1 (.int .i64 x15.2) rfl (.nil (.seq ?_))))))
 refine .region (W.q2 v0 rfl (W.q2 v2 rfl ?_))
 obtain ⟨x28, i29, h30⟩ := z00 h17
 refine W.lo rfl rfl (Lo.callPF (ps := []) (pw := fun w => [eSl w 22 rS x28.1]) rfl (fn := Tryz.f28) (by kernel_rfl) rfl (mc rfl (mc rfl mn)) O19 (fun L' O' => z8c K v0 p0 (RT.mono _ (zAe s6 s20) hp0) v2 p2 (RT.mono _ (zAe s6 s20) hp2) O' _ i29)) ?_
 rintro v39 H40 ⟨w36, G31, O32, s33, sm38, rfl⟩
 refine W.q2 (.tuple #[w36, (.int .i64 x28.2)]) rfl (W.pure (v := w36) rfl rfl (z08 (oo rfl rfl) rfl) (W.pure (v := (.int .i64 x28.2)) rfl rfl (z08 (oo rfl rfl) rfl) (W.q1 w36 rfl (W.q1 (.int .i64 x28.2) rfl (.nil (.seq ?_))))))
 refine .region (W.q2 v0 rfl ?_)
 obtain ⟨x41, i42, h43⟩ := z00 h30
 refine W.lo rfl rfl (Lo.callPF (ps := []) (pw := fun w => [eSl w 45 (rSl rS) x41.1]) rfl (fn := Tryz.f29) (by kernel_rfl) rfl (mc rfl mn) O32 (fun L' O' => z6j K v0 p0 (RT.mono _ (zAe s6 (zAe s20 s33)) hp0) O' _ i42)) ?_
 rintro v52 H53 ⟨w49, G44, O45, s46, sm51, rfl⟩
 refine W.q2 (.tuple #[w49, (.int .i64 x41.2)]) rfl (W.pure (v := w49) rfl rfl (z08 (oo rfl rfl) rfl) (W.pure (v := (.int .i64 x41.2)) rfl rfl (z08 (oo rfl rfl) rfl) (W.q1 w49 rfl (W.q1 (.int .i64 x41.2) rfl (.nil (.seq ?_))))))
 refine .seq (.region (W.q2 (.int .i64 x41.2) rfl (W.q2 v0 rfl ?_)))
 obtain ⟨x54, i55, h56⟩ := z00 h43
 refine W.lo rfl rfl (Lo.cP rfl (fn := Tryz.f30) (by kernel_rfl) rfl (mc rfl mn) O45 (fun L' O' => z4h K v0 p0 (RT.mono _ (zAe s6 (zAe s20 (zAe s33 s46))) hp0) O' _ i55)) ?_
 rintro v63 H64 ⟨G57, O58, s59, sm62, rfl⟩
 refine W.q3 (.bool (x41.2 != x54)) rfl rfl (.nil (.cond (b := (x41.2 != x54)) rfl rfl (fun g65 => ?_) (fun g65 => ?_)))
 .have h66 := z03 g65 h56
  refine .seq (.region (W.q1 (.bool false) rfl (.nil (.ret ?_))))
  have O67 : Ow G57 H64 (eSl w36 22 rS x28.1 :: eSl w23 45 (rSl rS) x15.1 :: L) := O58.drop 0
  have O68 : Ow G57 H64 (eSl w23 45 (rSl rS) x15.1 :: L) := O67.drop 0
  have O69 : Ow G57 H64 (L) := O68.drop 0
  obtain rfl := zAa h66
  exact z1a kr (v1 := (.bool false)) (by rfl) (z07 (by rfl) (by exact rfl)) O69 (zAe s6 (zAe s20 (zAe s33 (zAe s46 s59)))) rfl
 have h70 := z0i g65 h56
 refine .skip (.seq (.region (W.q2 v0 rfl ?_)))
 obtain ⟨x71, i72, h73⟩ := z00 h70
 refine W.lo rfl rfl (Lo.cP rfl (fn := Tryz.f30) (by kernel_rfl) rfl (mc rfl mn) O58 (fun L' O' => z4h K v0 p0 (RT.mono _ (zAe s6 (zAe s20 (zAe s33 (zAe s46 s59)))) hp0) O' _ i72)) ?_
 rintro v80 H81 ⟨G74, O75, s76, sm79, rfl⟩
 refine W.q2 v1 rfl ?_
 obtain ⟨x82, i83, h84⟩ := z00 h73
 refine W.lo rfl rfl (Lo.cP rfl (fn := Tryz.f30) (by kernel_rfl) rfl (mc rfl mn) O75 (fun L' O' => z4h K v1 p1 (RT.mono _ (zAe s6 (zAe s20 (zAe s33 (zAe s46 (zAe s59 s76))))) hp1) O' _ i83)) ?_
 rintro v91 H92 ⟨G85, O86, s87, sm90, rfl⟩
 refine W.lo rfl rfl (Lo.buildSlice (r := (rI .i64)) (vs := [(.int .i64 x71), (.int .i64 x82)]) (xs := [x71, x82]) el91 ze28 sz28 (by kernel_rfl) rfl (qc rfl (qc rfl qn)) rfl (.cons rfl (.cons rfl .nil)) O86) ?_
 rintro v95 H96 ⟨O93, sm94⟩
 obtain ⟨x97, i98, h99⟩ := z00 h84
 refine W.lo rfl rfl (Lo.callB (j := 0) rfl rfl (fn := Tryz.f18) (by kernel_rfl) rfl (mc rfl mn) O93 (fun G' L' hG O' hB => za8 K v95 [x71, x82] hB O' _ i98)) ?_
 rintro v106 H107 ⟨G100, O101, s102, sm105, rfl⟩
 refine W.q1 (.int .i64 x97) rfl (.nil (.seq (.seq ?_)))
 obtain ⟨q108, h109, h110⟩ := z00 h99
 refine AW.midT (fun σ' H' => ∃ (y1 : Bool) (G' : GM), y1 = q108 /\ Ow G' H' (eSl v95 28 (rI .i64) [x71, x82] :: eSl w49 45 (rSl rS) x41.1 :: eSl w36 22 rS x28.1 :: eSl w23 45 (rSl rS) x15.1 :: L) /\ GM.le G100 G' /\ σ' 60 = .bool y1) ?_ ?_
 .refine .region (W.q2 (.int .i64 x97) rfl (W.q3 (.bool (x97 == 0)) rfl rfl (W.q2 (.bool (x97 == 0)) rfl (W.splitAt (t := 54) (b := (x97 == 0)) rfl (fun g111 gv112 => ?_) (fun g111 gv112 => ?_)))))
  rotate_left
  .have h125 := z0i g111 h109
   refine W.q6 rfl gv112 (W.q6 rfl gv112 (W.q6 rfl gv112 (W.q6 rfl gv112 (W.q6 rfl gv112 (W.q5 (.bool false) gv112 rfl (.nil ?_))))))
   obtain rfl := zAa h125
   exact ⟨false, _, rfl, O101, (zAf _), rfl⟩
  have h113 := z03 g111 h109
  refine W.q2 (hg := gk rfl rfl gv112 rfl) v0 rfl ?_
  obtain ⟨x114, i115, h116⟩ := z00 h113
  refine W.lo (gk rfl rfl gv112 rfl) rfl (Lo.cP rfl (fn := Tryz.f31) (by kernel_rfl) rfl (mc rfl mn) O101 (fun L' O' => z82 K v0 p0 (RT.mono _ (zAe s6 (zAe s20 (zAe s33 (zAe s46 (zAe s59 (zAe s76 (zAe s87 s102))))))) hp0) O' _ i115)) ?_
  rintro v123 H124 ⟨G117, O118, s119, sm122, rfl⟩
  refine W.q2 (hg := gk rfl rfl gv112 rfl) v1 rfl (W.pure (v := (.int .i64 (List.length p1 : Int))) (gk rfl rfl gv112 rfl) rfl (z0g (oo rfl rfl) (z0b (RT.mono _ (zAe s6 (zAe s20 (zAe s33 (zAe s46 (zAe s59 (zAe s76 (zAe s87 (zAe s102 s119)))))))) hp1)) (z02 el44)) (W.q3 (hg := gk rfl rfl gv112 rfl) (.bool (x114 != (List.length p1 : Int))) rfl rfl (W.q4 (.bool (x114 != (List.length p1 : Int))) gv112 rfl (.nil ?_))))
  obtain rfl := zAa h116
  exact ⟨(x114 != (List.length p1 : Int)), _, rfl, O118, s119, rfl⟩
 rintro σ127 H128 fr129 ⟨x126, G130, rfl, O131, s132, t134⟩
 have h135 := z09 h110
 obtain ⟨q136, h137, h138⟩ := z00 h135
 refine AW.midT (fun σ' H' => ∃ (y1 : Int) (G' : GM), y1 = q136 /\ Ow G' H' (eSl v95 28 (rI .i64) [x71, x82] :: eSl w49 45 (rSl rS) x41.1 :: eSl w36 22 rS x28.1 :: eSl w23 45 (rSl rS) x15.1 :: L) /\ GM.le G130 G' /\ σ' 13 = .int .i64 y1) ?_ ?_
 .refine .cond (b := x126) rfl t134 (fun g139 => ?_) (fun g139 => ?_)
  rotate_left
  .have h141 := z0i g139 h137
   refine .skip ?_
   obtain rfl := zAa h141
   exact ⟨x97, _, rfl, O131, (zAf _), ((fr129 13 rfl).trans rfl)⟩
  have h140 := z03 g139 h137
  refine .region (W.q1 (.int .i64 3) rfl (.nil ?_))
  obtain rfl := zAa h140
  exact ⟨3, _, rfl, O131, (zAf _), rfl⟩
 rintro σ143 H144 fr145 ⟨x142, G146, rfl, O147, s148, t150⟩
 have h151 := z09 h138
 refine .seq (.seq ?_)
 obtain ⟨q152, h153, h154⟩ := z00 h151
 refine AW.midT (fun σ' H' => ∃ (y1 : Bool) (G' : GM), y1 = q152 /\ Ow G' H' (eSl v95 28 (rI .i64) [x71, x82] :: eSl w49 45 (rSl rS) x41.1 :: eSl w36 22 rS x28.1 :: eSl w23 45 (rSl rS) x15.1 :: L) /\ GM.le G146 G' /\ σ' 84 = .bool y1) ?_ ?_
 .refine .region (W.q2 (.int .i64 x15.2) ((fr145 8 rfl).trans ((fr129 8 rfl).trans rfl)) (W.q2 _ t150 (W.q3 (.bool (x15.2 != x142)) rfl rfl (W.q2 (.bool (x15.2 != x142)) rfl (W.splitAt (t := 64) (b := (x15.2 != x142)) rfl (fun g155 gv156 => ?_) (fun g155 gv156 => ?_))))))
  rotate_left
  .have h189 := z0i g155 h153
   refine W.q6 rfl gv156 (W.q6 rfl gv156 (W.q6 rfl gv156 (W.q6 rfl gv156 (W.q6 rfl gv156 (W.q5 (.bool false) gv156 rfl (W.q2 (.bool false) rfl ?_))))))
   refine W.q2 (hg := gk rfl rfl rfl rfl) _ t150 (W.q3 (hg := gk rfl rfl rfl rfl) (.bool (x142 != 0)) rfl rfl (W.q2 (hg := gk rfl rfl rfl rfl) (.bool (x142 != 0)) rfl (W.splitAt (t := 74) (b := (x142 != 0)) rfl (fun g190 gv191 => ?_) (fun g190 gv191 => ?_))))
   rotate_left
   .have h197 := z0i g190 h189
    refine W.q6 rfl gv191 (W.q6 rfl gv191 (W.q6 rfl gv191 (W.q6 rfl gv191 (W.skipU rfl rfl rfl rfl (W.skipU rfl rfl rfl rfl (W.skipU rfl rfl rfl rfl ?_))))))
    refine W.q6 rfl gv191 (W.q5 (hg := gk rfl rfl rfl rfl) (.bool false) gv191 rfl (W.q5 (.bool false) rfl rfl (.nil ?_)))
    obtain rfl := zAa h197
    exact ⟨false, _, rfl, O147, (zAf _), rfl⟩
   have h192 := z03 g190 h189
   refine W.q2 (hg := gk rfl rfl gv191 rfl) (.int .i64 x15.2) ((fr145 8 rfl).trans ((fr129 8 rfl).trans rfl)) (W.q2 (hg := gk rfl rfl gv191 rfl) _ t150 (W.q3 (hg := gk rfl rfl gv191 rfl) (.bool (x15.2 != x142)) rfl rfl (W.q2 (hg := gk rfl rfl gv191 rfl) (.bool (x15.2 != x142)) rfl (W.splitAt (t := 78) (b := (x15.2 != x142)) rfl (fun g193 gv194 => ?_) (fun g193 gv194 => ?_)))))
   .have h195 := z03 g193 h192
    refine W.q6 rfl gv194 (W.q6 rfl gv194 (W.q6 rfl gv194 (W.q4 (hg := gk rfl rfl gv191 rfl) (.bool true) gv194 rfl (W.q4 (hg := gk rfl rfl rfl rfl) (.bool true) gv191 rfl (W.q5 (.bool true) rfl rfl (.nil ?_))))))
    obtain rfl := zAa h195
    exact ⟨true, _, rfl, O147, (zAf _), rfl⟩
   have h196 := z0i g193 h192
   refine W.q2 (hg := gk rfl rfl gv194 rfl) w23 ((fr145 7 rfl).trans ((fr129 7 rfl).trans rfl)) (W.pure (v := (.int .i64 (List.length x15.1 : Int))) (gk rfl rfl gv194 rfl) rfl (z0g (oo rfl rfl) (O147.slLen (j := 3) rfl) (z02 el44)) (W.q3 (hg := gk rfl rfl gv194 rfl) (.bool (decide ((List.length x15.1 : Int) > 0))) rfl rfl (W.q5 (hg := gk rfl rfl gv191 rfl) (.bool (decide ((List.length x15.1 : Int) > 0))) gv194 rfl (W.q4 (hg := gk rfl rfl rfl rfl) (.bool (decide ((List.length x15.1 : Int) > 0))) gv191 rfl (W.q5 (.bool (decide ((List.length x15.1 : Int) > 0))) rfl rfl (.nil ?_))))))
   obtain rfl := zAa h196
   exact ⟨decide ((List.length x15.1 : Int) > 0), _, rfl, O147, (zAf _), rfl⟩
  have h157 := z03 g155 h153
  refine W.q2 (hg := gk rfl rfl gv156 rfl) v0 ((fr145 0 rfl).trans ((fr129 0 rfl).trans rfl)) (W.q2 (hg := gk rfl rfl gv156 rfl) v1 ((fr145 1 rfl).trans ((fr129 1 rfl).trans rfl)) (W.lo (gk rfl rfl gv156 rfl) rfl (Lo.buildSlice (r := (rSl (rSl rS))) (vs := [v0, v1]) (xs := [p0, p1]) zo9 ze44 sz44 (by kernel_rfl) rfl (qc rfl (qc rfl qn)) rfl (.cons (z2g (RT.mono _ (zAe s6 (zAe s20 (zAe s33 (zAe s46 (zAe s59 (zAe s76 (zAe s87 (zAe s102 (zAe s132 s148))))))))) hp0)) (.cons (z2g (RT.mono _ (zAe s6 (zAe s20 (zAe s33 (zAe s46 (zAe s59 (zAe s76 (zAe s87 (zAe s102 (zAe s132 s148))))))))) hp1)) .nil)) O147) ?_))
  rintro v160 H161 ⟨O158, sm159⟩
  obtain ⟨x162, i163, h164⟩ := z00 h157
  refine W.lo (gk rfl rfl gv156 rfl) rfl (Lo.callB (j := 0) rfl rfl (fn := Tryz.f32) (by kernel_rfl) rfl (mc rfl (mc rfl mn)) O158 (fun G' L' hG O' hB => zb2 K 6 v160 [p0, p1] hB O' _ i163)) ?_
  rintro v171 H172 ⟨G165, O166, s167, sm170, rfl⟩
  refine W.pure (v := (.bool (!x162))) (gk rfl rfl gv156 rfl) rfl (z9e (a := x162) (oo rfl rfl)) (W.q4 (.bool (!x162)) gv156 rfl (W.q2 (.bool (!x162)) rfl (W.splitAt (t := 71) (b := (!x162)) rfl (fun g173 gv174 => ?_) (fun g173 gv174 => ?_))))
  .have h175 := z03 g173 h164
   refine W.q6 rfl gv174 (W.q6 rfl gv174 (W.q6 rfl gv174 (W.skipU rfl rfl rfl rfl (W.skipU rfl rfl rfl rfl (W.skipU rfl rfl rfl rfl (W.skipU rfl rfl rfl rfl ?_))))))
   refine W.skipU rfl rfl rfl rfl (W.skipU rfl rfl rfl rfl (W.skipU rfl rfl rfl rfl (W.skipU rfl rfl rfl rfl (W.q6 rfl gv174 (W.q4 (.bool true) gv174 rfl (.nil ?_))))))
   have O176 : Ow G165 H172 (eSl v95 28 (rI .i64) [x71, x82] :: eSl w49 45 (rSl rS) x41.1 :: eSl w36 22 rS x28.1 :: eSl w23 45 (rSl rS) x15.1 :: L) := O166.drop 0
   obtain rfl := zAa h175
   exact ⟨true, _, rfl, O176, s167, rfl⟩
  have h177 := z0i g173 h164
  refine W.q2 (hg := gk rfl rfl gv174 rfl) _ t150 (W.q3 (hg := gk rfl rfl gv174 rfl) (.bool (x142 != 0)) rfl rfl (W.q2 (hg := gk rfl rfl gv174 rfl) (.bool (x142 != 0)) rfl (W.splitAt (t := 74) (b := (x142 != 0)) rfl (fun g178 gv179 => ?_) (fun g178 gv179 => ?_))))
  rotate_left
  .have h187 := z0i g178 h177
   refine W.q6 rfl gv179 (W.q6 rfl gv179 (W.q6 rfl gv179 (W.q6 rfl gv179 (W.skipU rfl rfl rfl rfl (W.skipU rfl rfl rfl rfl (W.skipU rfl rfl rfl rfl ?_))))))
   refine W.q6 rfl gv179 (W.q5 (hg := gk rfl rfl gv174 rfl) (.bool false) gv179 rfl (W.q5 (.bool false) gv174 rfl (.nil ?_)))
   have O188 : Ow G165 H172 (eSl v95 28 (rI .i64) [x71, x82] :: eSl w49 45 (rSl rS) x41.1 :: eSl w36 22 rS x28.1 :: eSl w23 45 (rSl rS) x15.1 :: L) := O166.drop 0
   obtain rfl := zAa h187
   exact ⟨false, _, rfl, O188, s167, rfl⟩
  have h180 := z03 g178 h177
  refine W.q2 (hg := gk rfl rfl gv179 rfl) (.int .i64 x15.2) ((fr145 8 rfl).trans ((fr129 8 rfl).trans rfl)) (W.q2 (hg := gk rfl rfl gv179 rfl) _ t150 (W.q3 (hg := gk rfl rfl gv179 rfl) (.bool (x15.2 != x142)) rfl rfl (W.q2 (hg := gk rfl rfl gv179 rfl) (.bool (x15.2 != x142)) rfl (W.splitAt (t := 78) (b := (x15.2 != x142)) rfl (fun g181 gv182 => ?_) (fun g181 gv182 => ?_)))))
  .have h183 := z03 g181 h180
   refine W.q6 rfl gv182 (W.q6 rfl gv182 (W.q6 rfl gv182 (W.q4 (hg := gk rfl rfl gv179 rfl) (.bool true) gv182 rfl (W.q4 (hg := gk rfl rfl gv174 rfl) (.bool true) gv179 rfl (W.q5 (.bool true) gv174 rfl (.nil ?_))))))
   have O184 : Ow G165 H172 (eSl v95 28 (rI .i64) [x71, x82] :: eSl w49 45 (rSl rS) x41.1 :: eSl w36 22 rS x28.1 :: eSl w23 45 (rSl rS) x15.1 :: L) := O166.drop 0
   obtain rfl := zAa h183
   exact ⟨true, _, rfl, O184, s167, rfl⟩
  have h185 := z0i g181 h180
  refine W.q2 (hg := gk rfl rfl gv182 rfl) w23 ((fr145 7 rfl).trans ((fr129 7 rfl).trans rfl)) (W.pure (v := (.int .i64 (List.length x15.1 : Int))) (gk rfl rfl gv182 rfl) rfl (z0g (oo rfl rfl) (O166.slLen (j := 4) rfl) (z02 el44)) (W.q3 (hg := gk rfl rfl gv182 rfl) (.bool (decide ((List.length x15.1 : Int) > 0))) rfl rfl (W.q5 (hg := gk rfl rfl gv179 rfl) (.bool (decide ((List.length x15.1 : Int) > 0))) gv182 rfl (W.q4 (hg := gk rfl rfl gv174 rfl) (.bool (decide ((List.length x15.1 : Int) > 0))) gv179 rfl (W.q5 (.bool (decide ((List.length x15.1 : Int) > 0))) gv174 rfl (.nil ?_))))))
  have O186 : Ow G165 H172 (eSl v95 28 (rI .i64) [x71, x82] :: eSl w49 45 (rSl rS) x41.1 :: eSl w36 22 rS x28.1 :: eSl w23 45 (rSl rS) x15.1 :: L) := O166.drop 0
  obtain rfl := zAa h185
  exact ⟨decide ((List.length x15.1 : Int) > 0), _, rfl, O186, s167, rfl⟩
 rintro σ199 H200 fr201 ⟨x198, G202, rfl, O203, s204, t206⟩
 have h207 := z09 h154
 refine .cond (b := x198) rfl t206 (fun g208 => ?_) (fun g208 => ?_)
 .have h209 := z03 g208 h207
  refine .seq (.region (W.q1 (.bool false) rfl (.nil (.ret ?_))))
  have O210 : Ow G202 H200 (eSl w49 45 (rSl rS) x41.1 :: eSl w36 22 rS x28.1 :: eSl w23 45 (rSl rS) x15.1 :: L) := O203.drop 0
  have O211 : Ow G202 H200 (eSl w36 22 rS x28.1 :: eSl w23 45 (rSl rS) x15.1 :: L) := O210.drop 0
  have O212 : Ow G202 H200 (eSl w23 45 (rSl rS) x15.1 :: L) := O211.drop 0
  have O213 : Ow G202 H200 (L) := O212.drop 0
  obtain rfl := zAa h209
  exact z1a kr (v1 := (.bool false)) (by rfl) (z07 (by rfl) (by exact rfl)) O213 (zAe s6 (zAe s20 (zAe s33 (zAe s46 (zAe s59 (zAe s76 (zAe s87 (zAe s102 (zAe s132 (zAe s148 s204)))))))))) rfl
 have h214 := z0i g208 h207
 refine .skip (.seq (.region (W.q2 v0 ((fr201 0 rfl).trans ((fr145 0 rfl).trans ((fr129 0 rfl).trans rfl))) ?_)))
 obtain ⟨x215, i216, h217⟩ := z00 h214
 refine W.lo rfl rfl (Lo.cP rfl (fn := Tryz.f30) (by kernel_rfl) rfl (mc rfl mn) O203 (fun L' O' => z4h K v0 p0 (RT.mono _ (zAe s6 (zAe s20 (zAe s33 (zAe s46 (zAe s59 (zAe s76 (zAe s87 (zAe s102 (zAe s132 (zAe s148 s204)))))))))) hp0) O' _ i216)) ?_
 rintro v224 H225 ⟨G218, O219, s220, sm223, rfl⟩
 refine W.q2 v2 ((fr201 2 rfl).trans ((fr145 2 rfl).trans ((fr129 2 rfl).trans rfl))) ?_
 obtain ⟨x226, i227, h228⟩ := z00 h217
 refine W.lo rfl rfl (Lo.cP rfl (fn := Tryz.f33) (by kernel_rfl) rfl (mc rfl mn) O219 (fun L' O' => z9d K v2 p2 (RT.mono _ (zAe s6 (zAe s20 (zAe s33 (zAe s46 (zAe s59 (zAe s76 (zAe s87 (zAe s102 (zAe s132 (zAe s148 (zAe s204 s220))))))))))) hp2) O' _ i227)) ?_
 rintro v235 H236 ⟨G229, O230, s231, sm234, rfl⟩
 refine W.lo rfl rfl (Lo.buildSlice (r := (rI .i64)) (vs := [(.int .i64 x215), (.int .i64 x226)]) (xs := [x215, x226]) el91 ze28 sz28 (by kernel_rfl) rfl (qc rfl (qc rfl qn)) rfl (.cons rfl (.cons rfl .nil)) O230) ?_
 rintro v239 H240 ⟨O237, sm238⟩
 obtain ⟨x241, i242, h243⟩ := z00 h228
 refine W.lo rfl rfl (Lo.callB (j := 0) rfl rfl (fn := Tryz.f18) (by kernel_rfl) rfl (mc rfl mn) O237 (fun G' L' hG O' hB => za8 K v239 [x215, x226] hB O' _ i242)) ?_
 rintro v250 H251 ⟨G244, O245, s246, sm249, rfl⟩
 refine W.q1 (.int .i64 x241) rfl (.nil (.seq (.seq ?_)))
 obtain ⟨q252, h253, h254⟩ := z00 h243
 refine AW.midT (fun σ' H' => ∃ (y1 : Bool) (G' : GM), y1 = q252 /\ Ow G' H' (eSl v239 28 (rI .i64) [x215, x226] :: eSl v95 28 (rI .i64) [x71, x82] :: eSl w49 45 (rSl rS) x41.1 :: eSl w36 22 rS x28.1 :: eSl w23 45 (rSl rS) x15.1 :: L) /\ GM.le G244 G' /\ σ' 104 = .bool y1) ?_ ?_
 .refine .region (W.q2 (.int .i64 x241) rfl (W.q3 (.bool (x241 == 0)) rfl rfl (W.q2 (.bool (x241 == 0)) rfl (W.splitAt (t := 93) (b := (x241 == 0)) rfl (fun g255 gv256 => ?_) (fun g255 gv256 => ?_)))))
  rotate_left
  .have h273 := z0i g255 h253
   refine W.q6 rfl gv256 (W.q6 rfl gv256 (W.q6 rfl gv256 (W.q5 (.bool false) gv256 rfl (W.q2 (.bool false) rfl (W.q6 rfl rfl (W.q6 rfl rfl ?_))))))
   refine W.q6 rfl rfl (W.q6 rfl rfl (W.q6 rfl rfl (W.q5 (.bool false) rfl rfl (.nil ?_))))
   obtain rfl := zAa h273
   exact ⟨false, _, rfl, O245, (zAf _), rfl⟩
  have h257 := z03 g255 h253
  refine W.q2 (hg := gk rfl rfl gv256 rfl) v0 ((fr201 0 rfl).trans ((fr145 0 rfl).trans ((fr129 0 rfl).trans rfl))) (W.pure (v := (.int .i64 (List.length p0 : Int))) (gk rfl rfl gv256 rfl) rfl (z0g (oo rfl rfl) (z0b (RT.mono _ (zAe s6 (zAe s20 (zAe s33 (zAe s46 (zAe s59 (zAe s76 (zAe s87 (zAe s102 (zAe s132 (zAe s148 (zAe s204 (zAe s220 (zAe s231 s246))))))))))))) hp0)) (z02 el44)) (W.q3 (hg := gk rfl rfl gv256 rfl) (.bool (decide ((List.length p0 : Int) > 0))) rfl rfl (W.q4 (.bool (decide ((List.length p0 : Int) > 0))) gv256 rfl (W.q2 (.bool (decide ((List.length p0 : Int) > 0))) rfl (W.splitAt (t := 98) (b := decide ((List.length p0 : Int) > 0)) rfl (fun g258 gv259 => ?_) (fun g258 gv259 => ?_))))))
  rotate_left
  .have h272 := z0i g258 h257
   refine W.q6 rfl gv259 (W.q6 rfl gv259 (W.q6 rfl gv259 (W.q6 rfl gv259 (W.q6 rfl gv259 (W.q5 (.bool false) gv259 rfl (.nil ?_))))))
   obtain rfl := zAa h272
   exact ⟨false, _, rfl, O245, (zAf _), rfl⟩
  have h260 := z03 g258 h257
  refine W.q2 (hg := gk rfl rfl gv259 rfl) v0 ((fr201 0 rfl).trans ((fr145 0 rfl).trans ((fr129 0 rfl).trans rfl))) ?_
  obtain ⟨x261, i262, h263⟩ := z00 h260
  refine W.lo (gk rfl rfl gv259 rfl) rfl (Lo.cP rfl (fn := Tryz.f31) (by kernel_rfl) rfl (mc rfl mn) O245 (fun L' O' => z82 K v0 p0 (RT.mono _ (zAe s6 (zAe s20 (zAe s33 (zAe s46 (zAe s59 (zAe s76 (zAe s87 (zAe s102 (zAe s132 (zAe s148 (zAe s204 (zAe s220 (zAe s231 s246))))))))))))) hp0) O' _ i262)) ?_
  rintro v270 H271 ⟨G264, O265, s266, sm269, rfl⟩
  refine W.q2 (hg := gk rfl rfl gv259 rfl) v2 ((fr201 2 rfl).trans ((fr145 2 rfl).trans ((fr129 2 rfl).trans rfl))) (W.pure (v := (.int .i64 (List.length p2 : Int))) (gk rfl rfl gv259 rfl) rfl (z0g (oo rfl rfl) (z0b (RT.mono _ (zAe s6 (zAe s20 (zAe s33 (zAe s46 (zAe s59 (zAe s76 (zAe s87 (zAe s102 (zAe s132 (zAe s148 (zAe s204 (zAe s220 (zAe s231 (zAe s246 s266)))))))))))))) hp2)) (z02 el45)) (W.q3 (hg := gk rfl rfl gv259 rfl) (.bool (x261 != (List.length p2 : Int))) rfl rfl (W.q4 (.bool (x261 != (List.length p2 : Int))) gv259 rfl (.nil ?_))))
  obtain rfl := zAa h263
  exact ⟨(x261 != (List.length p2 : Int)), _, rfl, O265, s266, rfl⟩
 rintro σ275 H276 fr277 ⟨x274, G278, rfl, O279, s280, t282⟩
 have h283 := z09 h254
 obtain ⟨q284, h285, h286⟩ := z00 h283
 refine AW.midT (fun σ' H' => ∃ (y1 : Int) (G' : GM), y1 = q284 /\ Ow G' H' (eSl v239 28 (rI .i64) [x215, x226] :: eSl v95 28 (rI .i64) [x71, x82] :: eSl w49 45 (rSl rS) x41.1 :: eSl w36 22 rS x28.1 :: eSl w23 45 (rSl rS) x15.1 :: L) /\ GM.le G278 G' /\ σ' 14 = .int .i64 y1) ?_ ?_
 .refine .cond (b := x274) rfl t282 (fun g287 => ?_) (fun g287 => ?_)
  rotate_left
  .have h289 := z0i g287 h285
   refine .skip ?_
   obtain rfl := zAa h289
   exact ⟨x241, _, rfl, O279, (zAf _), ((fr277 14 rfl).trans rfl)⟩
  have h288 := z03 g287 h285
  refine .region (W.q1 (.int .i64 3) rfl (.nil ?_))
  obtain rfl := zAa h288
  exact ⟨3, _, rfl, O279, (zAf _), rfl⟩
 rintro σ291 H292 fr293 ⟨x290, G294, rfl, O295, s296, t298⟩
 have h299 := z09 h286
 refine .seq (.seq ?_)
 obtain ⟨q300, h301, h302⟩ := z00 h299
 refine AW.midT (fun σ' H' => ∃ (y1 : Bool) (G' : GM), y1 = q300 /\ Ow G' H' (eSl v239 28 (rI .i64) [x215, x226] :: eSl v95 28 (rI .i64) [x71, x82] :: eSl w49 45 (rSl rS) x41.1 :: eSl w36 22 rS x28.1 :: eSl w23 45 (rSl rS) x15.1 :: L) /\ GM.le G294 G' /\ σ' 116 = .bool y1) ?_ ?_
 .refine .region (W.q2 _ t298 (W.q3 (.bool (x290 != 0)) rfl rfl (W.q2 (.bool (x290 != 0)) rfl (W.splitAt (t := 107) (b := (x290 != 0)) rfl (fun g303 gv304 => ?_) (fun g303 gv304 => ?_)))))
  rotate_left
  .have h310 := z0i g303 h301
   refine W.q6 rfl gv304 (W.q6 rfl gv304 (W.q6 rfl gv304 (W.q6 rfl gv304 (W.skipU rfl rfl rfl rfl (W.skipU rfl rfl rfl rfl (W.skipU rfl rfl rfl rfl ?_))))))
   refine W.q6 rfl gv304 (W.q5 (.bool false) gv304 rfl (.nil ?_))
   obtain rfl := zAa h310
   exact ⟨false, _, rfl, O295, (zAf _), rfl⟩
  have h305 := z03 g303 h301
  refine W.q2 (hg := gk rfl rfl gv304 rfl) (.int .i64 x28.2) ((fr293 10 rfl).trans ((fr277 10 rfl).trans ((fr201 10 rfl).trans ((fr145 10 rfl).trans ((fr129 10 rfl).trans rfl))))) (W.q2 (hg := gk rfl rfl gv304 rfl) _ t298 (W.q3 (hg := gk rfl rfl gv304 rfl) (.bool (x28.2 != x290)) rfl rfl (W.q2 (hg := gk rfl rfl gv304 rfl) (.bool (x28.2 != x290)) rfl (W.splitAt (t := 111) (b := (x28.2 != x290)) rfl (fun g306 gv307 => ?_) (fun g306 gv307 => ?_)))))
  .have h308 := z03 g306 h305
   refine W.q6 rfl gv307 (W.q6 rfl gv307 (W.q6 rfl gv307 (W.q4 (hg := gk rfl rfl gv304 rfl) (.bool true) gv307 rfl (W.q4 (.bool true) gv304 rfl (.nil ?_)))))
   obtain rfl := zAa h308
   exact ⟨true, _, rfl, O295, (zAf _), rfl⟩
  have h309 := z0i g306 h305
  refine W.q2 (hg := gk rfl rfl gv307 rfl) w36 ((fr293 9 rfl).trans ((fr277 9 rfl).trans ((fr201 9 rfl).trans ((fr145 9 rfl).trans ((fr129 9 rfl).trans rfl))))) (W.pure (v := (.int .i64 (List.length x28.1 : Int))) (gk rfl rfl gv307 rfl) rfl (z0g (oo rfl rfl) (O295.slLen (j := 3) rfl) (z02 el45)) (W.q3 (hg := gk rfl rfl gv307 rfl) (.bool (decide ((List.length x28.1 : Int) > 0))) rfl rfl (W.q5 (hg := gk rfl rfl gv304 rfl) (.bool (decide ((List.length x28.1 : Int) > 0))) gv307 rfl (W.q4 (.bool (decide ((List.length x28.1 : Int) > 0))) gv304 rfl (.nil ?_)))))
  obtain rfl := zAa h309
  exact ⟨decide ((List.length x28.1 : Int) > 0), _, rfl, O295, (zAf _), rfl⟩
 rintro σ312 H313 fr314 ⟨x311, G315, rfl, O316, s317, t319⟩
 have h320 := z09 h302
 refine .cond (b := x311) rfl t319 (fun g321 => ?_) (fun g321 => ?_)
 .have h322 := z03 g321 h320
  refine .seq (.region (W.q1 (.bool false) rfl (.nil (.ret ?_))))
  have O323 : Ow G315 H313 (eSl v95 28 (rI .i64) [x71, x82] :: eSl w49 45 (rSl rS) x41.1 :: eSl w36 22 rS x28.1 :: eSl w23 45 (rSl rS) x15.1 :: L) := O316.drop 0
  have O324 : Ow G315 H313 (eSl w49 45 (rSl rS) x41.1 :: eSl w36 22 rS x28.1 :: eSl w23 45 (rSl rS) x15.1 :: L) := O323.drop 0
  have O325 : Ow G315 H313 (eSl w36 22 rS x28.1 :: eSl w23 45 (rSl rS) x15.1 :: L) := O324.drop 0
  have O326 : Ow G315 H313 (eSl w23 45 (rSl rS) x15.1 :: L) := O325.drop 0
  have O327 : Ow G315 H313 (L) := O326.drop 0
  obtain rfl := zAa h322
  exact z1a kr (v1 := (.bool false)) (by rfl) (z07 (by rfl) (by exact rfl)) O327 (zAe s6 (zAe s20 (zAe s33 (zAe s46 (zAe s59 (zAe s76 (zAe s87 (zAe s102 (zAe s132 (zAe s148 (zAe s204 (zAe s220 (zAe s231 (zAe s246 (zAe s280 (zAe s296 s317)))))))))))))))) rfl
 have h328 := z0i g321 h320
 refine .skip (.seq (.seq ?_))
 obtain ⟨q329, h330, h331⟩ := z00 h328
 refine AW.midT (fun σ' H' => ∃ (y1 : Bool) (G' : GM), y1 = q329 /\ Ow G' H' (eSl v239 28 (rI .i64) [x215, x226] :: eSl v95 28 (rI .i64) [x71, x82] :: eSl w49 45 (rSl rS) x41.1 :: eSl w36 22 rS x28.1 :: eSl w23 45 (rSl rS) x15.1 :: L) /\ GM.le G315 G' /\ σ' 126 = .bool y1) ?_ ?_
 .refine .region (W.q2 v0 ((fr314 0 rfl).trans ((fr293 0 rfl).trans ((fr277 0 rfl).trans ((fr201 0 rfl).trans ((fr145 0 rfl).trans ((fr129 0 rfl).trans rfl)))))) (W.q2 v1 ((fr314 1 rfl).trans ((fr293 1 rfl).trans ((fr277 1 rfl).trans ((fr201 1 rfl).trans ((fr145 1 rfl).trans ((fr129 1 rfl).trans rfl)))))) (W.q2 v2 ((fr314 2 rfl).trans ((fr293 2 rfl).trans ((fr277 2 rfl).trans ((fr201 2 rfl).trans ((fr145 2 rfl).trans ((fr129 2 rfl).trans rfl)))))) (W.lo rfl rfl (Lo.buildSlice (r := (rSl rS)) (vs := [v2]) (xs := [p2]) el44 ze45 sz45 (by kernel_rfl) rfl (qc rfl qn) rfl (.cons (z2g (RT.mono _ (zAe s6 (zAe s20 (zAe s33 (zAe s46 (zAe s59 (zAe s76 (zAe s87 (zAe s102 (zAe s132 (zAe s148 (zAe s204 (zAe s220 (zAe s231 (zAe s246 (zAe s280 (zAe s296 s317)))))))))))))))) hp2)) .nil) O316) ?_))))
  rintro v334 H335 ⟨O332, sm333⟩
  obtain ⟨G337, O338, s339, f340⟩ := O332.frzSl (j := 0) rfl
  refine W.lo rfl rfl (Lo.buildSlice (r := (rSl (rSl rS))) (vs := [v0, v1, v334]) (xs := [p0, p1, [p2]]) zo9 ze44 sz44 (by kernel_rfl) rfl (qc rfl (qc rfl (qc rfl qn))) rfl (.cons (z2g (RT.mono _ (zAe s6 (zAe s20 (zAe s33 (zAe s46 (zAe s59 (zAe s76 (zAe s87 (zAe s102 (zAe s132 (zAe s148 (zAe s204 (zAe s220 (zAe s231 (zAe s246 (zAe s280 (zAe s296 (zAe s317 s339))))))))))))))))) hp0)) (.cons (z2g (RT.mono _ (zAe s6 (zAe s20 (zAe s33 (zAe s46 (zAe s59 (zAe s76 (zAe s87 (zAe s102 (zAe s132 (zAe s148 (zAe s204 (zAe s220 (zAe s231 (zAe s246 (zAe s280 (zAe s296 (zAe s317 s339))))))))))))))))) hp1)) (.cons (z2g f340) .nil))) O338) ?_
  rintro v342 H343 ⟨O336, sm341⟩
  obtain ⟨x344, i345, h346⟩ := z00 h330
  refine W.lo rfl rfl (Lo.callB (j := 0) rfl rfl (fn := Tryz.f32) (by kernel_rfl) rfl (mc rfl (mc rfl mn)) O336 (fun G' L' hG O' hB => zb2 K 6 v342 [p0, p1, [p2]] hB O' _ i345)) ?_
  rintro v353 H354 ⟨G347, O348, s349, sm352, rfl⟩
  refine W.q2 (.bool x344) rfl (W.splitAt (t := 123) (b := x344) rfl (fun g355 gv356 => ?_) (fun g355 gv356 => ?_))
  .have h357 := z03 g355 h346
   refine W.q6 rfl gv356 (W.q6 rfl gv356 (W.q4 (.bool true) gv356 rfl (.nil ?_)))
   have O358 : Ow G347 H354 (eSl v239 28 (rI .i64) [x215, x226] :: eSl v95 28 (rI .i64) [x71, x82] :: eSl w49 45 (rSl rS) x41.1 :: eSl w36 22 rS x28.1 :: eSl w23 45 (rSl rS) x15.1 :: L) := O348.drop 0
   obtain rfl := zAa h357
   exact ⟨true, _, rfl, O358, (zAe s339 s349), rfl⟩
  have h359 := z0i g355 h346
  refine W.q2 (hg := gk rfl rfl gv356 rfl) (.int .i64 x41.2) ((fr314 12 rfl).trans ((fr293 12 rfl).trans ((fr277 12 rfl).trans ((fr201 12 rfl).trans ((fr145 12 rfl).trans ((fr129 12 rfl).trans rfl)))))) (W.q3 (hg := gk rfl rfl gv356 rfl) (.bool (x41.2 != 0)) rfl rfl (W.q5 (.bool (x41.2 != 0)) gv356 rfl (.nil ?_)))
  have O360 : Ow G347 H354 (eSl v239 28 (rI .i64) [x215, x226] :: eSl v95 28 (rI .i64) [x71, x82] :: eSl w49 45 (rSl rS) x41.1 :: eSl w36 22 rS x28.1 :: eSl w23 45 (rSl rS) x15.1 :: L) := O348.drop 0
  obtain rfl := zAa h359
  exact ⟨(x41.2 != 0), _, rfl, O360, (zAe s339 s349), rfl⟩
 rintro σ362 H363 fr364 ⟨x361, G365, rfl, O366, s367, t369⟩
 have h370 := z09 h331
 refine .cond (b := x361) rfl t369 (fun g371 => ?_) (fun g371 => ?_)
 .have h372 := z03 g371 h370
  refine .seq (.region (W.q1 (.bool true) rfl (.nil (.ret ?_))))
  have O373 : Ow G365 H363 (eSl v95 28 (rI .i64) [x71, x82] :: eSl w49 45 (rSl rS) x41.1 :: eSl w36 22 rS x28.1 :: eSl w23 45 (rSl rS) x15.1 :: L) := O366.drop 0
  have O374 : Ow G365 H363 (eSl w49 45 (rSl rS) x41.1 :: eSl w36 22 rS x28.1 :: eSl w23 45 (rSl rS) x15.1 :: L) := O373.drop 0
  have O375 : Ow G365 H363 (eSl w36 22 rS x28.1 :: eSl w23 45 (rSl rS) x15.1 :: L) := O374.drop 0
  have O376 : Ow G365 H363 (eSl w23 45 (rSl rS) x15.1 :: L) := O375.drop 0
  have O377 : Ow G365 H363 (L) := O376.drop 0
  obtain rfl := zAa h372
  exact z1a kr (v1 := (.bool true)) (by rfl) (z07 (by rfl) (by exact rfl)) O377 (zAe s6 (zAe s20 (zAe s33 (zAe s46 (zAe s59 (zAe s76 (zAe s87 (zAe s102 (zAe s132 (zAe s148 (zAe s204 (zAe s220 (zAe s231 (zAe s246 (zAe s280 (zAe s296 (zAe s317 s367))))))))))))))))) rfl
 have h378 := z0i g371 h370
 refine .skip (.seq (.seq (.region (W.q2 w49 ((fr364 11 rfl).trans ((fr314 11 rfl).trans ((fr293 11 rfl).trans ((fr277 11 rfl).trans ((fr201 11 rfl).trans ((fr145 11 rfl).trans ((fr129 11 rfl).trans rfl))))))) (W.pure (v := (.int .i64 (List.length x41.1 : Int))) rfl rfl (z0g (oo rfl rfl) (O366.slLen (j := 2) rfl) (z02 el44)) (W.q2 v0 ((fr364 0 rfl).trans ((fr314 0 rfl).trans ((fr293 0 rfl).trans ((fr277 0 rfl).trans ((fr201 0 rfl).trans ((fr145 0 rfl).trans ((fr129 0 rfl).trans rfl))))))) ?_))))))
 obtain ⟨x379, i380, h381⟩ := z00 h378
 refine W.lo rfl rfl (Lo.cP rfl (fn := Tryz.f31) (by kernel_rfl) rfl (mc rfl mn) O366 (fun L' O' => z82 K v0 p0 (RT.mono _ (zAe s6 (zAe s20 (zAe s33 (zAe s46 (zAe s59 (zAe s76 (zAe s87 (zAe s102 (zAe s132 (zAe s148 (zAe s204 (zAe s220 (zAe s231 (zAe s246 (zAe s280 (zAe s296 (zAe s317 s367))))))))))))))))) hp0) O' _ i380)) ?_
 rintro v388 H389 ⟨G382, O383, s384, sm387, rfl⟩
 refine W.q3 (.bool ((List.length x41.1 : Int) != x379)) rfl rfl (.nil (.cond (b := ((List.length x41.1 : Int) != x379)) rfl rfl (fun g390 => ?_) (fun g390 => ?_)))
 .have h391 := z03 g390 h381
  refine .seq (.region (W.q1 (.bool false) rfl (.nil (.ret ?_))))
  have O392 : Ow G382 H389 (eSl v95 28 (rI .i64) [x71, x82] :: eSl w49 45 (rSl rS) x41.1 :: eSl w36 22 rS x28.1 :: eSl w23 45 (rSl rS) x15.1 :: L) := O383.drop 0
  have O393 : Ow G382 H389 (eSl w49 45 (rSl rS) x41.1 :: eSl w36 22 rS x28.1 :: eSl w23 45 (rSl rS) x15.1 :: L) := O392.drop 0
  have O394 : Ow G382 H389 (eSl w36 22 rS x28.1 :: eSl w23 45 (rSl rS) x15.1 :: L) := O393.drop 0
  have O395 : Ow G382 H389 (eSl w23 45 (rSl rS) x15.1 :: L) := O394.drop 0
  have O396 : Ow G382 H389 (L) := O395.drop 0
  obtain rfl := zAa h391
  exact z1a kr (v1 := (.bool false)) (by rfl) (z07 (by rfl) (by exact rfl)) O396 (zAe s6 (zAe s20 (zAe s33 (zAe s46 (zAe s59 (zAe s76 (zAe s87 (zAe s102 (zAe s132 (zAe s148 (zAe s204 (zAe s220 (zAe s231 (zAe s246 (zAe s280 (zAe s296 (zAe s317 (zAe s367 s384)))))))))))))))))) rfl
 have h397 := z0i g390 h381
 refine .skip (.seq (.seq (.region (W.q2 w49 ((fr364 11 rfl).trans ((fr314 11 rfl).trans ((fr293 11 rfl).trans ((fr277 11 rfl).trans ((fr201 11 rfl).trans ((fr145 11 rfl).trans ((fr129 11 rfl).trans rfl))))))) (W.pure (v := (.int .i64 (List.length x41.1 : Int))) rfl rfl (z0g (oo rfl rfl) (O383.slLen (j := 2) rfl) (z02 el44)) (W.q2 (.int .i64 0) rfl ?_))))))
 refine .nil ?_
 obtain ⟨q398, h399, h400⟩ := z20 h397
 refine AW.midT (fun σ' H' => ∃  (G' : GM), (.inr ()) = q398 /\ Ow G' H' (eSl v239 28 (rI .i64) [x215, x226] :: eSl v95 28 (rI .i64) [x71, x82] :: eSl w49 45 (rSl rS) x41.1 :: eSl w36 22 rS x28.1 :: eSl w23 45 (rSl rS) x15.1 :: L) /\ GM.le G382 G') ?_ ?_
 .refine .block (AW.loop (α := Nat) (fun k' σ' H' => ∃ (y1 : Int) (G' : GM), z0t K p0 x41 k' y1 = some q398 /\ Ow G' H' (eSl v239 28 (rI .i64) [x215, x226] :: eSl v95 28 (rI .i64) [x71, x82] :: eSl w49 45 (rSl rS) x41.1 :: eSl w36 22 rS x28.1 :: eSl w23 45 (rSl rS) x15.1 :: L) /\ GM.le G382 G' /\ σ' 134 = .int .i64 y1) (fun k' => k') K ⟨0, _, h399, O383, (zAf _), rfl⟩ ?_)
  rintro k401
  rintro σ403 H404 fr405 ⟨x402, G406, h409, O407, s408, t410⟩
  rcases k401 with _ | k401
  .exact z06 h409
  rw [z0t] at h409
  refine .seq (.region (W.q3 (.bool (decide (x402 < (List.length x41.1 : Int)))) t410 ((fr405 133 rfl).trans rfl) (.nil (.seq (.cond (b := decide (x402 < (List.length x41.1 : Int))) rfl rfl (fun g411 => ?_) (fun g411 => ?_))))))
  rotate_left
  .have h455 := z0i g411 h409
   refine .exit ?_
   obtain rfl := zAa h455
   exact ⟨_, rfl, O407, s408⟩
  have h412 := z03 g411 h409
  refine .skip (.seq (.block (.seq (.region (W.q2 _ t410 ?_)))))
  obtain ⟨x413, i414, h415⟩ := z00 h412
  have j416 := z0d i414
  refine W.pure (v := (z1t w49 (Int.toNat x402 * 1))) rfl rfl (z2f el44 sz45 (oo rfl ((fr405 132 rfl).trans rfl)) (oo rfl t410) (O407.slLen (j := 2) rfl) j416.1 j416.2.1) ?_
  obtain ⟨w417, p418, f419⟩ := At.sl (O407.atSl (j := 2) rfl j416.2.2)
  refine W.load1 (v := w417) (r := []) rfl rfl ag45 (z19 rfl p418) (W.q1 (.int .i64 x402) rfl (W.q1 w417 rfl (.nil (.seq (.region (W.q2 w417 rfl ?_))))))
  refine W.q2 v0 ((fr405 0 rfl).trans ((fr364 0 rfl).trans ((fr314 0 rfl).trans ((fr293 0 rfl).trans ((fr277 0 rfl).trans ((fr201 0 rfl).trans ((fr145 0 rfl).trans ((fr129 0 rfl).trans rfl)))))))) (W.q2 (.int .i64 x402) rfl ?_)
  obtain ⟨x420, i421, h422⟩ := z00 h415
  refine W.lo rfl rfl (Lo.callPF (ps := []) (pw := fun w => [eSl w 22 rS x420]) rfl (fn := Tryz.f35) (by kernel_rfl) rfl (mc rfl (mc rfl mn)) O407 (fun L' O' => zb3 K v0 p0 (RT.mono _ (zAe s6 (zAe s20 (zAe s33 (zAe s46 (zAe s59 (zAe s76 (zAe s87 (zAe s102 (zAe s132 (zAe s148 (zAe s204 (zAe s220 (zAe s231 (zAe s246 (zAe s280 (zAe s296 (zAe s317 (zAe s367 (zAe s384 s408))))))))))))))))))) hp0) x402 O' _ i421)) ?_
  rintro v431 H432 ⟨w428, G423, O424, s425, sm430, rfl⟩
  obtain ⟨x433, i434, h435⟩ := z00 h422
  refine W.lo rfl rfl (Lo.callB (j := 0) rfl rfl (fn := Tryz.f34) (by kernel_rfl) rfl (mc rfl (mc rfl mn)) O424 (fun G' L' hG O' hB => z1z K w417 x413 (RT.mono _ hG (RT.mono _ s425 f419)) w428 x420 hB O' _ i434)) ?_
  rintro v442 H443 ⟨G436, O437, s438, sm441, rfl⟩
  refine W.pure (v := (.bool (!x433))) rfl rfl (z9e (a := x433) (oo rfl rfl)) (.nil (.cond (b := (!x433)) rfl rfl (fun g444 => ?_) (fun g444 => ?_)))
  rotate_left
  .have h453 := z0i g444 h435
   refine .skip (.region (W.q3 (.int .i64 (z04 .i64 (x402 + 1))) t410 rfl (W.q2 (.int .i64 (z04 .i64 (x402 + 1))) rfl (.nil ?_))))
   have O454 : Ow G436 H443 (eSl v239 28 (rI .i64) [x215, x226] :: eSl v95 28 (rI .i64) [x71, x82] :: eSl w49 45 (rSl rS) x41.1 :: eSl w36 22 rS x28.1 :: eSl w23 45 (rSl rS) x15.1 :: L) := O437.drop 0
   exact ⟨k401, zAg _, ⟨z04 .i64 (x402 + 1), _, h453, O454, (zAe s408 (zAe s425 s438)), rfl⟩⟩
  have h445 := z03 g444 h435
  refine .seq (.region (W.q1 (.bool false) rfl (.nil (.ret ?_))))
  have O446 : Ow G436 H443 (eSl v239 28 (rI .i64) [x215, x226] :: eSl v95 28 (rI .i64) [x71, x82] :: eSl w49 45 (rSl rS) x41.1 :: eSl w36 22 rS x28.1 :: eSl w23 45 (rSl rS) x15.1 :: L) := O437.drop 0
  have O447 : Ow G436 H443 (eSl v95 28 (rI .i64) [x71, x82] :: eSl w49 45 (rSl rS) x41.1 :: eSl w36 22 rS x28.1 :: eSl w23 45 (rSl rS) x15.1 :: L) := O446.drop 0
  have O448 : Ow G436 H443 (eSl w49 45 (rSl rS) x41.1 :: eSl w36 22 rS x28.1 :: eSl w23 45 (rSl rS) x15.1 :: L) := O447.drop 0
  have O449 : Ow G436 H443 (eSl w36 22 rS x28.1 :: eSl w23 45 (rSl rS) x15.1 :: L) := O448.drop 0
  have O450 : Ow G436 H443 (eSl w23 45 (rSl rS) x15.1 :: L) := O449.drop 0
  have O451 : Ow G436 H443 (L) := O450.drop 0
  obtain rfl := zAa h445
  have h452 := z09 (z5h h400)
  obtain rfl := zAa h452
  exact z1a kr (v1 := (.bool false)) (by rfl) (z07 (by rfl) (by exact rfl)) O451 (zAe s6 (zAe s20 (zAe s33 (zAe s46 (zAe s59 (zAe s76 (zAe s87 (zAe s102 (zAe s132 (zAe s148 (zAe s204 (zAe s220 (zAe s231 (zAe s246 (zAe s280 (zAe s296 (zAe s317 (zAe s367 (zAe s384 (zAe s408 (zAe s425 s438))))))))))))))))))))) rfl
 rintro σ456 H457 fr458 ⟨G459, rfl, O460, s461⟩
 have h463 := z51 (z76 h400)
 refine .seq (.seq (.region (W.q2 _ ((fr458 14 rfl).trans ((fr364 14 rfl).trans ((fr314 14 rfl).trans t298))) (W.q3 (.bool (x290 == 0)) rfl rfl (.nil ?_)))))
 obtain ⟨q464, h465, h466⟩ := z20 h463
 refine AW.midT (fun σ' H' => ∃  (G' : GM), (.inr ()) = q464 /\ Ow G' H' (eSl v239 28 (rI .i64) [x215, x226] :: eSl v95 28 (rI .i64) [x71, x82] :: eSl w49 45 (rSl rS) x41.1 :: eSl w36 22 rS x28.1 :: eSl w23 45 (rSl rS) x15.1 :: L) /\ GM.le G459 G') ?_ ?_
 .refine .cond (b := (x290 == 0)) rfl rfl (fun g467 => ?_) (fun g467 => ?_)
  rotate_left
  .have h557 := z0i g467 h465
   refine .skip ?_
   obtain rfl := zAa h557
   exact ⟨_, rfl, O460, (zAf _)⟩
  have h468 := z03 g467 h465
  refine .seq (.seq ?_)
  obtain ⟨q469, h470, h471⟩ := z00 h468
  refine AW.midT (fun σ' H' => ∃ (y1 : Bool) (G' : GM), y1 = q469 /\ Ow G' H' (eSl v239 28 (rI .i64) [x215, x226] :: eSl v95 28 (rI .i64) [x71, x82] :: eSl w49 45 (rSl rS) x41.1 :: eSl w36 22 rS x28.1 :: eSl w23 45 (rSl rS) x15.1 :: L) /\ GM.le G459 G' /\ σ' 156 = .bool y1) ?_ ?_
  .refine .region (W.q2 (.int .i64 x28.2) ((fr458 10 rfl).trans ((fr364 10 rfl).trans ((fr314 10 rfl).trans ((fr293 10 rfl).trans ((fr277 10 rfl).trans ((fr201 10 rfl).trans ((fr145 10 rfl).trans ((fr129 10 rfl).trans rfl)))))))) (W.q3 (.bool (x28.2 != 0)) rfl rfl (W.q2 (.bool (x28.2 != 0)) rfl (W.splitAt (t := 150) (b := (x28.2 != 0)) rfl (fun g472 gv473 => ?_) (fun g472 gv473 => ?_)))))
   .have h474 := z03 g472 h470
    refine W.q6 rfl gv473 (W.q6 rfl gv473 (W.q6 rfl gv473 (W.q6 rfl gv473 (W.q6 rfl gv473 (W.q4 (.bool true) gv473 rfl (.nil ?_))))))
    obtain rfl := zAa h474
    exact ⟨true, _, rfl, O460, (zAf _), rfl⟩
   have h475 := z0i g472 h470
   refine W.q2 (hg := gk rfl rfl gv473 rfl) w36 ((fr458 9 rfl).trans ((fr364 9 rfl).trans ((fr314 9 rfl).trans ((fr293 9 rfl).trans ((fr277 9 rfl).trans ((fr201 9 rfl).trans ((fr145 9 rfl).trans ((fr129 9 rfl).trans rfl)))))))) (W.pure (v := (.int .i64 (List.length x28.1 : Int))) (gk rfl rfl gv473 rfl) rfl (z0g (oo rfl rfl) (O460.slLen (j := 3) rfl) (z02 el45)) (W.q2 (hg := gk rfl rfl gv473 rfl) v0 ((fr458 0 rfl).trans ((fr364 0 rfl).trans ((fr314 0 rfl).trans ((fr293 0 rfl).trans ((fr277 0 rfl).trans ((fr201 0 rfl).trans ((fr145 0 rfl).trans ((fr129 0 rfl).trans rfl)))))))) (W.pure (v := (.int .i64 (List.length p0 : Int))) (gk rfl rfl gv473 rfl) rfl (z0g (oo rfl rfl) (z0b (RT.mono _ (zAe s6 (zAe s20 (zAe s33 (zAe s46 (zAe s59 (zAe s76 (zAe s87 (zAe s102 (zAe s132 (zAe s148 (zAe s204 (zAe s220 (zAe s231 (zAe s246 (zAe s280 (zAe s296 (zAe s317 (zAe s367 (zAe s384 s461))))))))))))))))))) hp0)) (z02 el44)) (W.q3 (hg := gk rfl rfl gv473 rfl) (.bool ((List.length x28.1 : Int) != (List.length p0 : Int))) rfl rfl (W.q5 (.bool ((List.length x28.1 : Int) != (List.length p0 : Int))) gv473 rfl (.nil ?_))))))
   obtain rfl := zAa h475
   exact ⟨((List.length x28.1 : Int) != (List.length p0 : Int)), _, rfl, O460, (zAf _), rfl⟩
  rintro σ477 H478 fr479 ⟨x476, G480, rfl, O481, s482, t484⟩
  have h485 := z09 h471
  refine .cond (b := x476) rfl t484 (fun g486 => ?_) (fun g486 => ?_)
  .have h487 := z03 g486 h485
   refine .seq (.region (W.q1 (.bool false) rfl (.nil (.ret ?_))))
   have O488 : Ow G480 H478 (eSl v95 28 (rI .i64) [x71, x82] :: eSl w49 45 (rSl rS) x41.1 :: eSl w36 22 rS x28.1 :: eSl w23 45 (rSl rS) x15.1 :: L) := O481.drop 0
   have O489 : Ow G480 H478 (eSl w49 45 (rSl rS) x41.1 :: eSl w36 22 rS x28.1 :: eSl w23 45 (rSl rS) x15.1 :: L) := O488.drop 0
   have O490 : Ow G480 H478 (eSl w36 22 rS x28.1 :: eSl w23 45 (rSl rS) x15.1 :: L) := O489.drop 0
   have O491 : Ow G480 H478 (eSl w23 45 (rSl rS) x15.1 :: L) := O490.drop 0
   have O492 : Ow G480 H478 (L) := O491.drop 0
   obtain rfl := zAa h487
   have h493 := z09 (z5h h466)
   obtain rfl := zAa h493
   exact z1a kr (v1 := (.bool false)) (by rfl) (z07 (by rfl) (by exact rfl)) O492 (zAe s6 (zAe s20 (zAe s33 (zAe s46 (zAe s59 (zAe s76 (zAe s87 (zAe s102 (zAe s132 (zAe s148 (zAe s204 (zAe s220 (zAe s231 (zAe s246 (zAe s280 (zAe s296 (zAe s317 (zAe s367 (zAe s384 (zAe s461 s482)))))))))))))))))))) rfl
  have h494 := z0i g486 h485
  refine .skip (.seq (.region (W.q2 v0 ((fr479 0 rfl).trans ((fr458 0 rfl).trans ((fr364 0 rfl).trans ((fr314 0 rfl).trans ((fr293 0 rfl).trans ((fr277 0 rfl).trans ((fr201 0 rfl).trans ((fr145 0 rfl).trans ((fr129 0 rfl).trans rfl))))))))) (W.pure (v := (.int .i64 (List.length p0 : Int))) rfl rfl (z0g (oo rfl rfl) (z0b (RT.mono _ (zAe s6 (zAe s20 (zAe s33 (zAe s46 (zAe s59 (zAe s76 (zAe s87 (zAe s102 (zAe s132 (zAe s148 (zAe s204 (zAe s220 (zAe s231 (zAe s246 (zAe s280 (zAe s296 (zAe s317 (zAe s367 (zAe s384 (zAe s461 s482)))))))))))))))))))) hp0)) (z02 el44)) (W.q2 (.int .i64 0) rfl (.nil ?_))))))
  obtain ⟨q495, h496, h497⟩ := z20 h494
  refine AW.midT (fun σ' H' => ∃  (G' : GM), (.inr ()) = q495 /\ Ow G' H' (eSl v239 28 (rI .i64) [x215, x226] :: eSl v95 28 (rI .i64) [x71, x82] :: eSl w49 45 (rSl rS) x41.1 :: eSl w36 22 rS x28.1 :: eSl w23 45 (rSl rS) x15.1 :: L) /\ GM.le G480 G') ?_ ?_
  rotate_left
  .rintro σ548 H549 fr550 ⟨G551, rfl, O552, s553⟩
   have h555 := z51 (z76 h497)
   obtain rfl := zAa h555
   exact ⟨_, rfl, O552, (zAe s482 s553)⟩
  refine .block (AW.loop (α := Nat) (fun k' σ' H' => ∃ (y1 : Int) (G' : GM), z0p K p0 p2 x28 k' y1 = some q495 /\ Ow G' H' (eSl v239 28 (rI .i64) [x215, x226] :: eSl v95 28 (rI .i64) [x71, x82] :: eSl w49 45 (rSl rS) x41.1 :: eSl w36 22 rS x28.1 :: eSl w23 45 (rSl rS) x15.1 :: L) /\ GM.le G480 G' /\ σ' 159 = .int .i64 y1) (fun k' => k') K ⟨0, _, h496, O481, (zAf _), rfl⟩ ?_)
  rintro k498
  rintro σ500 H501 fr502 ⟨x499, G503, h506, O504, s505, t507⟩
  rcases k498 with _ | k498
  .exact z06 h506
  rw [z0p] at h506
  refine .seq (.region (W.q3 (.bool (decide (x499 < (List.length p0 : Int)))) t507 ((fr502 158 rfl).trans rfl) (.nil (.seq (.cond (b := decide (x499 < (List.length p0 : Int))) rfl rfl (fun g508 => ?_) (fun g508 => ?_))))))
  rotate_left
  .have h547 := z0i g508 h506
   refine .exit ?_
   obtain rfl := zAa h547
   exact ⟨_, rfl, O504, s505⟩
  have h509 := z03 g508 h506
  refine .skip (.seq (.block (.seq (.region (W.q2 _ t507 ?_)))))
  obtain ⟨x510, i511, h512⟩ := z00 h509
  have j513 := z0d i511
  refine W.pure (v := (z1t v0 (Int.toNat x499 * 1))) rfl rfl (z2f el44 sz45 (oo rfl ((fr502 157 rfl).trans rfl)) (oo rfl t507) (z0b (RT.mono _ (zAe s6 (zAe s20 (zAe s33 (zAe s46 (zAe s59 (zAe s76 (zAe s87 (zAe s102 (zAe s132 (zAe s148 (zAe s204 (zAe s220 (zAe s231 (zAe s246 (zAe s280 (zAe s296 (zAe s317 (zAe s367 (zAe s384 (zAe s461 (zAe s482 s505))))))))))))))))))))) hp0)) j513.1 j513.2.1) ?_
  obtain ⟨w514, p515, f516⟩ := At.sl (At.le (z1h hp0 j513.2.2) (zAe s6 (zAe s20 (zAe s33 (zAe s46 (zAe s59 (zAe s76 (zAe s87 (zAe s102 (zAe s132 (zAe s148 (zAe s204 (zAe s220 (zAe s231 (zAe s246 (zAe s280 (zAe s296 (zAe s317 (zAe s367 (zAe s384 (zAe s461 (zAe s482 s505))))))))))))))))))))) (zAe s6 (zAe s20 (zAe s33 (zAe s46 (zAe s59 (zAe s76 (zAe s87 (zAe s102 (zAe s132 (zAe s148 (zAe s204 (zAe s220 (zAe s231 (zAe s246 (zAe s280 (zAe s296 (zAe s317 (zAe s367 (zAe s384 (zAe s461 (zAe s482 s505))))))))))))))))))))))
  replace p515 := PtG.le p515 O504.fro
  refine W.load1 (v := w514) (r := []) rfl rfl ag45 (z19 rfl p515) (W.q1 (.int .i64 x499) rfl (W.q1 w514 rfl (.nil (.seq (.draw2 (M := [0, 0, 3, 7, 0, 0, 48, 127]) mixed (by kernel_rfl) (by kernel_rfl) fun H517 N521 x518 F520 => ?_)))))
  have O519 := O504.ext x518
  refine D2.q2 w36 ((fr502 9 rfl).trans ((fr479 9 rfl).trans ((fr458 9 rfl).trans ((fr364 9 rfl).trans ((fr314 9 rfl).trans ((fr293 9 rfl).trans ((fr277 9 rfl).trans ((fr201 9 rfl).trans ((fr145 9 rfl).trans ((fr129 9 rfl).trans rfl)))))))))) (D2.q2 (.int .i64 x499) rfl ?_)
  obtain ⟨x522, i523, h524⟩ := z00 h512
  have j525 := z0d i523
  refine D2.pure (v := (z1t w36 (Int.toNat x499 * 1))) rfl rfl (z2f el45 sz22 (oo rfl rfl) (oo rfl rfl) (O519.slLen (j := 3) rfl) j525.1 j525.2.1) (D2.load1' (v := (.string x522)) (r := []) rfl rfl ag22 (z19 rfl (At.str (O519.atSl (j := 3) rfl j525.2.2))) z0a (D2.q2 w514 rfl (D2.q2 v2 ((fr502 2 rfl).trans ((fr479 2 rfl).trans ((fr458 2 rfl).trans ((fr364 2 rfl).trans ((fr314 2 rfl).trans ((fr293 2 rfl).trans ((fr277 2 rfl).trans ((fr201 2 rfl).trans ((fr145 2 rfl).trans ((fr129 2 rfl).trans rfl)))))))))) ?_)))
  obtain ⟨x526, i527, h528⟩ := z00 h524
  refine D2.lo rfl rfl (Lo.cP rfl (fn := Tryz.f36) (by kernel_rfl) rfl (mc rfl (mc rfl mn)) O519 (fun L' O' => zel K w514 x510 f516 v2 p2 (RT.mono _ (zAe s6 (zAe s20 (zAe s33 (zAe s46 (zAe s59 (zAe s76 (zAe s87 (zAe s102 (zAe s132 (zAe s148 (zAe s204 (zAe s220 (zAe s231 (zAe s246 (zAe s280 (zAe s296 (zAe s317 (zAe s367 (zAe s384 (zAe s461 (zAe s482 s505))))))))))))))))))))) hp2) O' _ i527)) ?_ z0a ?_ ?_
  .rintro v535 H536 ⟨G529, O530, s531, sm534, rfl⟩; exact (faR1 (.inr (sm534 _ (Or.inr ⟨3, _, rfl, (O519.footSl (j := 3) rfl j525.2.2)⟩))) z0a)
  .rintro v535 H536 ⟨G529, O530, s531, sm534, rfl⟩; exact z0a
  rintro v535 H536 ⟨G529, O530, s531, sm534, rfl⟩
  refine D2.pure (v := (.bool (!(sEq x522 x526)))) rfl rfl (zgv (oo rfl rfl) (oo rfl rfl)) (.nil (.cond (b := (!(sEq x522 x526))) rfl rfl (fun g537 => ?_) (fun g537 => ?_)))
  rotate_left
  .have h546 := z0i g537 h528
   refine .skip (.region (W.q3 (.int .i64 (z04 .i64 (x499 + 1))) t507 rfl (W.q2 (.int .i64 (z04 .i64 (x499 + 1))) rfl (.nil ?_))))
   exact ⟨k498, zAg _, ⟨z04 .i64 (x499 + 1), _, h546, O530, (zAe s505 s531), rfl⟩⟩
  have h538 := z03 g537 h528
  refine .seq (.region (W.q1 (.bool false) rfl (.nil (.ret ?_))))
  have O539 : Ow G529 H536 (eSl v95 28 (rI .i64) [x71, x82] :: eSl w49 45 (rSl rS) x41.1 :: eSl w36 22 rS x28.1 :: eSl w23 45 (rSl rS) x15.1 :: L) := O530.drop 0
  have O540 : Ow G529 H536 (eSl w49 45 (rSl rS) x41.1 :: eSl w36 22 rS x28.1 :: eSl w23 45 (rSl rS) x15.1 :: L) := O539.drop 0
  have O541 : Ow G529 H536 (eSl w36 22 rS x28.1 :: eSl w23 45 (rSl rS) x15.1 :: L) := O540.drop 0
  have O542 : Ow G529 H536 (eSl w23 45 (rSl rS) x15.1 :: L) := O541.drop 0
  have O543 : Ow G529 H536 (L) := O542.drop 0
  obtain rfl := zAa h538
  have h544 := z09 (z5h h497)
  obtain rfl := zAa h544
  have h545 := z09 (z5h h466)
  obtain rfl := zAa h545
  exact z1a kr (v1 := (.bool false)) (by rfl) (z07 (by rfl) (by exact rfl)) O543 (zAe s6 (zAe s20 (zAe s33 (zAe s46 (zAe s59 (zAe s76 (zAe s87 (zAe s102 (zAe s132 (zAe s148 (zAe s204 (zAe s220 (zAe s231 (zAe s246 (zAe s280 (zAe s296 (zAe s317 (zAe s367 (zAe s384 (zAe s461 (zAe s482 (zAe s505 s531)))))))))))))))))))))) rfl
 rintro σ558 H559 fr560 ⟨G561, rfl, O562, s563⟩
 have h565 := z51 (z76 h466)
 refine .seq (.seq (.region (W.q2 _ ((fr560 13 rfl).trans ((fr458 13 rfl).trans ((fr364 13 rfl).trans ((fr314 13 rfl).trans ((fr293 13 rfl).trans ((fr277 13 rfl).trans ((fr201 13 rfl).trans t150))))))) (W.q3 (.bool (x142 != 0)) rfl rfl (.nil (.cond (b := (x142 != 0)) rfl rfl (fun g566 => ?_) (fun g566 => ?_)))))))
 .have h567 := z03 g566 h565
  refine .seq (.region (W.q1 (.bool true) rfl (.nil (.ret ?_))))
  have O568 : Ow G561 H559 (eSl v95 28 (rI .i64) [x71, x82] :: eSl w49 45 (rSl rS) x41.1 :: eSl w36 22 rS x28.1 :: eSl w23 45 (rSl rS) x15.1 :: L) := O562.drop 0
  have O569 : Ow G561 H559 (eSl w49 45 (rSl rS) x41.1 :: eSl w36 22 rS x28.1 :: eSl w23 45 (rSl rS) x15.1 :: L) := O568.drop 0
  have O570 : Ow G561 H559 (eSl w36 22 rS x28.1 :: eSl w23 45 (rSl rS) x15.1 :: L) := O569.drop 0
  have O571 : Ow G561 H559 (eSl w23 45 (rSl rS) x15.1 :: L) := O570.drop 0
  have O572 : Ow G561 H559 (L) := O571.drop 0
  obtain rfl := zAa h567
  exact z1a kr (v1 := (.bool true)) (by rfl) (z07 (by rfl) (by exact rfl)) O572 (zAe s6 (zAe s20 (zAe s33 (zAe s46 (zAe s59 (zAe s76 (zAe s87 (zAe s102 (zAe s132 (zAe s148 (zAe s204 (zAe s220 (zAe s231 (zAe s246 (zAe s280 (zAe s296 (zAe s317 (zAe s367 (zAe s384 (zAe s461 s563)))))))))))))))))))) rfl
 have h573 := z0i g566 h565
 refine .skip (.seq (.seq (.region (W.q2 w23 ((fr560 7 rfl).trans ((fr458 7 rfl).trans ((fr364 7 rfl).trans ((fr314 7 rfl).trans ((fr293 7 rfl).trans ((fr277 7 rfl).trans ((fr201 7 rfl).trans ((fr145 7 rfl).trans ((fr129 7 rfl).trans rfl))))))))) (W.pure (v := (.int .i64 (List.length x15.1 : Int))) rfl rfl (z0g (oo rfl rfl) (O562.slLen (j := 4) rfl) (z02 el44)) (W.q2 v0 ((fr560 0 rfl).trans ((fr458 0 rfl).trans ((fr364 0 rfl).trans ((fr314 0 rfl).trans ((fr293 0 rfl).trans ((fr277 0 rfl).trans ((fr201 0 rfl).trans ((fr145 0 rfl).trans ((fr129 0 rfl).trans rfl))))))))) ?_))))))
 refine W.pure (v := (.int .i64 (List.length p0 : Int))) rfl rfl (z0g (oo rfl rfl) (z0b (RT.mono _ (zAe s6 (zAe s20 (zAe s33 (zAe s46 (zAe s59 (zAe s76 (zAe s87 (zAe s102 (zAe s132 (zAe s148 (zAe s204 (zAe s220 (zAe s231 (zAe s246 (zAe s280 (zAe s296 (zAe s317 (zAe s367 (zAe s384 (zAe s461 s563)))))))))))))))))))) hp0)) (z02 el44)) (W.q3 (.bool ((List.length x15.1 : Int) != (List.length p0 : Int))) rfl rfl (.nil (.cond (b := ((List.length x15.1 : Int) != (List.length p0 : Int))) rfl rfl (fun g574 => ?_) (fun g574 => ?_))))
 .have h575 := z03 g574 h573
  refine .seq (.region (W.q1 (.bool false) rfl (.nil (.ret ?_))))
  have O576 : Ow G561 H559 (eSl v95 28 (rI .i64) [x71, x82] :: eSl w49 45 (rSl rS) x41.1 :: eSl w36 22 rS x28.1 :: eSl w23 45 (rSl rS) x15.1 :: L) := O562.drop 0
  have O577 : Ow G561 H559 (eSl w49 45 (rSl rS) x41.1 :: eSl w36 22 rS x28.1 :: eSl w23 45 (rSl rS) x15.1 :: L) := O576.drop 0
  have O578 : Ow G561 H559 (eSl w36 22 rS x28.1 :: eSl w23 45 (rSl rS) x15.1 :: L) := O577.drop 0
  have O579 : Ow G561 H559 (eSl w23 45 (rSl rS) x15.1 :: L) := O578.drop 0
  have O580 : Ow G561 H559 (L) := O579.drop 0
  obtain rfl := zAa h575
  exact z1a kr (v1 := (.bool false)) (by rfl) (z07 (by rfl) (by exact rfl)) O580 (zAe s6 (zAe s20 (zAe s33 (zAe s46 (zAe s59 (zAe s76 (zAe s87 (zAe s102 (zAe s132 (zAe s148 (zAe s204 (zAe s220 (zAe s231 (zAe s246 (zAe s280 (zAe s296 (zAe s317 (zAe s367 (zAe s384 (zAe s461 s563)))))))))))))))))))) rfl
 have h581 := z0i g574 h573
 refine .skip (.seq (.seq (.region (W.q2 v0 ((fr560 0 rfl).trans ((fr458 0 rfl).trans ((fr364 0 rfl).trans ((fr314 0 rfl).trans ((fr293 0 rfl).trans ((fr277 0 rfl).trans ((fr201 0 rfl).trans ((fr145 0 rfl).trans ((fr129 0 rfl).trans rfl))))))))) (W.pure (v := (.int .i64 (List.length p0 : Int))) rfl rfl (z0g (oo rfl rfl) (z0b (RT.mono _ (zAe s6 (zAe s20 (zAe s33 (zAe s46 (zAe s59 (zAe s76 (zAe s87 (zAe s102 (zAe s132 (zAe s148 (zAe s204 (zAe s220 (zAe s231 (zAe s246 (zAe s280 (zAe s296 (zAe s317 (zAe s367 (zAe s384 (zAe s461 s563)))))))))))))))))))) hp0)) (z02 el44)) (W.q2 (.int .i64 0) rfl ?_))))))
 refine .nil ?_
 obtain ⟨q582, h583, h584⟩ := z20 h581
 refine AW.midT (fun σ' H' => ∃  (G' : GM), (.inr ()) = q582 /\ Ow G' H' (eSl v239 28 (rI .i64) [x215, x226] :: eSl v95 28 (rI .i64) [x71, x82] :: eSl w49 45 (rSl rS) x41.1 :: eSl w36 22 rS x28.1 :: eSl w23 45 (rSl rS) x15.1 :: L) /\ GM.le G561 G') ?_ ?_
 rotate_left
 .rintro σ709 H710 fr711 ⟨G712, rfl, O713, s714⟩
  have h716 := z51 (z76 h584)
  refine .seq (.region (W.q1 (.bool true) rfl (.nil (.ret ?_))))
  have O717 : Ow G712 H710 (eSl v95 28 (rI .i64) [x71, x82] :: eSl w49 45 (rSl rS) x41.1 :: eSl w36 22 rS x28.1 :: eSl w23 45 (rSl rS) x15.1 :: L) := O713.drop 0
  have O718 : Ow G712 H710 (eSl w49 45 (rSl rS) x41.1 :: eSl w36 22 rS x28.1 :: eSl w23 45 (rSl rS) x15.1 :: L) := O717.drop 0
  have O719 : Ow G712 H710 (eSl w36 22 rS x28.1 :: eSl w23 45 (rSl rS) x15.1 :: L) := O718.drop 0
  have O720 : Ow G712 H710 (eSl w23 45 (rSl rS) x15.1 :: L) := O719.drop 0
  have O721 : Ow G712 H710 (L) := O720.drop 0
  obtain rfl := zAa h716
  exact z1a kr (v1 := (.bool true)) (by rfl) (z07 (by rfl) (by exact rfl)) O721 (zAe s6 (zAe s20 (zAe s33 (zAe s46 (zAe s59 (zAe s76 (zAe s87 (zAe s102 (zAe s132 (zAe s148 (zAe s204 (zAe s220 (zAe s231 (zAe s246 (zAe s280 (zAe s296 (zAe s317 (zAe s367 (zAe s384 (zAe s461 (zAe s563 s714))))))))))))))))))))) rfl
 refine .block (AW.loop (α := Nat) (fun k' σ' H' => ∃ (y1 : Int) (G' : GM), z0q K p0 p1 x15 k' y1 = some q582 /\ Ow G' H' (eSl v239 28 (rI .i64) [x215, x226] :: eSl v95 28 (rI .i64) [x71, x82] :: eSl w49 45 (rSl rS) x41.1 :: eSl w36 22 rS x28.1 :: eSl w23 45 (rSl rS) x15.1 :: L) /\ GM.le G561 G' /\ σ' 182 = .int .i64 y1) (fun k' => k') K ⟨0, _, h583, O562, (zAf _), rfl⟩ ?_)
 rintro k585
 rintro σ587 H588 fr589 ⟨x586, G590, h593, O591, s592, t594⟩
 rcases k585 with _ | k585
 .exact z06 h593
 rw [z0q] at h593
 refine .seq (.region (W.q3 (.bool (decide (x586 < (List.length p0 : Int)))) t594 ((fr589 181 rfl).trans rfl) (.nil (.seq (.cond (b := decide (x586 < (List.length p0 : Int))) rfl rfl (fun g595 => ?_) (fun g595 => ?_))))))
 rotate_left
 .have h708 := z0i g595 h593
  refine .exit ?_
  obtain rfl := zAa h708
  exact ⟨_, rfl, O591, s592⟩
 have h596 := z03 g595 h593
 refine .skip (.seq (.block (.seq (.region (W.q2 _ t594 ?_)))))
 obtain ⟨x597, i598, h599⟩ := z00 h596
 have j600 := z0d i598
 refine W.pure (v := (z1t v0 (Int.toNat x586 * 1))) rfl rfl (z2f el44 sz45 (oo rfl ((fr589 180 rfl).trans rfl)) (oo rfl t594) (z0b (RT.mono _ (zAe s6 (zAe s20 (zAe s33 (zAe s46 (zAe s59 (zAe s76 (zAe s87 (zAe s102 (zAe s132 (zAe s148 (zAe s204 (zAe s220 (zAe s231 (zAe s246 (zAe s280 (zAe s296 (zAe s317 (zAe s367 (zAe s384 (zAe s461 (zAe s563 s592))))))))))))))))))))) hp0)) j600.1 j600.2.1) ?_
 obtain ⟨w601, p602, f603⟩ := At.sl (At.le (z1h hp0 j600.2.2) (zAe s6 (zAe s20 (zAe s33 (zAe s46 (zAe s59 (zAe s76 (zAe s87 (zAe s102 (zAe s132 (zAe s148 (zAe s204 (zAe s220 (zAe s231 (zAe s246 (zAe s280 (zAe s296 (zAe s317 (zAe s367 (zAe s384 (zAe s461 (zAe s563 s592))))))))))))))))))))) (zAe s6 (zAe s20 (zAe s33 (zAe s46 (zAe s59 (zAe s76 (zAe s87 (zAe s102 (zAe s132 (zAe s148 (zAe s204 (zAe s220 (zAe s231 (zAe s246 (zAe s280 (zAe s296 (zAe s317 (zAe s367 (zAe s384 (zAe s461 (zAe s563 s592))))))))))))))))))))))
 replace p602 := PtG.le p602 O591.fro
 refine W.load1 (v := w601) (r := []) rfl rfl ag45 (z19 rfl p602) (W.q1 (.int .i64 x586) rfl (W.q1 w601 rfl (.nil (.seq (.seq (.draw2 (M := [0, 0, 3, 7, 15, 0, 32, 127]) mixed (by kernel_rfl) (by kernel_rfl) fun H604 N608 x605 F607 => ?_))))))
 have O606 := O591.ext x605
 refine D2.q2 w23 ((fr589 7 rfl).trans ((fr560 7 rfl).trans ((fr458 7 rfl).trans ((fr364 7 rfl).trans ((fr314 7 rfl).trans ((fr293 7 rfl).trans ((fr277 7 rfl).trans ((fr201 7 rfl).trans ((fr145 7 rfl).trans ((fr129 7 rfl).trans rfl)))))))))) (D2.q2 (.int .i64 x586) rfl ?_)
 obtain ⟨x609, i610, h611⟩ := z00 h599
 have j612 := z0d i610
 refine D2.pure (v := (z1t w23 (Int.toNat x586 * 1))) rfl rfl (z2f el44 sz45 (oo rfl rfl) (oo rfl rfl) (O606.slLen (j := 4) rfl) j612.1 j612.2.1) ?_
 obtain ⟨w613, p614, f615⟩ := At.sl (O606.atSl (j := 4) rfl j612.2.2)
 refine D2.load1' (v := w613) (r := []) rfl rfl ag45 (z19 rfl p614) z0a (D2.pure (v := (.int .i64 (List.length x609 : Int))) rfl rfl (z0g (oo rfl rfl) (z0b f615) (z02 el45)) (D2.q2 v1 ((fr589 1 rfl).trans ((fr560 1 rfl).trans ((fr458 1 rfl).trans ((fr364 1 rfl).trans ((fr314 1 rfl).trans ((fr293 1 rfl).trans ((fr277 1 rfl).trans ((fr201 1 rfl).trans ((fr145 1 rfl).trans ((fr129 1 rfl).trans rfl)))))))))) ?_))
 obtain ⟨x616, i617, h618⟩ := z00 h611
 refine D2.lo rfl rfl (Lo.cP rfl (fn := Tryz.f31) (by kernel_rfl) rfl (mc rfl mn) O606 (fun L' O' => z82 K v1 p1 (RT.mono _ (zAe s6 (zAe s20 (zAe s33 (zAe s46 (zAe s59 (zAe s76 (zAe s87 (zAe s102 (zAe s132 (zAe s148 (zAe s204 (zAe s220 (zAe s231 (zAe s246 (zAe s280 (zAe s296 (zAe s317 (zAe s367 (zAe s384 (zAe s461 (zAe s563 s592))))))))))))))))))))) hp1) O' _ i617)) ?_ z0a ?_ ?_
 .rintro v625 H626 ⟨G619, O620, s621, sm624, rfl⟩; exact (faR1 (.inr (sm624 _ (Or.inr ⟨4, _, rfl, (O606.footSl (j := 4) rfl j612.2.2)⟩))) z0a)
 .rintro v625 H626 ⟨G619, O620, s621, sm624, rfl⟩; exact z0a
 rintro v625 H626 ⟨G619, O620, s621, sm624, rfl⟩
 refine D2.q3 (.bool ((List.length x609 : Int) != x616)) rfl rfl (.nil (.cond (b := ((List.length x609 : Int) != x616)) rfl rfl (fun g627 => ?_) (fun g627 => ?_)))
 .have h628 := z03 g627 h618
  refine .seq (.region (W.q1 (.bool false) rfl (.nil (.ret ?_))))
  have O629 : Ow G619 H626 (eSl v95 28 (rI .i64) [x71, x82] :: eSl w49 45 (rSl rS) x41.1 :: eSl w36 22 rS x28.1 :: eSl w23 45 (rSl rS) x15.1 :: L) := O620.drop 0
  have O630 : Ow G619 H626 (eSl w49 45 (rSl rS) x41.1 :: eSl w36 22 rS x28.1 :: eSl w23 45 (rSl rS) x15.1 :: L) := O629.drop 0
  have O631 : Ow G619 H626 (eSl w36 22 rS x28.1 :: eSl w23 45 (rSl rS) x15.1 :: L) := O630.drop 0
  have O632 : Ow G619 H626 (eSl w23 45 (rSl rS) x15.1 :: L) := O631.drop 0
  have O633 : Ow G619 H626 (L) := O632.drop 0
  obtain rfl := zAa h628
  have h634 := z09 (z5h h584)
  obtain rfl := zAa h634
  exact z1a kr (v1 := (.bool false)) (by rfl) (z07 (by rfl) (by exact rfl)) O633 (zAe s6 (zAe s20 (zAe s33 (zAe s46 (zAe s59 (zAe s76 (zAe s87 (zAe s102 (zAe s132 (zAe s148 (zAe s204 (zAe s220 (zAe s231 (zAe s246 (zAe s280 (zAe s296 (zAe s317 (zAe s367 (zAe s384 (zAe s461 (zAe s563 (zAe s592 s621)))))))))))))))))))))) rfl
 have h635 := z0i g627 h618
 refine .skip (.seq (.region (W.q2 w23 ((fr589 7 rfl).trans ((fr560 7 rfl).trans ((fr458 7 rfl).trans ((fr364 7 rfl).trans ((fr314 7 rfl).trans ((fr293 7 rfl).trans ((fr277 7 rfl).trans ((fr201 7 rfl).trans ((fr145 7 rfl).trans ((fr129 7 rfl).trans rfl)))))))))) (W.q2 (.int .i64 x586) rfl ?_))))
 obtain ⟨x636, i637, h638⟩ := z00 h635
 have j639 := z0d i637
 refine W.pure (v := (z1t w23 (Int.toNat x586 * 1))) rfl rfl (z2f el44 sz45 (oo rfl rfl) (oo rfl rfl) (O620.slLen (j := 4) rfl) j639.1 j639.2.1) ?_
 obtain ⟨w640, p641, f642⟩ := At.sl (O620.atSl (j := 4) rfl j639.2.2)
 refine W.load1 (v := w640) (r := []) rfl rfl ag45 (z19 rfl p641) (W.pure (v := (.int .i64 (List.length x636 : Int))) rfl rfl (z0g (oo rfl rfl) (z0b f642) (z02 el45)) (W.q2 (.int .i64 0) rfl (.nil ?_)))
 obtain ⟨q643, h644, h645⟩ := z20 h638
 refine AW.midT (fun σ' H' => ∃  (G' : GM), (.inr ()) = q643 /\ Ow G' H' (eSl v239 28 (rI .i64) [x215, x226] :: eSl v95 28 (rI .i64) [x71, x82] :: eSl w49 45 (rSl rS) x41.1 :: eSl w36 22 rS x28.1 :: eSl w23 45 (rSl rS) x15.1 :: L) /\ GM.le G619 G') ?_ ?_
 rotate_left
 .rintro σ699 H700 fr701 ⟨G702, rfl, O703, s704⟩
  have h706 := z51 (z76 h645)
  refine .region (W.q3 (.int .i64 (z04 .i64 (x586 + 1))) ((fr701 182 rfl).trans t594) rfl (W.q2 (.int .i64 (z04 .i64 (x586 + 1))) rfl (.nil ?_)))
  exact ⟨k585, zAg _, ⟨z04 .i64 (x586 + 1), _, h706, O703, (zAe s592 (zAe s621 s704)), rfl⟩⟩
 refine .block (AW.loop (α := Nat) (fun k' σ' H' => ∃ (y1 : Int) (G' : GM), z0u K p1 x597 x636 k' y1 = some q643 /\ Ow G' H' (eSl v239 28 (rI .i64) [x215, x226] :: eSl v95 28 (rI .i64) [x71, x82] :: eSl w49 45 (rSl rS) x41.1 :: eSl w36 22 rS x28.1 :: eSl w23 45 (rSl rS) x15.1 :: L) /\ GM.le G619 G' /\ σ' 200 = .int .i64 y1) (fun k' => k') K ⟨0, _, h644, O620, (zAf _), rfl⟩ ?_)
 rintro k646
 rintro σ648 H649 fr650 ⟨x647, G651, h654, O652, s653, t655⟩
 rcases k646 with _ | k646
 .exact z06 h654
 rw [z0u] at h654
 refine .seq (.region (W.q3 (.bool (decide (x647 < (List.length x636 : Int)))) t655 ((fr650 199 rfl).trans rfl) (.nil (.seq (.cond (b := decide (x647 < (List.length x636 : Int))) rfl rfl (fun g656 => ?_) (fun g656 => ?_))))))
 rotate_left
 .have h698 := z0i g656 h654
  refine .exit ?_
  obtain rfl := zAa h698
  exact ⟨_, rfl, O652, s653⟩
 have h657 := z03 g656 h654
 refine .skip (.seq (.block (.seq (.region (W.q2 _ t655 ?_)))))
 obtain ⟨x658, i659, h660⟩ := z00 h657
 have j661 := z0d i659
 refine W.pure (v := (z1t w640 (Int.toNat x647 * 1))) rfl rfl (z2f el45 sz22 (oo rfl ((fr650 198 rfl).trans rfl)) (oo rfl t655) (z0b (RT.mono _ s653 f642)) j661.1 j661.2.1) (W.load1 (v := (.string x658)) (r := []) rfl rfl ag22 (z19 rfl (At.str (At.le (At.le (z1h f642 j661.2.2) s653 s653) (zAf _) O652.fro))) (W.q1 (.int .i64 x647) rfl (W.q1 (.string x658) rfl (.nil (.seq (.region ?_))))))
 refine W.q2 (.string x658) rfl (W.q2 w601 ((fr650 20 rfl).trans rfl) (W.q2 v1 ((fr650 1 rfl).trans ((fr589 1 rfl).trans ((fr560 1 rfl).trans ((fr458 1 rfl).trans ((fr364 1 rfl).trans ((fr314 1 rfl).trans ((fr293 1 rfl).trans ((fr277 1 rfl).trans ((fr201 1 rfl).trans ((fr145 1 rfl).trans ((fr129 1 rfl).trans rfl))))))))))) (W.q2 (.int .i64 x647) rfl ?_)))
 obtain ⟨x662, i663, h664⟩ := z00 h660
 refine W.lo rfl rfl (Lo.callPF (ps := []) (pw := fun w => [eSl w 22 rS x662]) rfl (fn := Tryz.f35) (by kernel_rfl) rfl (mc rfl (mc rfl mn)) O652 (fun L' O' => zb3 K v1 p1 (RT.mono _ (zAe s6 (zAe s20 (zAe s33 (zAe s46 (zAe s59 (zAe s76 (zAe s87 (zAe s102 (zAe s132 (zAe s148 (zAe s204 (zAe s220 (zAe s231 (zAe s246 (zAe s280 (zAe s296 (zAe s317 (zAe s367 (zAe s384 (zAe s461 (zAe s563 (zAe s592 (zAe s621 s653))))))))))))))))))))))) hp1) x647 O' _ i663)) ?_
 rintro v673 H674 ⟨w670, G665, O666, s667, sm672, rfl⟩
 obtain ⟨x675, i676, h677⟩ := z00 h664
 refine W.lo rfl rfl (Lo.callB (j := 0) rfl rfl (fn := Tryz.f36) (by kernel_rfl) rfl (mc rfl (mc rfl mn)) O666 (fun G' L' hG O' hB => zel K w601 x597 (RT.mono _ hG (RT.mono _ (zAe s621 (zAe s653 s667)) f603)) w670 x662 hB O' _ i676)) ?_
 rintro v684 H685 ⟨G678, O679, s680, sm683, rfl⟩
 refine W.pure (v := (.bool (!(sEq x658 x675)))) rfl rfl (zgv (oo rfl rfl) (oo rfl rfl)) (.nil (.cond (b := (!(sEq x658 x675))) rfl rfl (fun g686 => ?_) (fun g686 => ?_)))
 rotate_left
 .have h696 := z0i g686 h677
  refine .skip (.region (W.q3 (.int .i64 (z04 .i64 (x647 + 1))) t655 rfl (W.q2 (.int .i64 (z04 .i64 (x647 + 1))) rfl (.nil ?_))))
  have O697 : Ow G678 H685 (eSl v239 28 (rI .i64) [x215, x226] :: eSl v95 28 (rI .i64) [x71, x82] :: eSl w49 45 (rSl rS) x41.1 :: eSl w36 22 rS x28.1 :: eSl w23 45 (rSl rS) x15.1 :: L) := O679.drop 0
  exact ⟨k646, zAg _, ⟨z04 .i64 (x647 + 1), _, h696, O697, (zAe s653 (zAe s667 s680)), rfl⟩⟩
 have h687 := z03 g686 h677
 refine .seq (.region (W.q1 (.bool false) rfl (.nil (.ret ?_))))
 have O688 : Ow G678 H685 (eSl v239 28 (rI .i64) [x215, x226] :: eSl v95 28 (rI .i64) [x71, x82] :: eSl w49 45 (rSl rS) x41.1 :: eSl w36 22 rS x28.1 :: eSl w23 45 (rSl rS) x15.1 :: L) := O679.drop 0
 have O689 : Ow G678 H685 (eSl v95 28 (rI .i64) [x71, x82] :: eSl w49 45 (rSl rS) x41.1 :: eSl w36 22 rS x28.1 :: eSl w23 45 (rSl rS) x15.1 :: L) := O688.drop 0
 have O690 : Ow G678 H685 (eSl w49 45 (rSl rS) x41.1 :: eSl w36 22 rS x28.1 :: eSl w23 45 (rSl rS) x15.1 :: L) := O689.drop 0
 have O691 : Ow G678 H685 (eSl w36 22 rS x28.1 :: eSl w23 45 (rSl rS) x15.1 :: L) := O690.drop 0
 have O692 : Ow G678 H685 (eSl w23 45 (rSl rS) x15.1 :: L) := O691.drop 0
 have O693 : Ow G678 H685 (L) := O692.drop 0
 obtain rfl := zAa h687
 have h694 := z09 (z5h h645)
 obtain rfl := zAa h694
 have h695 := z09 (z5h h584)
 obtain rfl := zAa h695
 exact z1a kr (v1 := (.bool false)) (by rfl) (z07 (by rfl) (by exact rfl)) O693 (zAe s6 (zAe s20 (zAe s33 (zAe s46 (zAe s59 (zAe s76 (zAe s87 (zAe s102 (zAe s132 (zAe s148 (zAe s204 (zAe s220 (zAe s231 (zAe s246 (zAe s280 (zAe s296 (zAe s317 (zAe s367 (zAe s384 (zAe s461 (zAe s563 (zAe s592 (zAe s621 (zAe s653 (zAe s667 s680))))))))))))))))))))))))) rfl
end Go.Am.Tryz
/- Plain lemmas for typed functions: loops over lists, texts, whole numbers. -/
namespace Go.Am
open Go
theorem kw {a : Int} (h1 : -9223372036854775808 <= a) (h2 : a <= 9223372036854775807) : z04 .i64 a = a := z7g (z8k h1 h2)
theorem kw1 {i n : Nat} (h : i < n) (hn : n <= 4611686018427387904) : z04 .i64 ((i : Int) + 1) = ((i + 1 : Nat) : Int) := by rw [kw (by omega) (by omega)]; omega
theorem z1s {α : Type} {xs : List α} {i : Nat} {x : α} (h : xs[i]? = some x) : idx xs (i : Int) = some x := by
 unfold idx
 rw [if_neg (by omega)]
 simpa using h
theorem zkg {i n : Nat} (h : i < n) : decide ((i : Int) < (n : Int)) = true := by simp; omega
theorem zfz {i n : Nat} (h : n <= i) : decide ((i : Int) < (n : Int)) = false := by simp; omega
@[simp] theorem Sum.elim_ite {α β γ : Type} (f : α -> γ) (g : β -> γ) (c : Prop) [Decidable c] (x y : α ⊕ β) : Sum.elim f g (if c then x else y) = if c then Sum.elim f g x else Sum.elim f g y := by split <;> rfl
def runS {α S E : Type} (chk : α -> S -> E ⊕ S) : List α -> S -> E ⊕ S
 | [], s => .inr s
 | x :: xs, s => Sum.elim .inl (runS chk xs) (chk x s)
theorem zma {α S E : Type} (xs : List α) (l : Nat -> S -> Int -> Option (E ⊕ S)) (chk : α -> S -> E ⊕ S) (I : S -> Nat -> Prop)
  (h : ∀ k s (i : Nat) x, xs[i]? = some x -> I s i -> l (k + 1) s i = Sum.elim (fun e => some (.inl e)) (fun s' => l k s' ((i + 1 : Nat) : Int)) (chk x s))
  (hI : ∀ s (i : Nat) x s', xs[i]? = some x -> I s i -> chk x s = .inr s' -> I s' (i + 1))
  (h0 : ∀ k s (i : Nat), xs.length <= i -> l (k + 1) s i = some (.inr s)) : ∀ d k s (i : Nat), xs.length - i = d -> d < k -> I s i -> l k s i = some (runS chk (xs.drop i) s) := by
 intro d
 induction d with
 | zero =>
  intro k s i hd hk _
  obtain ⟨k, rfl⟩ : ∃ m, k = m + 1 := ⟨k - 1, by omega⟩
  rw [h0 k s i (by omega), List.drop_eq_nil_of_le (by omega)]; rfl
 | succ d ih =>
  intro k s i hd hk hi
  obtain ⟨k, rfl⟩ : ∃ m, k = m + 1 := ⟨k - 1, by omega⟩
  have hl : i < xs.length := by omega
  have hx : xs[i]? = some xs[i] := zAh hl
  rw [h k s i _ hx hi, List.drop_eq_getElem_cons hl, runS]
  cases hc : chk xs[i] s with
  | inl e => rfl
  | inr s' => exact ih k s' (i + 1) (by omega) (by omega) (hI s i _ s' hx hi hc)
theorem zg0 {α S E : Type} (xs : List α) (l : Nat -> S -> Int -> Option (E ⊕ S)) (chk : α -> S -> E ⊕ S) (I : S -> Nat -> Prop)
  (h : ∀ k s (i : Nat) x, xs[i]? = some x -> I s i -> l (k + 1) s i = Sum.elim (fun e => some (.inl e)) (fun s' => l k s' ((i + 1 : Nat) : Int)) (chk x s))
  (hI : ∀ s (i : Nat) x s', xs[i]? = some x -> I s i -> chk x s = .inr s' -> I s' (i + 1))
  (h0 : ∀ k s (i : Nat), xs.length <= i -> l (k + 1) s i = some (.inr s)) (k : Nat) (s : S) (hk : xs.length < k) (hi : I s 0) : l k s 0 = some (runS chk xs s) := by
 have := zma xs l chk I h hI h0 xs.length k s 0 (by omega) hk hi
 simpa using this
theorem sEq_iff {a b : zAd} : sEq a b = true ↔ a = b := by
 unfold sEq
 rw [beq_iff_eq, ByteArray.toList_eq, ByteArray.toList_eq]
 constructor
 ·intro h
  cases a; cases b
  simp at h
  rw [h]
 ·rintro rfl; rfl
theorem z01 (a : zAd) : (z05 a).length = a.size := by unfold z05; rw [List.length_map, Array.length_toList]; rfl
theorem za9 (a : zAd) (i : Int) : bidx a i = idx (z05 a) i := by
 unfold bidx idx
 by_cases h : 0 <= i
 ·rw [if_pos h, if_neg (by omega)]
  unfold z05
  rw [List.getElem?_map, Array.getElem?_toList]
  rfl
 ·rw [if_neg h, if_pos (by omega)]
end Go.Am
/- Numbers: digits in a base, the least one first; decimal texts. Plain, no program. -/
namespace Go.Am
open Go
def valB (B : Int) : List Int -> Int
 | [] => 0
 | d :: l => d + B * valB B l
def DigB (B : Int) (l : List Int) : Prop := ∀ d ∈ l, 0 <= d /\ d < B
theorem DigB.nil (B : Int) : DigB B [] := fun d h => by simp at h
theorem DigB.cons {B d : Int} {l : List Int} (h : DigB B (d :: l)) : (0 <= d /\ d < B) /\ DigB B l := ⟨h d (by simp), fun x hx => h x (by simp [hx])⟩
theorem DigB.app {B : Int} {l m : List Int} (h : DigB B l) (k : DigB B m) : DigB B (l ++ m) := fun d hd => by
 rcases List.mem_append.1 hd with hd | hd
 ·exact h d hd
 ·exact k d hd
theorem z6g (B : Int) : ∀ (l m : List Int), valB B (l ++ m) = valB B l + B ^ l.length * valB B m
 | [], m => by simp [valB]
 | d :: l, m => by
  simp only [List.cons_append, valB, z6g B l m, List.length_cons, Int.pow_succ]
  rw [Int.mul_add, <- Int.mul_assoc, Int.mul_comm B (B ^ l.length), Int.add_assoc]
theorem z17 {B : Int} (hB : 0 < B) : ∀ (l : List Int), DigB B l -> 0 <= valB B l
 | [], _ => Int.le_refl _
 | d :: l, h => by
  have h1 := (h.cons).1
  have h2 := z17 hB l h.cons.2
  have := Int.mul_nonneg (Int.le_of_lt hB) h2
  simp only [valB]; omega
theorem z5g {B : Int} (hB : 0 < B) : ∀ (l : List Int), DigB B l -> valB B l < B ^ l.length
 | [], _ => by simp [valB]
 | d :: l, h => by
  have h1 := (h.cons).1
  have h2 := z5g hB l h.cons.2
  have h3 : B * (valB B l + 1) <= B * B ^ l.length := Int.mul_le_mul_of_nonneg_left (by omega) (Int.le_of_lt hB)
  rw [Int.mul_add, Int.mul_one] at h3
  simp only [valB, List.length_cons, Int.pow_succ]
  rw [Int.mul_comm (B ^ l.length) B]
  omega
def CanB (B : Int) (l : List Int) : Prop := DigB B l /\ l.getLast? ≠ some 0
theorem CanB.tail {B d : Int} {l : List Int} (h : CanB B (d :: l)) : CanB B l := by
 refine ⟨h.1.cons.2, fun e => h.2 ?_⟩
 cases l with
 | nil => simp at e
 | cons x l => rw [List.getLast?_cons_cons]; exact e
theorem zbx {B : Int} (hB : 1 < B) : ∀ (l : List Int), CanB B l -> l ≠ [] -> 0 < valB B l
 | [], _, h => absurd rfl h
 | d :: l, h, _ => by
  have h1 := h.1.cons.1
  cases l with
  | nil =>
   have : d ≠ 0 := fun e => h.2 (by simp [e])
   simp only [valB]; omega
  | cons x l =>
   have h2 := zbx hB (x :: l) h.tail (by simp)
   have h3 : B * 1 <= B * valB B (x :: l) := Int.mul_le_mul_of_nonneg_left (by omega) (by omega)
   simp only [valB] at h2 h3 ⊢; omega
theorem zmb {B d e x y : Int} (hd : 0 <= d /\ d < B) (he : 0 <= e /\ e < B) (h : d + B * x = e + B * y) : d = e /\ x = y := by
 have h1 : x = y := by
  rcases Int.lt_trichotomy x y with h2 | h2 | h2
  ·have : B * (x + 1) <= B * y := Int.mul_le_mul_of_nonneg_left (by omega) (by omega)
   rw [Int.mul_add, Int.mul_one] at this; omega
  ·exact h2
  ·have : B * (y + 1) <= B * x := Int.mul_le_mul_of_nonneg_left (by omega) (by omega)
   rw [Int.mul_add, Int.mul_one] at this; omega
 subst h1
 exact ⟨by omega, rfl⟩
theorem zmc {B : Int} (hB : 1 < B) : ∀ (l m : List Int), CanB B l -> CanB B m -> valB B l = valB B m -> l = m
 | [], [], _, _, _ => rfl
 | [], e :: m, _, h2, h => by
  have := zbx hB (e :: m) h2 (by simp)
  rw [<- h] at this; simp [valB] at this
 | d :: l, [], h1, _, h => by
  have := zbx hB (d :: l) h1 (by simp)
  rw [h] at this; simp [valB] at this
 | d :: l, e :: m, h1, h2, h => by
  obtain ⟨rfl, h3⟩ := zmb h1.1.cons.1 h2.1.cons.1 h
  rw [zmc hB l m h1.tail h2.tail h3]
def digT (c : Int) : Bool := decide (48 <= c) && decide (c <= 57)
def z6h (s : zAd) : List Int := ((z05 s).map (· - 48)).reverse
def numT (s : zAd) : Int := valB 10 (z6h s)
def CanT (s : zAd) : Prop := s.size ≠ 0 /\ (z05 s).all digT = true /\ ((z05 s).head? = some 48 -> s.size = 1)
theorem z4i {a b : zAd} (h : z05 a = z05 b) : a = b := by
 unfold z05 at h
 have h1 : a.data.toList = b.data.toList := by
  have : Function.Injective fun b : UInt8 => (b.toNat : Int) := fun x y h => by
   have : x.toNat = y.toNat := by have h' : (x.toNat : Int) = (y.toNat : Int) := h; omega
   exact UInt8.toNat_inj.1 this
  exact List.map_inj_right (fun x y h => this h) |>.1 h
 cases a; cases b
 congr 1
 exact Array.toList_inj.1 h1
theorem z85 {s : zAd} (h : (z05 s).all digT = true) : DigB 10 (z6h s) := by
 intro d hd
 unfold z6h at hd
 rw [List.mem_reverse, List.mem_map] at hd
 obtain ⟨c, hc, rfl⟩ := hd
 have := List.all_eq_true.1 h c hc
 simp only [digT, Bool.and_eq_true, decide_eq_true_eq] at this
 omega
theorem z62 (s : zAd) : (z6h s).length = s.size := by
 unfold z6h
 rw [List.length_reverse, List.length_map, z01]
theorem zg1 {a b : zAd} (h : z6h a = z6h b) : a = b := by
 unfold z6h at h
 have h1 := List.reverse_inj.1 h
 exact z4i (List.map_inj_right (fun x y h => by omega) |>.1 h1)
theorem z92 {s : zAd} (h : CanT s) (h0 : (z05 s).head? = some 48) : z6h s = [0] := by
 have h1 := h.2.2 h0
 have hl := z01 s
 rw [h1] at hl
 match hb : z05 s, hl with
 | [c], _ => rw [hb] at h0; simp at h0; subst h0; simp [z6h, hb]
theorem zdm {s : zAd} (h : CanT s) (h0 : (z05 s).head? ≠ some 48) : CanB 10 (z6h s) := by
 refine ⟨z85 h.2.1, fun e => h0 ?_⟩
 unfold z6h at e
 rw [List.getLast?_reverse, List.head?_map] at e
 cases hb : (z05 s).head? with
 | none => rw [hb] at e; cases e
 | some c => rw [hb] at e; simp at e; congr 1; omega
theorem z9m {a b : zAd} (ha : CanT a) (hb : CanT b) (h : numT a = numT b) : a = b := by
 have pos : ∀ s : zAd, CanT s -> (z05 s).head? ≠ some 48 -> 0 < numT s := fun s hs h0 => zbx (by omega) _ (zdm hs h0) (fun e => by
  have := z62 s
  rw [e] at this
  exact hs.1 this.symm)
 by_cases h1 : (z05 a).head? = some 48 <;> by_cases h2 : (z05 b).head? = some 48
 ·exact zg1 (by rw [z92 ha h1, z92 hb h2])
 ·have := pos b hb h2
  unfold numT at h this
  rw [z92 ha h1] at h
  simp [valB] at h; omega
 ·have := pos a ha h1
  unfold numT at h this
  rw [z92 hb h2] at h
  simp [valB] at h; omega
 ·exact zg1 (zmc (by omega) _ _ (zdm ha h1) (zdm hb h2) h)
theorem z3d (a : zAd) (i j : Nat) : z05 (a.extract i j) = ((z05 a).drop i).take (j - i) := by
 unfold z05
 rw [ByteArray.data_extract, Array.toList_extract]
 simp [List.extract, List.map_drop, List.map_take]
theorem z0x (a b : zAd) : z05 (a ++ b) = z05 a ++ z05 b := by
 unfold z05
 rw [ByteArray.data_append, Array.toList_append, List.map_append]
theorem zcw (xs : List Int) (h : ∀ x ∈ xs, 0 <= x /\ x <= 255) : z05 (strOfNums xs) = xs := by
 unfold z05
 rw [strOfNums_data, List.map_map]
 conv => rhs; rw [<- List.map_id xs]
 apply List.map_congr_left
 intro x hx
 have := h x hx
 show ((UInt8.ofNat x.toNat).toNat : Int) = x
 rw [UInt8.toNat_ofNat']
 omega
theorem zby {s : zAd} {c : Int} {l : List Int} (h : z05 s = c :: l) : ∃ t, ssl s 1 (s.size : Int) = some t /\ z05 t = l /\ t.size = l.length := by
 have hn := z01 s
 rw [h] at hn
 simp at hn
 refine ⟨s.extract 1 s.size, ?_, ?_, ?_⟩
 ·unfold ssl
  rw [if_pos (by omega)]
  simp
 ·rw [z3d, h]
  simp
  exact List.take_of_length_le (by omega)
 ·rw [<- z01, z3d, h]
  simp
  omega
theorem zkh {s t : zAd} {c : Int} (h : z05 s = c :: z05 t) : numT s = numT t + 10 ^ t.size * (c - 48) := by
 unfold numT z6h
 rw [h, List.map_cons, List.reverse_cons, z6g]
 simp [valB, z01]
end Go.Am
/- Graphs: connected parts, their numbers, closure of a matrix, ways. Plain, no program. -/
namespace Go.Am
open Go
def Edg (l : List (Int × Int)) (U : Nat -> Bool) (a b : Nat) : Prop := ∃ k, k < l.length /\ U k = true /\ (l.getD k (0, 0) = ((a : Int), (b : Int)) \/ l.getD k (0, 0) = ((b : Int), (a : Int)))
inductive Con (l : List (Int × Int)) (U : Nat -> Bool) : Nat -> Nat -> Prop
 | refl (a : Nat) : Con l U a a
 | tail {a b c : Nat} : Con l U a b -> Edg l U b c -> Con l U a c
structure Outer (l : List (Int × Int)) (U : Nat -> Bool) (n : Nat) (cs : List Int) (m s : Nat) : Prop where
 len : cs.length = n
 rng : ∀ i < n, -1 <= cs.getD i 0 /\ cs.getD i 0 < m
 done : ∀ i < s, i < n -> 0 <= cs.getD i 0
 cls : ∀ i j, i < n -> j < n -> 0 <= cs.getD i 0 -> (cs.getD i 0 = cs.getD j 0 ↔ Con l U i j)
 last : 0 < m -> ∃ j < s, j < n /\ cs.getD j 0 = (m : Int) - 1
 rgs : ∀ i < n, 0 < cs.getD i 0 -> ∃ j < i, cs.getD j 0 = cs.getD i 0 - 1
 few : m <= s
structure Mid (l : List (Int × Int)) (U : Nat -> Bool) (n : Nat) (base : List Int) (m s : Nat) (cs : List Int) : Prop where
 len : cs.length = n
 own : ∀ i < n, (cs.getD i 0 = m /\ base.getD i 0 = -1 /\ Con l U s i) \/ cs.getD i 0 = base.getD i 0
 start : cs.getD s 0 = m
theorem z86 {cs : List Int} {i j : Nat} {v : Int} (hi : i < cs.length) : (cs.set i v).getD j 0 = if j = i then v else cs.getD j 0 := by
 rw [zAb, List.getElem?_set]
 by_cases h : i = j
 ·subst h; simp [hi]
 ·rw [if_neg h, if_neg (fun e => h e.symm), zAb]
theorem Edg.symm {l : List (Int × Int)} {U : Nat -> Bool} {a b : Nat} (h : Edg l U a b) : Edg l U b a := by
 obtain ⟨k, h1, h2, h3⟩ := h
 exact ⟨k, h1, h2, h3.symm⟩
theorem Con.trans {l : List (Int × Int)} {U : Nat -> Bool} {a b c : Nat} (h : Con l U a b) (k : Con l U b c) : Con l U a c := by
 induction k with
 | refl => exact h
 | tail _ e ih => exact .tail ih e
theorem Con.symm {l : List (Int × Int)} {U : Nat -> Bool} {a b : Nat} (h : Con l U a b) : Con l U b a := by
 induction h with
 | refl => exact .refl _
 | tail _ e ih => exact (Con.tail (.refl _) e.symm).trans ih
structure EqvOn (M : Nat -> Nat -> Bool) (n : Nat) : Prop where
 refl : ∀ a < n, M a a = true
 symm : ∀ a b, a < n -> b < n -> M a b = true -> M b a = true
 trans : ∀ a b c, a < n -> b < n -> c < n -> M a b = true -> M b c = true -> M a c = true
structure NumOk (M : Nat -> Nat -> Bool) (cs : List Int) (m i : Nat) : Prop where
 len : cs.length = i
 rng : ∀ a < i, 0 <= cs.getD a 0 /\ cs.getD a 0 < m
 cls : ∀ a b, a < i -> b < i -> (cs.getD a 0 = cs.getD b 0 ↔ M a b = true)
 last : 0 < m -> ∃ a < i, cs.getD a 0 = (m : Int) - 1
 rgs : ∀ a < i, 0 < cs.getD a 0 -> ∃ b < a, cs.getD b 0 = cs.getD a 0 - 1
 few : m <= i
structure WOk (l : List (Int × Int)) (U : Nat -> Bool) (n : Nat) (M : Nat -> Nat -> Bool) (m : Nat) : Prop where
 sound : ∀ a b, a < n -> b < n -> M a b = true -> Con l U a b
 refl : ∀ a < n, M a a = true
 edge : ∀ a b, a < n -> b < n -> Edg l U a b -> M a b = true
 tr : ∀ c < m, ∀ a b, a < n -> b < n -> M a c = true -> M c b = true -> M a b = true
def Wk (l : List (Int × Int)) (U : Nat -> Bool) (to : Nat) : Nat -> Nat -> Prop
 | 0, v => v = to
 | k + 1, v => ∃ w, Edg l U v w /\ Wk l U to k w
structure FarOk (l : List (Int × Int)) (U : Nat -> Bool) (n to : Nat) (fs : List Int) (d : Nat) : Prop where
 len : fs.length = n
 rng : ∀ v < n, -1 <= fs.getD v 0
 fnd : ∀ v < n, ∀ k : Nat, fs.getD v 0 = k -> k <= d /\ Wk l U to k v /\ ∀ j < k, ¬ Wk l U to j v
 nof : ∀ v < n, fs.getD v 0 = -1 -> ∀ j ≤ d, ¬ Wk l U to j v
structure Rnd (l : List (Int × Int)) (U : Nat -> Bool) (n to : Nat) (fs gs : List Int) (d : Nat) : Prop where
 len : gs.length = n
 old : ∀ v < n, gs.getD v 0 = fs.getD v 0 \/ (fs.getD v 0 = -1 /\ gs.getD v 0 = (d : Int) + 1 /\ Wk l U to (d + 1) v)
def neg (n : Nat) (fs : List Int) : Nat := ((List.range n).filter fun v => fs.getD v 0 == -1).length
theorem zfa {S R : Type} (n : Nat) (l : Nat -> S -> Int -> Option R) (I : S -> Nat -> Prop) (Q : R -> Prop)
  (h : ∀ k s (i : Nat), i < n -> I s i -> (∃ r, l (k + 1) s (i : Int) = some r /\ Q r) \/ ∃ s', I s' (i + 1) /\ l (k + 1) s (i : Int) = l k s' ((i + 1 : Nat) : Int))
  (h0 : ∀ k s (i : Nat), i = n -> I s i -> ∃ r, l (k + 1) s (i : Int) = some r /\ Q r) : ∀ k s, n < k -> I s 0 -> ∃ r, l k s 0 = some r /\ Q r := by
 have key : ∀ d k s (i : Nat), n - i = d -> i <= n -> d < k -> I s i -> ∃ r, l k s (i : Int) = some r /\ Q r := by
  intro d
  induction d with
  | zero =>
   intro k s i hd hi hk hI
   obtain ⟨k, rfl⟩ : ∃ m, k = m + 1 := ⟨k - 1, by omega⟩
   exact h0 k s i (by omega) hI
  | succ d ih =>
   intro k s i hd hi hk hI
   obtain ⟨k, rfl⟩ : ∃ m, k = m + 1 := ⟨k - 1, by omega⟩
   rcases h k s i (by omega) hI with h1 | ⟨s', h1, h2⟩
   ·exact h1
   ·rw [h2]; exact ih k s' (i + 1) (by omega) (by omega) (by omega) h1
 intro k s hk hI
 exact key n k s 0 (by omega) (Nat.zero_le _) hk hI
theorem znc {S R : Type} (l : Nat -> S -> Option R) (I : S -> Prop) (mu : S -> Nat) (Q : R -> Prop)
  (h : ∀ k s, I s -> (∃ r, l (k + 1) s = some r /\ Q r) \/ ∃ s', I s' /\ mu s' < mu s /\ l (k + 1) s = l k s') : ∀ k s, mu s < k -> I s -> ∃ r, l k s = some r /\ Q r := by
 intro k
 induction k with
 | zero => intro s h1; omega
 | succ k ih =>
  intro s h1 hI
  rcases h k s hI with h2 | ⟨s', h2, h3, h4⟩
  ·exact h2
  ·rw [h4]; exact ih s' (by omega) h2
def two (p : Int × Int) : List Int := [p.1, p.2]
theorem zin {cs : List Int} {a : Nat} (h : a < cs.length) : idx cs (a : Int) = some (cs.getD a 0) := by
 apply z1s
 simp [h, zAb]
end Go.Am
/- Plain lemmas: rules for typed functions over whole numbers; digits set in place; the guess of a digit of a quotient. -/
namespace Go.Am
open Go
theorem z0e {α β : Type} (a : α) (f : α -> Option β) : Option.bind (some a) f = f a := (rfl)
theorem tu0a {β : Type} (g : Option β) (u : Unit) : tu0 g u = g := (rfl)
theorem tu1a {α β : Type} (g : α -> Option β) (a : α) : tu1 g a = g a := (rfl)
theorem tu2a {α1 α2 β : Type} (g : α1 -> α2 -> Option β) (p : α1 × α2) : tu2 g p = g p.1 p.2 := (rfl)
theorem tu3a {α1 α2 α3 β : Type} (g : α1 -> α2 -> α3 -> Option β) (p : α1 × α2 × α3) : tu3 g p = g p.1 p.2.1 p.2.2 := (rfl)
theorem tu4a {α1 α2 α3 α4 β : Type} (g : α1 -> α2 -> α3 -> α4 -> Option β) (p : α1 × α2 × α3 × α4) : tu4 g p = g p.1 p.2.1 p.2.2.1 p.2.2.2 := (rfl)
theorem tu5a {α1 α2 α3 α4 α5 β : Type} (g : α1 -> α2 -> α3 -> α4 -> α5 -> Option β) (p : α1 × α2 × α3 × α4 × α5) : tu5 g p = g p.1 p.2.1 p.2.2.1 p.2.2.2.1 p.2.2.2.2 := (rfl)
theorem lta {α β : Type} (x : α) (f : α -> Option β) : lt x f = f x := (rfl)
theorem zio {α β γ : Type} (a : α) (f : α -> Option γ) (g : β -> Option γ) : z9w (some (.inl a)) f g = f a := (rfl)
theorem zas {α β γ : Type} (b : β) (f : α -> Option γ) (g : β -> Option γ) : z9w (some (.inr b)) f g = g b := (rfl)
theorem zpk {α β γ : Type} (a : α) (f : α -> Option γ) (g : β -> Option γ) : outS (.inl a) f g = f a := (rfl)
theorem zpl {α β γ : Type} (b : β) (f : α -> Option γ) (g : β -> Option γ) : outS (.inr b) f g = g b := (rfl)
theorem znd {α : Type} [BEq α] [LawfulBEq α] {a b : α} : ((a == b) = true) = (a = b) := propext beq_iff_eq
theorem zne {a b : Int} : ((a != b) = true) = (a ≠ b) := by simp
theorem k64 {a : Int} (h1 : -9223372036854775808 <= a) (h2 : a <= 9223372036854775807) : z04 .i64 a = a := kw h1 h2
theorem ku64 {a : Int} (h1 : 0 <= a) (h2 : a <= 18446744073709551615) : z04 .u64 a = a := z7g (by simp [z9r]; omega)
theorem ku32 {a : Int} (h1 : 0 <= a) (h2 : a <= 4294967295) : z04 .u32 a = a := z7g (by simp [z9r]; omega)
theorem ku8 {a : Int} (h1 : 0 <= a) (h2 : a <= 255) : z04 .u8 a = a := z7g (by simp [z9r]; omega)
theorem i64w {a : Int} (h1 : -9223372036854775808 <= a) (h2 : a <= 9223372036854775807) : IntKind.wrap .i64 a = a := by rw [<- z8g]; exact k64 h1 h2
theorem u64w {a : Int} (h1 : 0 <= a) (h2 : a <= 18446744073709551615) : IntKind.wrap .u64 a = a := by rw [<- z8g]; exact ku64 h1 h2
theorem u32w {a : Int} (h1 : 0 <= a) (h2 : a <= 4294967295) : IntKind.wrap .u32 a = a := by rw [<- z8g]; exact ku32 h1 h2
theorem u8w {a : Int} (h1 : 0 <= a) (h2 : a <= 255) : IntKind.wrap .u8 a = a := by rw [<- z8g]; exact ku8 h1 h2
theorem idxI {xs : List Int} {j : Int} (h1 : 0 <= j) (h2 : j < (xs.length : Int)) : idx xs j = some (xs.getD j.toNat 0) := by
 unfold idx
 rw [if_neg (by omega), zAb, zAh (by omega)]
 rfl
theorem zoa {s : zAd} {j : Int} (h1 : 0 <= j) (h2 : j < (s.size : Int)) : bidx s j = some ((z05 s).getD j.toNat 0) := by
 rw [za9]; exact idxI h1 (by rw [z01]; exact h2)
theorem lslI {α : Type} {xs : List α} {l h : Int} (h1 : 0 <= l) (h2 : l <= h) (h3 : h <= (xs.length : Int)) : lsl xs l h = some ((xs.drop l.toNat).take (h.toNat - l.toNat)) := by unfold lsl; rw [if_pos ⟨h1, h2, h3⟩]
theorem sslI {s : zAd} {l h : Int} (h1 : 0 <= l) (h2 : l <= h) (h3 : h <= (s.size : Int)) : ssl s l h = some (s.extract l.toNat h.toNat) := by unfold ssl; rw [if_pos ⟨h1, h2, h3⟩]
theorem zp6 {a b : Int} (h : 0 <= a) : Int.tdiv a b = a / b := Int.tdiv_eq_ediv_of_nonneg h
theorem zpm {a b : Int} (h : 0 <= a) : Int.tmod a b = a % b := Int.tmod_eq_emod_of_nonneg h
theorem zah {S R : Type} (l : Nat -> S -> Option R) (I : S -> Prop) (mu : S -> Nat) (Q : R -> Prop)
  (h : ∀ k s, I s -> (∃ r, l (k + 1) s = some r /\ Q r) \/ ∃ s', l (k + 1) s = l k s' /\ mu s' < mu s /\ I s') {k : Nat} (s : S) (hk : mu s < k) (hI : I s) : ∃ r, l k s = some r /\ Q r :=
 znc l I mu Q (fun k s hs => (h k s hs).imp id fun ⟨s', a, b, c⟩ => ⟨s', c, b, a⟩) k s hk hI
theorem z2d {B : Int} (hB : 0 < B) {x : List Int} (h : DigB B x) (k : Nat) : 0 <= x.getD k 0 /\ x.getD k 0 < B := by
 by_cases hk : k < x.length
 ·rw [zAb, zAh hk]; exact h _ (List.getElem_mem hk)
 ·rw [zAb, List.getElem?_eq_none (by omega)]; exact ⟨Int.le_refl _, hB⟩
theorem z7j (B : Int) : ∀ (l : List Int) (p : Nat) (d : Int), p < l.length -> valB B (l.set p d) = valB B l + B ^ p * (d - l.getD p 0)
 | [], p, d, h => by simp at h
 | x :: l, 0, d, _ => by simp [valB]; omega
 | x :: l, p + 1, d, h => by
  have := z7j B l p d (by simpa using h)
  simp only [List.set_cons_succ, valB, this, List.getD_cons_succ, Int.pow_succ]
  grind
theorem DigB.set {B d : Int} {l : List Int} (h : DigB B l) (p : Nat) (hd : 0 <= d /\ d < B) : DigB B (l.set p d) := fun x hx => by
 rcases List.mem_or_eq_of_mem_set hx with h1 | h1
 ·exact h x h1
 ·subst h1; exact hd
theorem DigB.take {B : Int} {l : List Int} (h : DigB B l) (k : Nat) : DigB B (l.take k) := fun x hx => h x (List.mem_of_mem_take hx)
theorem DigB.drop {B : Int} {l : List Int} (h : DigB B l) (k : Nat) : DigB B (l.drop k) := fun x hx => h x (List.mem_of_mem_drop hx)
theorem DigB.snoc {B d : Int} {l : List Int} (h : DigB B l) (hd : 0 <= d /\ d < B) : DigB B (l ++ [d]) := h.app fun x hx => by simp at hx; omega
theorem z8u (B : Int) (l : List Int) (k : Nat) (hk : k <= l.length) : valB B l = valB B (l.take k) + B ^ k * valB B (l.drop k) := by
 conv => lhs; rw [<- List.take_append_drop k l]
 rw [z6g, List.length_take, Nat.min_eq_left hk]
theorem zaa (B : Int) (n : Nat) : valB B (List.replicate n 0) = 0 := by
 induction n with
 | zero => rfl
 | succ n ih => simp [List.replicate_succ, valB, ih]
theorem DigB.zeros {B : Int} (hB : 0 < B) (n : Nat) : DigB B (List.replicate n 0) := fun x hx => by
 rw [List.mem_replicate] at hx; omega
theorem z3y (B : Int) (x : List Int) (k : Nat) : valB B (x.take (k + 1)) = valB B (x.take k) + B ^ k * x.getD k 0 := by
 by_cases h : k < x.length
 ·have hx : x[k]? = some x[k] := zAh h
  rw [List.take_add_one, hx, z6g, List.length_take, Nat.min_eq_left (by omega), zAb, hx]
  simp [valB]
 ·rw [List.take_of_length_le (by omega), List.take_of_length_le (by omega), zAb, List.getElem?_eq_none (by omega)]
  simp
theorem z93 (B : Int) (x : List Int) (d : Int) : valB B (x ++ [d]) = valB B x + B ^ x.length * d := by rw [z6g]; simp [valB]
theorem zab (l : List Int) (h : l ≠ []) : ∃ r d, l = r ++ [d] := by
 rcases List.eq_nil_or_concat l with rfl | ⟨r, d, rfl⟩
 ·exact absurd rfl h
 ·exact ⟨r, d, by simp⟩
theorem zip {B : Int} (hB : 1 < B) {l : List Int} (h : CanB B l) (h0 : l ≠ []) : B ^ (l.length - 1) <= valB B l := by
 obtain ⟨r, d, rfl⟩ := zab l h0
 have hd : d ≠ 0 := fun e => h.2 (by simp [e])
 have hd2 := h.1 d (by simp)
 have hr := z17 (B := B) (by omega) r (fun x hx => h.1 x (by simp [hx]))
 have e : (r ++ [d]).length - 1 = r.length := by simp
 rw [z93, e]
 have h1 : B ^ r.length * 1 <= B ^ r.length * d := Int.mul_le_mul_of_nonneg_left (by omega) (Int.le_of_lt (Int.pow_pos (by omega)))
 omega
theorem zoq {B : Int} (hB : 1 < B) {l : List Int} (h : DigB B l) (h0 : l ≠ []) (hv : B ^ (l.length - 1) <= valB B l) : CanB B l := by
 refine ⟨h, fun e => ?_⟩
 obtain ⟨r, d, rfl⟩ := zab l h0
 have hd : d = 0 := by simpa using e
 have hr := z5g (B := B) (by omega) r (fun x hx => h x (by simp [hx]))
 have e : (r ++ [(0 : Int)]).length - 1 = r.length := by simp
 rw [z93, hd, e] at hv
 omega
theorem z7u {B : Int} (hB : 0 < B) {i j : Nat} (h : i <= j) : B ^ i <= B ^ j := by
 obtain ⟨m, rfl⟩ : ∃ m, j = i + m := ⟨j - i, by omega⟩
 rw [Int.pow_add]
 have p1 : 0 < B ^ m := Int.pow_pos hB
 have p2 : 0 < B ^ i := Int.pow_pos hB
 have := Int.mul_le_mul_of_nonneg_left (show 1 <= B ^ m by omega) (Int.le_of_lt p2)
 omega
theorem ziq {B : Int} (hB : 1 < B) {l m : List Int} (h : DigB B l) (hm : CanB B m) (hl : l.length < m.length) : valB B l < valB B m := by
 have h1 := z5g (B := B) (by omega) l h
 have h2 := zip hB hm (by intro e; subst e; simp at hl)
 have h3 : B ^ l.length <= B ^ (m.length - 1) := by
  obtain ⟨j, hj⟩ : ∃ j, m.length - 1 = l.length + j := ⟨m.length - 1 - l.length, by omega⟩
  rw [hj, Int.pow_add]
  have p1 : 0 < B ^ j := Int.pow_pos (by omega)
  have p2 : 0 < B ^ l.length := Int.pow_pos (by omega)
  have := Int.mul_le_mul_of_nonneg_left (show 1 <= B ^ j by omega) (Int.le_of_lt p2)
  omega
 omega
theorem zem {B : Int} (hB : 1 < B) {l m : List Int} (h : CanB B l) (hm : DigB B m) (hv : valB B l <= valB B m) : l.length <= m.length := by
 refine Nat.not_lt.1 fun hl => ?_
 have := ziq hB hm h hl
 omega
theorem z46 {a b c : Int} (hc : 0 <= c) (h : a <= b) : c * a <= c * b := Int.mul_le_mul_of_nonneg_left h hc
theorem z98 {a b : Int} (ha : 0 <= a) (hb : 0 <= b) : 0 <= a * b := Int.mul_nonneg ha hb
structure Kn (B P v1 v2 vl top u3 ul q : Int) : Prop where
 B1 : 1 < B
 P0 : 0 < P
 v1p : 1 <= v1
 v2p : 0 <= v2
 v2b : v2 < B
 vlp : 0 <= vl
 vlb : vl < P
 tp : 0 <= top
 u3p : 0 <= u3
 u3b : u3 < B
 ulp : 0 <= ul
 ulb : ul < P
 q0 : 0 <= q
 qB : q < B
 lo : q * (P * (B * v1 + v2) + vl) <= P * (B * top + u3) + ul
 hi : P * (B * top + u3) + ul < (q + 1) * (P * (B * v1 + v2) + vl)
section
variable {B P v1 v2 vl top u3 ul q g r : Int}
theorem Kn.first (h : Kn B P v1 v2 vl top u3 ul q) : q <= top / v1 := by
 obtain ⟨B1, P0, v1p, v2p, v2b, vlp, vlb, tp, u3p, u3b, ulp, ulb, q0, qB, lo, hi⟩ := h
 rw [Int.le_ediv_iff_mul_le (by omega)]
 refine Int.le_of_lt_add_one (Int.not_le.1 fun hc => ?_)
 have a1 := z46 (Int.le_of_lt (Int.mul_pos P0 (show 0 < B by omega))) hc
 have a2 := z98 (Int.le_of_lt P0) (z98 q0 v2p)
 have a3 := z98 q0 vlp
 have a4 := z46 (Int.le_of_lt P0) (show u3 <= B - 1 by omega)
 grind
theorem Kn.down (h : Kn B P v1 v2 vl top u3 ul q) (hr : top = g * v1 + r) (hg : 0 <= g) (hc : g * v2 > r * B + u3) : q < g := by
 obtain ⟨B1, P0, v1p, v2p, v2b, vlp, vlb, tp, u3p, u3b, ulp, ulb, q0, qB, lo, hi⟩ := h
 refine Int.not_le.1 fun hq => ?_
 have hV : 0 <= P * (B * v1 + v2) + vl := by
  have := z98 (Int.le_of_lt P0) (show 0 <= B * v1 + v2 from by have := z98 (show 0 <= B by omega) (show 0 <= v1 by omega); omega)
  omega
 have a1 := z46 hV hq
 have a2 := z46 (Int.le_of_lt P0) (show r * B + u3 + 1 <= g * v2 by omega)
 have a3 := z98 hg vlp
 subst hr
 grind
theorem Kn.exitA (h : Kn B P v1 v2 vl top u3 ul q) (hr : top = g * v1 + r) (hg : 0 <= g) (hB : g < B) (hc : g * v2 <= r * B + u3) : g <= q + 1 := by
 obtain ⟨B1, P0, v1p, v2p, v2b, vlp, vlb, tp, u3p, u3b, ulp, ulb, q0, qB, lo, hi⟩ := h
 refine Int.not_lt.1 fun hq => ?_
 have hV : 0 <= P * (B * v1 + v2) + vl := by
  have := z98 (Int.le_of_lt P0) (show 0 <= B * v1 + v2 from by have := z98 (show 0 <= B by omega) (show 0 <= v1 by omega); omega)
  omega
 have a1 := z46 hV (show q + 1 <= g - 1 by omega)
 have a2 := z46 (Int.le_of_lt P0) hc
 have a3 := z46 hg (show vl <= P - 1 by omega)
 have a4 := z46 (Int.le_of_lt P0) (show g <= B - 1 by omega)
 have a5 := z46 (Int.le_of_lt (Int.mul_pos P0 (show 0 < B by omega))) v1p
 have a6 := z98 (Int.le_of_lt P0) v2p
 subst hr
 grind
theorem Kn.exitB (h : Kn B P v1 v2 vl top u3 ul q) (hr : top = g * v1 + r) (hg : 0 <= g) (hB : g <= B) (hc : B <= r) : g <= q := by
 obtain ⟨B1, P0, v1p, v2p, v2b, vlp, vlb, tp, u3p, u3b, ulp, ulb, q0, qB, lo, hi⟩ := h
 refine Int.not_lt.1 fun hq => ?_
 have hV : 0 <= P * (B * v1 + v2) + vl := by
  have := z98 (Int.le_of_lt P0) (show 0 <= B * v1 + v2 from by have := z98 (show 0 <= B by omega) (show 0 <= v1 by omega); omega)
  omega
 have a1 := z46 hV (show q + 1 <= g by omega)
 have hPg := z98 (Int.le_of_lt P0) hg
 have a2 := z46 hPg (show v2 <= B - 1 by omega)
 have a3 := z46 hg (show vl <= P - 1 by omega)
 have a4 := z46 (Int.le_of_lt (Int.mul_pos P0 (show 0 < B by omega))) (show g <= r by omega)
 have a6 := z98 (Int.le_of_lt P0) u3p
 subst hr
 grind
end
set_option linter.defProp false in
def runL := And.intro @decide_eq_true_eq (And.intro @if_pos.{1} (And.intro @if_neg.{1} (And.intro @if_true.{1} (And.intro @if_false.{1} (And.intro @z0e (And.intro @znd (And.intro @zne (And.intro @idxI (And.intro @zoa (And.intro @sslI (And.intro @lslI (And.intro @k64 (And.intro @ku64 (And.intro @ku32 (And.intro @ku8 (And.intro @i64w (And.intro @u64w (And.intro @u32w (And.intro @u8w (And.intro @zp6 (And.intro @zpm (And.intro @tu0a (And.intro @tu1a (And.intro @tu2a (And.intro @tu3a (And.intro @tu4a (And.intro @tu5a (And.intro @lta (And.intro @zio (And.intro @zas (And.intro @zpk (And.intro @zpl (And.intro @Int.toNat_natCast (And.intro @List.length_cons.{0} (And.intro @List.length_nil.{0} (And.intro @List.length_set.{0} (And.intro @Int.toNat_zero (@List.replicate_zero.{0}))))))))))))))))))))))))))))))))))))))
end Go.Am
/- Plain law: the program's numbers: digits in the base 10^9. -/
namespace Go.Am.Tryz
open Go Go.Am Go.Proofs
variable {K : Nat}
def NumN (n : Int) (l : List Int) : Prop := CanB 1000000000 l /\ valB 1000000000 l = n
theorem NumN.inj {n : Int} {l m : List Int} (h : NumN n l) (k : NumN n m) : l = m := zmc (B := 1000000000) (by omega) l m h.1 k.1 (h.2.trans k.2.symm)
theorem NumN.nonneg {n : Int} {l : List Int} (h : NumN n l) : 0 <= n := by rw [<- h.2]; exact z17 (by omega) l h.1.1
theorem NumN.nil : NumN 0 [] := ⟨⟨DigB.nil _, by simp⟩, rfl⟩
theorem NumN.pos {n : Int} {l : List Int} (h : NumN n l) (h0 : l ≠ []) : 0 < n := by rw [<- h.2]; exact zbx (by omega) l h.1 h0
theorem NumN.nil_iff {n : Int} {l : List Int} (h : NumN n l) : l = [] ↔ n = 0 := by
 constructor
 ·rintro rfl; exact h.2.symm
 ·intro e; by_cases h0 : l = []
  ·exact h0
  ·have := h.pos h0; omega
theorem NumN.len0 {n : Int} {l : List Int} (h : NumN n l) : l.length = 0 ↔ n = 0 := by rw [<- h.nil_iff, List.length_eq_zero_iff]
theorem NumN.one {n : Int} (h : 0 < n) (h2 : n < 1000000000) : NumN n [n] := ⟨⟨fun d hd => by simp at hd; omega, by simp; omega⟩, by simp [valB]⟩
theorem zki {B : Int} : ∀ n k (l : List Int), l.length = n -> n <= 8000000 -> n < k -> DigB B l -> ∃ t, z38 K k l = some t /\ CanB B t /\ valB B t = valB B l /\ t.length <= l.length := by
 intro n
 induction n with
 | zero =>
  intro k l hl _ hk hd
  obtain ⟨k, rfl⟩ : ∃ m, k = m + 1 := ⟨k - 1, by omega⟩
  have : l = [] := List.length_eq_zero_iff.1 hl
  subst this
  exact ⟨[], by rw [z38]; simp [tu1], ⟨hd, by simp⟩, rfl, Nat.le_refl _⟩
 | succ n ih =>
  intro k l hl hb hk hd
  obtain ⟨k, rfl⟩ : ∃ m, k = m + 1 := ⟨k - 1, by omega⟩
  obtain ⟨r, d, rfl⟩ : ∃ r d, l = r ++ [d] := zab l (by intro e; subst e; simp at hl)
  have hr : r.length = n := by simpa using hl
  have e1 : z04 .i64 (((r ++ [d]).length : Int) - 1) = (n : Int) := by rw [hl, kw (by omega) (by omega)]; omega
  have e2 : idx (r ++ [d]) (n : Int) = some d := z1s (by simp [<- hr])
  have e3 : lsl (r ++ [d]) 0 (n : Int) = some r := by
   unfold lsl
   rw [if_pos (by rw [hl]; omega)]
   simp [<- hr]
  have e4 : ((r ++ [d]).length : Int) > 0 := by rw [hl]; omega
  have dr : DigB B r := fun x hx => hd x (by simp [hx])
  rw [z38, e1, e2, e3, decide_eq_true e4]
  by_cases h0 : d = 0
  ·obtain ⟨t, h1, h2, h3, h4⟩ := ih k r hr (by omega) (by omega) dr
   refine ⟨t, by simp [h0, tu1, h1], h2, ?_, by simp; omega⟩
   rw [h3, z6g, h0]; simp [valB]
  ·exact ⟨r ++ [d], by simp [h0, tu1], ⟨hd, by simpa using h0⟩, rfl, Nat.le_refl _⟩
theorem zbz {B : Int} {l : List Int} (hl : l.length <= 8000000) (hK : 2000000000 < K) (hd : DigB B l) : ∃ t, z2h K l = some t /\ CanB B t /\ valB B t = valB B l /\ t.length <= l.length := by
 obtain ⟨t, h1, h2⟩ := zki (K := K) l.length K l rfl hl (by omega) hd
 exact ⟨t, by unfold z2h; rw [h1]; rfl, h2⟩
theorem zkj {x y : List Int} (hlen : y.length <= x.length) (hx : x.length <= 4000000) (hK : 2000000000 < K) (dx : DigB 1000000000 x) (dy : DigB 1000000000 y) :
  ∃ r : List Int × Int, z2m K x y K [] 0 0 = some r /\ r.1.length = x.length /\ DigB 1000000000 r.1 /\ (0 <= r.2 /\ r.2 <= 1) /\ valB 1000000000 r.1 + 1000000000 ^ x.length * r.2 = valB 1000000000 x + valB 1000000000 y := by
 refine zah (fun k (s : List Int × Int × Int) => z2m K x y k s.1 s.2.1 s.2.2) (fun s => ∃ i : Nat, s.2.2 = i /\ i <= x.length /\ s.1.length = i /\ DigB 1000000000 s.1 /\ (0 <= s.2.1 /\ s.2.1 <= 1) /\ valB 1000000000 s.1 + 1000000000 ^ i * s.2.1 = valB 1000000000 (x.take i) + valB 1000000000 (y.take i)) (fun s => x.length - s.1.length) _ ?_ (([], 0, 0) : List Int × Int × Int) (by simp; omega) ⟨0, rfl, by omega, rfl, DigB.nil _, ⟨by simp, by simp⟩, by simp [valB]⟩
 rintro k ⟨out, c, _⟩ ⟨i, rfl, h0, h1, h2, h3, h4⟩
 dsimp only at h1 h2 h3 h4 ⊢
 by_cases hi : i < x.length
 ·right
  have ex := z2d (by omega) dx i
  have ey := z2d (by omega) dy i
  have tx := z3y 1000000000 x i
  have ty := z3y 1000000000 y i
  have hy : ¬ i < y.length -> y.getD i 0 = 0 := fun h => by rw [zAb, List.getElem?_eq_none (by omega)]; rfl
  refine ⟨(out ++ [(x.getD i 0 + c + y.getD i 0) % 1000000000], (x.getD i 0 + c + y.getD i 0) / 1000000000, (i : Int) + 1), ?_, by simp; omega, i + 1, rfl, by omega, by simp [h1], h2.snoc (by omega), by dsimp only; omega, ?_⟩
  ·rw [z2m]
   by_cases h : i < y.length
   ·simp (discharger := omega) only [runL]
   ·have e := hy h
    simp (discharger := omega) only [runL, e, Int.add_zero]
  ·have hm := Int.emod_add_mul_ediv (x.getD i 0 + c + y.getD i 0) 1000000000
   dsimp only
   rw [z93, h1, tx, ty, Int.pow_succ]
   grind
 ·left
  refine ⟨(out, c), ?_, by dsimp only; omega, h2, h3, ?_⟩
  ·rw [z2m]; simp [hi]
  ·have : i = x.length := by omega
   subst this
   rwa [List.take_of_length_le (Nat.le_refl _), List.take_of_length_le hlen] at h4
theorem zir {x y : List Int} {a b : Int} (hlen : y.length <= x.length) (hx : x.length <= 4000000) (hK : 2000000000 < K) (nx : NumN a x) (ny : NumN b y) :
  ∃ r : List Int × Int, z2m K x y K [] 0 0 = some r /\ r.1.length = x.length /\ NumN (a + b) (if r.2 > 0 then r.1 ++ [r.2] else r.1) := by
 obtain ⟨⟨r, c⟩, h1, h2, h3, h4, h5⟩ := zkj hlen hx hK nx.1.1 ny.1.1
 dsimp only at h2 h3 h4 h5
 rw [nx.2, ny.2] at h5
 refine ⟨_, h1, h2, ?_⟩
 dsimp only
 by_cases hc : c > 0
 ·rw [if_pos hc]
  have e : c = 1 := by omega
  subst e
  refine ⟨⟨h3.snoc (by omega), by simp⟩, ?_⟩
  rw [z93, h2]
  exact h5
 ·rw [if_neg hc]
  have e : c = 0 := by omega
  subst e
  rw [Int.mul_zero, Int.add_zero] at h5
  refine ⟨?_, h5⟩
  by_cases h0 : r = []
  ·subst h0; exact ⟨h3, by simp⟩
  ·refine zoq (by omega) h3 h0 ?_
   have h6 := zip (B := 1000000000) (by omega) nx.1 (by rintro rfl; exact h0 (List.length_eq_zero_iff.1 h2))
   have h7 := ny.nonneg
   rw [nx.2] at h6
   rw [h2, h5]
   omega
theorem znf {x y : List Int} {a b : Int} (hx : x.length <= 4000000) (hy : y.length <= 4000000) (hK : 2000000000 < K) (nx : NumN a x) (ny : NumN b y) : ∃ z, z7o K x y = some z /\ NumN (a + b) z /\ z.length <= max x.length y.length + 1 := by
 unfold z7o
 by_cases h : x.length < y.length
 ·obtain ⟨⟨r, c⟩, h1, h2, h3⟩ := zir (K := K) (x := y) (y := x) (by omega) hy (by omega) ny nx
  dsimp only at h2 h3
  rw [Int.add_comm b a] at h3
  by_cases hc : c > 0
  ·rw [if_pos hc] at h3
   exact ⟨r ++ [c], by simp (discharger := omega) only [runL, h1], h3, by simp; omega⟩
  ·rw [if_neg hc] at h3
   exact ⟨r, by simp (discharger := omega) only [runL, h1], h3, by omega⟩
 ·obtain ⟨⟨r, c⟩, h1, h2, h3⟩ := zir (K := K) (x := x) (y := y) (by omega) hx (by omega) nx ny
  dsimp only at h2 h3
  by_cases hc : c > 0
  ·rw [if_pos hc] at h3
   exact ⟨r ++ [c], by simp (discharger := omega) only [runL, h1], h3, by simp; omega⟩
  ·rw [if_neg hc] at h3
   exact ⟨r, by simp (discharger := omega) only [runL, h1], h3, by omega⟩
theorem zkk {x y : List Int} (hx : x.length <= 4000000) (hK : 2000000000 < K) (dx : DigB 1000000000 x) (dy : DigB 1000000000 y) :
  ∃ r : List Int, z2n K x y K (List.replicate x.length 0) 0 0 = some r /\ r.length = x.length /\ DigB 1000000000 r /\ ∃ c : Int, (0 <= c /\ c <= 1) /\ valB 1000000000 r + valB 1000000000 (y.take x.length) = valB 1000000000 x + 1000000000 ^ x.length * c := by
 refine zah (fun k (s : List Int × Int × Int) => z2n K x y k s.1 s.2.1 s.2.2) (fun s => ∃ i : Nat, s.2.2 = i /\ i <= x.length /\ s.1.length = x.length /\ DigB 1000000000 s.1 /\ (∀ j, i <= j -> s.1.getD j 0 = 0) /\ (0 <= s.2.1 /\ s.2.1 <= 1) /\ valB 1000000000 s.1 + valB 1000000000 (y.take i) = valB 1000000000 (x.take i) + 1000000000 ^ i * s.2.1) (fun s => (x.length - s.2.2 : Int).toNat) _ ?_ ((List.replicate x.length 0, 0, 0) : List Int × Int × Int) (by simp; omega) ⟨0, rfl, by omega, by simp, .zeros (by omega) _, fun j _ => by simp [zAb, List.getElem?_replicate]; split <;> rfl, ⟨by simp, by simp⟩, by simp [valB, zaa]⟩
 rintro k ⟨out, c, _⟩ ⟨i, rfl, h0, h1, h2, hz, h3, h4⟩
 dsimp only at h1 h2 h3 h4 hz ⊢
 by_cases hi : i < x.length
 ·right
  have ex := z2d (by omega) dx i
  have ey := z2d (by omega) dy i
  have tx := z3y 1000000000 x i
  have ty := z3y 1000000000 y i
  have hy : ¬ i < y.length -> y.getD i 0 = 0 := fun h => by rw [zAb, List.getElem?_eq_none (by omega)]; rfl
  have hset := fun d => z7j 1000000000 out i d (by omega)
  have hgs := fun d j => z86 (cs := out) (i := i) (j := j) (v := d) (by omega)
  have hz0 := hz i (Nat.le_refl _)
  by_cases hn : x.getD i 0 - c - y.getD i 0 < 0
  ·refine ⟨(out.set i (x.getD i 0 - c - y.getD i 0 + 1000000000), 1, (i : Int) + 1), ?_, by dsimp only; omega, i + 1, rfl, by omega, by simp [h1], h2.set _ (by omega), fun j hj => by rw [hgs, if_neg (by omega)]; exact hz j (by omega), by simp, ?_⟩
   ·rw [z2n]
    by_cases h : i < y.length
    ·simp (discharger := omega) only [runL]
    ·have e := hy h
     rw [e, Int.sub_zero] at hn
     simp (discharger := omega) only [runL, e, Int.sub_zero]
   ·dsimp only
    rw [hset, hz0, tx, ty, Int.pow_succ]
    grind
  ·refine ⟨(out.set i (x.getD i 0 - c - y.getD i 0), 0, (i : Int) + 1), ?_, by dsimp only; omega, i + 1, rfl, by omega, by simp [h1], h2.set _ (by omega), fun j hj => by rw [hgs, if_neg (by omega)]; exact hz j (by omega), by simp, ?_⟩
   ·rw [z2n]
    by_cases h : i < y.length
    ·simp (discharger := omega) only [runL]
    ·have e := hy h
     rw [e, Int.sub_zero] at hn
     simp (discharger := omega) only [runL, e, Int.sub_zero]
   ·dsimp only
    rw [hset, hz0, tx, ty, Int.pow_succ]
    grind
 ·left
  have : i = x.length := by omega
  subst this
  rw [List.take_of_length_le (i := x.length) (l := x) (Nat.le_refl _)] at h4
  exact ⟨out, by rw [z2n]; simp (discharger := omega) only [runL], h1, h2, c, h3, h4⟩
theorem zli {x y : List Int} {a b : Int} (hx : x.length <= 4000000) (hK : 2000000000 < K) (nx : NumN a x) (ny : NumN b y) (hab : b <= a) : ∃ z, z6u K x y = some z /\ NumN (a - b) z /\ z.length <= x.length := by
 obtain ⟨r, h1, h2, h3, c, h4, h5⟩ := zkk hx hK nx.1.1 ny.1.1
 have hl : y.length <= x.length := zem (B := 1000000000) (by omega) ny.1 nx.1.1 (by rw [nx.2, ny.2]; exact hab)
 rw [List.take_of_length_le hl, nx.2, ny.2] at h5
 have hv := z5g (B := 1000000000) (by omega) r h3
 rw [h2] at hv
 have hc : c = 0 := by
  by_cases e : c = 0
  ·exact e
  ·have : c = 1 := by omega
   subst this; omega
 subst hc
 obtain ⟨t, t1, t2, t3, t4⟩ := zbz (K := K) (B := 1000000000) (l := r) (by omega) hK h3
 refine ⟨t, ?_, ⟨t2, by rw [t3]; omega⟩, by omega⟩
 unfold z6u
 simp (discharger := omega) only [runL, h1, t1]
theorem zkl {x y : List Int} (hl : x.length = y.length) (hx : x.length <= 4000000) (hK : 2000000000 < K) (dx : DigB 1000000000 x) (dy : DigB 1000000000 y) :
  ∃ r : Int ⊕ Unit, z26 K x y K ((x.length : Int) - 1) = some r /\ r = (if valB 1000000000 x < valB 1000000000 y then .inl (-1) else if valB 1000000000 x = valB 1000000000 y then .inr () else .inl 1) := by
 have hdrop : ∀ (l : List Int) j, valB 1000000000 (l.drop j) = l.getD j 0 + 1000000000 * valB 1000000000 (l.drop (j + 1)) := fun l j => by
  by_cases h : j < l.length
  ·rw [List.drop_eq_getElem_cons h, zAb, zAh h]; rfl
  ·rw [List.drop_eq_nil_of_le (by omega), List.drop_eq_nil_of_le (by omega), zAb, List.getElem?_eq_none (by omega)]; rfl
 refine zah (fun k (s : Int) => z26 K x y k s) (fun s => ∃ j : Nat, s = (j : Int) - 1 /\ j <= x.length /\ valB 1000000000 (x.drop j) = valB 1000000000 (y.drop j)) (fun s => (s + 1).toNat) _ ?_ ((x.length : Int) - 1) (by omega) ⟨x.length, rfl, Nat.le_refl _, by rw [List.drop_eq_nil_of_le (Nat.le_refl _), List.drop_eq_nil_of_le (by omega)]⟩
 rintro k _ ⟨j, rfl, hj, he⟩
 by_cases h0 : j = 0
 ·subst h0
  left
  rw [List.drop_zero, List.drop_zero] at he
  rw [z26]
  refine ⟨.inr (), by simp (discharger := omega) only [runL], ?_⟩
  rw [if_neg (by omega), if_pos he]
 ·obtain ⟨i, rfl⟩ : ∃ i, j = i + 1 := ⟨j - 1, by omega⟩
  have e1 : ((i + 1 : Nat) : Int) - 1 = i := by omega
  rw [e1]
  have ex := z2d (by omega) dx i
  have ey := z2d (by omega) dy i
  have sx := z8u 1000000000 x i (by omega)
  have sy := z8u 1000000000 y i (by omega)
  have ax := hdrop x i
  have ay := hdrop y i
  have bx := z5g (B := 1000000000) (by omega) _ (dx.take i)
  have by' := z5g (B := 1000000000) (by omega) _ (dy.take i)
  have cx := z17 (B := 1000000000) (by omega) _ (dx.take i)
  have cy := z17 (B := 1000000000) (by omega) _ (dy.take i)
  rw [List.length_take, Nat.min_eq_left (by omega)] at bx by'
  have p0 : 0 < (1000000000 : Int) ^ i := Int.pow_pos (by omega)
  rw [ax, he] at sx
  rw [ay] at sy
  by_cases h1 : x.getD i 0 < y.getD i 0
  ·left
   refine ⟨.inl (-1), by rw [z26]; simp (discharger := omega) only [runL], ?_⟩
   have := z46 (Int.le_of_lt p0) (show x.getD i 0 + 1 <= y.getD i 0 by omega)
   rw [if_pos (by grind)]
  ·by_cases h2 : x.getD i 0 > y.getD i 0
   ·left
    refine ⟨.inl 1, by rw [z26]; simp (discharger := omega) only [runL], ?_⟩
    have := z46 (Int.le_of_lt p0) (show y.getD i 0 + 1 <= x.getD i 0 by omega)
    rw [if_neg (by grind), if_neg (by grind)]
   ·right
    refine ⟨(i : Int) - 1, by rw [z26]; simp (discharger := omega) only [runL], by omega, i, rfl, by omega, ?_⟩
    rw [ax, ay, he]
    omega
theorem zg2 {x y : List Int} {a b : Int} (hx : x.length <= 4000000) (hy : y.length <= 4000000) (hK : 2000000000 < K) (nx : NumN a x) (ny : NumN b y) : z53 K x y = some (if a < b then -1 else if a = b then 0 else 1) := by
 unfold z53
 by_cases h : x.length = y.length
 ·obtain ⟨r, h1, h2⟩ := zkl (K := K) h hx hK nx.1.1 ny.1.1
  rw [nx.2, ny.2] at h2
  have e : ((x.length : Int) != (y.length : Int)) = false := by simp; omega
  rw [e]
  rw [k64 (by omega) (by omega), h1, h2]
  simp only [Bool.false_eq_true, if_false, z9w, Option.bind_some]
  by_cases c1 : a < b
  ·simp [c1, tu1]
  ·by_cases c2 : a = b
   ·subst c2; simp [tu0]
   ·simp [c1, c2, tu1]
 ·have e : ((x.length : Int) != (y.length : Int)) = true := by simp; omega
  rw [e, if_pos rfl]
  by_cases h1 : x.length < y.length
  ·have := ziq (B := 1000000000) (by omega) nx.1.1 ny.1 h1
   rw [nx.2, ny.2] at this
   simp (discharger := omega) only [runL]
  ·have := ziq (B := 1000000000) (by omega) ny.1.1 nx.1 (by omega)
   rw [nx.2, ny.2] at this
   simp (discharger := omega) only [runL]
end Go.Am.Tryz
/- Plain law: products of the program's numbers; division by one digit. -/
namespace Go.Am.Tryz
open Go Go.Am Go.Proofs
variable {K : Nat}
theorem zlj {a b : Int} (ha : 0 <= a /\ a < 1000000000) (hb : 0 <= b /\ b < 1000000000) : 0 <= a * b /\ a * b <= 999999998000000001 := by
 refine ⟨Int.mul_nonneg ha.1 hb.1, ?_⟩
 have h1 := z46 ha.1 (show b <= 999999999 by omega)
 omega
theorem zng {y out : List Int} {u : Int} {i : Nat} (hl : i + y.length <= out.length) (ho : out.length <= 8000000) (hK : 2000000000 < K) (hu : 0 <= u /\ u < 1000000000) (dy : DigB 1000000000 y) (d0 : DigB 1000000000 out) :
  ∃ r : List Int × Int, z34 K y (i : Int) u K out 0 0 = some r /\ r.1.length = out.length /\ DigB 1000000000 r.1 /\ (0 <= r.2 /\ r.2 < 1000000000) /\ (∀ j, i + y.length <= j -> r.1.getD j 0 = out.getD j 0) ∧
   valB 1000000000 r.1 + 1000000000 ^ (i + y.length) * r.2 = valB 1000000000 out + 1000000000 ^ i * (u * valB 1000000000 y) := by
 refine zah (fun k (s : List Int × Int × Int) => z34 K y (i : Int) u k s.1 s.2.1 s.2.2) (fun s => ∃ q : Nat, s.2.2 = q /\ q <= y.length /\ s.1.length = out.length /\ DigB 1000000000 s.1 /\ (0 <= s.2.1 /\ s.2.1 < 1000000000) /\ (∀ j, i + q <= j -> s.1.getD j 0 = out.getD j 0) ∧
   valB 1000000000 s.1 + 1000000000 ^ (i + q) * s.2.1 = valB 1000000000 out + 1000000000 ^ i * (u * valB 1000000000 (y.take q))) (fun s => (y.length - s.2.2 : Int).toNat) _ ?_ ((out, 0, 0) : List Int × Int × Int) (by simp; omega) ⟨0, rfl, by omega, rfl, d0, by simp, fun _ _ => rfl, by simp [valB]⟩
 rintro k ⟨o, c, _⟩ ⟨q, rfl, h0, h1, h2, h3, hz, h4⟩
 dsimp only at h1 h2 h3 h4 hz ⊢
 by_cases hq : q < y.length
 ·right
  have ey := z2d (by omega) dy q
  have eo := z2d (by omega) h2 (i + q)
  have ty := z3y 1000000000 y q
  have hm := zlj hu ey
  have hset := fun d => z7j 1000000000 o (i + q) d (by omega)
  have hgs := fun d j => z86 (cs := o) (i := i + q) (j := j) (v := d) (by omega)
  have e1 : ((i : Int) + (q : Int)) = ((i + q : Nat) : Int) := by omega
  generalize hw : u * y.getD q 0 = w at hm
  generalize ho : o.getD (i + q) 0 = z at eo hset
  have hdm := Int.emod_add_mul_ediv (w + z + c) 1000000000
  refine ⟨(o.set (i + q) ((w + z + c) % 1000000000), (w + z + c) / 1000000000, (q : Int) + 1), ?_, by dsimp only; omega, q + 1, rfl, by omega, by simp [h1], h2.set _ (by omega), by dsimp only; omega, fun j hj => by rw [hgs, if_neg (by omega)]; exact hz j (by omega), ?_⟩
  ·rw [z34]
   simp (discharger := omega) only [runL, e1, hw, ho]
  ·dsimp only
   rw [hset, ty]
   have e2 : (1000000000 : Int) ^ (i + (q + 1)) = 1000000000 ^ i * 1000000000 ^ q * 1000000000 := by rw [<- Nat.add_assoc, Int.pow_succ, Int.pow_add]
   rw [e2]
   rw [Int.pow_add] at h4 ⊢
   subst hw
   generalize (u * y.getD q 0 + z + c) / 1000000000 = Q at *
   generalize (u * y.getD q 0 + z + c) % 1000000000 = R at *
   grind
 ·left
  have : q = y.length := by omega
  subst this
  rw [List.take_of_length_le (Nat.le_refl _)] at h4
  exact ⟨(o, c), by rw [z34]; simp (discharger := omega) only [runL], h1, h2, h3, hz, h4⟩
theorem zkm {x y : List Int} (hl : x.length + y.length <= 8000000) (hK : 2000000000 < K) (dx : DigB 1000000000 x) (dy : DigB 1000000000 y) :
  ∃ r : List Int, z35 K x y K (List.replicate (x.length + y.length) 0) 0 = some r /\ r.length = x.length + y.length /\ DigB 1000000000 r /\ valB 1000000000 r = valB 1000000000 x * valB 1000000000 y := by
 refine zah (fun k (s : List Int × Int) => z35 K x y k s.1 s.2) (fun s => ∃ i : Nat, s.2 = i /\ i <= x.length /\ s.1.length = x.length + y.length /\ DigB 1000000000 s.1 /\ (∀ j, i + y.length <= j -> s.1.getD j 0 = 0) /\ valB 1000000000 s.1 = valB 1000000000 (x.take i) * valB 1000000000 y) (fun s => (x.length - s.2 : Int).toNat) _ ?_ ((List.replicate (x.length + y.length) 0, 0) : List Int × Int) (by simp; omega) ⟨0, rfl, by omega, by simp, .zeros (by omega) _, fun j _ => by simp [zAb, List.getElem?_replicate]; split <;> rfl, by simp [valB, zaa]⟩
 rintro k ⟨out, _⟩ ⟨i, rfl, h0, h1, h2, hz, h4⟩
 dsimp only at h1 h2 h4 hz ⊢
 by_cases hi : i < x.length
 ·right
  have ex := z2d (by omega) dx i
  have tx := z3y 1000000000 x i
  obtain ⟨⟨r, c⟩, r1, r2, r3, r4, r5, r6⟩ := zng (K := K) (y := y) (out := out) (u := x.getD i 0) (i := i) (by omega) (by omega) hK ex dy h2
  dsimp only at r2 r3 r4 r5 r6
  have hz0 := r5 (i + y.length) (Nat.le_refl _)
  rw [hz _ (Nat.le_refl _)] at hz0
  have hset := z7j 1000000000 r (i + y.length) c (by omega)
  have hgs := fun d j => z86 (cs := r) (i := i + y.length) (j := j) (v := d) (by omega)
  have e1 : ((i : Int) + (y.length : Int)) = ((i + y.length : Nat) : Int) := by omega
  refine ⟨(r.set (i + y.length) c, (i : Int) + 1), ?_, by dsimp only; omega, i + 1, rfl, by omega, by simp [r2, h1], r3.set _ r4, fun j hj => by rw [hgs, if_neg (by omega), r5 j (by omega)]; exact hz j (by omega), ?_⟩
  ·rw [z35]
   simp (discharger := omega) only [runL, r1, e1]
  ·dsimp only
   rw [hset, hz0, tx]
   grind
 ·left
  have : i = x.length := by omega
  subst this
  rw [List.take_of_length_le (Nat.le_refl _)] at h4
  exact ⟨out, by rw [z35]; simp (discharger := omega) only [runL], h1, h2, h4⟩
theorem zc0 {x y : List Int} {a b : Int} (hl : x.length + y.length <= 8000000) (hK : 2000000000 < K) (nx : NumN a x) (ny : NumN b y) : ∃ z, z3f K x y = some z /\ NumN (a * b) z /\ z.length <= x.length + y.length := by
 obtain ⟨r, h1, h2, h3, h4⟩ := zkm hl hK nx.1.1 ny.1.1
 rw [nx.2, ny.2] at h4
 obtain ⟨t, t1, t2, t3, t4⟩ := zbz (K := K) (B := 1000000000) (l := r) (by omega) hK h3
 refine ⟨t, ?_, ⟨t2, by rw [t3, h4]⟩, by omega⟩
 unfold z3f
 have e1 : ((x.length : Int) + (y.length : Int)) = ((x.length + y.length : Nat) : Int) := by omega
 simp (discharger := omega) only [runL, h1, t1, e1]
theorem zfb (l : List Int) (j : Nat) : valB 1000000000 (l.drop j) = l.getD j 0 + 1000000000 * valB 1000000000 (l.drop (j + 1)) := by
 by_cases h : j < l.length
 ·rw [List.drop_eq_getElem_cons h, zAb, zAh h]; rfl
 ·rw [List.drop_eq_nil_of_le (by omega), List.drop_eq_nil_of_le (by omega), zAb, List.getElem?_eq_none (by omega)]; rfl
theorem zgx {x : List Int} {d : Int} (hl : x.length <= 8000000) (hK : 2000000000 < K) (dx : DigB 1000000000 x) (hd : 1 <= d /\ d <= 1000000000) :
  ∃ r : List Int × Int, z2b K x d K (List.replicate x.length 0) 0 ((x.length : Int) - 1) = some r /\ r.1.length = x.length /\ DigB 1000000000 r.1 /\ (0 <= r.2 /\ r.2 < d) /\ valB 1000000000 x = d * valB 1000000000 r.1 + r.2 := by
 refine zah (fun k (s : List Int × Int × Int) => z2b K x d k s.1 s.2.1 s.2.2) (fun s => ∃ j : Nat, s.2.2 = (j : Int) - 1 /\ j <= x.length /\ s.1.length = x.length /\ DigB 1000000000 s.1 /\ (0 <= s.2.1 /\ s.2.1 < d) /\ valB 1000000000 (x.drop j) = d * valB 1000000000 (s.1.drop j) + s.2.1) (fun s => (s.2.2 + 1).toNat) _ ?_ ((List.replicate x.length 0, 0, (x.length : Int) - 1) : List Int × Int × Int) (by dsimp only; omega) ⟨x.length, rfl, Nat.le_refl _, by simp, .zeros (by omega) _, by dsimp only; omega, by simp [valB]⟩
 rintro k ⟨out, c, _⟩ ⟨j, rfl, hj, h1, h2, h3, h4⟩
 dsimp only at h1 h2 h3 h4 ⊢
 by_cases h0 : j = 0
 ·left
  subst h0
  rw [List.drop_zero, List.drop_zero] at h4
  exact ⟨(out, c), by rw [z2b]; simp (discharger := omega) only [runL], h1, h2, h3, h4⟩
 ·right
  obtain ⟨i, rfl⟩ : ∃ i, j = i + 1 := ⟨j - 1, by omega⟩
  have e1 : ((i + 1 : Nat) : Int) - 1 = i := by omega
  rw [e1]
  have ex := z2d (by omega) dx i
  have ax := zfb x i
  generalize hu : x.getD i 0 = u at ex ax
  have hq0 : 0 <= (c * 1000000000 + u) / d := Int.ediv_nonneg (by omega) (by omega)
  have hqB : (c * 1000000000 + u) / d < 1000000000 := Int.ediv_lt_of_lt_mul (by omega) (by omega)
  have hr0 : 0 <= (c * 1000000000 + u) % d := Int.emod_nonneg _ (by omega)
  have hrd : (c * 1000000000 + u) % d < d := Int.emod_lt_of_pos _ (by omega)
  have hdm := Int.emod_add_mul_ediv (c * 1000000000 + u) d
  refine ⟨(out.set i ((c * 1000000000 + u) / d), (c * 1000000000 + u) % d, (i : Int) - 1), ?_, by dsimp only; omega, i, rfl, by omega, by simp [h1], h2.set _ ⟨hq0, hqB⟩, ⟨hr0, hrd⟩, ?_⟩
  ·rw [z2b]
   have hd' : d ≠ 0 := by omega
   simp (discharger := omega) only [runL, hu]
  ·dsimp only
   rw [zfb (out.set i _) i, List.drop_set_of_lt (by omega), z86 (by omega), if_pos rfl, ax, h4]
   generalize (c * 1000000000 + u) / d = Q at *
   generalize (c * 1000000000 + u) % d = R at *
   grind
theorem zkn {d : Int} (hd : 0 <= d /\ d < 1000000000) (hK : 2000000000 < K) : ∃ z, z2h K [d] = some z /\ NumN d z /\ z.length <= 1 := by
 obtain ⟨t, t1, t2, t3, t4⟩ := zbz (K := K) (B := 1000000000) (l := [d]) (by simp) hK (fun x hx => by simp at hx; omega)
 exact ⟨t, t1, ⟨t2, by rw [t3]; simp [valB]⟩, by simpa using t4⟩
theorem zc1 {n d q r : Int} (hd : 0 < d) (h : n = d * q + r) (h0 : 0 <= r) (h1 : r < d) : q = n / d /\ r = n % d := by
 have e1 : n / d = q := by
  rw [h, Int.add_comm, Int.add_mul_ediv_left _ _ (by omega), Int.ediv_eq_zero_of_lt h0 h1]; omega
 refine ⟨e1.symm, ?_⟩
 have := Int.emod_add_mul_ediv n d
 rw [e1] at this
 omega
theorem zg3 {x : List Int} {a d : Int} (hl : x.length <= 8000000) (hK : 2000000000 < K) (nx : NumN a x) (hd : 1 <= d /\ d <= 1000000000) : ∃ q r, z54 K x d = some (q, r) /\ NumN (a / d) q /\ NumN (a % d) r /\ q.length <= x.length /\ r.length <= 1 := by
 obtain ⟨⟨o, c⟩, h1, h2, h3, h4, h5⟩ := zgx hl hK nx.1.1 hd
 dsimp only at h2 h3 h4 h5
 rw [nx.2] at h5
 obtain ⟨e1, e2⟩ := zc1 (by omega) h5 h4.1 h4.2
 obtain ⟨t, t1, t2, t3, t4⟩ := zbz (K := K) (B := 1000000000) (l := o) (by omega) hK h3
 obtain ⟨z, z1, z2, z3⟩ := zkn (K := K) (d := c) (by omega) hK
 refine ⟨t, z, ?_, ⟨t2, by rw [t3, e1]⟩, by rw [<- e2]; exact z2, by omega, z3⟩
 unfold z54
 simp (discharger := omega) only [runL, h1, t1, z1]
end Go.Am.Tryz
/- Plain law: texts and the program's numbers: Read and Text. -/
namespace Go.Am.Tryz
open Go Go.Am Go.Proofs
variable {K : Nat}
def numB (l : List Int) : Int := valB 10 ((l.map (· - 48)).reverse)
theorem zdn (s : zAd) : numT s = numB (z05 s) := rfl
theorem z9n : numB [] = 0 := rfl
theorem zbd (l : List Int) (c : Int) : numB (l ++ [c]) = numB l * 10 + (c - 48) := by
 unfold numB
 simp [valB]
 omega
theorem zfc (l m : List Int) : numB (l ++ m) = numB m + 10 ^ m.length * numB l := by
 unfold numB
 rw [List.map_append, List.reverse_append, z6g]
 simp
theorem zbe (c : Int) (l : List Int) : numB (c :: l) = numB l + 10 ^ l.length * (c - 48) := by
 have := zfc [c] l
 simpa [numB, valB] using this
theorem zis {l : List Int} (h : l.all digT = true) : DigB 10 ((l.map (· - 48)).reverse) := by
 intro d hd
 rw [List.mem_reverse, List.mem_map] at hd
 obtain ⟨c, hc, rfl⟩ := hd
 have := List.all_eq_true.1 h c hc
 simp only [digT, Bool.and_eq_true, decide_eq_true_eq] at this
 omega
theorem z6x {l : List Int} (h : l.all digT = true) : 0 <= numB l := z17 (by omega) _ (zis h)
theorem zcx {l : List Int} (h : l.all digT = true) : numB l < 10 ^ l.length := by
 have := z5g (B := 10) (by omega) _ (zis h)
 simpa [numB] using this
theorem digT_iff {c : Int} : digT c = true ↔ 48 <= c /\ c <= 57 := by simp [digT]
theorem zc2 {l : List Int} (h : l.all digT = true) (k : Nat) : (l.take k).all digT = true := List.all_eq_true.2 fun x hx => List.all_eq_true.1 h x (List.mem_of_mem_take hx)
theorem zmd {l : List Int} (h : l.all digT = true) (k : Nat) : (l.drop k).all digT = true := List.all_eq_true.2 fun x hx => List.all_eq_true.1 h x (List.mem_of_mem_drop hx)
theorem zg4 {l : List Int} {i : Nat} (h : i < l.length) : l.take (i + 1) = l.take i ++ [l.getD i 0] := by
 rw [List.take_add_one, zAh h, zAb, zAh h]; rfl
theorem zg5 {l : List Int} (h : l.all digT = true) {i : Nat} (hi : i < l.length) : 48 <= l.getD i 0 /\ l.getD i 0 <= 57 := by
 rw [zAb, zAh hi]
 exact digT_iff.1 (List.all_eq_true.1 h _ (List.getElem_mem hi))
theorem zko {t : zAd} (ht : t.size <= 9) (hK : 2000000000 < K) (hd : (z05 t).all digT = true) : z33 K t K 0 0 = some (numT t) := by
 suffices h : ∃ r, z33 K t K 0 0 = some r /\ r = numT t by obtain ⟨r, h1, rfl⟩ := h; exact h1
 have hn := z01 t
 refine zah (fun k (s : Int × Int) => z33 K t k s.1 s.2) (fun s => ∃ i : Nat, s.2 = i /\ i <= t.size /\ s.1 = numB ((z05 t).take i)) (fun s => (t.size - s.2 : Int).toNat) _ ?_ ((0, 0) : Int × Int) (by simp; omega) ⟨0, rfl, by omega, by simp [z9n]⟩
 rintro k ⟨_, _⟩ ⟨i, rfl, h0, rfl⟩
 dsimp only
 by_cases hi : i < t.size
 ·right
  have b1 := z6x (zc2 hd i)
  have b2 := zcx (zc2 hd i)
  have b3 : (10 : Int) ^ (List.take i (z05 t)).length <= 10 ^ 8 := by
   rw [List.length_take, hn, Nat.min_eq_left (by omega)]
   exact z7u (by omega) (by omega)
  have hc := zg5 hd (i := i) (by omega)
  have hs := zg4 (l := z05 t) (i := i) (by omega)
  have b4 : (10 : Int) ^ 8 = 100000000 := by decide
  refine ⟨(numB ((z05 t).take (i + 1)), (i : Int) + 1), ?_, by dsimp only; omega, i + 1, rfl, by omega, rfl⟩
  rw [z33, hs, zbd]
  generalize numB ((z05 t).take i) = d at *
  rw [hn]
  have hi' : (i : Int) < ((z05 t).length : Int) := by omega
  simp (discharger := omega) only [runL]
 ·left
  have : i = t.size := by omega
  subst this
  refine ⟨numB ((z05 t).take t.size), by rw [z33, hn]; simp (discharger := omega) only [runL], ?_⟩
  rw [List.take_of_length_le (by omega)]
  rfl
theorem zkp {s : zAd} (hs : s.size <= 8000000) (hK : 2000000000 < K) (hd : (z05 s).all digT = true) :
  ∃ r : List Int, z3j K s K [] (s.size : Int) = some r /\ 9 * r.length < s.size + 9 /\ DigB 1000000000 r /\ valB 1000000000 r = numT s := by
 have hn := z01 s
 refine zah (fun k (q : List Int × Int) => z3j K s k q.1 q.2) (fun q => q.2 = (s.size : Int) - 9 * q.1.length /\ 9 * q.1.length < s.size + 9 /\ DigB 1000000000 q.1 /\ valB 1000000000 q.1 + 1000000000 ^ q.1.length * numB ((z05 s).take q.2.toNat) = numT s) (fun q => (q.2 + 9).toNat) _ ?_ (([], (s.size : Int)) : List Int × Int) (by dsimp only; omega) ⟨by simp, by simp, .nil _, by simp [valB]; rw [List.take_of_length_le (by omega)]; rfl⟩
 rintro k ⟨out, e⟩ ⟨h1, h2, h3, h4⟩
 dsimp only at h1 h2 h3 h4 ⊢
 by_cases he : e > 0
 ·right
  obtain ⟨lo, hlo, hm⟩ : ∃ lo : Nat, imax 0 (z04 .i64 (e - 9)) = lo /\ ((lo : Int) = e - 9 \/ ((lo = 0) /\ e < 9)) := by
   rw [k64 (by omega) (by omega)]
   unfold imax
   by_cases h9 : e - 9 > 0
   ·exact ⟨(e - 9).toNat, by rw [if_pos h9]; omega, .inl (by omega)⟩
   ·exact ⟨0, by rw [if_neg h9]; rfl, by omega⟩
  have hb : z05 (s.extract lo e.toNat) = ((z05 s).drop lo).take (e.toNat - lo) := z3d _ _ _
  have hsz : (s.extract lo e.toNat).size = e.toNat - lo := by rw [<- z01, hb, List.length_take, List.length_drop]; omega
  have hdp : (z05 (s.extract lo e.toNat)).all digT = true := by rw [hb]; exact zc2 (zmd hd _) _
  have hp := zko (K := K) (t := s.extract lo e.toNat) (by omega) hK hdp
  have hv0 := z6x hdp
  have hv1 := zcx hdp
  have hsplit : (z05 s).take e.toNat = (z05 s).take lo ++ z05 (s.extract lo e.toNat) := by
   rw [hb, show e.toNat = lo + (e.toNat - lo) by omega, List.take_add]; simp
  have hlen : (z05 (s.extract lo e.toNat)).length = e.toNat - lo := by rw [z01]; exact hsz
  have hBv : numB (z05 (s.extract lo e.toNat)) < 1000000000 := by
   have : (10 : Int) ^ (z05 (s.extract lo e.toNat)).length <= 10 ^ 9 := z7u (by omega) (by omega)
   have e9 : (10 : Int) ^ 9 = 1000000000 := by decide
   omega
  refine ⟨(out ++ [numT (s.extract lo e.toNat)], e - 9), ?_, by dsimp only; omega, by simp; omega, by simp; omega, h3.snoc ⟨hv0, hBv⟩, ?_⟩
  ·rw [z3j, hlo]
   simp (discharger := omega) only [runL, hp]
  ·dsimp only
   rw [z93, List.length_append, List.length_singleton, Int.pow_succ, zdn]
   rw [hsplit, zfc, hlen] at h4
   rcases hm with hm | ⟨hm, h9⟩
   ·have e9 : e.toNat - lo = 9 := by omega
    have e10 : (10 : Int) ^ 9 = 1000000000 := by decide
    have el : (e - 9).toNat = lo := by omega
    rw [e9, e10] at h4
    rw [el]
    grind
   ·subst hm
    have el : (e - 9).toNat = 0 := by omega
    rw [el, List.take_zero, z9n] at *
    grind
 ·left
  have el : e.toNat = 0 := by omega
  rw [el, List.take_zero, z9n] at h4
  exact ⟨out, by rw [z3j]; simp (discharger := omega) only [runL], h2, h3, by omega⟩
theorem zau {s : zAd} (hs : s.size <= 8000000) (hK : 2000000000 < K) (hd : (z05 s).all digT = true) : ∃ z, z68 K s = some z /\ NumN (numT s) z /\ 9 * z.length < s.size + 9 := by
 obtain ⟨r, h1, h2, h3, h4⟩ := zkp hs hK hd
 obtain ⟨t, t1, t2, t3, t4⟩ := zbz (K := K) (B := 1000000000) (l := r) (by omega) hK h3
 exact ⟨t, by unfold z68; simp (discharger := omega) only [runL, h1, t1], ⟨t2, by rw [t3, h4]⟩, by omega⟩
theorem zkq {d : Int} (hd : 0 <= d /\ d < 1000000000) (hK : 2000000000 < K) : ∃ p, z2p K K (List.replicate 9 0) d 8 = some p /\ p.length = 9 /\ p.all digT = true /\ numB p = d := by
 refine zah (fun k (s : List Int × Int × Int) => z2p K k s.1 s.2.1 s.2.2) (fun s => ∃ j : Nat, s.2.2 = (j : Int) - 1 /\ j <= 9 /\ s.1.length = 9 /\ (s.1.drop j).all digT = true /\ (0 <= s.2.1 /\ s.2.1 <= d) /\ d = s.2.1 * 10 ^ (9 - j) + numB (s.1.drop j)) (fun s => (s.2.2 + 1).toNat) _ ?_ ((List.replicate 9 0, d, 8) : List Int × Int × Int) (by simp; omega) ⟨9, rfl, by omega, by simp, by simp, by dsimp only; omega, by simp [z9n]⟩
 rintro k ⟨p, c, _⟩ ⟨j, rfl, hj, h1, h2, h3, h4⟩
 dsimp only at h1 h2 h3 h4 ⊢
 by_cases h0 : j = 0
 ·subst h0
  left
  rw [List.drop_zero] at h2 h4
  have e9 : (10 : Int) ^ (9 - 0) = 1000000000 := by decide
  have := z6x h2
  rw [e9] at h4
  exact ⟨p, by rw [z2p]; simp (discharger := omega) only [runL], h1, h2, by omega⟩
 ·right
  obtain ⟨i, rfl⟩ : ∃ i, j = i + 1 := ⟨j - 1, by omega⟩
  have e1 : ((i + 1 : Nat) : Int) - 1 = i := by omega
  rw [e1]
  have hx : (p.set i (48 + c % 10)).drop i = (48 + c % 10) :: p.drop (i + 1) := by
   rw [List.drop_eq_getElem_cons (by simp; omega), List.drop_set_of_lt (by omega)]
   simp
  have e2 : (10 : Int) ^ (9 - i) = 10 ^ (9 - (i + 1)) * 10 := by rw [<- Int.pow_succ]; congr 1; omega
  have e3 : (p.drop (i + 1)).length = 9 - (i + 1) := by rw [List.length_drop, h1]
  have hdm := Int.emod_add_mul_ediv c 10
  refine ⟨(p.set i (48 + c % 10), c / 10, (i : Int) - 1), ?_, by dsimp only; omega, i, rfl, by omega, by simp [h1], ?_, by dsimp only; omega, ?_⟩
  ·rw [z2p]
   simp (discharger := omega) only [runL]
  ·dsimp only
   rw [hx, List.all_cons, h2, Bool.and_true]
   exact digT_iff.2 (by omega)
  ·dsimp only
   rw [hx, zbe, e2, e3]
   generalize (10 : Int) ^ (9 - (i + 1)) = P at *
   grind
theorem zit {x : List Int} (hx : x.length <= 1000000) (hK : 2000000000 < K) (dx : DigB 1000000000 x) : ∃ b, z2q K x K [] ((x.length : Int) - 1) = some b /\ b.length = 9 * x.length /\ b.all digT = true /\ numB b = valB 1000000000 x := by
 refine zah (fun k (s : List Int × Int) => z2q K x k s.1 s.2) (fun s => ∃ j : Nat, s.2 = (j : Int) - 1 /\ j <= x.length /\ s.1.length = 9 * (x.length - j) /\ s.1.all digT = true /\ numB s.1 = valB 1000000000 (x.drop j)) (fun s => (s.2 + 1).toNat) _ ?_ (([], (x.length : Int) - 1) : List Int × Int) (by dsimp only; omega) ⟨x.length, rfl, Nat.le_refl _, by simp, by simp, by simp [valB, z9n]⟩
 rintro k ⟨b, _⟩ ⟨j, rfl, hj, h1, h2, h4⟩
 dsimp only at h1 h2 h4 ⊢
 by_cases h0 : j = 0
 ·subst h0
  left
  exact ⟨b, by rw [z2q]; simp (discharger := omega) only [runL], h1, h2, h4⟩
 ·right
  obtain ⟨i, rfl⟩ : ∃ i, j = i + 1 := ⟨j - 1, by omega⟩
  have e1 : ((i + 1 : Nat) : Int) - 1 = i := by omega
  rw [e1]
  have ex := z2d (by omega) dx i
  obtain ⟨p, p1, p2, p3, p4⟩ := zkq (K := K) (d := x.getD i 0) ex hK
  have e9 : (10 : Int) ^ 9 = 1000000000 := by decide
  refine ⟨(b ++ p, (i : Int) - 1), ?_, by dsimp only; omega, i, rfl, by omega, by simp; omega, ?_, ?_⟩
  ·rw [z2q]
   simp (discharger := omega) only [runL, p1]
  ·dsimp only
   rw [List.all_append, h2, p3]; rfl
  ·dsimp only
   rw [zfc, p2, p4, h4, zfb x i, e9]
theorem zen {n : Int} : ∀ k (s : zAd), s.size < k -> s.size <= 16777216 -> (z05 s).all digT = true -> numT s = n -> ∃ t, z0r K 48 k s = some t /\ (z05 t).all digT = true /\ numT t = n /\ (z05 t).head? ≠ some 48 /\ t.size <= s.size := by
 intro k
 induction k with
 | zero => intro s h; omega
 | succ k ih =>
  intro s hk hb hd hn
  have hl := z01 s
  by_cases h0 : s.size > 0
  ·cases hc : z05 s with
   | nil => rw [hc] at hl; simp at hl; omega
   | cons c l =>
    obtain ⟨t, t1, t2, t3⟩ := zby hc
    rw [hc] at hd hl
    simp only [List.all_cons, Bool.and_eq_true, List.length_cons] at hd hl
    have hcc : bidx s 0 = some c := by rw [za9, hc]; rfl
    by_cases h1 : c = 48
    ·subst h1
     obtain ⟨r, r1, r2, r3, r4, r5⟩ := ih t (by omega) (by omega) (by rw [t2]; exact hd.2) (by rw [<- hn, zdn, zdn, t2, hc, zbe]; simp)
     refine ⟨r, ?_, r2, r3, r4, by omega⟩
     rw [z0r, hcc, t1]
     simp (discharger := omega) only [runL, r1]
    ·refine ⟨s, ?_, by rw [hc]; simp [hd], hn, by rw [hc]; simp; omega, Nat.le_refl _⟩
     rw [z0r, hcc]
     simp (discharger := omega) only [runL]
  ·refine ⟨s, ?_, hd, hn, ?_, Nat.le_refl _⟩
   ·rw [z0r]
    have e : (decide ((s.size : Int) > 0)) = false := decide_eq_false (by omega)
    rw [e]
    simp (discharger := omega) only [runL, Bool.false_eq_true]
   ·have : z05 s = [] := List.length_eq_zero_iff.1 (by omega)
    rw [this]; simp
theorem znh {s t : zAd} (h : s.size ≠ t.size) : sEq s t = false := by
 cases e : sEq s t with
 | false => rfl
 | true => rw [sEq_iff] at e; subst e; exact absurd rfl h
theorem zgy {s : zAd} (hs : s.size <= 16777216) (hK : 2000000000 < K) (hp : 0 < numT s) (hd : (z05 s).all digT = true) : ∃ t, z3g K s ⟨#[48]⟩ = some t /\ CanT t /\ numT t = numT s /\ t.size <= s.size := by
 obtain ⟨t, t1, t2, t3, t4, t5⟩ := zen (K := K) K s (by omega) hs hd rfl
 have ne : ∀ u : zAd, 0 < numT u -> u.size ≠ 0 := fun u hu e => by
  have : z05 u = [] := List.length_eq_zero_iff.1 (by rw [z01]; exact e)
  rw [zdn, this, z9n] at hu; omega
 refine ⟨t, ?_, ⟨ne t (by omega), t2, fun h => absurd h t4⟩, t3, t5⟩
 unfold z3g z36
 have e1 : sEq s ⟨#[]⟩ = false := znh (ne s hp)
 have e2 : sEq ⟨#[48]⟩ ⟨#[]⟩ = false := znh (by decide)
 have e3 : bidx (⟨#[48]⟩ : zAd) 0 = some 48 := rfl
 have e4 : (((⟨#[48]⟩ : zAd).size : Int) == 1) = true := rfl
 rw [e1, e2, e3, e4]
 simp (discharger := omega) only [runL, Bool.false_eq_true, t1]
theorem ziu {x : List Int} {n : Int} (hx : x.length <= 1000000) (hK : 2000000000 < K) (nx : NumN n x) : ∃ t, z4z K x = some t /\ CanT t /\ numT t = n /\ t.size <= 9 * x.length + 1 := by
 unfold z4z
 by_cases h0 : x = []
 ·subst h0
  have e : n = 0 := nx.nil_iff.1 rfl
  subst e
  exact ⟨⟨#[48]⟩, rfl, ⟨by decide, rfl, fun _ => rfl⟩, rfl, by decide⟩
 ·have hl : x.length ≠ 0 := fun e => h0 (List.length_eq_zero_iff.1 e)
  obtain ⟨b, b1, b2, b3, b4⟩ := zit hx hK nx.1.1
  rw [nx.2] at b4
  have hr : ∀ c ∈ b, 0 <= c /\ c <= 255 := fun c hc => by have := digT_iff.1 (List.all_eq_true.1 b3 c hc); omega
  have hb := zcw b hr
  have hsz : (strOfNums b).size = b.length := by rw [<- z01, hb]
  obtain ⟨t, t1, t2, t3, t4⟩ := zgy (K := K) (s := strOfNums b) (by omega) hK (by rw [zdn, hb, b4]; exact nx.pos h0) (by rw [hb]; exact b3)
  refine ⟨t, ?_, t2, by rw [t3, zdn, hb, b4], by omega⟩
  have e : ((x.length : Int) == 0) = false := by simp; omega
  rw [e]
  simp (discharger := omega) only [runL, Bool.false_eq_true, b1, t1]
end Go.Am.Tryz
/- Plain law: the reference's texts of digits. -/
namespace Go.Am.Tryz
open Go Go.Am Go.Proofs
variable {K : Nat}
theorem zkr {s : zAd} {c : Int} {l : List Int} (h : z05 s = c :: l) : bidx s 0 = some c := by rw [za9, h]; rfl
theorem ziv : ∀ n k (s : zAd), s.size = n -> n < k -> 0 < n -> (z05 s).all digT = true -> ∃ t, z5q K k s = some t /\ CanT t /\ numT t = numT s := by
 intro n
 induction n with
 | zero => intro k s _ _ h; omega
 | succ n ih =>
  intro k s hs hk _ hd
  obtain ⟨k, rfl⟩ : ∃ m, k = m + 1 := ⟨k - 1, by omega⟩
  have hn := z01 s
  cases hb : z05 s with
  | nil => rw [hb] at hn; simp at hn; omega
  | cons c l =>
   rw [z5q, zkr hb]
   by_cases h1 : (s.size : Int) > 1
   ·by_cases h2 : c = 48
    ·obtain ⟨t, h3, h4, h5⟩ := zby hb
     have hl : l.length = n := by rw [hb] at hn; simp at hn; omega
     obtain ⟨r, h6, h7, h8⟩ := ih k t (by omega) (by omega) (by omega) (by rw [h4]; rw [hb] at hd; simp only [List.all_cons, Bool.and_eq_true] at hd; exact hd.2)
     refine ⟨r, ?_, h7, ?_⟩
     ·simp [h1, h2, h3, h6, tu1]
     ·rw [h8, zkh (s := s) (t := t) (c := c) (by rw [hb, h4]), h2]; simp
    ·refine ⟨s, by simp [h1, h2, tu1], ⟨by omega, hd, fun e => ?_⟩, rfl⟩
     rw [hb] at e; simp at e; exact absurd e h2
   ·exact ⟨s, by simp [h1, tu1], ⟨by omega, hd, fun e => by omega⟩, rfl⟩
theorem zbf {s : zAd} (hs : s.size <= 1048576) (h0 : 0 < s.size) (hK : s.size < K) (hd : (z05 s).all digT = true) : ∃ t, z7a K s = some t /\ CanT t /\ numT t = numT s := by
 obtain ⟨t, h1, h2⟩ := ziv (K := K) s.size K s rfl hK h0 hd
 exact ⟨t, by unfold z7a; rw [h1]; rfl, h2⟩
theorem z94 {s : zAd} (hs : s.size <= 1048576) (hd : (z05 s).all digT = true) (k : Nat) (hk : k <= 1048577) : z61 K s k = some ((z6h s).getD k 0) := by
 have hn := z01 s
 unfold z61
 by_cases h : k < s.size
 ·have h' : ((k : Int) < (s.size : Int)) := by omega
  have hi : s.size - 1 - k < (z05 s).length := by omega
  have e1 : z04 .i64 (z04 .i64 ((s.size : Int) - 1) - (k : Int)) = ((s.size - 1 - k : Nat) : Int) := by
   rw [kw (a := (s.size : Int) - 1) (by omega) (by omega), kw (by omega) (by omega)]; omega
  have hx : (z05 s)[s.size - 1 - k]? = some (z05 s)[s.size - 1 - k] := zAh hi
  have hc := List.all_eq_true.1 hd _ (List.getElem_mem hi)
  simp only [digT, Bool.and_eq_true, decide_eq_true_eq] at hc
  rw [decide_eq_true h', if_pos rfl, e1, za9, z1s hx]
  have hg : (z6h s).getD k 0 = (z05 s)[s.size - 1 - k] - 48 := by
   unfold z6h
   rw [zAb, List.getElem?_reverse (by simp; omega), List.length_map, hn, List.getElem?_map, hx]
   rfl
  rw [hg]
  generalize (z05 s)[s.size - 1 - k] = c at hc
  have e2 : z04 .u8 (c - 48) = c - 48 := z7g (by simp [z9r]; omega)
  have e3 : IntKind.wrap .i64 (c - 48) = c - 48 := by rw [<- z8g]; exact kw (by omega) (by omega)
  simp [e2, e3]
 ·have h' : ¬ ((k : Int) < (s.size : Int)) := by omega
  rw [decide_eq_false h', if_neg (by simp)]
  congr 1
  rw [zAb, List.getElem?_eq_none (by rw [z62]; omega)]
  rfl
theorem zpn {x : Int} (h : 0 <= x) (h' : x <= 255) : z04 .u8 x = x := z7g (by simp [z9r]; omega)
theorem zks {l : List Int} (hl : l.length <= 1048577) (hK : l.length < K) (hd : DigB 10 l) : z3h K l K (List.replicate l.length 0) 0 = some (l.map (48 + ·)).reverse := by
 suffices h : ∃ r, z3h K l K (List.replicate l.length 0) 0 = some r /\ r = (l.map (48 + ·)).reverse by
  obtain ⟨r, h1, rfl⟩ := h; exact h1
 refine zfa (S := List Int) l.length (fun k s i => z3h K l k s i) (fun b i => b.length = l.length /\ ∀ j < l.length, b.getD j 0 = if l.length - 1 - j < i then 48 + l.getD (l.length - 1 - j) 0 else 0) _ ?_ ?_ K _ hK ⟨by simp, fun j hj => by simp [zAb, hj]⟩
 ·rintro k b i hi ⟨hb, hj⟩
  right
  have hp : l.length - 1 - i < b.length := by omega
  have e1 : z04 .i64 (z04 .i64 ((l.length : Int) - 1) - (i : Int)) = ((l.length - 1 - i : Nat) : Int) := by
   rw [kw (a := (l.length : Int) - 1) (by omega) (by omega), kw (by omega) (by omega)]; omega
  have hx := hd (l.getD i 0) (by rw [zAb, zAh hi]; simp)
  have e2 : IntKind.wrap .u8 (z04 .i64 (48 + l.getD i 0)) = 48 + l.getD i 0 := by
   rw [kw (a := 48 + l.getD i 0) (by omega) (by omega), <- z8g]; exact zpn (by omega) (by omega)
  refine ⟨b.set (l.length - 1 - i) (48 + l.getD i 0), ⟨by simp [hb], fun j hjl => ?_⟩, ?_⟩
  ·have hg : (b.set (l.length - 1 - i) (48 + l.getD i 0)).getD j 0 = if j = l.length - 1 - i then 48 + l.getD i 0 else b.getD j 0 := z86 hp
   rw [hg, hj j hjl]
   by_cases e : j = l.length - 1 - i
   ·have e3 : l.length - 1 - j = i := by omega
    rw [if_pos e, e3, if_pos (zAg i)]
   ·rw [if_neg e]
    by_cases e3 : l.length - 1 - j < i
    ·rw [if_pos e3, if_pos (by omega)]
    ·rw [if_neg e3, if_neg (by omega)]
  ·show z3h K l (k + 1) b i = _
   rw [z3h, zkg hi, if_pos rfl, zin hi]
   simp only [Option.bind_some, e1, zin hp, e2, Int.toNat_natCast, kw1 hi (by omega)]
 ·rintro k b i rfl ⟨hb, hj⟩
  refine ⟨b, ?_, ?_⟩
  ·show z3h K l (k + 1) b l.length = _
   rw [z3h, zfz (Nat.le_refl _)]; simp
  ·apply List.ext_getElem (by simp [hb])
   intro j h1 h2
   have h3 := hj j (by omega)
   rw [if_pos (by omega), zAb, zAh h1, zAb, zAh (show l.length - 1 - j < l.length by omega)] at h3
   simp at h3
   simp [h3]
theorem zfd {l : List Int} (hl : l.length <= 1048575) (h0 : l ≠ []) (hK : l.length + 1 < K) (hd : DigB 10 l) : ∃ t, z9k K l = some t /\ CanT t /\ numT t = valB 10 l := by
 have hlen : 0 < l.length := by cases l with | nil => exact absurd rfl h0 | cons _ _ => simp
 have hrange : ∀ x ∈ (l.map (48 + ·)).reverse, 0 <= x /\ x <= 255 := fun x hx => by
  rw [List.mem_reverse, List.mem_map] at hx
  obtain ⟨d, h1, rfl⟩ := hx
  have := hd d h1
  omega
 have hb := zcw _ hrange
 have hz : z05 ((⟨#[48]⟩ : zAd) ++ strOfNums (l.map (48 + ·)).reverse) = 48 :: (l.map (48 + ·)).reverse := by
  rw [z0x, hb]; rfl
 have hsz : ((⟨#[48]⟩ : zAd) ++ strOfNums (l.map (48 + ·)).reverse).size = l.length + 1 := by
  rw [<- z01, hz]; simp
 have hdg : (z05 ((⟨#[48]⟩ : zAd) ++ strOfNums (l.map (48 + ·)).reverse)).all digT = true := by
  rw [hz, List.all_eq_true]
  intro x hx
  rcases List.mem_cons.1 hx with rfl | hx
  ·rfl
  ·rw [List.mem_reverse, List.mem_map] at hx
   obtain ⟨d, h1, rfl⟩ := hx
   have := hd d h1
   simp [digT]; omega
 obtain ⟨t, h1, h2, h3⟩ := zbf (K := K) (s := (⟨#[48]⟩ : zAd) ++ strOfNums (l.map (48 + ·)).reverse) (by omega) (by omega) (by omega) hdg
 refine ⟨t, ?_, h2, ?_⟩
 ·unfold z9k
  rw [if_pos (by omega), Int.toNat_natCast, zks (by omega) (by omega) hd]
  have e1 : (⟨#[48]⟩ : zAd).size = 1 := rfl
  simp only [Option.bind_some, tu1, List.length_reverse, List.length_map, strOfNums_size, e1]
  rw [if_pos hlen, if_pos (by omega), h1]
  rfl
 ·rw [h3]
  unfold numT z6h
  rw [hz, List.map_cons, List.reverse_cons, z6g, List.map_reverse, List.reverse_reverse, List.map_map]
  have : l.map ((fun x => x - 48) ∘ (fun x => 48 + x)) = l := by
   conv => rhs; rw [<- List.map_id l]
   apply List.map_congr_left
   intro x _
   show 48 + x - 48 = x
   omega
  rw [this]
  simp [valB]
end Go.Am.Tryz
/- Plain law: the reference's sum and difference of texts. -/
namespace Go.Am.Tryz
open Go Go.Am Go.Proofs
variable {K : Nat}
theorem zdo (B : Int) (x : List Int) (k : Nat) : valB B (x.take (k + 1)) = valB B (x.take k) + B ^ k * x.getD k 0 := by
 by_cases h : k < x.length
 ·have hx : x[k]? = some x[k] := zAh h
  rw [List.take_add_one, hx, z6g, List.length_take, Nat.min_eq_left (by omega), zAb, hx]
  simp [valB]
 ·rw [List.take_of_length_le (by omega), List.take_of_length_le (by omega), zAb, List.getElem?_eq_none (by omega)]
  simp
theorem zkt {B : Int} (hB : 0 < B) {x : List Int} (h : DigB B x) (k : Nat) : 0 <= x.getD k 0 /\ x.getD k 0 < B := by
 by_cases hk : k < x.length
 ·rw [zAb, zAh hk]
  exact h _ (List.getElem_mem hk)
 ·rw [zAb, List.getElem?_eq_none (by omega)]
  simp [hB]
theorem ziw {i j : Nat} (h : i <= j) : (10 : Int) ^ i <= 10 ^ j := by
 have h1 : (10 : Nat) ^ i <= 10 ^ j := Nat.pow_le_pow_right (by omega) h
 have h2 : ((10 ^ i : Nat) : Int) <= ((10 ^ j : Nat) : Int) := by omega
 simpa using h2
theorem zku (i : Nat) : 0 < (10 : Int) ^ i := by
 have h1 : 0 < (10 : Nat) ^ i := Nat.pow_pos (by omega)
 have h2 : (0 : Int) < ((10 ^ i : Nat) : Int) := by omega
 simpa using h2
theorem zni {a b : zAd} (ha : a.size <= 1000000) (hb : b.size <= 1000000) (h0 : 0 < a.size) (hK : 1048580 < K) (da : (z05 a).all digT = true) (db : (z05 b).all digT = true) : ∃ t, z8r K a b = some t /\ CanT t /\ numT t = numT a + numT b := by
 have dx := z85 da
 have dy := z85 db
 have lx := z62 a
 have ly := z62 b
 have vx := z5g (B := 10) (by omega) _ dx
 have vy := z5g (B := 10) (by omega) _ dy
 have key : ∃ r, z2v K a b K [] 0 0 = some r /\ r ≠ [] /\ r.length <= 1048575 /\ DigB 10 r /\ valB 10 r = numT a + numT b := by
  refine zfa (S := List Int × Int) (max a.size b.size + 1) (fun k s i => z2v K a b k s.1 s.2 i) (fun s i => s.1.length = i /\ DigB 10 s.1 /\ (0 <= s.2 /\ s.2 <= 1) /\ valB 10 s.1 + 10 ^ i * s.2 = valB 10 ((z6h a).take i) + valB 10 ((z6h b).take i)) _ ?_ ?_ K ([], 0) (by omega) ⟨rfl, DigB.nil 10, ⟨by omega, by omega⟩, by simp [valB]⟩
  ·rintro k ⟨out, c⟩ i hi ⟨h1, h2, h3, h4⟩
   simp only at h1 h2 h3 h4
   have hcond : (if (decide ((i : Int) < (a.size : Int))) = true then some true else (if (decide ((i : Int) < (b.size : Int))) = true then some true else some (decide (c > 0)))) = some (decide ((i < a.size \/ i < b.size) \/ c > 0)) := by
    by_cases e1 : i < a.size
    ·simp [e1]
    ·by_cases e2 : i < b.size
     ·simp [e1, e2]
     ·simp [e1, e2]
   show (∃ r, z2v K a b (k + 1) out c i = some r /\ _) \/ _
   rw [z2v, hcond]
   simp only [Option.bind_some, tu1]
   by_cases hc : (i < a.size \/ i < b.size) \/ c > 0
   ·right
    have ex := zkt (by omega) dx i
    have ey := zkt (by omega) dy i
    rw [decide_eq_true hc, if_pos rfl, z94 (by omega) da i (by omega), z94 (by omega) db i (by omega)]
    have tx := zdo 10 (z6h a) i
    have ty := zdo 10 (z6h b) i
    generalize (z6h a).getD i 0 = x at ex tx
    generalize (z6h b).getD i 0 = y at ey ty
    have e1 : z04 .i64 (x + y) = x + y := kw (by omega) (by omega)
    have e2 : z04 .i64 (x + y + c) = x + y + c := kw (by omega) (by omega)
    have e3 : Int.tmod (x + y + c) 10 = (x + y + c) % 10 := Int.tmod_eq_emod_of_nonneg (by omega)
    have e4 : Int.tdiv (x + y + c) 10 = (x + y + c) / 10 := Int.tdiv_eq_ediv_of_nonneg (by omega)
    have e5 : z04 .i64 ((x + y + c) / 10) = (x + y + c) / 10 := kw (by omega) (by omega)
    refine ⟨(out ++ [(x + y + c) % 10], (x + y + c) / 10), ⟨by simp [h1], h2.app (fun d hd => by simp at hd; omega), ⟨by omega, by omega⟩, ?_⟩, ?_⟩
    ·have hm := Int.emod_add_mul_ediv (x + y + c) 10
     generalize hq : (x + y + c) / 10 = q at hm
     generalize hr : (x + y + c) % 10 = r at hm
     simp only
     rw [z6g, h1, tx, ty, Int.pow_succ]
     simp only [valB, Int.mul_zero, Int.add_zero]
     generalize valB 10 ((z6h a).take i) = A at h4
     generalize valB 10 ((z6h b).take i) = B at h4
     generalize valB 10 out = C at h4
     generalize (10 : Int) ^ i = p at h4
     have e6 : p * (r + 10 * q) = p * (x + y + c) := by rw [hm]
     rw [Int.mul_add, Int.mul_add, Int.mul_add, <- Int.mul_assoc] at e6
     omega
    ·simp only [Option.bind_some, e1, e2, e3, e4, e5, lt, List.length_cons, List.length_nil, kw1 hi (by omega)]
     rw [if_pos (by omega)]
   ·left
    rw [decide_eq_false hc]
    refine ⟨out, by simp, ?_, by omega, h2, ?_⟩
    ·intro e; rw [e] at h1; simp at h1; omega
    ·rw [List.take_of_length_le (by omega), List.take_of_length_le (by omega)] at h4
     have : c = 0 := by omega
     rw [this] at h4
     unfold numT
     omega
  ·rintro k ⟨out, c⟩ i rfl ⟨h1, h2, h3, h4⟩
   simp only at h1 h2 h3 h4
   rw [List.take_of_length_le (by omega), List.take_of_length_le (by omega)] at h4
   have p1 : (10 : Int) ^ (z6h a).length <= 10 ^ (max a.size b.size) := ziw (by omega)
   have p2 : (10 : Int) ^ (z6h b).length <= 10 ^ (max a.size b.size) := ziw (by omega)
   have p3 := z17 (B := 10) (by omega) _ h2
   have p4 := zku (max a.size b.size)
   have hc0 : c = 0 := by
    by_cases e : c = 0
    ·exact e
    ·have e1 : c = 1 := by omega
     rw [e1, Int.mul_one, Int.pow_succ] at h4
     omega
   subst hc0
   have hcond : (if (decide (((max a.size b.size + 1 : Nat) : Int) < (a.size : Int))) = true then some true else (if (decide (((max a.size b.size + 1 : Nat) : Int) < (b.size : Int))) = true then some true else some (decide ((0 : Int) > 0)))) = some false := by
    rw [decide_eq_false (by omega), decide_eq_false (by omega)]; rfl
   refine ⟨out, ?_, ?_, by omega, h2, by unfold numT; omega⟩
   ·show z2v K a b (k + 1) out 0 _ = _
    rw [z2v, hcond]; rfl
   ·intro e; rw [e] at h1; simp at h1
 obtain ⟨r, h1, h2, h3, h4, h5⟩ := key
 obtain ⟨t, h6, h7, h8⟩ := zfd (K := K) h3 h2 (by omega) h4
 refine ⟨t, ?_, h7, by rw [h8, h5]⟩
 unfold z8r
 rw [h1]
 simp only [Option.bind_some, tu1, h6]
theorem zix {a b : zAd} (ha : a.size <= 1000000) (hb : b.size <= a.size) (h0 : 0 < a.size) (hK : 1048580 < K) (da : (z05 a).all digT = true) (db : (z05 b).all digT = true) (hle : numT b <= numT a) : ∃ t, z7r K a b = some t /\ CanT t /\ numT t = numT a - numT b := by
 have dx := z85 da
 have dy := z85 db
 have lx := z62 a
 have ly := z62 b
 have key : ∃ r, z2t K a b K [] 0 0 = some r /\ r ≠ [] /\ r.length <= 1048575 /\ DigB 10 r /\ valB 10 r = numT a - numT b := by
  refine zfa (S := List Int × Int) a.size (fun k s i => z2t K a b k s.1 s.2 i) (fun s i => s.1.length = i /\ DigB 10 s.1 /\ (0 <= s.2 /\ s.2 <= 1) /\ valB 10 s.1 + valB 10 ((z6h b).take i) = valB 10 ((z6h a).take i) + 10 ^ i * s.2) _ ?_ ?_ K ([], 0) (by omega) ⟨rfl, DigB.nil 10, ⟨by omega, by omega⟩, by simp [valB]⟩
  ·rintro k ⟨out, c⟩ i hi ⟨h1, h2, h3, h4⟩
   simp only at h1 h2 h3 h4
   right
   have ex := zkt (by omega) dx i
   have ey := zkt (by omega) dy i
   show ∃ s', _ /\ z2t K a b (k + 1) out c i = _
   rw [z2t, zkg hi, if_pos rfl, z94 (by omega) da i (by omega), z94 (by omega) db i (by omega)]
   have tx := zdo 10 (z6h a) i
   have ty := zdo 10 (z6h b) i
   generalize (z6h a).getD i 0 = x at ex tx
   generalize (z6h b).getD i 0 = y at ey ty
   have e1 : z04 .i64 (x - y) = x - y := kw (by omega) (by omega)
   have e2 : z04 .i64 (x - y - c) = x - y - c := kw (by omega) (by omega)
   have e3 : z04 .i64 (x - y - c + 10) = x - y - c + 10 := kw (by omega) (by omega)
   simp only [Option.bind_some, e1, e2, e3, lt, tu2, List.length_cons, List.length_nil, kw1 hi (by omega)]
   have h9 : out.length + (0 + 1) <= 16777216 := by omega
   by_cases hn : x - y - c < 0
   ·refine ⟨(out ++ [x - y - c + 10], 1), ⟨by simp [h1], h2.app (fun d hd => by simp at hd; omega), ⟨by omega, by omega⟩, ?_⟩, ?_⟩
    ·simp only
     rw [z6g, h1, tx, ty, Int.pow_succ]
     simp only [valB, Int.mul_zero, Int.add_zero, Int.mul_one]
     generalize valB 10 ((z6h a).take i) = A at h4
     generalize valB 10 ((z6h b).take i) = B at h4
     generalize valB 10 out = C at h4
     generalize (10 : Int) ^ i = p at h4
     rw [Int.mul_add, Int.mul_sub, Int.mul_sub]
     omega
    ·rw [decide_eq_true hn]
     simp only [if_true, Option.bind_some, if_pos h9, tu2]
   ·refine ⟨(out ++ [x - y - c], 0), ⟨by simp [h1], h2.app (fun d hd => by simp at hd; omega), ⟨by omega, by omega⟩, ?_⟩, ?_⟩
    ·simp only
     rw [z6g, h1, tx, ty, Int.pow_succ]
     simp only [valB, Int.mul_zero, Int.add_zero]
     generalize valB 10 ((z6h a).take i) = A at h4
     generalize valB 10 ((z6h b).take i) = B at h4
     generalize valB 10 out = C at h4
     generalize (10 : Int) ^ i = p at h4
     rw [Int.mul_sub, Int.mul_sub]
     omega
    ·rw [decide_eq_false hn]
     simp only [Bool.false_eq_true, if_false, Option.bind_some, if_pos h9, tu2]
  ·rintro k ⟨out, c⟩ i rfl ⟨h1, h2, h3, h4⟩
   simp only at h1 h2 h3 h4
   rw [List.take_of_length_le (by omega), List.take_of_length_le (by omega)] at h4
   have p3 := z5g (B := 10) (by omega) _ h2
   rw [h1] at p3
   have hle' : valB 10 (z6h b) <= valB 10 (z6h a) := hle
   have hc0 : c = 0 := by
    by_cases e : c = 0
    ·exact e
    ·have e1 : c = 1 := by omega
     rw [e1, Int.mul_one] at h4
     omega
   subst hc0
   refine ⟨out, ?_, ?_, by omega, h2, by unfold numT; omega⟩
   ·show z2t K a b (k + 1) out 0 _ = _
    rw [z2t, zfz (Nat.le_refl _)]; simp
   ·intro e; rw [e] at h1; simp at h1; omega
 obtain ⟨r, h1, h2, h3, h4, h5⟩ := key
 obtain ⟨t, h6, h7, h8⟩ := zfd (K := K) h3 h2 (by omega) h4
 refine ⟨t, ?_, h7, by rw [h8, h5]⟩
 unfold z7r
 rw [h1]
 simp only [Option.bind_some, tu1, h6]
end Go.Am.Tryz
/- Plain law: the reference's comparison, product, quotient and divisor of texts. -/
namespace Go.Am.Tryz
open Go Go.Am Go.Proofs
variable {K : Nat}
theorem z42 {s : zAd} (h : (z05 s).all digT = true) : 0 <= numT s := z6x h
theorem zc3 {s : zAd} (h : (z05 s).all digT = true) : numT s < 10 ^ s.size := by
 have := zcx h
 rwa [z01] at this
theorem zcy {s : zAd} (h : CanT s) (h2 : 2 <= s.size) : (10 : Int) ^ (s.size - 1) <= numT s := by
 have hh : (z05 s).head? ≠ some 48 := fun e => by have := h.2.2 e; omega
 have h3 := zip (B := 10) (by omega) (zdm h hh) (by intro e; have := z62 s; rw [e] at this; simp at this; omega)
 rwa [z62] at h3
theorem zc4 {a b : zAd} (ha : (z05 a).all digT = true) (hb : CanT b) (h0 : a.size ≠ 0) (h : a.size < b.size) : numT a < numT b := by
 have h1 := zc3 ha
 have h2 := zcy hb (by omega)
 have h3 : (10 : Int) ^ a.size <= 10 ^ (b.size - 1) := z7u (by omega) (by omega)
 omega
theorem z4j {a b : zAd} (ha : CanT a) (hb : CanT b) (h : numT b <= numT a) : b.size <= a.size := by
 refine Nat.not_lt.1 fun hl => ?_
 have := zc4 ha.2.1 hb ha.1 hl
 omega
theorem zac : CanT ⟨#[48]⟩ := ⟨by decide, rfl, fun _ => rfl⟩
theorem z6o : numT ⟨#[48]⟩ = 0 := rfl
theorem z9o : CanT ⟨#[49]⟩ := ⟨by decide, rfl, fun h => by simp [z05] at h⟩
theorem z8v : numT ⟨#[49]⟩ = 1 := rfl
theorem zdp {s : zAd} (h : CanT s) : numT s = 0 ↔ s = ⟨#[48]⟩ := ⟨fun e => z9m h zac (by rw [e, z6o]), fun e => by rw [e, z6o]⟩
theorem zb4 : ∀ (x y : List UInt8), x.length = y.length -> (x.map fun b => (b.toNat : Int)).all digT = true -> (y.map fun b => (b.toNat : Int)).all digT = true -> (Op.bytesLess x y = true ↔ numB (x.map fun b => (b.toNat : Int)) < numB (y.map fun b => (b.toNat : Int)))
 | [], [], _, _, _ => by simp [Op.bytesLess]
 | [], _ :: _, h, _, _ => by simp at h
 | _ :: _, [], h, _, _ => by simp at h
 | a :: x, b :: y, h, hx, hy => by
  simp only [List.map_cons, List.all_cons, Bool.and_eq_true] at hx hy
  simp only [List.length_cons, Nat.add_right_cancel_iff] at h
  have ih := zb4 x y h hx.2 hy.2
  have dx := digT_iff.1 hx.1
  have dy := digT_iff.1 hy.1
  simp only [Op.bytesLess, List.map_cons, zbe, List.length_map, h]
  have lx0 := z6x hx.2
  have lx1 := zcx hx.2
  have ly0 := z6x hy.2
  have ly1 := zcx hy.2
  rw [List.length_map] at lx1 ly1
  rw [h] at lx1
  generalize numB (x.map fun b => (b.toNat : Int)) = X at *
  generalize numB (y.map fun b => (b.toNat : Int)) = Y at *
  have p0 : (0 : Int) < 10 ^ y.length := Int.pow_pos (by omega)
  generalize (10 : Int) ^ y.length = P at *
  rw [Bool.or_eq_true, Bool.and_eq_true, ih, decide_eq_true_eq, beq_iff_eq, UInt8.lt_iff_toNat_lt]
  rcases Nat.lt_trichotomy a.toNat b.toNat with h1 | h1 | h1
  ·have := z46 (Int.le_of_lt p0) (show ((a.toNat : Int) - 48) + 1 <= (b.toNat : Int) - 48 by omega)
   rw [Int.mul_add, Int.mul_one] at this
   exact ⟨fun _ => by omega, fun _ => .inl h1⟩
  ·have e : a = b := UInt8.toNat_inj.1 h1
   subst e
   exact ⟨fun h => by rcases h with h | h <;> omega, fun h => .inr ⟨rfl, by omega⟩⟩
  ·have := z46 (Int.le_of_lt p0) (show ((b.toNat : Int) - 48) + 1 <= (a.toNat : Int) - 48 by omega)
   rw [Int.mul_add, Int.mul_one] at this
   refine ⟨fun h => ?_, fun h => by omega⟩
   rcases h with h | ⟨h, _⟩
   ·omega
   ·subst h; omega
theorem znj {a b : zAd} (h : a.size = b.size) (ha : (z05 a).all digT = true) (hb : (z05 b).all digT = true) : sLt a b = decide (numT a < numT b) := by
 have := zb4 a.data.toList b.data.toList (by simpa using h) ha hb
 unfold sLt
 rw [ByteArray.toList_eq, ByteArray.toList_eq]
 by_cases c : numT a < numT b
 ·rw [decide_eq_true c]; exact this.2 c
 ·rw [decide_eq_false c]
  cases e : Op.bytesLess a.data.toList b.data.toList with
  | false => rfl
  | true => exact absurd (this.1 e) c
theorem zlk {a b : zAd} (ha : CanT a) (hb : CanT b) : z7q K a b = some (if numT a < numT b then -1 else if numT a = numT b then 0 else 1) := by
 unfold z7q
 by_cases h1 : a.size < b.size
 ·have := zc4 ha.2.1 hb ha.1 h1
  simp (discharger := omega) only [runL]
 ·by_cases h2 : a.size > b.size
  ·have := zc4 hb.2.1 ha hb.1 h2
   simp (discharger := omega) only [runL]
  ·have he : a.size = b.size := by omega
   rw [if_neg (by simp; omega), if_neg (by simp; omega), znj he ha.2.1 hb.2.1]
   by_cases c : numT a < numT b
   ·simp (discharger := omega) only [runL]
   ·by_cases d : numT a = numT b
    ·have : a = b := z9m ha hb d
     subst this
     have e : sEq a a = true := sEq_iff.2 rfl
     simp [e]
    ·have e : sEq a b = false := by
      cases e : sEq a b with
      | false => rfl
      | true => rw [sEq_iff] at e; subst e; exact absurd rfl d
     simp [e, c, d]
theorem znk {b : zAd} {out : List Int} {u : Int} {i : Nat} (hb : b.size <= 1000000) (hl : i + b.size < out.length) (ho : out.length <= 8000000) (hK : 2000000000 < K) (hu : 0 <= u /\ u <= 9) (db : (z05 b).all digT = true) (d0 : DigB 10 out) :
  ∃ r : List Int, z3o K b (i : Int) u K out 0 = some r /\ r.length = out.length /\ (∀ j, 0 <= r.getD j 0 /\ r.getD j 0 <= 90) /\ valB 10 r = valB 10 out + 10 ^ i * (u * numT b) := by
 have dx := z85 db
 have lx := z62 b
 refine zah (fun k (s : List Int × Int) => z3o K b (i : Int) u k s.1 s.2) (fun s => ∃ q : Nat, s.2 = q /\ q <= b.size /\ s.1.length = out.length /\ (∀ j, 0 <= s.1.getD j 0 /\ s.1.getD j 0 <= 90) /\ (∀ j, i + q <= j -> s.1.getD j 0 <= 9) /\ valB 10 s.1 = valB 10 out + 10 ^ i * (u * valB 10 ((z6h b).take q))) (fun s => (b.size - s.2 : Int).toNat) _ ?_ ((out, 0) : List Int × Int) (by simp; omega) ⟨0, rfl, by omega, rfl, fun j => by have := z2d (by omega) d0 j; dsimp only; omega, fun j _ => by have := z2d (by omega) d0 j; dsimp only; omega, by simp [valB]⟩
 rintro k ⟨o, _⟩ ⟨q, rfl, h0, h1, h2, h3, h4⟩
 dsimp only at h1 h2 h3 h4 ⊢
 by_cases hq : q < b.size
 ·right
  have ey := z2d (by omega) dx q
  have eo := h2 (i + q)
  have eo9 := h3 (i + q) (Nat.le_refl _)
  have ty := z3y 10 (z6h b) q
  have hdg := z94 (K := K) (s := b) (by omega) db q (by omega)
  have hm : 0 <= u * (z6h b).getD q 0 /\ u * (z6h b).getD q 0 <= 81 := by
   have := z46 hu.1 (show (z6h b).getD q 0 <= 9 by omega)
   exact ⟨z98 hu.1 ey.1, by omega⟩
  have hset := fun d => z7j 10 o (i + q) d (by omega)
  have hgs := fun d j => z86 (cs := o) (i := i + q) (j := j) (v := d) (by omega)
  have e1 : ((i : Int) + (q : Int)) = ((i + q : Nat) : Int) := by omega
  generalize hw : u * (z6h b).getD q 0 = w at hm
  generalize ho : o.getD (i + q) 0 = z at eo eo9 hset
  refine ⟨(o.set (i + q) (z + w), (q : Int) + 1), ?_, by dsimp only; omega, q + 1, rfl, by omega, by simp [h1], fun j => ?_, fun j hj => ?_, ?_⟩
  ·rw [z3o, hdg]
   simp (discharger := omega) only [runL, e1, hw, ho]
  ·dsimp only; rw [hgs]; split
   ·omega
   ·exact h2 j
  ·dsimp only; rw [hgs, if_neg (by omega)]; exact h3 j (by omega)
  ·dsimp only
   rw [hset, h4, ty, <- hw, Int.pow_add]
   grind
 ·left
  have : q = b.size := by omega
  subst this
  rw [List.take_of_length_le (by omega)] at h4
  exact ⟨o, by rw [z3o]; simp (discharger := omega) only [runL], h1, h2, h4⟩
theorem ziy {c v : List Int} (hv : v.length + 1 = c.length) (hl : c.length <= 8000000) (hK : 2000000000 < K) (hc : ∀ j, 0 <= c.getD j 0 /\ c.getD j 0 <= 90) :
  ∃ r : List Int, z37 K v K c 0 = some r /\ r.length = c.length /\ (∀ j, 0 <= r.getD j 0) /\ (∀ j < v.length, r.getD j 0 <= 9) /\ valB 10 r = valB 10 c := by
 refine zah (fun k (s : List Int × Int) => z37 K v k s.1 s.2) (fun s => ∃ i : Nat, s.2 = i /\ i <= v.length /\ s.1.length = c.length /\ (∀ j, 0 <= s.1.getD j 0 /\ s.1.getD j 0 <= 100) /\ (∀ j, i < j -> s.1.getD j 0 <= 90) /\ (∀ j < i, s.1.getD j 0 <= 9) /\ valB 10 s.1 = valB 10 c) (fun s => (v.length - s.2 : Int).toNat) _ ?_ ((c, 0) : List Int × Int) (by simp; omega) ⟨0, rfl, by omega, rfl, fun j => by have := hc j; dsimp only; omega, fun j _ => by have := hc j; dsimp only; omega, fun j hj => by omega, rfl⟩
 rintro k ⟨o, _⟩ ⟨i, rfl, h0, h1, h2, h3, h4, h5⟩
 dsimp only at h1 h2 h3 h4 h5 ⊢
 by_cases hi : i < v.length
 ·right
  have e1 : ((i : Int) + 1).toNat = i + 1 := by omega
  have b1 := h2 i
  have b2 := h2 (i + 1)
  have b3 := h3 (i + 1) (by omega)
  by_cases h9 : o.getD i 0 > 9
  ·generalize hz : o.getD i 0 = z at *
   generalize hz1 : o.getD (i + 1) 0 = z1 at *
   have hdm := Int.emod_add_mul_ediv z 10
   have hset := fun d => z7j 10 o (i + 1) d (by omega)
   have hset2 := fun d e => z7j 10 (o.set (i + 1) d) i e (by simp; omega)
   have hgs := fun d j => z86 (cs := o) (i := i + 1) (j := j) (v := d) (by omega)
   have hgs2 := fun d e j => z86 (cs := o.set (i + 1) d) (i := i) (j := j) (v := e) (by simp; omega)
   have hgi := fun d => hgs d i
   simp only [show ¬ i = i + 1 by omega, if_false, hz] at hgi
   have hsi : ∀ d, idx (o.set (i + 1) d) (i : Int) = some z := fun d => by rw [idxI (by omega) (by simp; omega), Int.toNat_natCast, hgi]
   refine ⟨((o.set (i + 1) (z1 + z / 10)).set i (z % 10), (i : Int) + 1), ?_, by dsimp only; omega, i + 1, rfl, by omega, by simp [h1], fun j => ?_, fun j hj => ?_, fun j hj => ?_, ?_⟩
   ·rw [z37]
    simp (discharger := omega) only [runL, e1, hz, hz1, hsi]
   ·dsimp only; rw [hgs2, hgs]
    have := h2 j
    split
    ·omega
    ·split <;> omega
   ·dsimp only; rw [hgs2, hgs, if_neg (by omega), if_neg (by omega)]; exact h3 j (by omega)
   ·dsimp only; rw [hgs2]
    split
    ·omega
    ·rw [hgs, if_neg (by omega)]; exact h4 j (by omega)
   ·dsimp only
    rw [hset2, hset, hgi, hz1, h5, Int.pow_succ]
    grind
  ·refine ⟨(o, (i : Int) + 1), ?_, by dsimp only; omega, i + 1, rfl, by omega, h1, h2, fun j hj => h3 j (by omega), fun j hj => ?_, h5⟩
   ·have e : decide (o.getD i 0 > 9) = false := decide_eq_false h9
    rw [z37]
    simp (discharger := omega) only [runL, e, Bool.false_eq_true]
   ·by_cases hj2 : j = i
    ·subst hj2; dsimp only; omega
    ·exact h4 j (by omega)
 ·left
  have : i = v.length := by omega
  subst this
  exact ⟨o, by rw [z37]; simp (discharger := omega) only [runL], h1, fun j => (h2 j).1, h4, h5⟩
theorem kr1 {A B p q X : Int} : A * B + p * (q * B) = (A + p * q) * B := by grind
theorem zkv {a b : zAd} (ha : a.size <= 500000) (hb : b.size <= 500000) (hK : 2000000000 < K) (da : (z05 a).all digT = true) (db : (z05 b).all digT = true) :
  ∃ r : List Int, z3p K a b K (List.replicate (a.size + b.size + 1) 0) 0 = some r /\ r.length = a.size + b.size + 1 /\ DigB 10 r /\ valB 10 r = numT a * numT b := by
 have dx := z85 da
 have lx := z62 a
 refine zah (fun k (s : List Int × Int) => z3p K a b k s.1 s.2) (fun s => ∃ i : Nat, s.2 = i /\ i <= a.size /\ s.1.length = a.size + b.size + 1 /\ DigB 10 s.1 /\ valB 10 s.1 = valB 10 ((z6h a).take i) * numT b) (fun s => (a.size - s.2 : Int).toNat) _ ?_ ((List.replicate (a.size + b.size + 1) 0, 0) : List Int × Int) (by simp; omega) ⟨0, rfl, by omega, by simp, .zeros (by omega) _, by simp [valB, zaa]⟩
 rintro k ⟨o, _⟩ ⟨i, rfl, h0, h1, h2, h4⟩
 dsimp only at h1 h2 h4 ⊢
 by_cases hi : i < a.size
 ·right
  have ex := z2d (by omega) dx i
  have tx := z3y 10 (z6h a) i
  have hdg := z94 (K := K) (s := a) (by omega) da i (by omega)
  obtain ⟨c, c1, c2, c3, c4⟩ := znk (K := K) (b := b) (out := o) (u := (z6h a).getD i 0) (i := i) (by omega) (by omega) (by omega) hK ⟨ex.1, by omega⟩ db h2
  obtain ⟨v, hv⟩ : ∃ v, lsl c 0 ((c.length : Int) - 1) = some v := ⟨_, lslI (by omega) (by omega) (by omega)⟩
  have hvl : v.length + 1 = c.length := by
   rw [lslI (by omega) (by omega) (by omega)] at hv
   cases hv
   rw [List.length_take, List.length_drop]
   omega
  obtain ⟨r, r1, r2, r3, r4, r5⟩ := ziy (K := K) (c := c) (v := v) hvl (by omega) hK c3
  have hval : valB 10 r = valB 10 ((z6h a).take (i + 1)) * numT b := by
   rw [r5, c4, h4, tx, kr1 (X := 0)]
  -- no digit is left over
  have htop : r.getD v.length 0 = 0 := by
   have s1 := z8u 10 r v.length (by omega)
   have dlow : DigB 10 (r.take v.length) := fun d hd => by
    obtain ⟨j, hj, rfl⟩ := List.mem_iff_getElem.1 hd
    rw [List.length_take] at hj
    have q1 := r3 j
    have q2 := r4 j (by omega)
    rw [List.getElem_take]
    rw [zAb, zAh (by omega)] at q1 q2
    simp at q1 q2
    omega
   have s2 := z17 (B := 10) (by omega) _ dlow
   have s3 : r.drop v.length = [r.getD v.length 0] := by
    rw [List.drop_eq_getElem_cons (by omega), List.drop_eq_nil_of_le (by omega), zAb, zAh (by omega)]; rfl
   rw [s3] at s1
   simp only [valB, Int.mul_zero, Int.add_zero] at s1
   have t1 := z5g (B := 10) (by omega) _ (dx.take (i + 1))
   have t2 := zc3 db
   have t3 := z42 db
   have t4 := z17 (B := 10) (by omega) _ (dx.take (i + 1))
   have t5 : (10 : Int) ^ ((z6h a).take (i + 1)).length <= 10 ^ a.size := z7u (by omega) (by rw [List.length_take]; omega)
   have t6 : valB 10 r < 10 ^ v.length := by
    rw [hval, show v.length = a.size + b.size by omega, Int.pow_add]
    have p0 : (0 : Int) < 10 ^ b.size := Int.pow_pos (by omega)
    have m1 := z46 t4 (show numT b <= 10 ^ b.size by omega)
    have m2 := Int.mul_lt_mul_of_pos_right (show valB 10 ((z6h a).take (i + 1)) < 10 ^ a.size by omega) p0
    omega
   refine Int.le_antisymm (Int.not_lt.1 fun hlt => ?_) (r3 _)
   have p0 : (0 : Int) < 10 ^ v.length := Int.pow_pos (by omega)
   have := z46 (Int.le_of_lt p0) (show 1 <= r.getD v.length 0 by omega)
   omega
  have dr : DigB 10 r := fun d hd => by
   obtain ⟨j, hj, rfl⟩ := List.mem_iff_getElem.1 hd
   have q1 := r3 j
   have q2 : r.getD j 0 <= 9 := by
    by_cases hjv : j < v.length
    ·exact r4 j hjv
    ·have : j = v.length := by omega
     subst this; omega
   rw [zAb, zAh hj] at q1 q2
   simp at q1 q2
   omega
  refine ⟨(r, (i : Int) + 1), ?_, by dsimp only; omega, i + 1, rfl, by omega, by dsimp only; omega, dr, hval⟩
  have hcl : (c.length : Int) - 1 = c.length - 1 := rfl
  rw [z3p, hdg, if_pos (decide_eq_true (by omega)), z0e, c1, z0e, tu1a, k64 (by omega) (by omega), hv, z0e, r1, z0e, tu1a, k64 (by omega) (by omega)]
 ·left
  have : i = a.size := by omega
  subst this
  rw [List.take_of_length_le (by omega)] at h4
  exact ⟨o, by rw [z3p]; simp (discharger := omega) only [runL], h1, h2, h4⟩
theorem zeo {a b : zAd} (ha : a.size <= 500000) (hb : b.size <= 500000) (hK : 2000000000 < K) (da : (z05 a).all digT = true) (db : (z05 b).all digT = true) : ∃ t, z5f K a b = some t /\ CanT t /\ numT t = numT a * numT b := by
 obtain ⟨r, h1, h2, h3, h4⟩ := zkv ha hb hK da db
 obtain ⟨t, t1, t2, t3⟩ := zfd (K := K) (l := r) (by omega) (by intro e; rw [e] at h2; simp at h2) (by omega) h3
 refine ⟨t, ?_, t2, by rw [t3, h4]⟩
 unfold z5f
 have e1 : ((a.size : Int) + (b.size : Int) + 1) = ((a.size + b.size + 1 : Nat) : Int) := by omega
 simp (discharger := omega) only [runL, e1, h1, t1]
end Go.Am.Tryz
/- Plain law: long division of the program's numbers. -/
namespace Go.Am.Tryz
open Go Go.Am Go.Proofs
variable {K : Nat}
theorem ziz (u : List Int) (i n : Nat) (h : i + n <= u.length) : valB 1000000000 u = valB 1000000000 (u.take i) + 1000000000 ^ i * (valB 1000000000 ((u.drop i).take n) + 1000000000 ^ n * valB 1000000000 (u.drop (i + n))) := by
 have h1 := z8u 1000000000 u i (by omega)
 have h2 := z8u 1000000000 (u.drop i) n (by rw [List.length_drop]; omega)
 rw [h1, h2, List.drop_drop]
theorem zll {l : List Int} {i : Nat} (h : l.length <= i) : l.getD i 0 = 0 := by rw [zAb, List.getElem?_eq_none h]; rfl
theorem zme {u v : List Int} {k : Nat} {q : Int} (hk : k + v.length + 1 <= u.length) (hl : u.length <= 8000000) (hK : 2000000000 < K) (hq : 0 <= q /\ q < 1000000000) (du : DigB 1000000000 u) (dv : DigB 1000000000 v) :
  ∃ (b : Int) (u' : List Int), z48 K u v k q = some (decide (b > 0), u') /\ (b = 0 \/ b = 1) /\ u'.length = u.length /\ DigB 1000000000 u' /\ u'.take k = u.take k /\ u'.drop (k + (v.length + 1)) = u.drop (k + (v.length + 1)) ∧
   valB 1000000000 u' = valB 1000000000 u - 1000000000 ^ k * (q * valB 1000000000 v) + 1000000000 ^ (k + (v.length + 1)) * b := by
 have key : ∃ r : List Int × Int, z1p K v k q K u 0 0 0 = some r /\ (r.2 = 0 \/ r.2 = 1) /\ r.1.length = u.length /\ DigB 1000000000 r.1 /\ r.1.take k = u.take k /\ r.1.drop (k + (v.length + 1)) = u.drop (k + (v.length + 1)) ∧
   valB 1000000000 r.1 = valB 1000000000 u - 1000000000 ^ k * (q * valB 1000000000 v) + 1000000000 ^ (k + (v.length + 1)) * r.2 := by
  refine zah (fun m (s : List Int × Int × Int × Int) => z1p K v k q m s.1 s.2.1 s.2.2.1 s.2.2.2) (fun s => ∃ i : Nat, s.2.2.2 = i /\ i <= v.length + 1 /\ s.1.length = u.length /\ DigB 1000000000 s.1 /\ (s.2.1 = 0 \/ s.2.1 = 1) /\ (0 <= s.2.2.1 /\ s.2.2.1 < 1000000000) /\ (i = v.length + 1 -> s.2.2.1 = 0) /\ s.1.take k = u.take k /\ s.1.drop (k + (v.length + 1)) = u.drop (k + (v.length + 1)) ∧
   valB 1000000000 s.1 = valB 1000000000 u - 1000000000 ^ k * (q * valB 1000000000 (v.take i)) + 1000000000 ^ (k + i) * (s.2.1 + s.2.2.1)) (fun s => (v.length + 1 - s.2.2.2 : Int).toNat) _ ?_ ((u, 0, 0, 0) : List Int × Int × Int × Int) (by simp; omega) ⟨0, rfl, by omega, rfl, du, .inl rfl, by simp, by simp, rfl, rfl, by simp [valB]⟩
  rintro m ⟨o, b, c, _⟩ ⟨i, rfl, h0, h1, h2, h3, h4, h5, h6, h7, h8⟩
  dsimp only at h1 h2 h3 h4 h5 h6 h7 h8 ⊢
  by_cases hi : i < v.length + 1
  ·right
   have ev := z2d (by omega) dv i
   have eo := z2d (by omega) h2 (k + i)
   have hm := zlj hq ev
   have tv := z3y 1000000000 v i
   have e1 : ((k : Int) + (i : Int)) = ((k + i : Nat) : Int) := by omega
   have e2 : (1000000000 : Int) ^ (k + (i + 1)) = 1000000000 ^ k * 1000000000 ^ i * 1000000000 := by rw [<- Nat.add_assoc, Int.pow_succ, Int.pow_add]
   have hset := fun d => z7j 1000000000 o (k + i) d (by omega)
   have hz : ¬ i < v.length -> q * v.getD i 0 = 0 := fun h => by rw [zll (by omega)]; simp
   generalize hw : q * v.getD i 0 = w at hm hz
   generalize ho : o.getD (k + i) 0 = z at eo hset
   have hdm := Int.emod_add_mul_ediv (c + w) 1000000000
   have htk : ∀ d, (o.set (k + i) d).take k = u.take k := fun d => by rw [List.take_set_of_le (by omega), h6]
   have hdr : ∀ d, (o.set (k + i) d).drop (k + (v.length + 1)) = u.drop (k + (v.length + 1)) := fun d => by rw [List.drop_set_of_lt (by omega), h7]
   have hc0 : i + 1 = v.length + 1 -> (c + w) / 1000000000 = 0 := fun h => by rw [hz (by omega)]; omega
   have hb2 : 0 <= b /\ b <= 1 := by rcases h3 with rfl | rfl <;> omega
   by_cases hn : z - (c + w) % 1000000000 - b < 0
   ·refine ⟨(o.set (k + i) (z - (c + w) % 1000000000 - b + 1000000000), 1, (c + w) / 1000000000, (i : Int) + 1), ?_, by dsimp only; omega, i + 1, rfl, by omega, by simp [h1], h2.set _ (by omega), .inr rfl, by dsimp only; omega, hc0, htk _, hdr _, ?_⟩
    ·rw [z1p]
     by_cases h : i < v.length
     ·simp (discharger := omega) only [runL, e1, hw, ho]
     ·have e := hz h
      subst e
      simp only [Int.add_zero] at hn ⊢
      simp (discharger := omega) only [runL, e1, ho]
    ·dsimp only
     rw [hset, tv, e2]
     rw [Int.pow_add] at h8 ⊢
     subst hw
     generalize (c + q * v.getD i 0) / 1000000000 = Q at *
     generalize (c + q * v.getD i 0) % 1000000000 = R at *
     grind
   ·refine ⟨(o.set (k + i) (z - (c + w) % 1000000000 - b), 0, (c + w) / 1000000000, (i : Int) + 1), ?_, by dsimp only; omega, i + 1, rfl, by omega, by simp [h1], h2.set _ (by omega), .inl rfl, by dsimp only; omega, hc0, htk _, hdr _, ?_⟩
    ·rw [z1p]
     by_cases h : i < v.length
     ·simp (discharger := omega) only [runL, e1, hw, ho]
     ·have e := hz h
      subst e
      simp only [Int.add_zero] at hn ⊢
      simp (discharger := omega) only [runL, e1, ho]
    ·dsimp only
     rw [hset, tv, e2]
     rw [Int.pow_add] at h8 ⊢
     subst hw
     generalize (c + q * v.getD i 0) / 1000000000 = Q at *
     generalize (c + q * v.getD i 0) % 1000000000 = R at *
     grind
  ·left
   have : i = v.length + 1 := by omega
   subst this
   have hc := h5 rfl
   subst hc
   rw [List.take_of_length_le (by omega), Int.add_zero] at h8
   exact ⟨(o, b), by rw [z1p]; simp (discharger := omega) only [runL], h3, h1, h2, h6, h7, h8⟩
 obtain ⟨⟨u', b⟩, h1, h2⟩ := key
 exact ⟨b, u', by unfold z48; rw [h1]; rfl, h2⟩
theorem znl {u v : List Int} {k : Nat} (hk : k + v.length + 1 <= u.length) (hl : u.length <= 8000000) (hK : 2000000000 < K) (du : DigB 1000000000 u) (dv : DigB 1000000000 v) :
  ∃ (u' : List Int) (b : Int), z4y K u v k = some u' /\ (b = 0 \/ b = 1) /\ u'.length = u.length /\ DigB 1000000000 u' /\ u'.take k = u.take k /\ u'.drop (k + (v.length + 1)) = u.drop (k + (v.length + 1)) ∧
   valB 1000000000 u' + 1000000000 ^ (k + (v.length + 1)) * b = valB 1000000000 u + 1000000000 ^ k * valB 1000000000 v := by
 have key : ∃ r : List Int, z2o K v k K u 0 0 = some r /\ ∃ b : Int, (b = 0 \/ b = 1) /\ r.length = u.length /\ DigB 1000000000 r /\ r.take k = u.take k /\ r.drop (k + (v.length + 1)) = u.drop (k + (v.length + 1)) ∧
   valB 1000000000 r + 1000000000 ^ (k + (v.length + 1)) * b = valB 1000000000 u + 1000000000 ^ k * valB 1000000000 v := by
  refine zah (fun m (s : List Int × Int × Int) => z2o K v k m s.1 s.2.1 s.2.2) (fun s => ∃ i : Nat, s.2.2 = i /\ i <= v.length + 1 /\ s.1.length = u.length /\ DigB 1000000000 s.1 /\ (s.2.1 = 0 \/ s.2.1 = 1) /\ s.1.take k = u.take k /\ s.1.drop (k + (v.length + 1)) = u.drop (k + (v.length + 1)) ∧
   valB 1000000000 s.1 + 1000000000 ^ (k + i) * s.2.1 = valB 1000000000 u + 1000000000 ^ k * valB 1000000000 (v.take i)) (fun s => (v.length + 1 - s.2.2 : Int).toNat) _ ?_ ((u, 0, 0) : List Int × Int × Int) (by simp; omega) ⟨0, rfl, by omega, rfl, du, .inl rfl, rfl, rfl, by simp [valB]⟩
  rintro m ⟨o, b, _⟩ ⟨i, rfl, h0, h1, h2, h3, h6, h7, h8⟩
  dsimp only at h1 h2 h3 h6 h7 h8 ⊢
  by_cases hi : i < v.length + 1
  ·right
   have ev := z2d (by omega) dv i
   have eo := z2d (by omega) h2 (k + i)
   have tv := z3y 1000000000 v i
   have e1 : ((k : Int) + (i : Int)) = ((k + i : Nat) : Int) := by omega
   have e2 : (1000000000 : Int) ^ (k + (i + 1)) = 1000000000 ^ k * 1000000000 ^ i * 1000000000 := by rw [<- Nat.add_assoc, Int.pow_succ, Int.pow_add]
   have hset := fun d => z7j 1000000000 o (k + i) d (by omega)
   have hz : ¬ i < v.length -> v.getD i 0 = 0 := fun h => zll (by omega)
   generalize hw : v.getD i 0 = w at ev hz tv
   generalize ho : o.getD (k + i) 0 = z at eo hset
   have hdm := Int.emod_add_mul_ediv (z + b + w) 1000000000
   have htk : ∀ d, (o.set (k + i) d).take k = u.take k := fun d => by rw [List.take_set_of_le (by omega), h6]
   have hdr : ∀ d, (o.set (k + i) d).drop (k + (v.length + 1)) = u.drop (k + (v.length + 1)) := fun d => by rw [List.drop_set_of_lt (by omega), h7]
   have hb2 : 0 <= b /\ b <= 1 := by rcases h3 with rfl | rfl <;> omega
   refine ⟨(o.set (k + i) ((z + b + w) % 1000000000), (z + b + w) / 1000000000, (i : Int) + 1), ?_, by dsimp only; omega, i + 1, rfl, by omega, by simp [h1], h2.set _ (by omega), by dsimp only; omega, htk _, hdr _, ?_⟩
   ·rw [z2o]
    by_cases h : i < v.length
    ·simp (discharger := omega) only [runL, e1, hw, ho]
    ·have e := hz h
     subst e
     simp only [Int.add_zero] at hdm ⊢
     simp (discharger := omega) only [runL, e1, ho]
   ·dsimp only
    rw [hset, tv, e2]
    rw [Int.pow_add] at h8
    generalize (z + b + w) / 1000000000 = Q at *
    generalize (z + b + w) % 1000000000 = R at *
    grind
  ·left
   have : i = v.length + 1 := by omega
   subst this
   rw [List.take_of_length_le (by omega)] at h8
   exact ⟨o, by rw [z2o]; simp (discharger := omega) only [runL], b, h3, h1, h2, h6, h7, h8⟩
 obtain ⟨u', h1, b, h2⟩ := key
 exact ⟨u', b, by unfold z4y; rw [h1]; rfl, h2⟩
theorem zmf {u v : List Int} {k : Nat} {P vl top ul q g r : Int} (hn : 2 <= v.length) (hk : k + v.length + 1 <= u.length) (hl : u.length <= 8000000) (hK : 2000000000 < K)
  (h : Kn 1000000000 P (v.getD (v.length - 1) 0) (v.getD (v.length - 2) 0) vl top (u.getD (k + v.length - 2) 0) ul q) (hv : v.getD (v.length - 1) 0 < 1000000000) (ht : top < 1000000000 * v.getD (v.length - 1) 0 + 1000000000) (hr : top = g * v.getD (v.length - 1) 0 + r) (hg : q <= g) (hg2 : g < 2000000000) (hr0 : 0 <= r /\ r < 1000000000) :
  ∃ g', z2l K v u k K g r = some g' /\ q <= g' /\ g' <= q + 1 /\ g' < 1000000000 := by
 generalize hv1 : v.getD (v.length - 1) 0 = v1 at *
 generalize hv2 : v.getD (v.length - 2) 0 = v2 at *
 generalize hu3 : u.getD (k + v.length - 2) 0 = u3 at *
 have a1 := h.v1p
 have a2 := h.v2p
 have a3 := h.v2b
 have a4 := h.u3p
 have a5 := h.u3b
 have a6 := h.q0
 have a7 := h.qB
 refine zah (fun m (s : Int × Int) => z2l K v u k m s.1 s.2) (fun s => top = s.1 * v1 + s.2 /\ q <= s.1 /\ s.1 < 2000000000 /\ 0 <= s.2 /\ s.2 < 1000000000) (fun s => (1000000000 - s.2).toNat) _ ?_ ((g, r) : Int × Int) ?_ ⟨hr, hg, hg2, hr0.1, hr0.2⟩
 ·rintro m ⟨g, r⟩ ⟨b1, b2, b3, b4, b5⟩
  dsimp only at b1 b2 b3 b4 b5 ⊢
  have f1 : idx v (z04 .i64 ((v.length : Int) - 1)) = some v1 := by
   rw [k64 (by omega) (by omega), idxI (by omega) (by omega), <- hv1]; congr 2; omega
  have f2 : idx v (z04 .i64 ((v.length : Int) - 2)) = some v2 := by
   rw [k64 (by omega) (by omega), idxI (by omega) (by omega), <- hv2]; congr 2; omega
  have f3 : idx u (z04 .i64 (z04 .i64 ((k : Int) + (v.length : Int)) - 2)) = some u3 := by
   rw [k64 (a := (k : Int) + (v.length : Int)) (by omega) (by omega), k64 (by omega) (by omega), idxI (by omega) (by omega), <- hu3]; congr 2; omega
  have m1 : 0 <= g * v2 := z98 (by omega) a2
  have m2 := z46 (show 0 <= g by omega) (show v2 <= 999999999 by omega)
  rw [z2l, f1, f2]
  generalize hw : g * v2 = w at m1 m2
  by_cases c : g >= 1000000000 \/ w > r * 1000000000 + u3
  ·have hqg : q < g := by
    rcases c with c | c
    ·omega
    ·exact h.down b1 (by omega) (by omega)
   have hc : (if (decide (g >= 1000000000)) = true then some true else ((some v2).bind fun x235 => (lt (z04 .i64 ((z04 .i64 ((k : Int) + (v.length : Int))) - 2)) fun x239 => ((idx u x239).bind fun x242 => (lt (z04 .u64 ((z04 .u64 (r * 1000000000)) + (IntKind.wrap .u64 x242))) fun x246 => (lt (decide ((z04 .u64 (g * (IntKind.wrap .u64 x235))) > x246)) fun x249 => some x249)))))) = some true := by
    by_cases c1 : g >= 1000000000
    ·rw [decide_eq_true c1]; rfl
    ·rw [decide_eq_false c1]
     simp only [z0e, lta, Bool.false_eq_true, if_false, f3]
     rw [u64w (a := v2) (by omega) (by omega), hw, u64w (a := u3) (by omega) (by omega), ku64 (a := w) (by omega) (by omega), ku64 (a := r * 1000000000) (by omega) (by omega), ku64 (a := r * 1000000000 + u3) (by omega) (by omega), decide_eq_true (by omega)]
   rw [hc]
   by_cases c2 : r + v1 >= 1000000000
   ·left
    have hgB : g <= 1000000000 := by
     refine Int.not_lt.1 fun hlt => ?_
     have := z46 (show 0 <= v1 by omega) (show 1000000001 <= g by omega)
     rw [Int.mul_comm v1 g] at this
     omega
    have hx := h.exitB (g := g - 1) (r := r + v1) (by rw [Int.sub_mul]; omega) (by omega) (by omega) c2
    refine ⟨g - 1, ?_, by omega, by omega, by omega⟩
    simp (discharger := omega) only [runL]
   ·right
    refine ⟨(g - 1, r + v1), ?_, by dsimp only; omega, by dsimp only; rw [Int.sub_mul]; omega, by dsimp only; omega, by dsimp only; omega, by dsimp only; omega, by dsimp only; omega⟩
    have e : decide (r + v1 >= 1000000000) = false := decide_eq_false c2
    simp (discharger := omega) only [runL, e, Bool.false_eq_true]
  ·left
   have c1 : ¬ g >= 1000000000 := fun x => c (.inl x)
   have c3 : ¬ w > r * 1000000000 + u3 := fun x => c (.inr x)
   have hx := h.exitA b1 (by omega) (by omega) (by omega)
   refine ⟨g, ?_, b2, hx, by omega⟩
   rw [decide_eq_false c1]
   simp only [z0e, lta, Bool.false_eq_true, if_false, f3]
   rw [u64w (a := v2) (by omega) (by omega), hw, u64w (a := u3) (by omega) (by omega), ku64 (a := w) (by omega) (by omega), ku64 (a := r * 1000000000) (by omega) (by omega), ku64 (a := r * 1000000000 + u3) (by omega) (by omega), decide_eq_false c3]
   simp only [z0e, tu1a, Bool.false_eq_true, if_false]
 ·dsimp only; omega
end Go.Am.Tryz
/- Plain law: quotient and remainder, greatest common divisor of the program's numbers. -/
namespace Go.Am.Tryz
open Go Go.Am Go.Proofs
variable {K : Nat}
theorem zj0 (u : List Int) (i j : Nat) : (u.drop i).getD j 0 = u.getD (i + j) 0 := by
 rw [zAb, List.getElem?_drop, zAb]
section
variable {p X Y V M HI LO U g q b c rr M1 M2 U1 U2 P v1 v2 vl t1 t2 t3 ul top : Int}
theorem kd1 : vl + P * v2 + P * 1000000000 * v1 = P * (1000000000 * v1 + v2) + vl := by grind
theorem kd2 : ul + P * t3 + P * 1000000000 * t2 + P * 1000000000 * 1000000000 * t1 = P * (1000000000 * (t1 * 1000000000 + t2) + t3) + ul := by grind
theorem kd3 (hu : U < p * 1000000000 * V) (hm : U = LO + p * (M + Y * 1000000000 * HI)) (h0 : 0 <= LO) (p0 : 0 < p) (Y0 : 0 < Y) (hV : V < Y) (hM : 0 <= M) (hH : 0 <= HI) : HI = 0 := by
 refine Int.le_antisymm (Int.not_lt.1 fun hlt => ?_) hH
 have a1 := z46 (Int.le_of_lt Y0) (show 1 <= HI by omega)
 have a2 := z46 (Int.le_of_lt p0) (show V + 1 <= Y by omega)
 have a3 := z46 (Int.le_of_lt p0) (show Y * 1000000000 <= M + Y * 1000000000 * HI by grind)
 grind
theorem kd4 (hu : U < p * 1000000000 * V) (hm : U = LO + p * (M + X * 0)) (h0 : 0 <= LO) (p0 : 0 < p) : M < 1000000000 * V := by
 refine Int.not_le.1 fun hle => ?_
 have a1 := z46 (Int.le_of_lt p0) hle
 grind
theorem kd5 (h : rr + V * q = M) (h0 : 0 <= rr) : q * V <= M := by grind
theorem kd5' (h : rr + V * q = M) (h0 : rr < V) : M < (q + 1) * V := by grind
theorem kd6 (hM : M = P * (1000000000 * top + t3) + ul) (hV : V = P * (1000000000 * v1 + v2) + vl) (h : M < 1000000000 * V) (P0 : 0 < P) (b2 : v2 < 1000000000) (b3 : 0 <= t3) (u0 : 0 <= ul) (vb : vl < P) : top < 1000000000 * v1 + 1000000000 := by
 refine Int.not_le.1 fun hle => ?_
 have a1 := z46 (Int.le_of_lt P0) (z46 (show (0:Int) <= 1000000000 by omega) hle)
 have a2 := z46 (Int.le_of_lt P0) (show v2 <= 999999999 by omega)
 have a3 := z98 (Int.le_of_lt P0) b3
 subst hM hV
 grind
theorem kd7 (p0 : 0 < p) (h1 : U1 = LO + p * (M1 + X * 0)) (h2 : U1 = U - p * (g * V) + p * X * b) (h3 : U = LO + p * (M + X * 0)) : M1 = M - g * V + X * b := by
 have : p * M1 = p * (M - g * V + X * b) := by grind
 exact Int.eq_of_mul_eq_mul_left (by omega) this
theorem kd8 (h : rr + V * q = M) (h1 : rr < V) (hV : 0 < V) (hm : M1 = M - g * V + X * 0) (h0 : 0 <= M1) (hq : q <= g) : g = q := by
 refine Int.le_antisymm (Int.not_lt.1 fun hlt => ?_) hq
 have a1 := z46 (Int.le_of_lt hV) (show q + 1 <= g by omega)
 grind
theorem kd9 (h : rr + V * q = M) (h0 : 0 <= rr) (hm : M1 = M - g * V + X * 1) (h1 : M1 < X) (hq : q <= g) (hq1 : g <= q + 1) : g = q + 1 := by
 refine Int.le_antisymm hq1 (Int.not_lt.1 fun hlt => ?_)
 have : g = q := by omega
 subst this
 grind
theorem kd10 (p0 : 0 < p) (h1 : U2 = LO + p * (M2 + X * 0)) (h2 : U2 + p * X * c = U1 + p * V) (h3 : U1 = LO + p * (M1 + X * 0)) (h4 : M1 = M - (q + 1) * V + X * 1) : M2 = M - q * V + X * (1 - c) := by
 have : p * M2 = p * (M - q * V + X * (1 - c)) := by grind
 exact Int.eq_of_mul_eq_mul_left (by omega) this
theorem kd11 (h : rr + V * q = M) (h0 : 0 <= rr) (hm : M2 = M - q * V + X * (1 - c)) (h1 : M2 < X) (hc : c = 0 \/ c = 1) : c = 1 := by
 rcases hc with rfl | rfl
 ·grind
 ·rfl
theorem kd12 (h1 : U1 = LO + p * (M1 + X * 0)) (hm : M1 = M - q * V) (h3 : U = LO + p * (M + X * 0)) : U1 + p * (q * V) = U := by grind
theorem kd13 (p0 : 0 < p) (h1 : U1 = LO + p * (M1 + X * 0)) (hm : M1 = M - q * V) (h : rr + V * q = M) (hr : rr < V) (hl : LO < p) : U1 < p * V := by
 have a1 := z46 (Int.le_of_lt p0) (show M1 + 1 <= V by grind)
 grind
end
theorem zj1 {u v : List Int} {i : Nat} (hn : 2 <= v.length) (hk : i + v.length + 1 <= u.length) (hl : u.length <= 8000000) (hK : 2000000000 < K) (du : DigB 1000000000 u) (cv : CanB 1000000000 v) (hu : valB 1000000000 u < 1000000000 ^ (i + 1) * valB 1000000000 v) :
  ∃ g b u1 u2 q, z2l K v u i K ((u.getD (i + v.length) 0 * 1000000000 + u.getD (i + v.length - 1) 0) / v.getD (v.length - 1) 0) ((u.getD (i + v.length) 0 * 1000000000 + u.getD (i + v.length - 1) 0) % v.getD (v.length - 1) 0) = some g /\ 0 <= g /\ g < 1000000000 ∧
   z48 K u v i g = some (b, u1) /\ (b = true -> z4y K u1 v i = some u2 /\ q = g - 1) /\ (b = false -> u2 = u1 /\ q = g) /\ 0 <= q /\ q < 1000000000 /\ u2.length = u.length /\ DigB 1000000000 u2 ∧
   valB 1000000000 u2 + 1000000000 ^ i * (q * valB 1000000000 v) = valB 1000000000 u /\ valB 1000000000 u2 < 1000000000 ^ i * valB 1000000000 v /\ 1 <= v.getD (v.length - 1) 0 /\ v.getD (v.length - 1) 0 < 1000000000 := by
 obtain ⟨n, hnv⟩ : ∃ n, v.length = n + 2 := ⟨v.length - 2, by omega⟩
 have dv := cv.1
 have ev1 := z2d (by omega) dv (n + 1)
 have ev2 := z2d (by omega) dv n
 have et1 := z2d (by omega) du (i + n + 2)
 have et2 := z2d (by omega) du (i + n + 1)
 have et3 := z2d (by omega) du (i + n)
 -- the divisor's leading digits
 have hv1 : 1 <= v.getD (n + 1) 0 := by
  have : v.getD (n + 1) 0 ≠ 0 := fun e => cv.2 (by
   rw [List.getLast?_eq_getElem?, hnv]
   have hi : n + 2 - 1 < v.length := by omega
   rw [zAb, zAh (by omega)] at e
   rw [zAh hi]
   simp at e ⊢
   exact e)
  omega
 have hV : valB 1000000000 v = 1000000000 ^ n * (1000000000 * v.getD (n + 1) 0 + v.getD n 0) + valB 1000000000 (v.take n) := by
  have h1 := z3y 1000000000 v n
  have h2 := z3y 1000000000 v (n + 1)
  rw [List.take_of_length_le (by omega)] at h2
  rw [h2, h1, Int.pow_succ, kd1]
 have hVn : valB 1000000000 v < 1000000000 ^ (n + 2) := by rw [<- hnv]; exact z5g (by omega) v dv
 -- the middle of what is divided
 have hmid := ziz u i (n + 3) (by omega)
 have hM : valB 1000000000 ((u.drop i).take (n + 3)) = 1000000000 ^ n * (1000000000 * (u.getD (i + n + 2) 0 * 1000000000 + u.getD (i + n + 1) 0) + u.getD (i + n) 0) + valB 1000000000 ((u.drop i).take n) := by
  have h1 := z3y 1000000000 (u.drop i) n
  have h2 := z3y 1000000000 (u.drop i) (n + 1)
  have h3 := z3y 1000000000 (u.drop i) (n + 2)
  rw [zj0] at h1 h2 h3
  rw [h3, h2, h1, Int.pow_succ 1000000000 (n + 1), Int.pow_succ 1000000000 n, <- Nat.add_assoc, <- Nat.add_assoc, kd2]
 have dlo := du.take i
 have lo0 := z17 (B := 1000000000) (by omega) _ dlo
 have lo1 := z5g (B := 1000000000) (by omega) _ dlo
 rw [List.length_take, Nat.min_eq_left (by omega)] at lo1
 have dmi := (du.drop i).take (n + 3)
 have mi0 := z17 (B := 1000000000) (by omega) _ dmi
 have dhi := du.drop (i + (n + 3))
 have hi0 := z17 (B := 1000000000) (by omega) _ dhi
 have p0 : 0 < (1000000000 : Int) ^ i := Int.pow_pos (by omega)
 have pn0 : 0 < (1000000000 : Int) ^ n := Int.pow_pos (by omega)
 have pn3 : 0 < (1000000000 : Int) ^ (n + 3) := Int.pow_pos (by omega)
 have ep1 : (1000000000 : Int) ^ (i + 1) = 1000000000 ^ i * 1000000000 := Int.pow_succ _ _
 have ep3 : (1000000000 : Int) ^ (n + 3) = 1000000000 ^ (n + 2) * 1000000000 := Int.pow_succ _ _
 have dul := (du.drop i).take n
 have ul0 := z17 (B := 1000000000) (by omega) _ dul
 have ul1 := z5g (B := 1000000000) (by omega) _ dul
 rw [List.length_take, List.length_drop, Nat.min_eq_left (by omega)] at ul1
 have dvl := dv.take n
 have vl0 := z17 (B := 1000000000) (by omega) _ dvl
 have vl1 := z5g (B := 1000000000) (by omega) _ dvl
 rw [List.length_take, Nat.min_eq_left (by omega)] at vl1
 have hmin := fun (g : Int) (hg : 0 <= g /\ g < 1000000000) => zme (K := K) (u := u) (v := v) (k := i) (q := g) hk hl hK hg du dv
 have hplu := fun (u1 : List Int) (h1 : u1.length = u.length) (d1 : DigB 1000000000 u1) => znl (K := K) (u := u1) (v := v) (k := i) (by omega) (by omega) hK d1 dv
 rw [show i + v.length = i + n + 2 by omega, show i + n + 2 - 1 = i + n + 1 by omega, show v.length - 1 = n + 1 by omega]
 generalize hVV : valB 1000000000 v = V at *
 generalize hMM : valB 1000000000 ((u.drop i).take (n + 3)) = M at *
 generalize hLL : valB 1000000000 (u.take i) = LO at *
 generalize hHH : valB 1000000000 (u.drop (i + (n + 3))) = HI at *
 have hV0 : 0 < V := by
  have := z46 (Int.le_of_lt pn0) (show 1 <= 1000000000 * v.getD (n + 1) 0 + v.getD n 0 by omega)
  omega
 have hHI : HI = 0 := by
  rw [ep3] at hmid
  rw [ep1] at hu
  exact kd3 hu hmid lo0 p0 (Int.pow_pos (by omega)) hVn mi0 hi0
 rw [hHI] at hmid
 have hMV : M < 1000000000 * V := by
  rw [ep1] at hu
  exact kd4 hu hmid lo0 p0
 -- the true digit
 have q0 : 0 <= M / V := Int.ediv_nonneg mi0 (by omega)
 have qB : M / V < 1000000000 := Int.ediv_lt_of_lt_mul hV0 hMV
 have hdm := Int.emod_add_mul_ediv M V
 have r0 := Int.emod_nonneg M (show V ≠ 0 by omega)
 have r1 := Int.emod_lt_of_pos M hV0
 generalize hq : M / V = q at *
 generalize M % V = rr at *
 have hkn : Kn 1000000000 (1000000000 ^ n) (v.getD (n + 1) 0) (v.getD n 0) (valB 1000000000 (v.take n)) (u.getD (i + n + 2) 0 * 1000000000 + u.getD (i + n + 1) 0) (u.getD (i + n) 0) (valB 1000000000 ((u.drop i).take n)) q := by
  refine ⟨by omega, pn0, hv1, ev2.1, ev2.2, vl0, vl1, by omega, et3.1, et3.2, ul0, ul1, q0, qB, ?_, ?_⟩
  ·rw [<- hM, <- hV]; exact kd5 hdm r0
  ·rw [<- hM, <- hV]; exact kd5' hdm r1
 have ht : u.getD (i + n + 2) 0 * 1000000000 + u.getD (i + n + 1) 0 < 1000000000 * v.getD (n + 1) 0 + 1000000000 := kd6 hM hV hMV pn0 ev2.2 et3.1 ul0 vl1
 generalize htop : u.getD (i + n + 2) 0 * 1000000000 + u.getD (i + n + 1) 0 = top at *
 have htd := Int.emod_add_mul_ediv top (v.getD (n + 1) 0)
 have hfirst := hkn.first
 have g2 : top / v.getD (n + 1) 0 < 2000000000 := Int.ediv_lt_of_lt_mul (by omega) (by omega)
 have rt0 := Int.emod_nonneg top (show v.getD (n + 1) 0 ≠ 0 by omega)
 have rt1 := Int.emod_lt_of_pos top (show 0 < v.getD (n + 1) 0 by omega)
 obtain ⟨g, w1, w2, w3, w4⟩ := zmf (K := K) (u := u) (v := v) (k := i) (P := 1000000000 ^ n) (vl := valB 1000000000 (v.take n)) (top := top) (ul := valB 1000000000 ((u.drop i).take n)) (q := q) (g := top / v.getD (n + 1) 0) (r := top % v.getD (n + 1) 0) hn hk hl hK
  (by rw [hnv, show n + 2 - 1 = n + 1 by omega, show n + 2 - 2 = n by omega, show i + (n + 2) - 2 = i + n by omega]; exact hkn) (by rw [hnv, show n + 2 - 1 = n + 1 by omega]; omega) (by rw [hnv, show n + 2 - 1 = n + 1 by omega]; omega) (by rw [hnv, show n + 2 - 1 = n + 1 by omega, Int.mul_comm]; omega) hfirst g2 (by omega)
 obtain ⟨b, u1, m1, m2, m3, m4, m5, m6, m7⟩ := hmin g (by omega)
 have hmid1 := ziz u1 i (n + 3) (by omega)
 have dm1 := (m4.drop i).take (n + 3)
 have m10 := z17 (B := 1000000000) (by omega) _ dm1
 have m11 := z5g (B := 1000000000) (by omega) _ dm1
 rw [List.length_take, List.length_drop, Nat.min_eq_left (by omega)] at m11
 rw [show i + (n + 3) = i + (v.length + 1) by omega, m6, show i + (v.length + 1) = i + (n + 3) by omega, hHH, hHI, m5, hLL] at hmid1
 rw [show i + (v.length + 1) = i + (n + 3) by omega, Int.pow_add] at m7
 generalize hM1 : valB 1000000000 ((u1.drop i).take (n + 3)) = M1 at *
 have hM1e : M1 = M - g * V + 1000000000 ^ (n + 3) * b := kd7 p0 hmid1 m7 hmid
 rcases m2 with rfl | rfl
 ·-- no borrow: the guess was right
  have hgq : g = q := kd8 hdm r1 hV0 hM1e m10 w2
  subst hgq
  have hM1f : M1 = M - g * V := by rw [hM1e]; omega
  exact ⟨g, false, u1, u1, g, w1, q0, w4, by simpa using m1, by simp, by simp, q0, qB, m3, m4, kd12 hmid1 hM1f hmid, kd13 p0 hmid1 hM1f hdm r1 lo1, hv1, ev1.2⟩
 ·have hgq : g = q + 1 := kd9 hdm r0 hM1e m11 w2 w3
  subst hgq
  obtain ⟨u2, c, s1, s2, s3, s4, s5, s6, s7⟩ := hplu u1 m3 m4
  have hmid2 := ziz u2 i (n + 3) (by omega)
  have dm2 := (s4.drop i).take (n + 3)
  have m20 := z17 (B := 1000000000) (by omega) _ dm2
  have m21 := z5g (B := 1000000000) (by omega) _ dm2
  rw [List.length_take, List.length_drop, Nat.min_eq_left (by omega)] at m21
  rw [show i + (n + 3) = i + (v.length + 1) by omega, s6, m6, show i + (v.length + 1) = i + (n + 3) by omega, hHH, hHI, s5, m5, hLL] at hmid2
  rw [show i + (v.length + 1) = i + (n + 3) by omega, Int.pow_add] at s7
  generalize hM2 : valB 1000000000 ((u2.drop i).take (n + 3)) = M2 at *
  have hM2e : M2 = M - q * V + 1000000000 ^ (n + 3) * (1 - c) := kd10 p0 hmid2 s7 hmid1 hM1e
  have hc : c = 1 := kd11 hdm r0 hM2e m21 s2
  subst hc
  have hM2f : M2 = M - q * V := by rw [hM2e]; omega
  exact ⟨q + 1, true, u1, u2, q, w1, by omega, w4, by simpa using m1, fun _ => ⟨s1, by omega⟩, by simp, q0, qB, by omega, s4, kd12 hmid2 hM2f hmid, kd13 p0 hmid2 hM2f hdm r1 lo1, hv1, ev1.2⟩
end Go.Am.Tryz
/- Plain law: Div and Gcd of the program's numbers. -/
namespace Go.Am.Tryz
open Go Go.Am Go.Proofs
variable {K : Nat}
theorem kf1 {Y p Z V U U2 O q : Int} (h : U + O * V = Z) (h2 : U2 + p * (q * V) = U) : U2 + (O + p * (q - 0)) * V = Z := by grind
theorem zgz {o w v u1 u2 : List Int} {i m : Nat} {g q a1 a2 v1 : Int} {b : Bool} (hn : 2 <= v.length) (hk : i + v.length + 1 <= w.length) (hl : w.length <= 8000000) (ho : i < o.length) (h1 : w.getD (i + v.length) 0 = a1) (h2 : w.getD (i + v.length - 1) 0 = a2) (h3 : v.getD (v.length - 1) 0 = v1)
  (b1 : 0 <= a1 /\ a1 < 1000000000) (b2 : 0 <= a2 /\ a2 < 1000000000) (b3 : 1 <= v1 /\ v1 < 1000000000) (hg : 0 <= g /\ g < 1000000000) (hq : 0 <= q /\ q < 1000000000) (d1 : z2l K v w i K ((a1 * 1000000000 + a2) / v1) ((a1 * 1000000000 + a2) % v1) = some g) (d4 : z48 K w v i g = some (b, u1)) (d5 : b = true -> z4y K u1 v i = some u2 /\ q = g - 1) (d6 : b = false -> u2 = u1 /\ q = g) :
  z27 K v (m + 1) o w i = z27 K v m (o.set i q) u2 ((i : Int) - 1) := by
 have t1 : ((i : Int) + (v.length : Int)).toNat = i + v.length := by omega
 have t2 : ((i : Int) + (v.length : Int) - 1).toNat = i + v.length - 1 := by omega
 have t3 : ((v.length : Int) - 1).toNat = v.length - 1 := by omega
 have hq1 : 0 <= (a1 * 1000000000 + a2) / v1 := Int.ediv_nonneg (by omega) (by omega)
 have hq2 : (a1 * 1000000000 + a2) / v1 <= a1 * 1000000000 + a2 := Int.ediv_le_self _ (by omega)
 rw [z27]
 cases b with
 | true =>
  obtain ⟨p1, p2⟩ := d5 rfl
  subst p2
  clear d5 d6
  simp (discharger := omega) only [runL, t1, t2, t3, h1, h2, h3, d1, d4, p1]
 | false =>
  obtain ⟨p1, p2⟩ := d6 rfl
  subst p1 p2
  clear d5 d6
  simp (discharger := omega) only [runL, t1, t2, t3, h1, h2, h3, d1, d4, Bool.false_eq_true]
theorem zmg {u v : List Int} {J : Nat} (hn : 2 <= v.length) (hJ : J + v.length = u.length) (hJ1 : 1 <= J) (hl : u.length <= 8000000) (hK : 2000000000 < K) (du : DigB 1000000000 u) (cv : CanB 1000000000 v) (hu : valB 1000000000 u < 1000000000 ^ J * valB 1000000000 v) :
  ∃ r : List Int × List Int, z27 K v K (List.replicate J 0) u ((J : Int) - 1) = some r /\ r.1.length = J /\ r.2.length = u.length /\ DigB 1000000000 r.1 /\ DigB 1000000000 r.2 /\ valB 1000000000 r.2 + valB 1000000000 r.1 * valB 1000000000 v = valB 1000000000 u /\ valB 1000000000 r.2 < valB 1000000000 v := by
 refine zah (fun m (s : List Int × List Int × Int) => z27 K v m s.1 s.2.1 s.2.2) (fun s => ∃ j : Nat, s.2.2 = (j : Int) - 1 /\ j <= J /\ s.1.length = J /\ s.2.1.length = u.length /\ DigB 1000000000 s.1 /\ DigB 1000000000 s.2.1 /\ (∀ i < j, s.1.getD i 0 = 0) /\ valB 1000000000 s.2.1 + valB 1000000000 s.1 * valB 1000000000 v = valB 1000000000 u /\ valB 1000000000 s.2.1 < 1000000000 ^ j * valB 1000000000 v) (fun s => (s.2.2 + 1).toNat) _ ?_ ((List.replicate J 0, u, (J : Int) - 1) : List Int × List Int × Int) (by dsimp only; omega) ⟨J, rfl, Nat.le_refl _, by simp, rfl, .zeros (by omega) _, du, fun i hi => by simp [zAb, hi], by simp [zaa], hu⟩
 rintro m ⟨o, w, _⟩ ⟨j, rfl, hj, h1, h2, h3, h4, h5, h6, h7⟩
 dsimp only at h1 h2 h3 h4 h5 h6 h7 ⊢
 by_cases h0 : j = 0
 ·subst h0
  left
  rw [Int.pow_zero, Int.one_mul] at h7
  exact ⟨(o, w), by rw [z27]; simp (discharger := omega) only [runL], h1, h2, h3, h4, h6, h7⟩
 ·right
  obtain ⟨i, rfl⟩ : ∃ i, j = i + 1 := ⟨j - 1, by omega⟩
  have e1 : ((i + 1 : Nat) : Int) - 1 = i := by omega
  rw [e1]
  obtain ⟨g, b, u1, u2, q, d1, d2, d3, d4, d5, d6, d7, d8, d9, d10, d11, d12, d13, d14⟩ := zj1 (K := K) (u := w) (v := v) (i := i) hn (by omega) (by omega) hK h4 cv h7
  have hz := h5 i (by omega)
  have hset := z7j 1000000000 o i q (by omega)
  rw [hz] at hset
  have et1 := z2d (by omega) h4 (i + v.length)
  have et2 := z2d (by omega) h4 (i + v.length - 1)
  have hrun := zgz (m := m) (o := o) (a1 := w.getD (i + v.length) 0) (a2 := w.getD (i + v.length - 1) 0) (v1 := v.getD (v.length - 1) 0) hn (show i + v.length + 1 <= w.length by omega) (by omega) (by omega) rfl rfl rfl et1 et2 ⟨d13, d14⟩ ⟨d2, d3⟩ ⟨d7, d8⟩ d1 d4 d5 d6
  refine ⟨(o.set i q, u2, (i : Int) - 1), hrun, by dsimp only; omega, i, rfl, by omega, by simp [h1], by dsimp only; omega, h3.set _ ⟨d7, d8⟩, d10, fun k hk => by dsimp only; rw [z86 (by omega), if_neg (by omega)]; exact h5 k (by omega), ?_, d12⟩
  dsimp only
  rw [hset]
  exact kf1 (Y := 0) h6 d11
theorem z9p {m n : Int} {x y : List Int} (hx : NumN m x) (hy : NumN n y) (h : m <= n) : x.length <= y.length := zem (B := 1000000000) (by omega) hx.1 hy.1.1 (by rw [hx.2, hy.2]; exact h)
theorem kf2 {a b c : Int} (hc : 0 < c) (hb : 0 < b) : (a * c) / (b * c) = a / b /\ (a * c) % (b * c) = (a % b) * c := by
 refine ⟨Int.mul_ediv_mul_of_pos_left a b hc, ?_⟩
 rw [Int.mul_comm a c, Int.mul_comm b c, Int.mul_emod_mul_of_pos a b hc, Int.mul_comm]
theorem zg6 {x y : List Int} {a b : Int} (hx : x.length <= 3000000) (hy : y.length <= 3000000) (hK : 2000000000 < K) (nx : NumN a x) (ny : NumN b y) (hb : 0 < b) :
  ∃ q r, z55 K x y = some (q, r) /\ NumN (a / b) q /\ NumN (a % b) r /\ q.length <= x.length /\ r.length <= y.length := by
 have a0 := nx.nonneg
 suffices h : ∃ q r, z55 K x y = some (q, r) /\ NumN (a / b) q /\ NumN (a % b) r by
  obtain ⟨q, r, h1, h2, h3⟩ := h
  have e1 := Int.emod_lt_of_pos a hb
  exact ⟨q, r, h1, h2, h3, z9p h2 nx (Int.ediv_le_self _ a0), z9p h3 ny (by omega)⟩
 have hcmp := zg2 (K := K) (by omega) (by omega) hK nx ny
 unfold z55
 rw [hcmp, z0e]
 by_cases hab : a < b
 ·refine ⟨[], x, ?_, by rw [Int.ediv_eq_zero_of_lt a0 hab]; exact .nil, by rw [Int.emod_eq_of_lt a0 hab]; exact nx⟩
  simp (discharger := omega) only [runL]
 ·have hcond : decide ((if a < b then (-1 : Int) else if a = b then 0 else 1) < 0) = false := by
   rw [if_neg hab]; split <;> rfl
  rw [hcond]
  simp only [Bool.false_eq_true, if_false]
  have hy0 : y.length ≠ 0 := fun e => by have := ny.len0.1 e; omega
  by_cases h1 : y.length = 1
  ·obtain ⟨d, rfl⟩ := List.length_eq_one_iff.1 h1
   have hd := ny.1.1 d (by simp)
   have hbd : b = d := by rw [<- ny.2]; simp [valB]
   subst hbd
   obtain ⟨q, r, s1, s2, s3, s4, s5⟩ := zg3 (K := K) (x := x) (a := a) (d := b) (by omega) hK nx (by omega)
   refine ⟨q, r, ?_, s2, s3⟩
   have e0 : idx [b] 0 = some b := rfl
   rw [if_pos (by simp), e0, z0e, s1, z0e]
  ·rw [if_neg (by simp; omega)]
   obtain ⟨yr, d, hyd⟩ := zab y (by rintro rfl; exact hy0 rfl)
   have hd := ny.1.1 d (by rw [hyd]; simp)
   have hidx : idx y (z04 .i64 ((y.length : Int) - 1)) = some d := by
    rw [k64 (by omega) (by omega), idxI (by omega) (by omega)]
    congr 1
    subst hyd
    rw [show ((((yr ++ [d]).length : Nat) : Int) - 1).toNat = yr.length by simp, zAb]
    simp
   have hby1 : 1 <= 1000000000 / (d + 1) := by
    rw [Int.le_ediv_iff_mul_le (by omega)]; omega
   have hby2 : 1000000000 / (d + 1) <= 1000000000 := Int.ediv_le_self _ (by omega)
   have hd1 : d ≠ 0 := fun e => ny.1.2 (by rw [hyd, e]; simp)
   have hby3 : 1000000000 / (d + 1) < 1000000000 := Int.ediv_lt_of_lt_mul (by omega) (by omega)
   rw [hidx, z0e, u64w (a := d) (by omega) (by omega), ku64 (a := d + 1) (by omega) (by omega), if_pos (by omega), zp6 (by omega), ku64 (by omega) (by omega), lta]
   rw [u32w (by omega) (by omega)]
   generalize 1000000000 / (d + 1) = c at hby1 hby2 hby3
   have nc : NumN c [c] := .one (by omega) hby3
   obtain ⟨u0, m1, m2, m3⟩ := zc0 (K := K) (x := x) (y := [c]) (by simp; omega) hK nx nc
   obtain ⟨v, w1, w2, w3⟩ := zc0 (K := K) (x := y) (y := [c]) (by simp; omega) hK ny nc
   simp only [List.length_singleton] at m3 w3
   have ac : a <= a * c := by have := z46 a0 hby1; omega
   have bc : b <= b * c := by have := z46 (show 0 <= b by omega) hby1; omega
   have abc : b * c <= a * c := Int.mul_le_mul_of_nonneg_right (by omega) (by omega)
   have lx := z9p nx m2 ac
   have ly := z9p ny w2 bc
   have hy2 : 2 <= y.length := by omega
   have hv2 : 2 <= v.length := by omega
   have lv := z9p w2 m2 abc
   have hl0 : z4f K x K (u0 ++ [0]) = some (u0 ++ [0]) := by
    obtain ⟨k, rfl⟩ : ∃ k, K = k + 1 := ⟨K - 1, by omega⟩
    rw [z4f]
    have e : decide (((u0 ++ [0]).length : Int) <= (x.length : Int)) = false := decide_eq_false (by simp; omega)
    rw [e]; rfl
   have du : DigB 1000000000 (u0 ++ [0]) := m2.1.1.snoc (by omega)
   have hvu : valB 1000000000 (u0 ++ [0]) = a * c := by rw [z93, m2.2]; omega
   have hlen : (u0 ++ [(0 : Int)]).length = u0.length + 1 := by simp
   obtain ⟨J, hJ⟩ : ∃ J, J + v.length = u0.length + 1 := ⟨u0.length + 1 - v.length, by omega⟩
   have hbound : a * c < 1000000000 ^ J * (b * c) := by
    have b1 := z5g (B := 1000000000) (by omega) u0 m2.1.1
    have b2 := zip (B := 1000000000) (by omega) w2.1 (by intro e; rw [e] at hv2; simp at hv2)
    rw [m2.2] at b1
    rw [w2.2] at b2
    have pJ : (0 : Int) < 1000000000 ^ J := Int.pow_pos (by omega)
    have b3 := z46 (Int.le_of_lt pJ) b2
    rw [<- Int.pow_add, show J + (v.length - 1) = u0.length by omega] at b3
    omega
   obtain ⟨⟨o, w⟩, l1, l2, l3, l4, l5, l6, l7⟩ := zmg (K := K) (u := u0 ++ [0]) (v := v) (J := J) (by omega) (by omega) (by omega) (by omega) hK du w2.1 (by rw [hvu, w2.2]; exact hbound)
   dsimp only at l2 l3 l4 l5 l6 l7
   rw [hvu, w2.2] at l6
   rw [w2.2] at l7
   have o0 := z17 (B := 1000000000) (by omega) o l4
   have w0 := z17 (B := 1000000000) (by omega) w l5
   have hbc0 : 0 < b * c := Int.mul_pos hb (by omega)
   obtain ⟨q1, q2⟩ := zc1 (n := a * c) (d := b * c) (q := valB 1000000000 o) (r := valB 1000000000 w) hbc0 (by rw [Int.mul_comm (b * c)]; omega) w0 l7
   obtain ⟨k1, k2⟩ := kf2 (a := a) (b := b) (c := c) (by omega) hb
   rw [k1] at q1
   rw [k2] at q2
   obtain ⟨t, t1, t2, t3, t4⟩ := zbz (K := K) (B := 1000000000) (l := w) (by omega) hK l5
   obtain ⟨z, z1, z2, z3, z4⟩ := zbz (K := K) (B := 1000000000) (l := o) (by omega) hK l4
   obtain ⟨rq, rr, s1, s2, s3, s4, s5⟩ := zg3 (K := K) (x := t) (a := a % b * c) (d := c) (by omega) hK ⟨t2, by rw [t3]; exact q2⟩ (by omega)
   rw [Int.mul_ediv_cancel _ (by omega)] at s2
   refine ⟨z, rq, ?_, ⟨z2, by rw [z3]; exact q1⟩, s2⟩
   rw [m1, z0e, if_pos (by simp; omega), w1, z0e, hl0, z0e, tu1a, lta, hlen]
   have e1 : (((u0.length + 1 : Nat) : Int) - (v.length : Int)) = (J : Int) := by omega
   rw [e1, k64 (by omega) (by omega), if_pos (by omega), lta, k64 (by omega) (by omega), Int.toNat_natCast, l1, z0e, tu2a, t1, z0e, s1, z0e, z1, z0e]
theorem zj2 (a b : Nat) (hb : 0 < b) : Nat.gcd b (a % b) = Nat.gcd a b := by
 rw [Nat.gcd_comm a b, Nat.gcd_rec b a, Nat.gcd_comm]
theorem zg7 : ∀ (n k : Nat) {x y : List Int} {a b : Nat}, a * b < 2 ^ n -> b <= a -> n + 2 < k -> x.length <= 3000000 -> y.length <= 3000000 -> 2000000000 < K -> NumN a x -> NumN b y -> ∃ z, z1b K k x y = some z /\ NumN (Nat.gcd a b : Nat) z := by
 intro n
 induction n with
 | zero =>
  intro k x y a b hab hba hk hx hy hK nx ny
  have hb : b = 0 := by
   rcases Nat.eq_zero_or_pos b with h | h
   ·exact h
   ·have := Nat.mul_pos (show 0 < a by omega) h; omega
  subst hb
  obtain ⟨k, rfl⟩ : ∃ m, k = m + 1 := ⟨k - 1, by omega⟩
  have : y = [] := ny.nil_iff.2 rfl
  subst this
  exact ⟨x, by rw [z1b]; rfl, by rw [Nat.gcd_zero_right]; exact nx⟩
 | succ n ih =>
  intro k x y a b hab hba hk hx hy hK nx ny
  obtain ⟨k, rfl⟩ : ∃ m, k = m + 1 := ⟨k - 1, by omega⟩
  by_cases hb : b = 0
  ·subst hb
   have : y = [] := ny.nil_iff.2 rfl
   subst this
   exact ⟨x, by rw [z1b]; rfl, by rw [Nat.gcd_zero_right]; exact nx⟩
  ·obtain ⟨q, r, d1, d2, d3, d4, d5⟩ := zg6 (K := K) hx hy hK nx ny (by omega)
   have e : ((a : Int) % (b : Int)) = ((a % b : Nat) : Int) := by simp
   rw [e] at d3
   have hr := Nat.mod_lt a (show 0 < b by omega)
   have hprod : b * (a % b) < 2 ^ n := by
    have h1 : b + a % b <= a := by
     have h2 := Nat.div_add_mod a b
     have h3 : 1 <= a / b := (Nat.le_div_iff_mul_le (by omega)).2 (by omega)
     have h4 := Nat.mul_le_mul_left b h3
     omega
    have h5 := Nat.mul_le_mul_left b (show 2 * (a % b) <= a by omega)
    rw [Nat.pow_succ] at hab
    have h6 : b * (2 * (a % b)) = 2 * (b * (a % b)) := by grind
    rw [Nat.mul_comm a b] at hab
    omega
   obtain ⟨z, z1, z2⟩ := ih k hprod (by omega) (by omega) hy (by omega) hK ny d3
   refine ⟨z, ?_, by rw [<- zj2 a b (by omega)]; exact z2⟩
   have hy0 : y.length ≠ 0 := fun e => by have := ny.len0.1 e; omega
   rw [z1b, if_pos (decide_eq_true (by omega)), d1, z0e, z1]
theorem zep {n : Nat} {x : List Int} (h : NumN n x) : n < 2 ^ (30 * x.length) := by
 have h1 := z5g (B := 1000000000) (by omega) x h.1.1
 rw [h.2] at h1
 have h2 : ((1000000000 : Nat) : Int) ^ x.length = ((1000000000 ^ x.length : Nat) : Int) := by simp
 have h3 : n < 1000000000 ^ x.length := by
  have h4 : (1000000000 : Int) = ((1000000000 : Nat) : Int) := rfl
  rw [h4, h2] at h1
  omega
 have h5 : (1000000000 : Nat) ^ x.length <= (2 ^ 30) ^ x.length := Nat.pow_le_pow_left (by decide) _
 rw [<- Nat.pow_mul] at h5
 omega
theorem zlm {x y : List Int} {a b : Nat} (hx : x.length <= 3000000) (hy : y.length <= 3000000) (hK : 2000000000 < K) (nx : NumN a x) (ny : NumN b y) : ∃ z, z6r K x y = some z /\ NumN (Nat.gcd a b : Nat) z := by
 have hp : a * b < 2 ^ (30 * x.length + 30 * y.length) := by
  rw [Nat.pow_add]
  have h1 := zep nx
  have h2 := zep ny
  exact Nat.mul_lt_mul_of_lt_of_le h1 (Nat.le_of_lt h2) (Nat.pow_pos (by omega))
 have key : ∃ z, z1b K K x y = some z /\ NumN (Nat.gcd a b : Nat) z := by
  by_cases hba : b <= a
  ·exact zg7 _ K hp hba (by omega) hx hy hK nx ny
  ·obtain ⟨k, hk⟩ : ∃ k, K = k + 1 := ⟨K - 1, by omega⟩
   obtain ⟨q, r, d1, d2, d3, d4, d5⟩ := zg6 (K := K) hx hy hK nx ny (by omega)
   rw [Int.emod_eq_of_lt (by omega) (by omega)] at d3
   have hrx : r = x := d3.inj nx
   subst hrx
   obtain ⟨z, z1, z2⟩ := zg7 (K := K) _ k (by rw [Nat.mul_comm]; exact hp) (by omega) (by omega) hy hx hK ny nx
   refine ⟨z, ?_, by rw [Nat.gcd_comm]; exact z2⟩
   have hy0 : y.length ≠ 0 := fun e => by have := ny.len0.1 e; omega
   have : z1b K K r y = z1b K (k + 1) r y := by rw [<- hk]
   rw [this, z1b, if_pos (decide_eq_true (by omega)), d1, z0e, z1]
 obtain ⟨z, z1, z2⟩ := key
 exact ⟨z, by unfold z6r; rw [z1]; rfl, z2⟩
end Go.Am.Tryz
/- Plain law: the reference's quotient and divisor of texts. -/
namespace Go.Am.Tryz
open Go Go.Am Go.Proofs
variable {K : Nat}
theorem zj3 {c : Int} (h : 48 <= c /\ c <= 57) : z05 (Utf8.encode c) = [c] /\ (Utf8.encode c).size = 1 := by
 obtain ⟨n, rfl⟩ : ∃ n : Nat, c = n := ⟨c.toNat, by omega⟩
 have hn : n = 48 \/ n = 49 \/ n = 50 \/ n = 51 \/ n = 52 \/ n = 53 \/ n = 54 \/ n = 55 \/ n = 56 \/ n = 57 := by omega
 rcases hn with rfl | rfl | rfl | rfl | rfl | rfl | rfl | rfl | rfl | rfl <;> exact ⟨by decide +kernel, by decide +kernel⟩
theorem ks1 {R b d R0 : Int} (h : R + (d - 48) * b = R0) : R - b + (d + 1 - 48) * b = R0 := by grind
theorem znm {b : zAd} {r0 : zAd} (hb : b.size <= 500000) (hr : r0.size <= 1000000) (hK : 2000000000 < K) (cb : CanT b) (c0 : CanT r0) (hb0 : 0 < numT b) (hlt : numT r0 < 10 * numT b) :
  ∃ r : zAd × Int, z3l K b K r0 48 = some r /\ CanT r.1 /\ (48 <= r.2 /\ r.2 <= 57) /\ numT r.1 + (r.2 - 48) * numT b = numT r0 /\ numT r.1 < numT b := by
 refine zah (fun k (s : zAd × Int) => z3l K b k s.1 s.2) (fun s => CanT s.1 /\ s.1.size <= 1000000 /\ (48 <= s.2 /\ s.2 <= 57) /\ numT s.1 + (s.2 - 48) * numT b = numT r0) (fun s => (57 - s.2).toNat) _ ?_ ((r0, 48) : zAd × Int) (by dsimp only; omega) ⟨c0, hr, by dsimp only; omega, by dsimp only; omega⟩
 rintro k ⟨r, d⟩ ⟨h1, h2, h3, h4⟩
 dsimp only at h1 h2 h3 h4 ⊢
 have hcmp := zlk (K := K) h1 cb
 have r0' := z42 h1.2.1
 by_cases hge : numT b <= numT r
 ·right
  obtain ⟨t, t1, t2, t3⟩ := zix (K := K) (a := r) (b := b) h2 (z4j h1 cb hge) (by have := h1.1; omega) (by omega) h1.2.1 cb.2.1 hge
  have hd : d <= 56 := by
   refine Int.not_lt.1 fun hlt2 => ?_
   have : d = 57 := by omega
   subst this
   omega
  refine ⟨(t, d + 1), ?_, by dsimp only; omega, t2, ?_, by dsimp only; omega, by dsimp only; rw [t3]; exact ks1 h4⟩
  ·rw [z3l, hcmp, z0e]
   rw [if_pos (decide_eq_true (by rw [if_neg (by omega)]; split <;> omega)), t1, z0e, ku8 (by omega) (by omega)]
  ·dsimp only
   have := z4j h1 t2 (by rw [t3]; omega)
   omega
 ·left
  refine ⟨(r, d), ?_, h1, h3, h4, by dsimp only; omega⟩
  rw [z3l, hcmp, z0e]
  have e : decide ((if numT r < numT b then (-1 : Int) else if numT r = numT b then 0 else 1) >= 0) = false := by
   rw [if_pos (by omega)]; rfl
  rw [e]; rfl
theorem ks3 {Q b R R2 A c d : Int} (h : Q * b + R = A) (h2 : R2 + d * b = R * 10 + c) : (Q * 10 + d) * b + R2 = A * 10 + c := by grind
theorem zkw {a b r0 : zAd} {f : Nat} (ha : a.size <= 500000) (hb : b.size <= 500000) (hK : 2000000000 < K) (da : (z05 a).all digT = true) (cb : CanT b) (hb0 : 0 < numT b) (hf : f <= a.size) (c0 : CanT r0) (hs0 : r0.size <= 500000) (h0 : numT r0 = numB ((z05 a).take f)) (hlt : numT r0 < numT b) :
  ∃ r : zAd × zAd, z3m K a b K ⟨#[48]⟩ r0 f = some r /\ r.1.size <= a.size + 1 /\ 0 < r.1.size /\ (z05 r.1).all digT = true /\ CanT r.2 /\ numT r.1 * numT b + numT r.2 = numT a /\ numT r.2 < numT b := by
 have hn := z01 a
 refine zah (fun k (s : zAd × zAd × Int) => z3m K a b k s.1 s.2.1 s.2.2) (fun s => ∃ i : Nat, s.2.2 = i /\ i <= a.size /\ 0 < s.1.size /\ s.1.size <= i + 1 /\ (z05 s.1).all digT = true /\ CanT s.2.1 /\ numT s.1 * numT b + numT s.2.1 = numB ((z05 a).take i) /\ numT s.2.1 < numT b /\ s.2.1.size <= 500000) (fun s => (a.size - s.2.2 : Int).toNat) _ ?_ ((⟨#[48]⟩, r0, (f : Int)) : zAd × zAd × Int) (by dsimp only; omega) ⟨f, rfl, hf, by show 0 < 1; omega, by show 1 <= f + 1; omega, rfl, c0, by rw [<- h0]; show numT ⟨#[48]⟩ * numT b + numT r0 = numT r0; rw [z6o]; omega, hlt, hs0⟩
 rintro k ⟨q, r, _⟩ ⟨i, rfl, h1, h2, h3, h4, h5, h6, h7, h8⟩
 dsimp only at h2 h3 h4 h5 h6 h7 h8 ⊢
 by_cases hi : i < a.size
 ·right
  have hc := zg5 da (i := i) (by omega)
  have hsn := zg4 (l := z05 a) (i := i) (by omega)
  generalize hcc : (z05 a).getD i 0 = c at hc hsn
  obtain ⟨e, he1, he2, he3⟩ : ∃ e, ssl a i ((i : Int) + 1) = some e /\ z05 e = [c] /\ e.size = 1 := by
   refine ⟨_, sslI (by omega) (by omega) (by omega), ?_, ?_⟩
   ·rw [z3d, Int.toNat_natCast, show ((i : Int) + 1).toNat - i = 1 by omega, List.drop_eq_getElem_cons (by omega), List.take_succ_cons, List.take_zero]
    rw [zAb, zAh (by omega)] at hcc
    simpa using hcc
   ·rw [<- z01, z3d, List.length_take, List.length_drop]; omega
  have hbr : z05 (r ++ e) = z05 r ++ [c] := by rw [z0x, he2]
  have hdr : (z05 (r ++ e)).all digT = true := by rw [hbr, List.all_append, h5.2.1]; simpa using digT_iff.2 hc
  have hsr : (r ++ e).size = r.size + 1 := by rw [<- z01, hbr, List.length_append, z01]; rfl
  obtain ⟨t, t1, t2, t3⟩ := zbf (K := K) (s := r ++ e) (by omega) (by omega) (by omega) hdr
  have hnr : numT (r ++ e) = numT r * 10 + (c - 48) := by rw [zdn, hbr, zbd]; rfl
  have htl : numT t < 10 * numT b := by rw [t3, hnr]; omega
  have hts : t.size <= 1000000 := by
   have := z4j (b := t) (a := t) t2 t2 (Int.le_refl _)
   refine Nat.not_lt.1 fun hlt2 => ?_
   have g1 := zcy t2 (by omega)
   have g2 := zc3 hdr
   have g3 : (10 : Int) ^ (r ++ e).size <= 10 ^ (t.size - 1) := z7u (by omega) (by omega)
   omega
  obtain ⟨⟨r2, d⟩, s1, s2, s3, s4, s5⟩ := znm (K := K) (b := b) (r0 := t) hb hts hK cb t2 hb0 htl
  dsimp only at s2 s3 s4 s5
  obtain ⟨n1, n2⟩ := zj3 s3
  have hbq : z05 (q ++ Utf8.encode d) = z05 q ++ [d] := by rw [z0x, n1]
  have hsq : (q ++ Utf8.encode d).size = q.size + 1 := by rw [<- z01, hbq, List.length_append, z01]; rfl
  have hr2s : r2.size <= 500000 := by
   have := z4j cb s2 (by omega)
   omega
  refine ⟨(q ++ Utf8.encode d, r2, (i : Int) + 1), ?_, by dsimp only; omega, i + 1, rfl, by omega, by dsimp only; omega, by dsimp only; omega, ?_, s2, ?_, s5, hr2s⟩
  ·rw [z3m, if_pos (decide_eq_true (by omega)), k64 (by omega) (by omega), he1, z0e, if_pos (by omega), t1, z0e, s1, z0e, tu2a, if_pos (by dsimp only; omega)]
  ·dsimp only; rw [hbq, List.all_append, h4]; simpa using digT_iff.2 s3
  ·dsimp only
   rw [hsn, zbd, zdn (q ++ Utf8.encode d), hbq, zbd]
   refine ks3 h6 ?_
   rw [s4, t3, hnr]
 ·left
  have : i = a.size := by omega
  subst this
  rw [List.take_of_length_le (by omega)] at h6
  exact ⟨(q, r), by rw [z3m]; simp (discharger := omega) only [runL], h3, h2, h4, h5, h6, h7⟩
theorem zg8 {a b : zAd} (ha : a.size <= 400000) (hb : b.size <= 400000) (hK : 2000000000 < K) (ca : CanT a) (cb : CanT b) (hb0 : 0 < numT b) :
  ∃ q r, z74 K a b = some (q, r) /\ CanT q /\ CanT r /\ numT q = numT a / numT b /\ numT r = numT a % numT b := by
 have hn := z01 a
 have hcb := cb.1
 obtain ⟨f, hf1, hf2, hf3⟩ : ∃ f : Nat, imin (a.size : Int) (z04 .i64 ((b.size : Int) - 1)) = f /\ f <= a.size /\ f <= b.size - 1 := by
  rw [k64 (by omega) (by omega)]
  unfold imin
  by_cases h : (b.size : Int) - 1 < a.size
  ·exact ⟨b.size - 1, by rw [if_pos h]; omega, by omega, by omega⟩
  ·exact ⟨a.size, by rw [if_neg h], by omega, by omega⟩
 have hx : ssl a 0 (f : Int) = some (a.extract 0 f) := by rw [sslI (by omega) (by omega) (by omega)]; rfl
 have hxb : z05 (a.extract 0 f) = (z05 a).take f := by rw [z3d]; simp
 have hxs : (a.extract 0 f).size = f := by rw [<- z01, hxb, List.length_take]; omega
 have hzb : z05 ((⟨#[48]⟩ : zAd) ++ a.extract 0 f) = 48 :: (z05 a).take f := by rw [z0x, hxb]; rfl
 have hzs : ((⟨#[48]⟩ : zAd) ++ a.extract 0 f).size = f + 1 := by rw [<- z01, hzb, List.length_cons, List.length_take]; omega
 have hzd : (z05 ((⟨#[48]⟩ : zAd) ++ a.extract 0 f)).all digT = true := by rw [hzb, List.all_cons, zc2 ca.2.1]; rfl
 obtain ⟨t, t1, t2, t3⟩ := zbf (K := K) (s := (⟨#[48]⟩ : zAd) ++ a.extract 0 f) (by omega) (by omega) (by omega) hzd
 have hv : numT t = numB ((z05 a).take f) := by rw [t3, zdn, hzb, zbe]; simp
 have hlt : numT t < numT b := by
  have d1 := zcx (zc2 ca.2.1 f)
  rw [List.length_take, Nat.min_eq_left (by omega)] at d1
  rw [hv]
  by_cases h2 : 2 <= b.size
  ·have d2 := zcy cb h2
   have d3 : (10 : Int) ^ f <= 10 ^ (b.size - 1) := z7u (by omega) hf3
   omega
  ·have : f = 0 := by omega
   subst this
   rw [List.take_zero, z9n]; exact hb0
 have hts : t.size <= 500000 := by
  have := z4j cb t2 (by omega)
  omega
 obtain ⟨⟨q, r⟩, s1, s2, s3, s4, s5, s6, s7⟩ := zkw (K := K) (a := a) (b := b) (r0 := t) (f := f) (by omega) (by omega) hK ca.2.1 cb hb0 hf2 t2 hts hv hlt
 dsimp only at s2 s3 s4 s5 s6 s7
 obtain ⟨u, u1, u2, u3⟩ := zbf (K := K) (s := q) (by omega) s3 (by omega) s4
 obtain ⟨e1, e2⟩ := zc1 (n := numT a) (d := numT b) (q := numT q) (r := numT r) hb0 (by rw [Int.mul_comm]; omega) (z42 s5.2.1) s7
 refine ⟨u, r, ?_, u2, s5, by rw [u3, e1], e2⟩
 unfold z74
 rw [hf1, hx, z0e, if_pos (by rw [hxs]; show 1 + f <= _; omega), t1, z0e, s1, z0e, tu2a, u1, z0e]
theorem zg9 : ∀ (n k : Nat) {x y : zAd} {a b : Nat}, a * b < 2 ^ n -> b <= a -> n + 2 < k -> x.size <= 400000 -> y.size <= 400000 -> 2000000000 < K -> CanT x -> CanT y -> numT x = a -> numT y = b -> ∃ z, z1x K k x y = some z /\ CanT z /\ numT z = (Nat.gcd a b : Nat) := by
 intro n
 have hend : ∀ (k : Nat) {x y : zAd} {a : Nat}, 0 < k -> CanT x -> CanT y -> numT x = a -> numT y = (0 : Nat) -> ∃ z, z1x K k x y = some z /\ CanT z /\ numT z = (Nat.gcd a 0 : Nat) := by
  intro k x y a hk cx cy nx ny
  obtain ⟨k, rfl⟩ : ∃ m, k = m + 1 := ⟨k - 1, by omega⟩
  have : y = ⟨#[48]⟩ := (zdp cy).1 (by simpa using ny)
  subst this
  have e : sEq (⟨#[48]⟩ : zAd) ⟨#[48]⟩ = true := sEq_iff.2 rfl
  exact ⟨x, by rw [z1x, e]; rfl, cx, by rw [Nat.gcd_zero_right]; exact nx⟩
 induction n with
 | zero =>
  intro k x y a b hab hba hk hx hy hK cx cy nx ny
  have hb : b = 0 := by
   rcases Nat.eq_zero_or_pos b with h | h
   ·exact h
   ·have := Nat.mul_pos (show 0 < a by omega) h; omega
  subst hb
  exact hend k (by omega) cx cy nx ny
 | succ n ih =>
  intro k x y a b hab hba hk hx hy hK cx cy nx ny
  by_cases hb : b = 0
  ·subst hb; exact hend k (by omega) cx cy nx ny
  ·obtain ⟨k, rfl⟩ : ∃ m, k = m + 1 := ⟨k - 1, by omega⟩
   obtain ⟨q, r, d1, d2, d3, d4, d5⟩ := zg8 (K := K) hx hy hK cx cy (by omega)
   rw [nx, ny] at d5
   have e : ((a : Int) % (b : Int)) = ((a % b : Nat) : Int) := by simp
   rw [e] at d5
   have hr := Nat.mod_lt a (show 0 < b by omega)
   have hprod : b * (a % b) < 2 ^ n := by
    have h1 : b + a % b <= a := by
     have h2 := Nat.div_add_mod a b
     have h3 : 1 <= a / b := (Nat.le_div_iff_mul_le (by omega)).2 (by omega)
     have h4 := Nat.mul_le_mul_left b h3
     omega
    have h5 := Nat.mul_le_mul_left b (show 2 * (a % b) <= a by omega)
    rw [Nat.pow_succ] at hab
    have h6 : b * (2 * (a % b)) = 2 * (b * (a % b)) := by grind
    rw [Nat.mul_comm a b] at hab
    omega
   have hrs := z4j cy d3 (by rw [ny, d5]; omega)
   obtain ⟨z, z1, z2, z3⟩ := ih k hprod (by omega) (by omega) hy (by omega) hK cy d3 ny d5
   refine ⟨z, ?_, z2, by rw [<- zj2 a b (by omega)]; exact z3⟩
   have e0 : sEq y ⟨#[48]⟩ = false := by
    cases e : sEq y ⟨#[48]⟩ with
    | false => rfl
    | true => rw [sEq_iff] at e; subst e; rw [z6o] at ny; omega
   rw [z1x, e0]
   simp only [Bool.not_false, if_true]
   rw [d1, z0e, z1]
theorem zcz {n : Nat} {x : zAd} (h : (z05 x).all digT = true) (hn : numT x = n) : n < 2 ^ (4 * x.size) := by
 have h1 := zc3 h
 rw [hn] at h1
 have h2 : ((10 : Nat) : Int) ^ x.size = ((10 ^ x.size : Nat) : Int) := by simp
 have h3 : n < 10 ^ x.size := by
  have h4 : (10 : Int) = ((10 : Nat) : Int) := rfl
  rw [h4, h2] at h1
  omega
 have h5 : (10 : Nat) ^ x.size <= (2 ^ 4) ^ x.size := Nat.pow_le_pow_left (by decide) _
 rw [<- Nat.pow_mul] at h5
 omega
theorem zln {x y : zAd} {a b : Nat} (hx : x.size <= 400000) (hy : y.size <= 400000) (hK : 2000000000 < K) (cx : CanT x) (cy : CanT y) (nx : numT x = a) (ny : numT y = b) : ∃ z, z7s K x y = some z /\ CanT z /\ numT z = (Nat.gcd a b : Nat) := by
 have hp : a * b < 2 ^ (4 * x.size + 4 * y.size) := by
  rw [Nat.pow_add]
  exact Nat.mul_lt_mul_of_lt_of_le (zcz cx.2.1 nx) (Nat.le_of_lt (zcz cy.2.1 ny)) (Nat.pow_pos (by omega))
 have key : ∃ z, z1x K K x y = some z /\ CanT z /\ numT z = (Nat.gcd a b : Nat) := by
  by_cases hba : b <= a
  ·exact zg9 _ K hp hba (by omega) hx hy hK cx cy nx ny
  ·obtain ⟨k, hk⟩ : ∃ k, K = k + 1 := ⟨K - 1, by omega⟩
   obtain ⟨q, r, d1, d2, d3, d4, d5⟩ := zg8 (K := K) hx hy hK cx cy (by omega)
   rw [Int.emod_eq_of_lt (z42 cx.2.1) (by omega)] at d5
   have hrx : r = x := z9m d3 cx d5
   subst hrx
   obtain ⟨z, z1, z2, z3⟩ := zg9 (K := K) _ k (by rw [Nat.mul_comm]; exact hp) (by omega) (by omega) hy hx hK cy cx ny nx
   refine ⟨z, ?_, z2, by rw [Nat.gcd_comm]; exact z3⟩
   have e0 : sEq y ⟨#[48]⟩ = false := by
    cases e : sEq y ⟨#[48]⟩ with
    | false => rfl
    | true => rw [sEq_iff] at e; subst e; rw [z6o] at ny; omega
   have : z1x K K r y = z1x K (k + 1) r y := by rw [<- hk]
   rw [this, z1x, e0]
   simp only [Bool.not_false, if_true]
   rw [d1, z0e, z1]
 obtain ⟨z, z1, z2⟩ := key
 exact ⟨z, by unfold z7s; rw [z1]; rfl, z2⟩
end Go.Am.Tryz
