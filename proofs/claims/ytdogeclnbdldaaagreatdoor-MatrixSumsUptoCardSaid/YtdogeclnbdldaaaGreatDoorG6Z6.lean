/- Typed functions with the same answers as the program's, and the walks that show it. -/
import Derived.Test.YtdogeclnbdldaaaGreatDoorG2Z6
import Derived.Test.YtdogeclnbdldaaaGreatDoorG5Z6
import Derived.Laws.Strings
set_option maxRecDepth 100000
set_option maxHeartbeats 8000000
set_option linter.unusedVariables false
set_option linter.unusedSimpArgs false
namespace Go.Am.Tryz
open Go Go.Am Go.Proofs
variable (K : Nat) {G : GM} {H : AH} {L : List Pc}
def z1o (K : Nat) (p0 : List zAd) : Nat -> Int -> Option (Int ⊕ Unit)
  | 0, _ => none
  | k + 1, x5 => (if (decide (x5 < (List.length p0 : Int))) = true then ((idx p0 x5).bind fun x16 => ((z4x K x16).bind fun x20 => (if (x20 != 0) = true then some (.inl x20) else z1o K p0 k (z04 .i64 (x5 + 1))))) else some (.inr ()))
def z66 (K : Nat) (p0 : List zAd) : Option Int := (z9q (z1o K p0 K 0) (tu1 fun a44 => some a44) (tu0 (some 0)))
theorem zbs (v0 : Value) (p0 : List zAd) (hp0 : (rSl rS).rep G [v0] p0) (O : Ow G H (L)) (r : Int) (h : z66 K p0 = some r) :
    CR Tryz.prog 58 [v0] G H (L) (fun v G' _ => v = .int .i64 r) := by
 unfold z66 at h
 refine CR.og (n := 18) (fn := Tryz.f58) (by kernel_rfl) rfl rfl fun R kr => (.seq (.region (W.q1 (.int .i64 0) rfl (.nil (.seq (.seq ?_))))))
 refine .region (W.q2 v0 rfl (W.pure (v := (.int .i64 (List.length p0 : Int))) rfl rfl (z0f (oo rfl rfl) (z0a hp0) (z02 el23)) (W.q2 (.int .i64 0) rfl (.nil ?_))))
 obtain ⟨q1, h2, h3⟩ := z1t h
 refine AW.midT (fun σ' H' => ∃  (G' : GM), (.inr ()) = q1 /\ Ow G' H' (L) /\ GM.le G G') ?_ ?_
 rotate_left
 .rintro σ36 H37 fr38 ⟨G39, rfl, O40, s41⟩
  have h43 := z4z (z70 h3)
  refine .seq (.region (W.q1 (.int .i64 0) rfl (.nil (.ret ?_))))
  obtain rfl := zAa h43
  exact z1h kr (v1 := (.int .i64 0)) (by rfl) (z07 (by rfl) (by exact rfl)) O40 s41 rfl
 refine .block (AW.loop (α := Nat) (fun k' σ' H' => ∃ (y1 : Int) (G' : GM), z1o K p0 k' y1 = some q1 /\ Ow G' H' (L) /\ GM.le G G' /\ σ' 8 = .int .i64 y1) (fun k' => k') K ⟨0, _, h2, O, (zAf _), rfl⟩ ?_)
 rintro k4
 rintro σ6 H7 fr8 ⟨x5, G9, h12, O10, s11, t13⟩
 rcases k4 with _ | k4
 .exact z06 h12
 rw [z1o] at h12
 refine .seq (.region (W.q3 (.bool (decide (x5 < (List.length p0 : Int)))) t13 ((fr8 7 rfl).trans rfl) (.nil (.seq (.cond (b := decide (x5 < (List.length p0 : Int))) rfl rfl (fun g14 => ?_) (fun g14 => ?_))))))
 rotate_left
 .have h35 := z0g g14 h12
  refine .exit ?_
  obtain rfl := zAa h35
  exact ⟨_, rfl, O10, s11⟩
 have h15 := z03 g14 h12
 refine .skip (.seq (.block (.seq (.region ?_))))
 obtain ⟨x16, i17, h18⟩ := z00 h15
 have j19 := z0d i17
 refine W.pure (v := (z1k v0 (Int.toNat x5 * 1))) rfl rfl (z26 el23 sz22 (oo rfl ((fr8 6 rfl).trans rfl)) (oo rfl t13) (z0a (RT.mono _ s11 hp0)) j19.1 j19.2.1) (W.load1 (v := (.string x16)) (r := []) rfl rfl ag22 (z15 rfl (At.str (At.le (At.le (z17 hp0 j19.2.2) s11 s11) (zAf _) O10.fro))) (W.q1 (.string x16) rfl (.nil (.seq (.region (W.q2 (.string x16) rfl ?_))))))
 obtain ⟨x20, i21, h22⟩ := z00 h18
 refine W.lo rfl rfl (Lo.cP rfl (fn := Tryz.f16) (by kernel_rfl) rfl (mc rfl mn) O10 (fun L' O' => z98 K x16 O' _ i21)) ?_
 rintro v29 H30 ⟨G23, O24, s25, sm28, rfl⟩
 refine W.q1 (.int .i64 x20) rfl (.nil (.seq (.region (W.q2 (.int .i64 x20) rfl (W.q3 (.bool (x20 != 0)) rfl rfl (.nil ?_))))))
 refine .cond (b := (x20 != 0)) rfl rfl (fun g31 => ?_) (fun g31 => ?_)
 rotate_left
 .have h34 := z0g g31 h22
  refine .skip (.region (W.q3 (.int .i64 (z04 .i64 (x5 + 1))) t13 rfl (W.q2 (.int .i64 (z04 .i64 (x5 + 1))) rfl (.nil ?_))))
  exact ⟨k4, zAg _, ⟨z04 .i64 (x5 + 1), _, h34, O24, (zAe s11 s25), rfl⟩⟩
 have h32 := z03 g31 h22
 refine .seq (.region (W.q2 (.int .i64 x20) rfl (W.q1 (.int .i64 x20) rfl (.nil (.ret ?_)))))
 obtain rfl := zAa h32
 have h33 := z09 (z59 h3)
 obtain rfl := zAa h33
 exact z1h kr (v1 := (.int .i64 x20)) (by rfl) (z07 (by rfl) (by exact rfl)) O24 (zAe s11 s25) rfl
def z6y (K : Nat) (p0 : List zAd) : Option Int := (if (decide ((List.length p0 : Int) > 40)) = true then some 2 else ((z66 K p0).bind fun x4 => some x4))
theorem zcc (v0 : Value) (p0 : List zAd) (hp0 : (rSl rS).rep G [v0] p0) (O : Ow G H (L)) (r : Int) (h : z6y K p0 = some r) :
    CR Tryz.prog 33 [v0] G H (L) (fun v G' _ => v = .int .i64 r) := by
 unfold z6y at h
 refine CR.og (n := 8) (fn := Tryz.f33) (by kernel_rfl) rfl rfl fun R kr => (.seq (.region (W.q1 (.int .i64 0) rfl (.nil (.seq (.seq ?_))))))
 refine .region (W.q2 v0 rfl (W.pure (v := (.int .i64 (List.length p0 : Int))) rfl rfl (z0f (oo rfl rfl) (z0a hp0) (z02 el45)) (W.q3 (.bool (decide ((List.length p0 : Int) > 40))) rfl rfl (.nil (.cond (b := decide ((List.length p0 : Int) > 40)) rfl rfl (fun g1 => ?_) (fun g1 => ?_))))))
 .have h2 := z03 g1 h
  refine .seq (.region (W.q1 (.int .i64 2) rfl (.nil (.ret ?_))))
  obtain rfl := zAa h2
  exact z1h kr (v1 := (.int .i64 2)) (by rfl) (z07 (by rfl) (by exact rfl)) O (zAf _) rfl
 have h3 := z0g g1 h
 refine .skip (.seq (.region (W.q2 v0 rfl ?_)))
 obtain ⟨x4, i5, h6⟩ := z00 h3
 refine W.lo rfl rfl (Lo.cP rfl (fn := Tryz.f58) (by kernel_rfl) rfl (mc rfl mn) O (fun L' O' => zbs K v0 p0 hp0 O' _ i5)) ?_
 rintro v13 H14 ⟨G7, O8, s9, sm12, rfl⟩
 refine W.q1 (.int .i64 x4) rfl (.nil (.ret ?_))
 obtain rfl := zAa h6
 exact z1h kr (v1 := (.int .i64 x4)) (by rfl) (z07 (by rfl) (by exact rfl)) O8 s9 rfl
def z1x (K : Nat) (p0 : List (List zAd)) : Nat -> Int -> Option (Int ⊕ Unit)
  | 0, _ => none
  | k + 1, x8 => (if (decide (x8 < (List.length p0 : Int))) = true then ((idx p0 x8).bind fun x24 => ((idx p0 0).bind fun x31 => (if ((List.length x24 : Int) != (List.length x31 : Int)) = true then some (.inl 3) else ((idx p0 x8).bind fun x42 => ((z6y K x42).bind fun x49 => (if (x49 != 0) = true then some (.inl x49) else z1x K p0 k (z04 .i64 (x8 + 1)))))))) else some (.inr ()))
def z36 (K : Nat) (p0 : List (List zAd)) : Option Int := (if (decide ((List.length p0 : Int) > 40)) = true then some 2 else (z9q (z1x K p0 K 0) (tu1 fun a73 => some a73) (tu0 (some 0))))
theorem z5s (v0 : Value) (p0 : List (List zAd)) (hp0 : (rSl (rSl rS)).rep G [v0] p0) (O : Ow G H (L)) (r : Int) (h : z36 K p0 = some r) :
    CR Tryz.prog 30 [v0] G H (L) (fun v G' _ => v = .int .i64 r) := by
 unfold z36 at h
 refine CR.og (n := 32) (fn := Tryz.f30) (by kernel_rfl) rfl rfl fun R kr => (.seq (.region (W.q1 (.int .i64 0) rfl (.nil (.seq (.seq ?_))))))
 refine .region (W.q2 v0 rfl (W.pure (v := (.int .i64 (List.length p0 : Int))) rfl rfl (z0f (oo rfl rfl) (z0a hp0) (z02 el44)) (W.q3 (.bool (decide ((List.length p0 : Int) > 40))) rfl rfl (.nil (.cond (b := decide ((List.length p0 : Int) > 40)) rfl rfl (fun g1 => ?_) (fun g1 => ?_))))))
 .have h2 := z03 g1 h
  refine .seq (.region (W.q1 (.int .i64 2) rfl (.nil (.ret ?_))))
  obtain rfl := zAa h2
  exact z1h kr (v1 := (.int .i64 2)) (by rfl) (z07 (by rfl) (by exact rfl)) O (zAf _) rfl
 have h3 := z0g g1 h
 refine .skip (.seq (.seq (.region (W.q2 v0 rfl (W.pure (v := (.int .i64 (List.length p0 : Int))) rfl rfl (z0f (oo rfl rfl) (z0a hp0) (z02 el44)) (W.q2 (.int .i64 0) rfl ?_))))))
 refine .nil ?_
 obtain ⟨q4, h5, h6⟩ := z1t h3
 refine AW.midT (fun σ' H' => ∃  (G' : GM), (.inr ()) = q4 /\ Ow G' H' (L) /\ GM.le G G') ?_ ?_
 rotate_left
 .rintro σ65 H66 fr67 ⟨G68, rfl, O69, s70⟩
  have h72 := z4z (z70 h6)
  refine .seq (.region (W.q1 (.int .i64 0) rfl (.nil (.ret ?_))))
  obtain rfl := zAa h72
  exact z1h kr (v1 := (.int .i64 0)) (by rfl) (z07 (by rfl) (by exact rfl)) O69 s70 rfl
 refine .block (AW.loop (α := Nat) (fun k' σ' H' => ∃ (y1 : Int) (G' : GM), z1x K p0 k' y1 = some q4 /\ Ow G' H' (L) /\ GM.le G G' /\ σ' 10 = .int .i64 y1) (fun k' => k') K ⟨0, _, h5, O, (zAf _), rfl⟩ ?_)
 rintro k7
 rintro σ9 H10 fr11 ⟨x8, G12, h15, O13, s14, t16⟩
 rcases k7 with _ | k7
 .exact z06 h15
 rw [z1x] at h15
 refine .seq (.region (W.q3 (.bool (decide (x8 < (List.length p0 : Int)))) t16 ((fr11 9 rfl).trans rfl) (.nil (.seq (.cond (b := decide (x8 < (List.length p0 : Int))) rfl rfl (fun g17 => ?_) (fun g17 => ?_))))))
 rotate_left
 .have h64 := z0g g17 h15
  refine .exit ?_
  obtain rfl := zAa h64
  exact ⟨_, rfl, O13, s14⟩
 have h18 := z03 g17 h15
 refine .skip (.seq (.block (.seq (.region (W.q2 _ t16 (W.q1 (.int .i64 x8) rfl ?_))))))
 refine .nil (.seq (.seq (.draw2 (M := [0, 0, 3, 7, 15, 0, 32, 96, 224, 511]) mixed (by kernel_rfl) (by kernel_rfl) fun H19 N23 x20 F22 => ?_)))
 have O21 := O13.ext x20
 refine D2.q2 v0 ((fr11 0 rfl).trans rfl) (D2.q2 (.int .i64 x8) rfl ?_)
 obtain ⟨x24, i25, h26⟩ := z00 h18
 have j27 := z0d i25
 refine D2.pure (v := (z1k v0 (Int.toNat x8 * 1))) rfl rfl (z26 el44 sz45 (oo rfl rfl) (oo rfl rfl) (z0a (RT.mono _ s14 hp0)) j27.1 j27.2.1) ?_
 obtain ⟨w28, p29, f30⟩ := At.sl (At.le (z17 hp0 j27.2.2) s14 s14)
 replace p29 := PtG.le p29 O21.fro
 refine D2.load1' (v := w28) (r := []) rfl rfl ag45 (z15 rfl p29) z0b (D2.pure (v := (.int .i64 (List.length x24 : Int))) rfl rfl (z0f (oo rfl rfl) (z0a f30) (z02 el45)) (D2.q2 v0 ((fr11 0 rfl).trans rfl) ?_))
 obtain ⟨x31, i32, h33⟩ := z00 h26
 have j34 := z0d i32
 refine D2.pure (v := (z1k v0 (Int.toNat 0 * 1))) rfl rfl (z26 el44 sz45 (oo rfl rfl) (oo rfl rfl) (z0a (RT.mono _ s14 hp0)) j34.1 j34.2.1) ?_
 obtain ⟨w35, p36, f37⟩ := At.sl (At.le (z17 hp0 j34.2.2) s14 s14)
 replace p36 := PtG.le p36 O21.fro
 refine D2.load1' (v := w35) (r := []) rfl rfl ag45 (z15 rfl p36) z0b (D2.pure (v := (.int .i64 (List.length x31 : Int))) rfl rfl (z0f (oo rfl rfl) (z0a f37) (z02 el45)) (D2.q3 (.bool ((List.length x24 : Int) != (List.length x31 : Int))) rfl rfl (.nil (.cond (b := ((List.length x24 : Int) != (List.length x31 : Int))) rfl rfl (fun g38 => ?_) (fun g38 => ?_)))))
 .have h39 := z03 g38 h33
  refine .seq (.region (W.q1 (.int .i64 3) rfl (.nil (.ret ?_))))
  obtain rfl := zAa h39
  have h40 := z09 (z59 h6)
  obtain rfl := zAa h40
  exact z1h kr (v1 := (.int .i64 3)) (by rfl) (z07 (by rfl) (by exact rfl)) O21 s14 rfl
 have h41 := z0g g38 h33
 refine .skip (.seq (.region (W.q2 v0 ((fr11 0 rfl).trans rfl) (W.q2 (.int .i64 x8) rfl ?_))))
 obtain ⟨x42, i43, h44⟩ := z00 h41
 have j45 := z0d i43
 refine W.pure (v := (z1k v0 (Int.toNat x8 * 1))) rfl rfl (z26 el44 sz45 (oo rfl rfl) (oo rfl rfl) (z0a (RT.mono _ s14 hp0)) j45.1 j45.2.1) ?_
 obtain ⟨w46, p47, f48⟩ := At.sl (At.le (z17 hp0 j45.2.2) s14 s14)
 replace p47 := PtG.le p47 O21.fro
 refine W.load1 (v := w46) (r := []) rfl rfl ag45 (z15 rfl p47) ?_
 obtain ⟨x49, i50, h51⟩ := z00 h44
 refine W.lo rfl rfl (Lo.cP rfl (fn := Tryz.f33) (by kernel_rfl) rfl (mc rfl mn) O21 (fun L' O' => zcc K w46 x42 f48 O' _ i50)) ?_
 rintro v58 H59 ⟨G52, O53, s54, sm57, rfl⟩
 refine W.q1 (.int .i64 x49) rfl (.nil (.seq (.region (W.q2 (.int .i64 x49) rfl (W.q3 (.bool (x49 != 0)) rfl rfl (.nil ?_))))))
 refine .cond (b := (x49 != 0)) rfl rfl (fun g60 => ?_) (fun g60 => ?_)
 rotate_left
 .have h63 := z0g g60 h51
  refine .skip (.region (W.q3 (.int .i64 (z04 .i64 (x8 + 1))) t16 rfl (W.q2 (.int .i64 (z04 .i64 (x8 + 1))) rfl (.nil ?_))))
  exact ⟨k7, zAg _, ⟨z04 .i64 (x8 + 1), _, h63, O53, (zAe s14 s54), rfl⟩⟩
 have h61 := z03 g60 h51
 refine .seq (.region (W.q2 (.int .i64 x49) rfl (W.q1 (.int .i64 x49) rfl (.nil (.ret ?_)))))
 obtain rfl := zAa h61
 have h62 := z09 (z59 h6)
 obtain rfl := zAa h62
 exact z1h kr (v1 := (.int .i64 x49)) (by rfl) (z07 (by rfl) (by exact rfl)) O53 (zAe s14 s54) rfl
def z3r (K : Nat) (p0 : List Int) : Nat -> Int -> Option (Int ⊕ Unit)
  | 0, _ => none
  | k + 1, x5 => (if (decide (x5 < (List.length p0 : Int))) = true then ((idx p0 x5).bind fun x16 => (if (x16 != 0) = true then some (.inl x16) else z3r K p0 k (z04 .i64 (x5 + 1)))) else some (.inr ()))
def z5t (K : Nat) (p0 : List Int) : Option Int := (z9q (z3r K p0 K 0) (tu1 fun a33 => some a33) (tu0 (some 0)))
theorem za1 (v0 : Value) (p0 : List Int) (hp0 : (rSl (rI .i64)).rep G [v0] p0) (O : Ow G H (L)) (r : Int) (h : z5t K p0 = some r) :
    CR Tryz.prog 18 [v0] G H (L) (fun v G' _ => v = .int .i64 r) := by
 unfold z5t at h
 refine CR.og (n := 15) (fn := Tryz.f18) (by kernel_rfl) rfl rfl fun R kr => (.seq (.region (W.q1 (.int .i64 0) rfl (.nil (.seq (.seq ?_))))))
 refine .region (W.q2 v0 rfl (W.pure (v := (.int .i64 (List.length p0 : Int))) rfl rfl (z0f (oo rfl rfl) (z0a hp0) (z02 el91)) (W.q2 (.int .i64 0) rfl (.nil ?_))))
 obtain ⟨q1, h2, h3⟩ := z1t h
 refine AW.midT (fun σ' H' => ∃  (G' : GM), (.inr ()) = q1 /\ Ow G' H' (L) /\ GM.le G G') ?_ ?_
 rotate_left
 .rintro σ25 H26 fr27 ⟨G28, rfl, O29, s30⟩
  have h32 := z4z (z70 h3)
  refine .seq (.region (W.q1 (.int .i64 0) rfl (.nil (.ret ?_))))
  obtain rfl := zAa h32
  exact z1h kr (v1 := (.int .i64 0)) (by rfl) (z07 (by rfl) (by exact rfl)) O29 s30 rfl
 refine .block (AW.loop (α := Nat) (fun k' σ' H' => ∃ (y1 : Int) (G' : GM), z3r K p0 k' y1 = some q1 /\ Ow G' H' (L) /\ GM.le G G' /\ σ' 7 = .int .i64 y1) (fun k' => k') K ⟨0, _, h2, O, (zAf _), rfl⟩ ?_)
 rintro k4
 rintro σ6 H7 fr8 ⟨x5, G9, h12, O10, s11, t13⟩
 rcases k4 with _ | k4
 .exact z06 h12
 rw [z3r] at h12
 refine .seq (.region (W.q3 (.bool (decide (x5 < (List.length p0 : Int)))) t13 ((fr8 6 rfl).trans rfl) (.nil (.seq (.cond (b := decide (x5 < (List.length p0 : Int))) rfl rfl (fun g14 => ?_) (fun g14 => ?_))))))
 rotate_left
 .have h24 := z0g g14 h12
  refine .exit ?_
  obtain rfl := zAa h24
  exact ⟨_, rfl, O10, s11⟩
 have h15 := z03 g14 h12
 refine .skip (.seq (.block (.seq (.region ?_))))
 obtain ⟨x16, i17, h18⟩ := z00 h15
 have j19 := z0d i17
 refine W.pure (v := (z1k v0 (Int.toNat x5 * 1))) rfl rfl (z26 el91 sz28 (oo rfl ((fr8 5 rfl).trans rfl)) (oo rfl t13) (z0a (RT.mono _ s11 hp0)) j19.1 j19.2.1) (W.load1 (v := (.int .i64 x16)) (r := []) rfl rfl ag28 (z15 rfl (At.int (At.le (At.le (z17 hp0 j19.2.2) s11 s11) (zAf _) O10.fro))) (W.q1 (.int .i64 x16) rfl (.nil (.seq (.region (W.q2 (.int .i64 x16) rfl ?_))))))
 refine W.q3 (.bool (x16 != 0)) rfl rfl (.nil (.cond (b := (x16 != 0)) rfl rfl (fun g20 => ?_) (fun g20 => ?_)))
 rotate_left
 .have h23 := z0g g20 h18
  refine .skip (.region (W.q3 (.int .i64 (z04 .i64 (x5 + 1))) t13 rfl (W.q2 (.int .i64 (z04 .i64 (x5 + 1))) rfl (.nil ?_))))
  exact ⟨k4, zAg _, ⟨z04 .i64 (x5 + 1), _, h23, O10, s11, rfl⟩⟩
 have h21 := z03 g20 h18
 refine .seq (.region (W.q2 (.int .i64 x16) rfl (W.q1 (.int .i64 x16) rfl (.nil (.ret ?_)))))
 obtain rfl := zAa h21
 have h22 := z09 (z59 h3)
 obtain rfl := zAa h22
 exact z1h kr (v1 := (.int .i64 x16)) (by rfl) (z07 (by rfl) (by exact rfl)) O10 s11 rfl
def z8w (K : Nat) (p0 : List (List zAd)) : Option Int := (if (decide ((List.length p0 : Int) > 0)) = true then ((idx p0 0).bind fun x3 => some (List.length x3 : Int)) else some 0)
theorem zbt (v0 : Value) (p0 : List (List zAd)) (hp0 : (rSl (rSl rS)).rep G [v0] p0) (O : Ow G H (L)) (r : Int) (h : z8w K p0 = some r) :
    CR Tryz.prog 31 [v0] G H (L) (fun v G' _ => v = .int .i64 r) := by
 unfold z8w at h
 refine CR.og (n := 10) (fn := Tryz.f31) (by kernel_rfl) rfl rfl fun R kr => (.seq (.region (W.q1 (.int .i64 0) rfl (.nil (.seq (.seq ?_))))))
 refine .region (W.q2 v0 rfl (W.pure (v := (.int .i64 (List.length p0 : Int))) rfl rfl (z0f (oo rfl rfl) (z0a hp0) (z02 el44)) (W.q3 (.bool (decide ((List.length p0 : Int) > 0))) rfl rfl (.nil (.cond (b := decide ((List.length p0 : Int) > 0)) rfl rfl (fun g1 => ?_) (fun g1 => ?_))))))
 rotate_left
 .have h10 := z0g g1 h
  refine .skip (.seq (.region (W.q1 (.int .i64 0) rfl (.nil (.ret ?_)))))
  obtain rfl := zAa h10
  exact z1h kr (v1 := (.int .i64 0)) (by rfl) (z07 (by rfl) (by exact rfl)) O (zAf _) rfl
 have h2 := z03 g1 h
 refine .seq (.region (W.q2 v0 rfl ?_))
 obtain ⟨x3, i4, h5⟩ := z00 h2
 have j6 := z0d i4
 refine W.pure (v := (z1k v0 (Int.toNat 0 * 1))) rfl rfl (z26 el44 sz45 (oo rfl rfl) (oo rfl rfl) (z0a hp0) j6.1 j6.2.1) ?_
 obtain ⟨w7, p8, f9⟩ := At.sl (z17 hp0 j6.2.2)
 replace p8 := PtG.le p8 O.fro
 refine W.load1 (v := w7) (r := []) rfl rfl ag45 (z15 rfl p8) (W.pure (v := (.int .i64 (List.length x3 : Int))) rfl rfl (z0f (oo rfl rfl) (z0a f9) (z02 el45)) (W.q1 (.int .i64 (List.length x3 : Int)) rfl (.nil (.ret ?_))))
 obtain rfl := zAa h5
 exact z1h kr (v1 := (.int .i64 (List.length x3 : Int))) (by rfl) (z07 (by rfl) (by exact rfl)) O (zAf _) rfl
def z0c (K : Nat) (p0 : List zAd) (p1 : zAd -> Option Bool) : Nat -> Int -> Option (Int ⊕ Unit)
  | 0, _ => none
  | k + 1, x5 => (if (decide (x5 < (List.length p0 : Int))) = true then ((idx p0 x5).bind fun x16 => ((p1 x16).bind fun x20 => (if x20 = true then some (.inl x5) else z0c K p0 p1 k (z04 .i64 (x5 + 1))))) else some (.inr ()))
def z0r (K : Nat) (p0 : List zAd) (p1 : zAd -> Option Bool) : Option Int := (z9q (z0c K p0 p1 K 0) (tu1 fun a42 => some a42) (tu0 (some (-1))))
theorem z4p (v0 : Value) (p0 : List zAd) (hp0 : (rSl rS).rep G [v0] p0) (v1 : Value) (p1 : zAd -> Option Bool) (hp1 : FnOk Tryz.prog G v1 (fun _ vs (x : (zAd)) => vs = [.string x]) (fun _ v (rr : (Bool)) => v = .bool rr) p1) (O : Ow G H (L)) (r : Int) (h : z0r K p0 p1 = some r) :
    CR Tryz.prog 143 [v0, v1] G H (L) (fun v G' _ => v = .int .i64 r) := by
 unfold z0r at h
 refine CR.og (n := 19) (fn := Tryz.f143) (by kernel_rfl) rfl rfl fun R kr => (.seq (.region (W.q1 (.int .i64 0) rfl (.nil (.seq (.seq ?_))))))
 refine .region (W.q2 v0 rfl (W.pure (v := (.int .i64 (List.length p0 : Int))) rfl rfl (z0f (oo rfl rfl) (z0a hp0) (z02 el45)) (W.q2 (.int .i64 0) rfl (.nil ?_))))
 obtain ⟨q1, h2, h3⟩ := z1t h
 refine AW.midT (fun σ' H' => ∃  (G' : GM), (.inr ()) = q1 /\ Ow G' H' (L) /\ GM.le G G') ?_ ?_
 rotate_left
 .rintro σ34 H35 fr36 ⟨G37, rfl, O38, s39⟩
  have h41 := z4z (z70 h3)
  refine .seq (.region (W.q1 (.int .i64 (-1)) rfl (.nil (.ret ?_))))
  obtain rfl := zAa h41
  exact z1h kr (v1 := (.int .i64 (-1))) (by rfl) (z07 (by rfl) (by exact rfl)) O38 s39 rfl
 refine .block (AW.loop (α := Nat) (fun k' σ' H' => ∃ (y1 : Int) (G' : GM), z0c K p0 p1 k' y1 = some q1 /\ Ow G' H' (L) /\ GM.le G G' /\ σ' 8 = .int .i64 y1) (fun k' => k') K ⟨0, _, h2, O, (zAf _), rfl⟩ ?_)
 rintro k4
 rintro σ6 H7 fr8 ⟨x5, G9, h12, O10, s11, t13⟩
 rcases k4 with _ | k4
 .exact z06 h12
 rw [z0c] at h12
 refine .seq (.region (W.q3 (.bool (decide (x5 < (List.length p0 : Int)))) t13 ((fr8 7 rfl).trans rfl) (.nil (.seq (.cond (b := decide (x5 < (List.length p0 : Int))) rfl rfl (fun g14 => ?_) (fun g14 => ?_))))))
 rotate_left
 .have h33 := z0g g14 h12
  refine .exit ?_
  obtain rfl := zAa h33
  exact ⟨_, rfl, O10, s11⟩
 have h15 := z03 g14 h12
 refine .skip (.seq (.block (.seq (.region (W.q2 _ t13 (W.q1 (.int .i64 x5) rfl ?_))))))
 refine .nil (.seq (.region (W.q2 v1 ((fr8 1 rfl).trans rfl) (W.q2 v0 ((fr8 0 rfl).trans rfl) (W.q2 (.int .i64 x5) rfl ?_)))))
 obtain ⟨x16, i17, h18⟩ := z00 h15
 have j19 := z0d i17
 refine W.pure (v := (z1k v0 (Int.toNat x5 * 1))) rfl rfl (z26 el45 sz22 (oo rfl rfl) (oo rfl rfl) (z0a (RT.mono _ s11 hp0)) j19.1 j19.2.1) (W.load1 (v := (.string x16)) (r := []) rfl rfl ag22 (z15 rfl (At.str (At.le (At.le (z17 hp0 j19.2.2) s11 s11) (zAf _) O10.fro))) ?_)
 obtain ⟨x20, i21, h22⟩ := z00 h18
 refine W.lo rfl rfl (Lo.callF (x0 := x16) rfl rfl (FnOk.le hp1 s11) (mc rfl mn) rfl i21 O10) ?_
 rintro v27 H28 ⟨G23, O24, s25, sm26, rfl⟩
 refine .nil (.cond (b := x20) rfl rfl (fun g29 => ?_) (fun g29 => ?_))
 rotate_left
 .have h32 := z0g g29 h22
  refine .skip (.region (W.q3 (.int .i64 (z04 .i64 (x5 + 1))) t13 rfl (W.q2 (.int .i64 (z04 .i64 (x5 + 1))) rfl (.nil ?_))))
  exact ⟨k4, zAg _, ⟨z04 .i64 (x5 + 1), _, h32, O24, (zAe s11 s25), rfl⟩⟩
 have h30 := z03 g29 h22
 refine .seq (.region (W.q2 (.int .i64 x5) rfl (W.q1 (.int .i64 x5) rfl (.nil (.ret ?_)))))
 obtain rfl := zAa h30
 have h31 := z09 (z59 h3)
 obtain rfl := zAa h31
 exact z1h kr (v1 := (.int .i64 x5)) (by rfl) (z07 (by rfl) (by exact rfl)) O24 (zAe s11 s25) rfl
def z0l (K : Nat) (p0 : List zAd) (p1 : zAd -> Option Bool) : Option Bool := ((z0r K p0 p1).bind fun x1 => some (decide (x1 >= 0)))
theorem z4a (v0 : Value) (p0 : List zAd) (hp0 : (rSl rS).rep G [v0] p0) (v1 : Value) (p1 : zAd -> Option Bool) (hp1 : FnOk Tryz.prog G v1 (fun _ vs (x : (zAd)) => vs = [.string x]) (fun _ v (rr : (Bool)) => v = .bool rr) p1) (O : Ow G H (L)) (r : Bool) (h : z0l K p0 p1 = some r) :
    CR Tryz.prog 87 [v0, v1] G H (L) (fun v G' _ => v = .bool r) := by
 unfold z0l at h
 refine CR.og (n := 9) (fn := Tryz.f87) (by kernel_rfl) rfl rfl fun R kr => (.seq (.region (W.q1 (.bool false) rfl (.nil (.seq (.region ?_))))))
 refine W.q2 v0 rfl (W.q2 v1 rfl ?_)
 obtain ⟨x1, i2, h3⟩ := z00 h
 refine W.lo rfl rfl (Lo.cP rfl (fn := Tryz.f143) (by kernel_rfl) rfl (mc rfl (mc rfl mn)) O (fun L' O' => z4p K v0 p0 hp0 v1 p1 hp1 O' _ i2)) ?_
 rintro v10 H11 ⟨G4, O5, s6, sm9, rfl⟩
 refine W.q3 (.bool (decide (x1 >= 0))) rfl rfl (W.q1 (.bool (decide (x1 >= 0))) rfl (.nil (.ret ?_)))
 obtain rfl := zAa h3
 exact z1h kr (v1 := (.bool (decide (x1 >= 0)))) (by rfl) (z07 (by rfl) (by exact rfl)) O5 s6 rfl
def z6z (K : Nat) (p0 : zAd) : Option Bool := some (decide ((p0.size : Int) > 12))
theorem zcd (p0 : zAd) (O : Ow G H (L)) (r : Bool) (h : z6z K p0 = some r) :
    CR Tryz.prog 88 [(.string p0)] G H (L) (fun v G' _ => v = .bool r) := by
 unfold z6z at h
 refine CR.og (n := 6) (fn := Tryz.f88) (by kernel_rfl) rfl rfl fun R kr => (.seq (.region (W.q1 (.bool false) rfl (.nil (.seq (.region ?_))))))
 refine W.q2 (.string p0) rfl (W.pure (v := (.int .i64 (p0.size : Int))) rfl rfl (z1p (oo rfl rfl) un22) (W.q3 (.bool (decide ((p0.size : Int) > 12))) rfl rfl (W.q1 (.bool (decide ((p0.size : Int) > 12))) rfl (.nil (.ret ?_)))))
 obtain rfl := zAa h
 exact z1h kr (v1 := (.bool (decide ((p0.size : Int) > 12)))) (by rfl) (z07 (by rfl) (by exact rfl)) O (zAf _) rfl
def z3k (K : Nat) (p0 : Int) (x16 : List (List zAd)) : Nat -> Int -> Option (Bool ⊕ Unit)
  | 0, _ => none
  | k + 1, x31 => (if (decide (x31 < (List.length x16 : Int))) = true then ((idx x16 x31).bind fun x42 => (Option.bind ((if (decide ((List.length x42 : Int) > p0)) = true then some true else ((z0l K x42 (fun x => z6z K x)).bind fun x56 => some x56))) (tu1 fun x67 => (if x67 = true then some (.inl true) else z3k K p0 x16 k (z04 .i64 (x31 + 1)))))) else some (.inr ()))
def z4b (K : Nat) (p0 : Int) (p1 : List (List (List zAd))) : Nat -> Int -> Option (Bool ⊕ Unit)
  | 0, _ => none
  | k + 1, x5 => (if (decide (x5 < (List.length p1 : Int))) = true then ((idx p1 x5).bind fun x16 => (if (decide ((List.length x16 : Int) > p0)) = true then some (.inl true) else (z9q (z3k K p0 x16 K 0) (tu1 fun a91 => some (.inl a91)) (tu0 (z4b K p0 p1 k (z04 .i64 (x5 + 1))))))) else some (.inr ()))
def z7o (K : Nat) (p0 : Int) (p1 : List (List (List zAd))) : Option Bool := (z9q (z4b K p0 p1 K 0) (tu1 fun a101 => some a101) (tu0 (some false)))
theorem zee (p0 : Int) (v1 : Value) (p1 : List (List (List zAd))) (hp1 : (rSl (rSl (rSl rS))).rep G [v1] p1) (O : Ow G H (L)) (r : Bool) (h : z7o K p0 p1 = some r) :
    CR Tryz.prog 32 [(.int .i64 p0), v1] G H (L) (fun v G' _ => v = .bool r) := by
 unfold z7o at h
 refine CR.og (n := 35) (fn := Tryz.f32) (by kernel_rfl) rfl rfl fun R kr => (.seq (.region (W.q1 (.bool false) rfl (.nil (.seq (.seq ?_))))))
 refine .region (W.q2 v1 rfl (W.pure (v := (.int .i64 (List.length p1 : Int))) rfl rfl (z0f (oo rfl rfl) (z0a hp1) (z02 zo9)) (W.q2 (.int .i64 0) rfl (.nil ?_))))
 obtain ⟨q1, h2, h3⟩ := z1t h
 refine AW.midT (fun σ' H' => ∃  (G' : GM), (.inr ()) = q1 /\ Ow G' H' (L) /\ GM.le G G') ?_ ?_
 rotate_left
 .rintro σ93 H94 fr95 ⟨G96, rfl, O97, s98⟩
  have h100 := z4z (z70 h3)
  refine .seq (.region (W.q1 (.bool false) rfl (.nil (.ret ?_))))
  obtain rfl := zAa h100
  exact z1h kr (v1 := (.bool false)) (by rfl) (z07 (by rfl) (by exact rfl)) O97 s98 rfl
 refine .block (AW.loop (α := Nat) (fun k' σ' H' => ∃ (y1 : Int) (G' : GM), z4b K p0 p1 k' y1 = some q1 /\ Ow G' H' (L) /\ GM.le G G' /\ σ' 11 = .int .i64 y1) (fun k' => k') K ⟨0, _, h2, O, (zAf _), rfl⟩ ?_)
 rintro k4
 rintro σ6 H7 fr8 ⟨x5, G9, h12, O10, s11, t13⟩
 rcases k4 with _ | k4
 .exact z06 h12
 rw [z4b] at h12
 refine .seq (.region (W.q3 (.bool (decide (x5 < (List.length p1 : Int)))) t13 ((fr8 10 rfl).trans rfl) (.nil (.seq (.cond (b := decide (x5 < (List.length p1 : Int))) rfl rfl (fun g14 => ?_) (fun g14 => ?_))))))
 rotate_left
 .have h92 := z0g g14 h12
  refine .exit ?_
  obtain rfl := zAa h92
  exact ⟨_, rfl, O10, s11⟩
 have h15 := z03 g14 h12
 refine .skip (.seq (.block (.seq (.region ?_))))
 obtain ⟨x16, i17, h18⟩ := z00 h15
 have j19 := z0d i17
 refine W.pure (v := (z1k v1 (Int.toNat x5 * 1))) rfl rfl (z26 zo9 sz44 (oo rfl ((fr8 9 rfl).trans rfl)) (oo rfl t13) (z0a (RT.mono _ s11 hp1)) j19.1 j19.2.1) ?_
 obtain ⟨w20, p21, f22⟩ := At.sl (At.le (z17 hp1 j19.2.2) s11 s11)
 replace p21 := PtG.le p21 O10.fro
 refine W.load1 (v := w20) (r := []) rfl rfl ag44 (z15 rfl p21) (W.q1 w20 rfl (.nil (.seq (.seq (.region (W.q2 w20 rfl ?_))))))
 refine W.pure (v := (.int .i64 (List.length x16 : Int))) rfl rfl (z0f (oo rfl rfl) (z0a f22) (z02 el44)) (W.q2 (.int .i64 p0) ((fr8 0 rfl).trans rfl) (W.q3 (.bool (decide ((List.length x16 : Int) > p0))) rfl rfl (.nil (.cond (b := decide ((List.length x16 : Int) > p0)) rfl rfl (fun g23 => ?_) (fun g23 => ?_)))))
 .have h24 := z03 g23 h18
  refine .seq (.region (W.q1 (.bool true) rfl (.nil (.ret ?_))))
  obtain rfl := zAa h24
  have h25 := z09 (z59 h3)
  obtain rfl := zAa h25
  exact z1h kr (v1 := (.bool true)) (by rfl) (z07 (by rfl) (by exact rfl)) O10 s11 rfl
 have h26 := z0g g23 h18
 refine .skip (.seq (.region (W.q2 w20 rfl (W.pure (v := (.int .i64 (List.length x16 : Int))) rfl rfl (z0f (oo rfl rfl) (z0a f22) (z02 el44)) (W.q2 (.int .i64 0) rfl (.nil ?_))))))
 obtain ⟨q27, h28, h29⟩ := z1t h26
 refine AW.midT (fun σ' H' => ∃  (G' : GM), (.inr ()) = q27 /\ Ow G' H' (L) /\ GM.le G9 G') ?_ ?_
 rotate_left
 .rintro σ83 H84 fr85 ⟨G86, rfl, O87, s88⟩
  have h90 := z4z (z70 h29)
  refine .region (W.q3 (.int .i64 (z04 .i64 (x5 + 1))) ((fr85 11 rfl).trans t13) rfl (W.q2 (.int .i64 (z04 .i64 (x5 + 1))) rfl (.nil ?_)))
  exact ⟨k4, zAg _, ⟨z04 .i64 (x5 + 1), _, h90, O87, (zAe s11 s88), rfl⟩⟩
 refine .block (AW.loop (α := Nat) (fun k' σ' H' => ∃ (y1 : Int) (G' : GM), z3k K p0 x16 k' y1 = some q27 /\ Ow G' H' (L) /\ GM.le G9 G' /\ σ' 21 = .int .i64 y1) (fun k' => k') K ⟨0, _, h28, O10, (zAf _), rfl⟩ ?_)
 rintro k30
 rintro σ32 H33 fr34 ⟨x31, G35, h38, O36, s37, t39⟩
 rcases k30 with _ | k30
 .exact z06 h38
 rw [z3k] at h38
 refine .seq (.region (W.q3 (.bool (decide (x31 < (List.length x16 : Int)))) t39 ((fr34 20 rfl).trans rfl) (.nil (.seq (.cond (b := decide (x31 < (List.length x16 : Int))) rfl rfl (fun g40 => ?_) (fun g40 => ?_))))))
 rotate_left
 .have h82 := z0g g40 h38
  refine .exit ?_
  obtain rfl := zAa h82
  exact ⟨_, rfl, O36, s37⟩
 have h41 := z03 g40 h38
 refine .skip (.seq (.block (.seq (.region ?_))))
 obtain ⟨x42, i43, h44⟩ := z00 h41
 have j45 := z0d i43
 refine W.pure (v := (z1k w20 (Int.toNat x31 * 1))) rfl rfl (z26 el44 sz45 (oo rfl ((fr34 19 rfl).trans rfl)) (oo rfl t39) (z0a (RT.mono _ s37 f22)) j45.1 j45.2.1) ?_
 obtain ⟨w46, p47, f48⟩ := At.sl (At.le (z17 f22 j45.2.2) s37 s37)
 replace p47 := PtG.le p47 O36.fro
 refine W.load1 (v := w46) (r := []) rfl rfl ag45 (z15 rfl p47) (W.q1 w46 rfl (.nil (.seq ?_)))
 obtain ⟨q49, h50, h51⟩ := z00 h44
 refine AW.midT (fun σ' H' => ∃ (y1 : Bool) (G' : GM), y1 = q49 /\ Ow G' H' (L) /\ GM.le G35 G' /\ σ' 32 = .bool y1) ?_ ?_
 rotate_left
 .rintro σ68 H69 fr70 ⟨x67, G71, rfl, O72, s73, t75⟩
  have h76 := z09 h51
  refine .cond (b := x67) rfl t75 (fun g77 => ?_) (fun g77 => ?_)
  rotate_left
  .have h81 := z0g g77 h76
   refine .skip (.region (W.q3 (.int .i64 (z04 .i64 (x31 + 1))) ((fr70 21 rfl).trans t39) rfl (W.q2 (.int .i64 (z04 .i64 (x31 + 1))) rfl (.nil ?_))))
   exact ⟨k30, zAg _, ⟨z04 .i64 (x31 + 1), _, h81, O72, (zAe s37 s73), rfl⟩⟩
  have h78 := z03 g77 h76
  refine .seq (.region (W.q1 (.bool true) rfl (.nil (.ret ?_))))
  obtain rfl := zAa h78
  have h79 := z09 (z59 h29)
  obtain rfl := zAa h79
  have h80 := z09 (z59 h3)
  obtain rfl := zAa h80
  exact z1h kr (v1 := (.bool true)) (by rfl) (z07 (by rfl) (by exact rfl)) O72 (zAe s11 (zAe s37 s73)) rfl
 refine .region (W.q2 w46 rfl (W.pure (v := (.int .i64 (List.length x42 : Int))) rfl rfl (z0f (oo rfl rfl) (z0a f48) (z02 el45)) (W.q2 (.int .i64 p0) ((fr34 0 rfl).trans ((fr8 0 rfl).trans rfl)) (W.q3 (.bool (decide ((List.length x42 : Int) > p0))) rfl rfl (W.q2 (.bool (decide ((List.length x42 : Int) > p0))) rfl (W.splitAt (t := 29) (b := decide ((List.length x42 : Int) > p0)) rfl (fun g52 gv53 => ?_) (fun g52 gv53 => ?_)))))))
 .have h54 := z03 g52 h50
  refine W.q6 rfl gv53 (W.q6 rfl gv53 (W.q4 (.bool true) gv53 rfl (.nil ?_)))
  obtain rfl := zAa h54
  exact ⟨true, _, rfl, O36, (zAf _), rfl⟩
 have h55 := z0g g52 h50
 refine W.q2 (hg := gk rfl rfl gv53 rfl) w46 rfl ?_
 obtain ⟨x56, i57, h58⟩ := z00 h55
 refine W.lo (gk rfl rfl gv53 rfl) rfl (Lo.cP rfl (fn := Tryz.f87) (by kernel_rfl) rfl (mc rfl (mc rfl mn)) O36 (fun L' O' => z4a K w46 x42 f48 (.func (.func 88) #[] #[]) (fun x => z6z K x) ⟨88, _, _, Tryz.f88, rfl, by kernel_rfl, rfl, fun G1 H L vs x r hG O hA hF => by obtain rfl := hA; exact zcd K x O _ hF⟩ O' _ i57)) ?_
 rintro v65 H66 ⟨G59, O60, s61, sm64, rfl⟩
 refine W.q5 (.bool x56) gv53 rfl (.nil ?_)
 obtain rfl := zAa h58
 exact ⟨x56, _, rfl, O60, s61, rfl⟩
def z3s (K : Nat) (x1 : Int) (x13 : zAd) : Nat -> Int -> Option ((Bool × zAd × zAd) ⊕ Unit)
  | 0, _ => none
  | k + 1, x27 => (if (decide (x27 < (x13.size : Int))) = true then ((bidx x13 x27).bind fun x38 => (if (x38 == 47) = true then ((ssl x13 0 x27).bind fun x48 => ((ssl x13 (z04 .i64 (x27 + 1)) (x13.size : Int)).bind fun x51 => some (.inl ((x1 == 45), x48, x51)))) else z3s K x1 x13 k (z04 .i64 (x27 + 1)))) else some (.inr ()))
def z6g (K : Nat) (p0 : zAd) : Option (Bool × zAd × zAd) := ((bidx p0 0).bind fun x1 => (Option.bind ((if (x1 == 45) = true then ((ssl p0 1 (p0.size : Int)).bind fun x9 => some x9) else some p0)) (tu1 fun x13 => (z9q (z3s K x1 x13 K 0) (tu3 fun a65 a66 a67 => some (a65, a66, a67)) (tu0 (some ((x1 == 45), x13, (⟨#[49]⟩ : zAd))))))))
theorem z7z (p0 : zAd) (O : Ow G H (L)) (r : Bool × zAd × zAd) (h : z6g K p0 = some r) :
    CR Tryz.prog 61 [(.string p0)] G H (L) (fun v G' _ => v = .tuple #[.bool r.1, .string r.2.1, .string r.2.2]) := by
 unfold z6g at h
 refine CR.og (n := 35) (fn := Tryz.f61) (by kernel_rfl) rfl rfl fun R kr => (.seq (.region (W.q1 (.bool false) rfl (W.q1 (.string (⟨#[]⟩ : zAd)) rfl (W.q1 (.string (⟨#[]⟩ : zAd)) rfl (.nil ?_))))))
 refine .seq (.region (W.q2 (.string p0) rfl (W.q1 (.string p0) rfl (.nil (.seq (.region ?_))))))
 refine W.q2 (.string p0) rfl ?_
 obtain ⟨x1, i2, h3⟩ := z00 h
 refine W.pure (v := (.int .u8 x1)) rfl rfl (z9r un9 (oo rfl rfl) (oo rfl rfl) i2) (W.q3 (.bool (x1 == 45)) rfl rfl (W.q1 (.bool (x1 == 45)) rfl (.nil (.seq (.seq (.region ?_))))))
 refine W.q2 (.bool (x1 == 45)) rfl (.nil ?_)
 obtain ⟨q4, h5, h6⟩ := z00 h3
 refine AW.midT (fun σ' H' => ∃ (y1 : zAd) (G' : GM), y1 = q4 /\ Ow G' H' (L) /\ GM.le G G' /\ σ' 5 = .string y1) ?_ ?_
 .refine .cond (b := (x1 == 45)) rfl rfl (fun g7 => ?_) (fun g7 => ?_)
  rotate_left
  .have h12 := z0g g7 h5
   refine .skip ?_
   obtain rfl := zAa h12
   exact ⟨p0, _, rfl, O, (zAf _), rfl⟩
  have h8 := z03 g7 h5
  refine .region (W.q2 (.string p0) rfl ?_)
  obtain ⟨x9, i10, h11⟩ := z00 h8
  refine W.pure (v := (.string x9)) rfl rfl (ze9 un9 (oo rfl rfl) (oo rfl rfl) i10) (W.q1 (.string x9) rfl (.nil ?_))
  obtain rfl := zAa h11
  exact ⟨x9, _, rfl, O, (zAf _), rfl⟩
 rintro σ14 H15 fr16 ⟨x13, G17, rfl, O18, s19, t21⟩
 have h22 := z09 h6
 refine .seq (.seq (.region (W.q2 _ t21 (W.pure (v := (.int .i64 (x13.size : Int))) rfl rfl (z1p (oo rfl rfl) un9) (W.q2 (.int .i64 0) rfl (.nil ?_))))))
 obtain ⟨q23, h24, h25⟩ := z1t h22
 refine AW.midT (fun σ' H' => ∃  (G' : GM), (.inr ()) = q23 /\ Ow G' H' (L) /\ GM.le G17 G') ?_ ?_
 rotate_left
 .rintro σ57 H58 fr59 ⟨G60, rfl, O61, s62⟩
  have h64 := z4z (z70 h25)
  refine .seq (.region (W.q2 (.bool (x1 == 45)) ((fr59 6 rfl).trans ((fr16 6 rfl).trans rfl)) (W.q2 _ ((fr59 5 rfl).trans t21) (W.q1 (.bool (x1 == 45)) rfl (W.q1 (.string x13) rfl (W.q1 (.string (⟨#[49]⟩ : zAd)) rfl ?_))))))
  refine .nil (.ret ?_)
  obtain rfl := zAa h64
  exact zmw kr (v1 := (.bool (x1 == 45))) (v2 := (.string x13)) (v3 := (.string (⟨#[49]⟩ : zAd))) (by rfl) (z07 (by rfl) (by exact rfl)) (z07 (by rfl) (by exact rfl)) (z07 (by rfl) (by exact rfl)) O61 (zAe s19 s62) rfl
 refine .block (AW.loop (α := Nat) (fun k' σ' H' => ∃ (y1 : Int) (G' : GM), z3s K x1 x13 k' y1 = some q23 /\ Ow G' H' (L) /\ GM.le G17 G' /\ σ' 17 = .int .i64 y1) (fun k' => k') K ⟨0, _, h24, O18, (zAf _), rfl⟩ ?_)
 rintro k26
 rintro σ28 H29 fr30 ⟨x27, G31, h34, O32, s33, t35⟩
 rcases k26 with _ | k26
 .exact z06 h34
 rw [z3s] at h34
 refine .seq (.region (W.q3 (.bool (decide (x27 < (x13.size : Int)))) t35 ((fr30 16 rfl).trans rfl) (.nil (.seq (.cond (b := decide (x27 < (x13.size : Int))) rfl rfl (fun g36 => ?_) (fun g36 => ?_))))))
 rotate_left
 .have h56 := z0g g36 h34
  refine .exit ?_
  obtain rfl := zAa h56
  exact ⟨_, rfl, O32, s33⟩
 have h37 := z03 g36 h34
 refine .skip (.seq (.block (.seq (.region (W.q2 _ t35 (W.q1 (.int .i64 x27) rfl ?_))))))
 refine .nil (.seq (.region (W.q2 _ ((fr30 5 rfl).trans t21) (W.q2 (.int .i64 x27) rfl ?_))))
 obtain ⟨x38, i39, h40⟩ := z00 h37
 refine W.pure (v := (.int .u8 x38)) rfl rfl (z9r un9 (oo rfl rfl) (oo rfl rfl) i39) (W.q3 (.bool (x38 == 47)) rfl rfl (.nil (.cond (b := (x38 == 47)) rfl rfl (fun g41 => ?_) (fun g41 => ?_))))
 rotate_left
 .have h55 := z0g g41 h40
  refine .skip (.region (W.q3 (.int .i64 (z04 .i64 (x27 + 1))) t35 rfl (W.q2 (.int .i64 (z04 .i64 (x27 + 1))) rfl (.nil ?_))))
  exact ⟨k26, zAg _, ⟨z04 .i64 (x27 + 1), _, h55, O32, s33, rfl⟩⟩
 have h42 := z03 g41 h40
 refine .seq (.draw2 (M := [0, 0, 0, 6, 0, 0, 32, 112, 1, 271, 1023]) mixed (by kernel_rfl) (by kernel_rfl) fun H43 N47 x44 F46 => ?_)
 have O45 := O32.ext x44
 refine D2.q2 (.bool (x1 == 45)) ((fr30 6 rfl).trans ((fr16 6 rfl).trans rfl)) (D2.q2 _ ((fr30 5 rfl).trans t21) (D2.q2 (.int .i64 x27) rfl ?_))
 obtain ⟨x48, i49, h50⟩ := z00 h42
 refine D2.pure (v := (.string x48)) rfl rfl (zi8 un9 (oo rfl rfl) (oo rfl rfl) i49) (D2.q2 _ ((fr30 5 rfl).trans t21) (D2.q2 (.int .i64 x27) rfl (D2.q3 (.int .i64 (z04 .i64 (x27 + 1))) rfl rfl ?_)))
 obtain ⟨x51, i52, h53⟩ := z00 h50
 refine D2.pure (v := (.string x51)) rfl rfl (ze9 un9 (oo rfl rfl) (oo rfl rfl) i52) (D2.q1 (.bool (x1 == 45)) rfl (D2.q1 (.string x48) rfl (D2.q1 (.string x51) rfl (.nil (.ret ?_)))))
 obtain rfl := zAa h53
 have h54 := zfo (z59 h25)
 obtain rfl := zAa h54
 exact zmw kr (v1 := (.bool (x1 == 45))) (v2 := (.string x48)) (v3 := (.string x51)) (by rfl) (z07 (by rfl) (by exact rfl)) (z07 (by rfl) (by exact rfl)) (z07 (by rfl) (by exact rfl)) O45 (zAe s19 s33) rfl
def z3l (K : Nat) (p1 : zAd) (x15 : Int) (x26 : Int) : Nat -> List Int -> Int -> Option (List Int)
  | 0, _, _ => none
  | k + 1, x41, x42 => (if (decide (x42 < (p1.size : Int))) = true then ((idx x41 (z04 .i64 (x15 + x42))).bind fun x58 => ((z5z K p1 x42).bind fun x62 => ((idx x41 (z04 .i64 (x15 + x42))).bind fun x73 => z3l K p1 x15 x26 k (List.set x41 (Int.toNat (z04 .i64 (x15 + x42))) (z04 .i64 (x58 + (z04 .i64 (x26 * x62))))) (z04 .i64 (x42 + 1))))) else some x41)
def z2y (K : Nat) (x91 : List Int) : Nat -> List Int -> Int -> Option (List Int)
  | 0, _, _ => none
  | k + 1, x102, x103 => (if (decide (x103 < (List.length x91 : Int))) = true then (Option.bind (((idx x102 x103).bind fun x117 => (if (decide (x117 > 9)) = true then ((idx x102 (z04 .i64 (x103 + 1))).bind fun x128 => ((idx x102 x103).bind fun x132 => ((idx x102 (z04 .i64 (x103 + 1))).bind fun x136 => ((idx (List.set x102 (Int.toNat (z04 .i64 (x103 + 1))) (z04 .i64 (x128 + (z04 .i64 (Int.tdiv x132 10))))) x103).bind fun x144 => ((idx (List.set x102 (Int.toNat (z04 .i64 (x103 + 1))) (z04 .i64 (x128 + (z04 .i64 (Int.tdiv x132 10))))) x103).bind fun x148 => some (List.set (List.set x102 (Int.toNat (z04 .i64 (x103 + 1))) (z04 .i64 (x128 + (z04 .i64 (Int.tdiv x132 10))))) (Int.toNat x103) (Int.tmod x144 10))))))) else some x102))) (tu1 fun x157 => z2y K x91 k x157 (z04 .i64 (x103 + 1)))) else some x102)
def z3m (K : Nat) (p0 : zAd) (p1 : zAd) : Nat -> List Int -> Int -> Option (List Int)
  | 0, _, _ => none
  | k + 1, x14, x15 => (if (decide (x15 < (p0.size : Int))) = true then ((z5z K p0 x15).bind fun x26 => (Option.bind (z3l K p1 x15 x26 K x14 0) (tu1 fun x82 => ((lsl x82 0 (z04 .i64 ((List.length x82 : Int) - 1))).bind fun x91 => (Option.bind (z2y K x91 K x82 0) (tu1 fun x167 => z3m K p0 p1 k x167 (z04 .i64 (x15 + 1)))))))) else some x14)
def z5e (K : Nat) (p0 : zAd) (p1 : zAd) : Option zAd := (lt (z04 .i64 ((z04 .i64 ((p0.size : Int) + (p1.size : Int))) + 1)) fun x1 => (if 0 <= x1 /\ x1 <= x1 /\ x1 <= 16777216 then (Option.bind (z3m K p0 p1 K (List.replicate (Int.toNat x1) 0) 0) (tu1 fun x177 => ((z9f K x177).bind fun x186 => some x186))) else none))
theorem z67 (p0 : zAd) (p1 : zAd) (O : Ow G H (L)) (r : zAd) (h : z5e K p0 p1 = some r) :
    CR Tryz.prog 94 [(.string p0), (.string p1)] G H (L) (fun v G' _ => v = .string r) := by
 unfold z5e at h
 refine CR.og (n := 80) (fn := Tryz.f94) (by kernel_rfl) rfl rfl fun R kr => (.seq (.region (W.q1 (.string (⟨#[]⟩ : zAd)) rfl (.nil (.seq (.region ?_))))))
 refine W.q2 (.string p0) rfl (W.pure (v := (.int .i64 (p0.size : Int))) rfl rfl (z1p (oo rfl rfl) un9) (W.q2 (.string p1) rfl (W.pure (v := (.int .i64 (p1.size : Int))) rfl rfl (z1p (oo rfl rfl) un9) (W.q3 (.int .i64 (z04 .i64 ((p0.size : Int) + (p1.size : Int)))) rfl rfl (W.q3 (.int .i64 (z04 .i64 ((z04 .i64 ((p0.size : Int) + (p1.size : Int))) + 1))) rfl rfl ?_)))))
 obtain ⟨x1, e2, h3⟩ := z7b h
 obtain ⟨g5, h6⟩ := z2p h3
 refine W.lo rfl rfl (Lo.makeSlice (r := (rI .i64)) (x0 := 0) (a := x1) (c := x1) rfl zcn ze3 sz3 (by kernel_rfl) rfl by3 (by decide) (congrArg (Value.int .i64) e2) (congrArg (Value.int .i64) e2) g5 (zI .i64) O) ?_
 rintro v8 H9 ⟨O4, sm7⟩
 refine W.q1 v8 rfl (.nil (.seq (.seq (.region (W.q2 (.string p0) rfl (W.pure (v := (.int .i64 (p0.size : Int))) rfl rfl (z1p (oo rfl rfl) un9) ?_))))))
 refine W.q2 (.int .i64 0) rfl (.nil ?_)
 obtain ⟨q10, h11, h12⟩ := z00 h6
 refine AW.midT (fun σ' H' => ∃ (y1 : List Int) (G' : GM), y1 = q10 /\ Ow G' H' (eSl v8 3 (rI .i64) y1 :: L) /\ GM.le G G') ?_ ?_
 rotate_left
 .rintro σ178 H179 fr180 ⟨x177, G181, rfl, O182, s183⟩
  have h185 := z09 h12
  refine .seq (.region (W.q2 v8 ((fr180 5 rfl).trans rfl) ?_))
  obtain ⟨x186, i187, h188⟩ := z00 h185
  refine W.lo rfl rfl (Lo.callB (j := 0) rfl rfl (fn := Tryz.f150) (by kernel_rfl) rfl (mc rfl mn) O182 (fun G' L' hG O' hB => zaj K v8 x177 hB O' _ i187)) ?_
  rintro v195 H196 ⟨G189, O190, s191, sm194, rfl⟩
  refine W.q1 (.string x186) rfl (.nil (.ret ?_))
  have O197 : Ow G189 H196 (L) := O190.drop 0
  obtain rfl := zAa h188
  exact z1h kr (v1 := (.string x186)) (by rfl) (z07 (by rfl) (by exact rfl)) O197 (zAe s183 s191) rfl
 refine .block (AW.loop (α := Nat) (fun k' σ' H' => ∃ (y1 : List Int) (y2 : Int) (G' : GM), z3m K p0 p1 k' y1 y2 = some q10 /\ Ow G' H' (eSl v8 3 (rI .i64) y1 :: L) /\ GM.le G G' /\ σ' 19 = .int .i64 y2) (fun k' => k') K ⟨(List.replicate (Int.toNat x1) 0), 0, _, h11, O4, (zAf _), rfl⟩ ?_)
 rintro k13
 rintro σ16 H17 fr18 ⟨x14, x15, G19, h22, O20, s21, t23⟩
 rcases k13 with _ | k13
 .exact z06 h22
 rw [z3m] at h22
 refine .seq (.region (W.q3 (.bool (decide (x15 < (p0.size : Int)))) t23 ((fr18 18 rfl).trans rfl) (.nil (.seq (.cond (b := decide (x15 < (p0.size : Int))) rfl rfl (fun g24 => ?_) (fun g24 => ?_))))))
 rotate_left
 .have h176 := z0g g24 h22
  refine .exit ?_
  obtain rfl := zAa h176
  exact ⟨x14, _, rfl, O20, s21⟩
 have h25 := z03 g24 h22
 refine .skip (.seq (.block (.seq (.region (W.q2 _ t23 (W.q1 (.int .i64 x15) rfl ?_))))))
 refine .nil (.seq (.region (W.q2 (.string p0) ((fr18 0 rfl).trans rfl) (W.q2 (.int .i64 x15) rfl ?_))))
 obtain ⟨x26, i27, h28⟩ := z00 h25
 refine W.lo rfl rfl (Lo.cP rfl (fn := Tryz.f149) (by kernel_rfl) rfl (mc rfl (mc rfl mn)) O20 (fun L' O' => z5r K p0 x15 O' _ i27)) ?_
 rintro v35 H36 ⟨G29, O30, s31, sm34, rfl⟩
 refine W.q1 (.int .i64 x26) rfl (.nil (.seq (.seq (.region (W.q2 (.string p1) ((fr18 1 rfl).trans rfl) (W.pure (v := (.int .i64 (p1.size : Int))) rfl rfl (z1p (oo rfl rfl) un9) ?_))))))
 refine W.q2 (.int .i64 0) rfl (.nil ?_)
 obtain ⟨q37, h38, h39⟩ := z00 h28
 refine AW.midT (fun σ' H' => ∃ (y1 : List Int) (G' : GM), y1 = q37 /\ Ow G' H' (eSl v8 3 (rI .i64) y1 :: L) /\ GM.le G29 G') ?_ ?_
 .refine .block (AW.loop (α := Nat) (fun k' σ' H' => ∃ (y1 : List Int) (y2 : Int) (G' : GM), z3l K p1 x15 x26 k' y1 y2 = some q37 /\ Ow G' H' (eSl v8 3 (rI .i64) y1 :: L) /\ GM.le G29 G' /\ σ' 27 = .int .i64 y2) (fun k' => k') K ⟨x14, 0, _, h38, O30, (zAf _), rfl⟩ ?_)
  rintro k40
  rintro σ43 H44 fr45 ⟨x41, x42, G46, h49, O47, s48, t50⟩
  rcases k40 with _ | k40
  .exact z06 h49
  rw [z3l] at h49
  refine .seq (.region (W.q3 (.bool (decide (x42 < (p1.size : Int)))) t50 ((fr45 26 rfl).trans rfl) (.nil (.seq (.cond (b := decide (x42 < (p1.size : Int))) rfl rfl (fun g51 => ?_) (fun g51 => ?_))))))
  rotate_left
  .have h81 := z0g g51 h49
   refine .exit ?_
   obtain rfl := zAa h81
   exact ⟨x41, _, rfl, O47, s48⟩
  have h52 := z03 g51 h49
  refine .skip (.seq (.block (.seq (.region (W.q2 _ t50 (W.q1 (.int .i64 x42) rfl ?_))))))
  refine .nil (.draw2 (M := [0, 0, 0, 6, 15, 31, 0, 0, 0, 384, 960, 2047, 4095, 8191]) mixed (by kernel_rfl) (by kernel_rfl) fun H53 N57 x54 F56 => ?_)
  have O55 := O47.ext x54
  refine D2.q2 v8 ((fr45 5 rfl).trans ((fr18 5 rfl).trans rfl)) (D2.q2 (.int .i64 x15) ((fr45 6 rfl).trans rfl) (D2.q2 (.int .i64 x42) rfl (D2.q3 (.int .i64 (z04 .i64 (x15 + x42))) rfl rfl ?_)))
  obtain ⟨x58, i59, h60⟩ := z00 h52
  have j61 := z0d i59
  refine D2.pure (v := (z1k v8 (Int.toNat (z04 .i64 (x15 + x42)) * 1))) rfl rfl (z26 zcn sz3 (oo rfl rfl) (oo rfl rfl) (O55.slLen (j := 0) rfl) j61.1 j61.2.1) (D2.load1' (v := (.int .i64 x58)) (r := []) rfl rfl ag3 (z15 rfl (At.int (O55.atSl (j := 0) rfl j61.2.2))) z0b (D2.q2 (.int .i64 x26) ((fr45 7 rfl).trans rfl) (D2.q2 (.string p1) ((fr45 1 rfl).trans ((fr18 1 rfl).trans rfl)) (D2.q2 (.int .i64 x42) rfl ?_))))
  obtain ⟨x62, i63, h64⟩ := z00 h60
  refine D2.lo rfl rfl (Lo.cP rfl (fn := Tryz.f149) (by kernel_rfl) rfl (mc rfl (mc rfl mn)) O55 (fun L' O' => z5r K p1 x42 O' _ i63)) ?_ z0b ?_ ?_
  .rintro v71 H72 ⟨G65, O66, s67, sm70, rfl⟩; exact (faR1 (.inr (sm70 _ (Or.inr ⟨0, _, rfl, (O55.footSl (j := 0) rfl j61.2.2)⟩))) z0b)
  .rintro v71 H72 ⟨G65, O66, s67, sm70, rfl⟩; exact z0b
  rintro v71 H72 ⟨G65, O66, s67, sm70, rfl⟩
  refine D2.q3 (.int .i64 (z04 .i64 (x26 * x62))) rfl rfl (D2.q3 (.int .i64 (z04 .i64 (x58 + (z04 .i64 (x26 * x62))))) rfl rfl ?_)
  obtain ⟨x73, i74, h75⟩ := z00 h64
  have j76 := z0d i74
  refine D2.pure (v := (z1k v8 (Int.toNat (z04 .i64 (x15 + x42)) * 1))) rfl rfl (z26 zcn sz3 (oo rfl rfl) (oo rfl rfl) (O66.slLen (j := 0) rfl) j76.1 j76.2.1) (D2.lo rfl rfl (Lo.storeSl0 (j := 0) (y0 := z04 .i64 (x58 + (z04 .i64 (x26 * x62)))) (v := (.int .i64 (z04 .i64 (x58 + (z04 .i64 (x26 * x62)))))) rfl j76.2.2  rfl sz3 rfl rfl rfl O66) ?_ (z1i (by decide) z0b) ?_ ?_)
  .rintro v79 H80 ⟨O77, sm78⟩; exact (faR1 (.inl (by decide)) z0b)
  .rintro v79 H80 ⟨O77, sm78⟩; exact z0b
  rintro v79 H80 ⟨O77, sm78⟩
  refine .nil (.region (W.q3 (.int .i64 (z04 .i64 (x42 + 1))) t50 rfl (W.q2 (.int .i64 (z04 .i64 (x42 + 1))) rfl (.nil ?_))))
  exact ⟨k40, zAg _, ⟨(List.set x41 (Int.toNat (z04 .i64 (x15 + x42))) (z04 .i64 (x58 + (z04 .i64 (x26 * x62))))), z04 .i64 (x42 + 1), _, h75, O77, (zAe s48 s67), rfl⟩⟩
 rintro σ83 H84 fr85 ⟨x82, G86, rfl, O87, s88⟩
 have h90 := z09 h39
 refine .seq (.region (W.q2 v8 ((fr85 5 rfl).trans ((fr18 5 rfl).trans rfl)) (W.q2 v8 ((fr85 5 rfl).trans ((fr18 5 rfl).trans rfl)) (W.pure (v := (.int .i64 (List.length x82 : Int))) rfl rfl (z0f (oo rfl rfl) (O87.slLen (j := 0) rfl) (z02 zcn)) (W.q3 (.int .i64 (z04 .i64 ((List.length x82 : Int) - 1))) rfl rfl ?_)))))
 obtain ⟨x91, i92, h93⟩ := z00 h90
 obtain ⟨w94, e96, f97⟩ := O87.view (j := 0) rfl zcn sz3 i92
 refine W.pure (v := w94) rfl rfl (e96 (oo rfl rfl) (oo rfl rfl)) (W.pure (v := (.int .i64 (List.length x91 : Int))) rfl rfl (z0f (oo rfl rfl) f97 (z02 zcn)) (W.q2 (.int .i64 0) rfl (.nil ?_)))
 obtain ⟨q98, h99, h100⟩ := z00 h93
 refine AW.midT (fun σ' H' => ∃ (y1 : List Int) (G' : GM), y1 = q98 /\ Ow G' H' (eSl v8 3 (rI .i64) y1 :: L) /\ GM.le G86 G') ?_ ?_
 rotate_left
 .rintro σ168 H169 fr170 ⟨x167, G171, rfl, O172, s173⟩
  have h175 := z09 h100
  refine .region (W.q3 (.int .i64 (z04 .i64 (x15 + 1))) ((fr170 19 rfl).trans ((fr85 19 rfl).trans t23)) rfl (W.q2 (.int .i64 (z04 .i64 (x15 + 1))) rfl (.nil ?_)))
  exact ⟨k13, zAg _, ⟨x167, z04 .i64 (x15 + 1), _, h175, O172, (zAe s21 (zAe s31 (zAe s88 s173))), rfl⟩⟩
 refine .block (AW.loop (α := Nat) (fun k' σ' H' => ∃ (y1 : List Int) (y2 : Int) (G' : GM), z2y K x91 k' y1 y2 = some q98 /\ Ow G' H' (eSl v8 3 (rI .i64) y1 :: L) /\ GM.le G86 G' /\ σ' 50 = .int .i64 y2) (fun k' => k') K ⟨x82, 0, _, h99, O87, (zAf _), rfl⟩ ?_)
 rintro k101
 rintro σ104 H105 fr106 ⟨x102, x103, G107, h110, O108, s109, t111⟩
 rcases k101 with _ | k101
 .exact z06 h110
 rw [z2y] at h110
 refine .seq (.region (W.q3 (.bool (decide (x103 < (List.length x91 : Int)))) t111 ((fr106 49 rfl).trans rfl) (.nil (.seq (.cond (b := decide (x103 < (List.length x91 : Int))) rfl rfl (fun g112 => ?_) (fun g112 => ?_))))))
 rotate_left
 .have h166 := z0g g112 h110
  refine .exit ?_
  obtain rfl := zAa h166
  exact ⟨x102, _, rfl, O108, s109⟩
 have h113 := z03 g112 h110
 refine .skip (.seq ?_)
 obtain ⟨q114, h115, h116⟩ := z00 h113
 refine AW.midT (fun σ' H' => ∃ (y1 : List Int) (G' : GM), y1 = q114 /\ Ow G' H' (eSl v8 3 (rI .i64) y1 :: L) /\ GM.le G107 G') ?_ ?_
 rotate_left
 .rintro σ158 H159 fr160 ⟨x157, G161, rfl, O162, s163⟩
  have h165 := z09 h116
  refine .region (W.q3 (.int .i64 (z04 .i64 (x103 + 1))) ((fr160 50 rfl).trans t111) rfl (W.q2 (.int .i64 (z04 .i64 (x103 + 1))) rfl (.nil ?_)))
  exact ⟨k101, zAg _, ⟨x157, z04 .i64 (x103 + 1), _, h165, O162, (zAe s109 s163), rfl⟩⟩
 refine .block (.seq (.region (W.q2 _ t111 (W.q1 (.int .i64 x103) rfl (.nil (.seq ?_))))))
 refine .region (W.q2 v8 ((fr106 5 rfl).trans ((fr85 5 rfl).trans ((fr18 5 rfl).trans rfl))) (W.q2 (.int .i64 x103) rfl ?_))
 obtain ⟨x117, i118, h119⟩ := z00 h115
 have j120 := z0d i118
 refine W.pure (v := (z1k v8 (Int.toNat x103 * 1))) rfl rfl (z26 zcn sz3 (oo rfl rfl) (oo rfl rfl) (O108.slLen (j := 0) rfl) j120.1 j120.2.1) (W.load1 (v := (.int .i64 x117)) (r := []) rfl rfl ag3 (z15 rfl (At.int (O108.atSl (j := 0) rfl j120.2.2))) (W.q3 (.bool (decide (x117 > 9))) rfl rfl (.nil (.cond (b := decide (x117 > 9)) rfl rfl (fun g121 => ?_) (fun g121 => ?_)))))
 rotate_left
 .have h156 := z0g g121 h119
  refine .skip ?_
  obtain rfl := zAa h156
  exact ⟨x102, _, rfl, O108, (zAf _)⟩
 have h122 := z03 g121 h119
 refine .seq (.draw2 (M := [0, 0, 2, 7, 15, 0, 0, 96, 224, 480, 1023, 2047, 4095]) mixed (by kernel_rfl) (by kernel_rfl) fun H123 N127 x124 F126 => ?_)
 have O125 := O108.ext x124
 refine D2.q2 v8 ((fr106 5 rfl).trans ((fr85 5 rfl).trans ((fr18 5 rfl).trans rfl))) (D2.q2 (.int .i64 x103) rfl (D2.q3 (.int .i64 (z04 .i64 (x103 + 1))) rfl rfl ?_))
 obtain ⟨x128, i129, h130⟩ := z00 h122
 have j131 := z0d i129
 refine D2.pure (v := (z1k v8 (Int.toNat (z04 .i64 (x103 + 1)) * 1))) rfl rfl (z26 zcn sz3 (oo rfl rfl) (oo rfl rfl) (O125.slLen (j := 0) rfl) j131.1 j131.2.1) (D2.load1' (v := (.int .i64 x128)) (r := []) rfl rfl ag3 (z15 rfl (At.int (O125.atSl (j := 0) rfl j131.2.2))) z0b (D2.q2 v8 ((fr106 5 rfl).trans ((fr85 5 rfl).trans ((fr18 5 rfl).trans rfl))) (D2.q2 (.int .i64 x103) rfl ?_)))
 obtain ⟨x132, i133, h134⟩ := z00 h130
 have j135 := z0d i133
 refine D2.pure (v := (z1k v8 (Int.toNat x103 * 1))) rfl rfl (z26 zcn sz3 (oo rfl rfl) (oo rfl rfl) (O125.slLen (j := 0) rfl) j135.1 j135.2.1) (D2.load1' (v := (.int .i64 x132)) (r := []) rfl rfl ag3 (z15 rfl (At.int (O125.atSl (j := 0) rfl j135.2.2))) z0b (D2.pure (v := (.int .i64 (z04 .i64 (Int.tdiv x132 10)))) rfl rfl (zi0 (by decide) (oo rfl rfl) (oo rfl rfl)) (D2.q3 (.int .i64 (z04 .i64 (x128 + (z04 .i64 (Int.tdiv x132 10))))) rfl rfl ?_)))
 obtain ⟨x136, i137, h138⟩ := z00 h134
 have j139 := z0d i137
 refine D2.pure (v := (z1k v8 (Int.toNat (z04 .i64 (x103 + 1)) * 1))) rfl rfl (z26 zcn sz3 (oo rfl rfl) (oo rfl rfl) (O125.slLen (j := 0) rfl) j139.1 j139.2.1) (D2.lo rfl rfl (Lo.storeSl0 (j := 0) (y0 := z04 .i64 (x128 + (z04 .i64 (Int.tdiv x132 10)))) (v := (.int .i64 (z04 .i64 (x128 + (z04 .i64 (Int.tdiv x132 10)))))) rfl j139.2.2  rfl sz3 rfl rfl rfl O125) ?_ z0b ?_ ?_)
 .rintro v142 H143 ⟨O140, sm141⟩; exact (faR1 (.inl (by decide)) (faR1 (.inl (by decide)) z0b))
 .rintro v142 H143 ⟨O140, sm141⟩; exact z0b
 rintro v142 H143 ⟨O140, sm141⟩
 refine .nil (.region (W.q2 v8 ((fr106 5 rfl).trans ((fr85 5 rfl).trans ((fr18 5 rfl).trans rfl))) (W.q2 (.int .i64 x103) rfl ?_)))
 obtain ⟨x144, i145, h146⟩ := z00 h138
 have j147 := z0d i145
 refine W.pure (v := (z1k v8 (Int.toNat x103 * 1))) rfl rfl (z26 zcn sz3 (oo rfl rfl) (oo rfl rfl) (O140.slLen (j := 0) rfl) j147.1 j147.2.1) (W.load1 (v := (.int .i64 x144)) (r := []) rfl rfl ag3 (z15 rfl (At.int (O140.atSl (j := 0) rfl j147.2.2))) (W.pure (v := (.int .i64 (Int.tmod x144 10))) rfl rfl (zje (by decide) (oo rfl rfl) (oo rfl rfl)) ?_))
 obtain ⟨x148, i149, h150⟩ := z00 h146
 have j151 := z0d i149
 refine W.pure (v := (z1k v8 (Int.toNat x103 * 1))) rfl rfl (z26 zcn sz3 (oo rfl rfl) (oo rfl rfl) (O140.slLen (j := 0) rfl) j151.1 j151.2.1) (W.lo rfl rfl (Lo.storeSl0 (j := 0) (y0 := Int.tmod x144 10) (v := (.int .i64 (Int.tmod x144 10))) rfl j151.2.2  rfl sz3 rfl rfl rfl O140) ?_)
 rintro v154 H155 ⟨O152, sm153⟩
 refine .nil ?_
 obtain rfl := zAa h150
 exact ⟨(List.set (List.set x102 (Int.toNat (z04 .i64 (x103 + 1))) (z04 .i64 (x128 + (z04 .i64 (Int.tdiv x132 10))))) (Int.toNat x103) (Int.tmod x144 10)), _, rfl, O152, (zAf _)⟩
def z2n (K : Nat) (p0 : zAd) (p1 : zAd) : Nat -> List Int -> Int -> Int -> Option (List Int)
  | 0, _, _, _ => none
  | k + 1, x6, x7, x8 => (Option.bind ((if (decide (x8 < (p0.size : Int))) = true then some true else (if (decide (x8 < (p1.size : Int))) = true then some true else some (decide (x7 > 0))))) (tu1 fun x29 => (if x29 = true then ((z5z K p0 x8).bind fun x41 => ((z5z K p1 x8).bind fun x52 => (if List.length x6 + List.length [Int.tmod (z04 .i64 ((z04 .i64 (x41 + x52)) + x7)) 10] <= 16777216 then (lt (z04 .i64 (Int.tdiv (z04 .i64 ((z04 .i64 (x41 + x52)) + x7)) 10)) fun x76 => z2n K p0 p1 k (x6 ++ [Int.tmod (z04 .i64 ((z04 .i64 (x41 + x52)) + x7)) 10]) x76 (z04 .i64 (x8 + 1))) else none))) else some x6)))
def z8o (K : Nat) (p0 : zAd) (p1 : zAd) : Option zAd := (Option.bind (z2n K p0 p1 K [] 0 0) (tu1 fun x81 => ((z9f K x81).bind fun x90 => some x90)))
theorem zef (p0 : zAd) (p1 : zAd) (O : Ow G H (L)) (r : zAd) (h : z8o K p0 p1 = some r) :
    CR Tryz.prog 96 [(.string p0), (.string p1)] G H (L) (fun v G' _ => v = .string r) := by
 unfold z8o at h
 refine CR.og (n := 43) (fn := Tryz.f96) (by kernel_rfl) rfl rfl fun R kr => (.seq (.region (W.q1 (.string (⟨#[]⟩ : zAd)) rfl (.nil (.seq (.region ?_))))))
 refine W.q1 (.slice none 0 0) rfl (.nil (.seq (.region (W.q1 (.int .i64 0) rfl (.nil (.seq ?_))))))
 refine .seq (.region (W.q1 (.int .i64 0) rfl (.nil ?_)))
 obtain ⟨q1, h2, h3⟩ := z00 h
 refine AW.midT (fun σ' H' => ∃ (y1 : List Int) (G' : GM), y1 = q1 /\ Ow G' H' (eSl (σ' 5) 3 (rI .i64) y1 :: L) /\ GM.le G G') ?_ ?_
 rotate_left
 .rintro σ82 H83 fr84 ⟨x81, G85, rfl, O86, s87⟩
  have h89 := z09 h3
  refine .seq (.region (W.q2 (σ82 5) rfl ?_))
  obtain ⟨x90, i91, h92⟩ := z00 h89
  refine W.lo rfl rfl (Lo.callB (j := 0) rfl rfl (fn := Tryz.f150) (by kernel_rfl) rfl (mc rfl mn) O86 (fun G' L' hG O' hB => zaj K (σ82 5) x81 hB O' _ i91)) ?_
  rintro v99 H100 ⟨G93, O94, s95, sm98, rfl⟩
  refine W.q1 (.string x90) rfl (.nil (.ret ?_))
  have O101 : Ow G93 H100 (L) := O94.drop 0
  obtain rfl := zAa h92
  exact z1h kr (v1 := (.string x90)) (by rfl) (z07 (by rfl) (by exact rfl)) O101 (zAe s87 s95) rfl
 refine .block ?_
 have O4 := O.nilSl 3 (rI .i64)
 refine AW.loop (α := Nat) (fun k' σ' H' => ∃ (y1 : List Int) (y2 : Int) (y3 : Int) (G' : GM), z2n K p0 p1 k' y1 y2 y3 = some q1 /\ Ow G' H' (eSl (σ' 5) 3 (rI .i64) y1 :: L) /\ GM.le G G' /\ σ' 6 = .int .i64 y2 /\ σ' 7 = .int .i64 y3) (fun k' => k') K ⟨[], 0, 0, _, h2, O4, (zAf _), rfl, rfl⟩ ?_
 rintro k5
 rintro σ9 H10 fr11 ⟨x6, x7, x8, G12, h15, O13, s14, t16, t17⟩
 rcases k5 with _ | k5
 .exact z06 h15
 rw [z2n] at h15
 refine .seq (.seq ?_)
 obtain ⟨q18, h19, h20⟩ := z00 h15
 refine AW.midT (fun σ' H' => ∃ (y1 : Bool) (G' : GM), y1 = q18 /\ Ow G' H' (eSl (σ9 5) 3 (rI .i64) x6 :: L) /\ GM.le G12 G' /\ σ' 22 = .bool y1) ?_ ?_
 .refine .region (W.q2 _ t17 (W.q2 (.string p0) ((fr11 0 rfl).trans rfl) (W.pure (v := (.int .i64 (p0.size : Int))) rfl rfl (z1p (oo rfl rfl) un9) (W.q3 (.bool (decide (x8 < (p0.size : Int)))) rfl rfl (W.q2 (.bool (decide (x8 < (p0.size : Int)))) rfl (W.splitAt (t := 13) (b := decide (x8 < (p0.size : Int))) rfl (fun g21 gv22 => ?_) (fun g21 gv22 => ?_)))))))
  .have h23 := z03 g21 h19
   refine W.q6 rfl gv22 (W.q6 rfl gv22 (W.q6 rfl gv22 (W.q6 rfl gv22 (W.q4 (.bool true) gv22 rfl (W.q2 (.bool true) rfl (W.q6 rfl rfl ?_))))))
   refine W.q6 rfl rfl (W.q4 (.bool true) rfl rfl (.nil ?_))
   obtain rfl := zAa h23
   exact ⟨true, _, rfl, O13, (zAf _), rfl⟩
  have h24 := z0g g21 h19
  refine W.q2 (hg := gk rfl rfl gv22 rfl) _ t17 (W.q2 (hg := gk rfl rfl gv22 rfl) (.string p1) ((fr11 1 rfl).trans rfl) (W.pure (v := (.int .i64 (p1.size : Int))) (gk rfl rfl gv22 rfl) rfl (z1p (oo rfl rfl) un9) (W.q3 (hg := gk rfl rfl gv22 rfl) (.bool (decide (x8 < (p1.size : Int)))) rfl rfl (W.q5 (.bool (decide (x8 < (p1.size : Int)))) gv22 rfl (W.q2 (.bool (decide (x8 < (p1.size : Int)))) rfl (W.splitAt (t := 19) (b := decide (x8 < (p1.size : Int))) rfl (fun g25 gv26 => ?_) (fun g25 gv26 => ?_)))))))
  .have h27 := z03 g25 h24
   refine W.q6 rfl gv26 (W.q6 rfl gv26 (W.q4 (.bool true) gv26 rfl (.nil ?_)))
   obtain rfl := zAa h27
   exact ⟨true, _, rfl, O13, (zAf _), rfl⟩
  have h28 := z0g g25 h24
  refine W.q2 (hg := gk rfl rfl gv26 rfl) _ t16 (W.q3 (hg := gk rfl rfl gv26 rfl) (.bool (decide (x7 > 0))) rfl rfl (W.q5 (.bool (decide (x7 > 0))) gv26 rfl (.nil ?_)))
  obtain rfl := zAa h28
  exact ⟨decide (x7 > 0), _, rfl, O13, (zAf _), rfl⟩
 rintro σ30 H31 fr32 ⟨x29, G33, rfl, O34, s35, t37⟩
 have h38 := z09 h20
 refine .cond (b := x29) rfl t37 (fun g39 => ?_) (fun g39 => ?_)
 rotate_left
 .have h80 := z0g g39 h38
  refine .exit ?_
  obtain rfl := zAa h80
  exact ⟨x6, _, rfl, (Ow.reval (j := 0) O34 rfl ((fr32 5 rfl).trans rfl)), (zAe s14 s35)⟩
 have h40 := z03 g39 h38
 refine .skip (.seq (.block (.seq (.region (W.q2 (.string p0) ((fr32 0 rfl).trans ((fr11 0 rfl).trans rfl)) (W.q2 _ ((fr32 7 rfl).trans t17) ?_))))))
 obtain ⟨x41, i42, h43⟩ := z00 h40
 refine W.lo rfl rfl (Lo.cP rfl (fn := Tryz.f149) (by kernel_rfl) rfl (mc rfl (mc rfl mn)) O34 (fun L' O' => z5r K p0 x8 O' _ i42)) ?_
 rintro v50 H51 ⟨G44, O45, s46, sm49, rfl⟩
 refine W.q2 (.string p1) ((fr32 1 rfl).trans ((fr11 1 rfl).trans rfl)) (W.q2 _ ((fr32 7 rfl).trans t17) ?_)
 obtain ⟨x52, i53, h54⟩ := z00 h43
 refine W.lo rfl rfl (Lo.cP rfl (fn := Tryz.f149) (by kernel_rfl) rfl (mc rfl (mc rfl mn)) O45 (fun L' O' => z5r K p1 x8 O' _ i53)) ?_
 rintro v61 H62 ⟨G55, O56, s57, sm60, rfl⟩
 refine W.q3 (.int .i64 (z04 .i64 (x41 + x52))) rfl rfl (W.q2 _ ((fr32 6 rfl).trans t16) (W.q3 (.int .i64 (z04 .i64 ((z04 .i64 (x41 + x52)) + x7))) rfl rfl (W.q1 (.int .i64 (z04 .i64 ((z04 .i64 (x41 + x52)) + x7))) rfl (.nil (.seq (.region ?_))))))
 refine W.q2 (σ9 5) ((fr32 5 rfl).trans rfl) (W.q2 (.int .i64 (z04 .i64 ((z04 .i64 (x41 + x52)) + x7))) rfl (W.pure (v := (.int .i64 (Int.tmod (z04 .i64 ((z04 .i64 (x41 + x52)) + x7)) 10))) rfl rfl (zje (by decide) (oo rfl rfl) (oo rfl rfl)) (W.lo rfl rfl (Lo.buildSlice (r := (rI .i64)) (vs := [(.int .i64 (Int.tmod (z04 .i64 ((z04 .i64 (x41 + x52)) + x7)) 10))]) (xs := [Int.tmod (z04 .i64 ((z04 .i64 (x41 + x52)) + x7)) 10]) zcn ze3 sz3 (by kernel_rfl) rfl (qc rfl qn) rfl (.cons rfl .nil) O56) ?_)))
 rintro v65 H66 ⟨O63, sm64⟩
 obtain ⟨es68, e69, e70⟩ := z4n (j := 0) rfl O63
 obtain ⟨g71, h72⟩ := z2p h54
 refine W.lo rfl rfl (Lo.append (j := 1) (v := (σ9 5)) rfl rfl zcn zos ze3 sz3 by3 (by decide) (by decide) rfl e69 e70 g71 O63) ?_
 rintro v74 H75 ⟨O67, sm73⟩
 refine W.q1 v74 rfl (.nil (.region (W.q2 (.int .i64 (z04 .i64 ((z04 .i64 (x41 + x52)) + x7))) rfl (W.pure (v := (.int .i64 (z04 .i64 (Int.tdiv (z04 .i64 ((z04 .i64 (x41 + x52)) + x7)) 10)))) rfl rfl (zi0 (by decide) (oo rfl rfl) (oo rfl rfl)) ?_))))
 obtain ⟨x76, e77, h78⟩ := z7b h72
 refine W.q1 _ (congrArg (Value.int .i64) e77) (.nil (.region (W.q2 _ ((fr32 7 rfl).trans t17) (W.q3 (.int .i64 (z04 .i64 (x8 + 1))) rfl rfl (W.q1 (.int .i64 (z04 .i64 (x8 + 1))) rfl (.nil ?_))))))
 have O79 : Ow G55 H75 (eSl v74 3 (rI .i64) (x6 ++ [Int.tmod (z04 .i64 ((z04 .i64 (x41 + x52)) + x7)) 10]) :: L) := O67.drop 0
 exact ⟨k5, zAg _, ⟨(x6 ++ [Int.tmod (z04 .i64 ((z04 .i64 (x41 + x52)) + x7)) 10]), x76, z04 .i64 (x8 + 1), _, h78, O79, (zAe s14 (zAe s35 (zAe s46 s57))), rfl, rfl⟩⟩
def z80 (K : Nat) (p0 : Bool) (p1 : zAd) (p2 : zAd) : Option zAd := (if (sEq p1 (⟨#[48]⟩ : zAd)) = true then some (⟨#[48]⟩ : zAd) else ((z7n K p1 p2).bind fun x4 => ((z6x K p1 x4).bind fun x15 => ((z6x K p2 x4).bind fun x26 => (Option.bind ((if p0 = true then (if ((⟨#[45]⟩ : zAd)).size + (x15.1).size <= 4611686018427387904 then some ((⟨#[45]⟩ : zAd) ++ x15.1) else none) else some x15.1)) (tu1 fun x45 => (if (sEq x26.1 (⟨#[49]⟩ : zAd)) = true then some x45 else (if (x45).size + ((⟨#[47]⟩ : zAd)).size <= 4611686018427387904 then (if ((x45 ++ (⟨#[47]⟩ : zAd))).size + (x26.1).size <= 4611686018427387904 then some ((x45 ++ (⟨#[47]⟩ : zAd)) ++ x26.1) else none) else none))))))))
theorem z9g (p0 : Bool) (p1 : zAd) (p2 : zAd) (O : Ow G H (L)) (r : zAd) (h : z80 K p0 p1 p2 = some r) :
    CR Tryz.prog 95 [(.bool p0), (.string p1), (.string p2)] G H (L) (fun v G' _ => v = .string r) := by
 unfold z80 at h
 refine CR.og (n := 35) (fn := Tryz.f95) (by kernel_rfl) rfl rfl fun R kr => (.seq (.region (W.q1 (.string (⟨#[]⟩ : zAd)) rfl (.nil (.seq (.seq ?_))))))
 refine .region (W.q2 (.string p1) rfl (W.pure (v := (.bool (sEq p1 (⟨#[48]⟩ : zAd)))) rfl rfl (z9c (oo rfl rfl) (oo rfl rfl)) (.nil (.cond (b := sEq p1 (⟨#[48]⟩ : zAd)) rfl rfl (fun g1 => ?_) (fun g1 => ?_)))))
 .have h2 := z03 g1 h
  refine .seq (.region (W.q1 (.string (⟨#[48]⟩ : zAd)) rfl (.nil (.ret ?_))))
  obtain rfl := zAa h2
  exact z1h kr (v1 := (.string (⟨#[48]⟩ : zAd))) (by rfl) (z07 (by rfl) (by exact rfl)) O (zAf _) rfl
 have h3 := z0g g1 h
 refine .skip (.seq (.region (W.q2 (.string p1) rfl (W.q2 (.string p2) rfl ?_))))
 obtain ⟨x4, i5, h6⟩ := z00 h3
 refine W.lo rfl rfl (Lo.cP rfl (fn := Tryz.f60) (by kernel_rfl) rfl (mc rfl (mc rfl mn)) O (fun L' O' => zav K p1 p2 O' _ i5)) ?_
 rintro v13 H14 ⟨G7, O8, s9, sm12, rfl⟩
 refine W.q1 (.string x4) rfl (.nil (.seq (.region (W.q2 (.string p1) rfl (W.q2 (.string x4) rfl ?_)))))
 obtain ⟨x15, i16, h17⟩ := z00 h6
 refine W.lo rfl rfl (Lo.cP rfl (fn := Tryz.f129) (by kernel_rfl) rfl (mc rfl (mc rfl mn)) O8 (fun L' O' => z8n K p1 x4 O' _ i16)) ?_
 rintro v24 H25 ⟨G18, O19, s20, sm23, rfl⟩
 refine W.q2 (.tuple #[(.string x15.1), (.string x15.2)]) rfl (W.pure (v := (.string x15.1)) rfl rfl (z08 (oo rfl rfl) rfl) (W.pure (v := (.string x15.2)) rfl rfl (z08 (oo rfl rfl) rfl) (W.q1 (.string x15.1) rfl (.nil (.seq (.region ?_))))))
 refine W.q2 (.string p2) rfl (W.q2 (.string x4) rfl ?_)
 obtain ⟨x26, i27, h28⟩ := z00 h17
 refine W.lo rfl rfl (Lo.cP rfl (fn := Tryz.f129) (by kernel_rfl) rfl (mc rfl (mc rfl mn)) O19 (fun L' O' => z8n K p2 x4 O' _ i27)) ?_
 rintro v35 H36 ⟨G29, O30, s31, sm34, rfl⟩
 refine W.q2 (.tuple #[(.string x26.1), (.string x26.2)]) rfl (W.pure (v := (.string x26.1)) rfl rfl (z08 (oo rfl rfl) rfl) (W.pure (v := (.string x26.2)) rfl rfl (z08 (oo rfl rfl) rfl) (W.q1 (.string x26.1) rfl (.nil (.seq (.seq ?_))))))
 refine .region (W.q2 (.bool p0) rfl (.nil ?_))
 obtain ⟨q37, h38, h39⟩ := z00 h28
 refine AW.midT (fun σ' H' => ∃ (y1 : zAd) (G' : GM), y1 = q37 /\ Ow G' H' (L) /\ GM.le G29 G' /\ σ' 1 = .string y1) ?_ ?_
 .refine .cond (b := p0) rfl rfl (fun g40 => ?_) (fun g40 => ?_)
  rotate_left
  .have h44 := z0g g40 h38
   refine .skip ?_
   obtain rfl := zAa h44
   exact ⟨x15.1, _, rfl, O30, (zAf _), rfl⟩
  have h41 := z03 g40 h38
  refine .region (W.q2 (.string x15.1) rfl ?_)
  obtain ⟨g42, h43⟩ := z2p h41
  refine W.pure (v := (.string ((⟨#[45]⟩ : zAd) ++ x15.1))) rfl rfl (zc6 g42 (oo rfl rfl) (oo rfl rfl)) (W.q1 (.string ((⟨#[45]⟩ : zAd) ++ x15.1)) rfl (.nil ?_))
  obtain rfl := zAa h43
  exact ⟨((⟨#[45]⟩ : zAd) ++ x15.1), _, rfl, O30, (zAf _), rfl⟩
 rintro σ46 H47 fr48 ⟨x45, G49, rfl, O50, s51, t53⟩
 have h54 := z09 h39
 refine .seq (.seq (.region (W.q2 (.string x26.1) ((fr48 2 rfl).trans rfl) (W.pure (v := (.bool (sEq x26.1 (⟨#[49]⟩ : zAd)))) rfl rfl (z9c (oo rfl rfl) (oo rfl rfl)) (.nil (.cond (b := sEq x26.1 (⟨#[49]⟩ : zAd)) rfl rfl (fun g55 => ?_) (fun g55 => ?_)))))))
 .have h56 := z03 g55 h54
  refine .seq (.region (W.q2 _ t53 (W.q1 (.string x45) rfl (.nil (.ret ?_)))))
  obtain rfl := zAa h56
  exact z1h kr (v1 := (.string x45)) (by rfl) (z07 (by rfl) (by exact rfl)) O50 (zAe s9 (zAe s20 (zAe s31 s51))) rfl
 have h57 := z0g g55 h54
 refine .skip (.seq (.region (W.q2 _ t53 ?_)))
 obtain ⟨g58, h59⟩ := z2p h57
 refine W.pure (v := (.string (x45 ++ (⟨#[47]⟩ : zAd)))) rfl rfl (zc6 g58 (oo rfl rfl) (oo rfl rfl)) (W.q2 (.string x26.1) ((fr48 2 rfl).trans rfl) ?_)
 obtain ⟨g60, h61⟩ := z2p h59
 refine W.pure (v := (.string ((x45 ++ (⟨#[47]⟩ : zAd)) ++ x26.1))) rfl rfl (zc6 g60 (oo rfl rfl) (oo rfl rfl)) (W.q1 (.string ((x45 ++ (⟨#[47]⟩ : zAd)) ++ x26.1)) rfl (.nil (.ret ?_)))
 obtain rfl := zAa h61
 exact z1h kr (v1 := (.string ((x45 ++ (⟨#[47]⟩ : zAd)) ++ x26.1))) (by rfl) (z07 (by rfl) (by exact rfl)) O50 (zAe s9 (zAe s20 (zAe s31 s51))) rfl
def z7p (K : Nat) (p0 : zAd) (p1 : zAd) : Option zAd := ((z6g K p0).bind fun x1 => ((z6g K p1).bind fun x12 => ((z5e K x1.2.1 x12.2.2).bind fun x23 => ((z5e K x12.2.1 x1.2.2).bind fun x34 => ((z5e K x1.2.2 x12.2.2).bind fun x45 => (if (x1.1 == x12.1) = true then ((z8o K x23 x34).bind fun x58 => ((z80 K x1.1 x58 x45).bind fun x69 => some x69)) else ((z7l K x23 x34).bind fun x81 => (Option.bind ((if (decide (x81 < 0)) = true then some (x12.1, x34, x23) else some (x1.1, x23, x34))) (tu3 fun x98 x99 x100 => ((z7m K x99 x100).bind fun x112 => ((z80 K x98 x112 x45).bind fun x123 => some x123)))))))))))
theorem zeg (p0 : zAd) (p1 : zAd) (O : Ow G H (L)) (r : zAd) (h : z7p K p0 p1 = some r) :
    CR Tryz.prog 41 [(.string p0), (.string p1)] G H (L) (fun v G' _ => v = .string r) := by
 unfold z7p at h
 refine CR.og (n := 57) (fn := Tryz.f41) (by kernel_rfl) rfl rfl fun R kr => (.seq (.region (W.q1 (.string (⟨#[]⟩ : zAd)) rfl (.nil (.seq (.region ?_))))))
 refine W.q2 (.string p0) rfl ?_
 obtain ⟨x1, i2, h3⟩ := z00 h
 refine W.lo rfl rfl (Lo.cP rfl (fn := Tryz.f61) (by kernel_rfl) rfl (mc rfl mn) O (fun L' O' => z7z K p0 O' _ i2)) ?_
 rintro v10 H11 ⟨G4, O5, s6, sm9, rfl⟩
 refine W.q2 (.tuple #[(.bool x1.1), (.string x1.2.1), (.string x1.2.2)]) rfl (W.pure (v := (.bool x1.1)) rfl rfl (z08 (oo rfl rfl) rfl) (W.pure (v := (.string x1.2.1)) rfl rfl (z08 (oo rfl rfl) rfl) (W.pure (v := (.string x1.2.2)) rfl rfl (z08 (oo rfl rfl) rfl) (W.q1 (.bool x1.1) rfl (W.q1 (.string x1.2.1) rfl (W.q1 (.string x1.2.2) rfl ?_))))))
 refine .nil (.seq (.region (W.q2 (.string p1) rfl ?_)))
 obtain ⟨x12, i13, h14⟩ := z00 h3
 refine W.lo rfl rfl (Lo.cP rfl (fn := Tryz.f61) (by kernel_rfl) rfl (mc rfl mn) O5 (fun L' O' => z7z K p1 O' _ i13)) ?_
 rintro v21 H22 ⟨G15, O16, s17, sm20, rfl⟩
 refine W.q2 (.tuple #[(.bool x12.1), (.string x12.2.1), (.string x12.2.2)]) rfl (W.pure (v := (.bool x12.1)) rfl rfl (z08 (oo rfl rfl) rfl) (W.pure (v := (.string x12.2.1)) rfl rfl (z08 (oo rfl rfl) rfl) (W.pure (v := (.string x12.2.2)) rfl rfl (z08 (oo rfl rfl) rfl) (W.q1 (.bool x12.1) rfl (W.q1 (.string x12.2.1) rfl (W.q1 (.string x12.2.2) rfl ?_))))))
 refine .nil (.seq (.region (W.q2 (.string x1.2.1) rfl (W.q2 (.string x12.2.2) rfl ?_))))
 obtain ⟨x23, i24, h25⟩ := z00 h14
 refine W.lo rfl rfl (Lo.cP rfl (fn := Tryz.f94) (by kernel_rfl) rfl (mc rfl (mc rfl mn)) O16 (fun L' O' => z67 K x1.2.1 x12.2.2 O' _ i24)) ?_
 rintro v32 H33 ⟨G26, O27, s28, sm31, rfl⟩
 refine W.q2 (.string x12.2.1) rfl (W.q2 (.string x1.2.2) rfl ?_)
 obtain ⟨x34, i35, h36⟩ := z00 h25
 refine W.lo rfl rfl (Lo.cP rfl (fn := Tryz.f94) (by kernel_rfl) rfl (mc rfl (mc rfl mn)) O27 (fun L' O' => z67 K x12.2.1 x1.2.2 O' _ i35)) ?_
 rintro v43 H44 ⟨G37, O38, s39, sm42, rfl⟩
 refine W.q2 (.string x1.2.2) rfl (W.q2 (.string x12.2.2) rfl ?_)
 obtain ⟨x45, i46, h47⟩ := z00 h36
 refine W.lo rfl rfl (Lo.cP rfl (fn := Tryz.f94) (by kernel_rfl) rfl (mc rfl (mc rfl mn)) O38 (fun L' O' => z67 K x1.2.2 x12.2.2 O' _ i46)) ?_
 rintro v54 H55 ⟨G48, O49, s50, sm53, rfl⟩
 refine W.q1 (.string x23) rfl (W.q1 (.string x34) rfl (W.q1 (.string x45) rfl (.nil (.seq (.seq (.region ?_))))))
 refine W.q2 (.bool x1.1) rfl (W.q2 (.bool x12.1) rfl (W.pure (v := (.bool (x1.1 == x12.1))) rfl rfl (zhu (oo rfl rfl) (oo rfl rfl) un4) (.nil (.cond (b := (x1.1 == x12.1)) rfl rfl (fun g56 => ?_) (fun g56 => ?_)))))
 .have h57 := z03 g56 h47
  refine .seq (.region (W.q2 (.bool x1.1) rfl (W.q2 (.string x23) rfl (W.q2 (.string x34) rfl ?_))))
  obtain ⟨x58, i59, h60⟩ := z00 h57
  refine W.lo rfl rfl (Lo.cP rfl (fn := Tryz.f96) (by kernel_rfl) rfl (mc rfl (mc rfl mn)) O49 (fun L' O' => zef K x23 x34 O' _ i59)) ?_
  rintro v67 H68 ⟨G61, O62, s63, sm66, rfl⟩
  refine W.q2 (.string x45) rfl ?_
  obtain ⟨x69, i70, h71⟩ := z00 h60
  refine W.lo rfl rfl (Lo.cP rfl (fn := Tryz.f95) (by kernel_rfl) rfl (mc rfl (mc rfl (mc rfl mn))) O62 (fun L' O' => z9g K x1.1 x58 x45 O' _ i70)) ?_
  rintro v78 H79 ⟨G72, O73, s74, sm77, rfl⟩
  refine W.q1 (.string x69) rfl (.nil (.ret ?_))
  obtain rfl := zAa h71
  exact z1h kr (v1 := (.string x69)) (by rfl) (z07 (by rfl) (by exact rfl)) O73 (zAe s6 (zAe s17 (zAe s28 (zAe s39 (zAe s50 (zAe s63 s74)))))) rfl
 have h80 := z0g g56 h47
 refine .skip (.seq (.seq (.region (W.q2 (.string x23) rfl (W.q2 (.string x34) rfl ?_)))))
 obtain ⟨x81, i82, h83⟩ := z00 h80
 refine W.lo rfl rfl (Lo.cP rfl (fn := Tryz.f97) (by kernel_rfl) rfl (mc rfl (mc rfl mn)) O49 (fun L' O' => zat K x23 x34 O' _ i82)) ?_
 rintro v90 H91 ⟨G84, O85, s86, sm89, rfl⟩
 refine W.q3 (.bool (decide (x81 < 0))) rfl rfl (.nil ?_)
 obtain ⟨q92, h93, h94⟩ := z00 h83
 refine AW.midT (fun σ' H' => ∃ (y1 : Bool) (y2 : zAd) (y3 : zAd) (G' : GM), (y1, y2, y3) = q92 /\ Ow G' H' (L) /\ GM.le G84 G' /\ σ' 5 = .bool y1 /\ σ' 11 = .string y2 /\ σ' 12 = .string y3) ?_ ?_
 .refine .cond (b := decide (x81 < 0)) rfl rfl (fun g95 => ?_) (fun g95 => ?_)
  rotate_left
  .have h97 := z0g g95 h93
   refine .skip ?_
   obtain rfl := zAa h97
   exact ⟨x1.1, x23, x34, _, rfl, O85, (zAf _), rfl, rfl, rfl⟩
  have h96 := z03 g95 h93
  refine .region (W.q2 (.string x34) rfl (W.q2 (.string x23) rfl (W.q2 (.bool x12.1) rfl (W.q1 (.string x34) rfl (W.q1 (.string x23) rfl (W.q1 (.bool x12.1) rfl ?_))))))
  refine .nil ?_
  obtain rfl := zAa h96
  exact ⟨x12.1, x34, x23, _, rfl, O85, (zAf _), rfl, rfl, rfl⟩
 rintro σ101 H102 fr103 ⟨x98, x99, x100, G104, rfl, O105, s106, t108, t109, t110⟩
 have h111 := zfo h94
 refine .seq (.region (W.q2 _ t108 (W.q2 _ t109 (W.q2 _ t110 ?_))))
 obtain ⟨x112, i113, h114⟩ := z00 h111
 refine W.lo rfl rfl (Lo.cP rfl (fn := Tryz.f98) (by kernel_rfl) rfl (mc rfl (mc rfl mn)) O105 (fun L' O' => zau K x99 x100 O' _ i113)) ?_
 rintro v121 H122 ⟨G115, O116, s117, sm120, rfl⟩
 refine W.q2 (.string x45) ((fr103 13 rfl).trans rfl) ?_
 obtain ⟨x123, i124, h125⟩ := z00 h114
 refine W.lo rfl rfl (Lo.cP rfl (fn := Tryz.f95) (by kernel_rfl) rfl (mc rfl (mc rfl (mc rfl mn))) O116 (fun L' O' => z9g K x98 x112 x45 O' _ i124)) ?_
 rintro v132 H133 ⟨G126, O127, s128, sm131, rfl⟩
 refine W.q1 (.string x123) rfl (.nil (.ret ?_))
 obtain rfl := zAa h125
 exact z1h kr (v1 := (.string x123)) (by rfl) (z07 (by rfl) (by exact rfl)) O127 (zAe s6 (zAe s17 (zAe s28 (zAe s39 (zAe s50 (zAe s86 (zAe s106 (zAe s117 s128)))))))) rfl
def z7q (K : Nat) (p0 : zAd) (p1 : zAd) : Option zAd := ((z6g K p0).bind fun x1 => ((z6g K p1).bind fun x12 => ((z5e K x1.2.1 x12.2.1).bind fun x23 => ((z5e K x1.2.2 x12.2.2).bind fun x34 => ((z80 K (!(x1.1 == x12.1)) x23 x34).bind fun x45 => some x45)))))
theorem zeh (p0 : zAd) (p1 : zAd) (O : Ow G H (L)) (r : zAd) (h : z7q K p0 p1 = some r) :
    CR Tryz.prog 42 [(.string p0), (.string p1)] G H (L) (fun v G' _ => v = .string r) := by
 unfold z7q at h
 refine CR.og (n := 33) (fn := Tryz.f42) (by kernel_rfl) rfl rfl fun R kr => (.seq (.region (W.q1 (.string (⟨#[]⟩ : zAd)) rfl (.nil (.seq (.region ?_))))))
 refine W.q2 (.string p0) rfl ?_
 obtain ⟨x1, i2, h3⟩ := z00 h
 refine W.lo rfl rfl (Lo.cP rfl (fn := Tryz.f61) (by kernel_rfl) rfl (mc rfl mn) O (fun L' O' => z7z K p0 O' _ i2)) ?_
 rintro v10 H11 ⟨G4, O5, s6, sm9, rfl⟩
 refine W.q2 (.tuple #[(.bool x1.1), (.string x1.2.1), (.string x1.2.2)]) rfl (W.pure (v := (.bool x1.1)) rfl rfl (z08 (oo rfl rfl) rfl) (W.pure (v := (.string x1.2.1)) rfl rfl (z08 (oo rfl rfl) rfl) (W.pure (v := (.string x1.2.2)) rfl rfl (z08 (oo rfl rfl) rfl) (W.q1 (.bool x1.1) rfl (W.q1 (.string x1.2.1) rfl (W.q1 (.string x1.2.2) rfl ?_))))))
 refine .nil (.seq (.region (W.q2 (.string p1) rfl ?_)))
 obtain ⟨x12, i13, h14⟩ := z00 h3
 refine W.lo rfl rfl (Lo.cP rfl (fn := Tryz.f61) (by kernel_rfl) rfl (mc rfl mn) O5 (fun L' O' => z7z K p1 O' _ i13)) ?_
 rintro v21 H22 ⟨G15, O16, s17, sm20, rfl⟩
 refine W.q2 (.tuple #[(.bool x12.1), (.string x12.2.1), (.string x12.2.2)]) rfl (W.pure (v := (.bool x12.1)) rfl rfl (z08 (oo rfl rfl) rfl) (W.pure (v := (.string x12.2.1)) rfl rfl (z08 (oo rfl rfl) rfl) (W.pure (v := (.string x12.2.2)) rfl rfl (z08 (oo rfl rfl) rfl) (W.q1 (.bool x12.1) rfl (W.q1 (.string x12.2.1) rfl (W.q1 (.string x12.2.2) rfl ?_))))))
 refine .nil (.seq (.region (W.q2 (.bool x1.1) rfl (W.q2 (.bool x12.1) rfl (W.pure (v := (.bool (!(x1.1 == x12.1)))) rfl rfl (zf2 (oo rfl rfl) (oo rfl rfl) un4) (W.q2 (.string x1.2.1) rfl ?_))))))
 refine W.q2 (.string x12.2.1) rfl ?_
 obtain ⟨x23, i24, h25⟩ := z00 h14
 refine W.lo rfl rfl (Lo.cP rfl (fn := Tryz.f94) (by kernel_rfl) rfl (mc rfl (mc rfl mn)) O16 (fun L' O' => z67 K x1.2.1 x12.2.1 O' _ i24)) ?_
 rintro v32 H33 ⟨G26, O27, s28, sm31, rfl⟩
 refine W.q2 (.string x1.2.2) rfl (W.q2 (.string x12.2.2) rfl ?_)
 obtain ⟨x34, i35, h36⟩ := z00 h25
 refine W.lo rfl rfl (Lo.cP rfl (fn := Tryz.f94) (by kernel_rfl) rfl (mc rfl (mc rfl mn)) O27 (fun L' O' => z67 K x1.2.2 x12.2.2 O' _ i35)) ?_
 rintro v43 H44 ⟨G37, O38, s39, sm42, rfl⟩
 obtain ⟨x45, i46, h47⟩ := z00 h36
 refine W.lo rfl rfl (Lo.cP rfl (fn := Tryz.f95) (by kernel_rfl) rfl (mc rfl (mc rfl (mc rfl mn))) O38 (fun L' O' => z9g K (!(x1.1 == x12.1)) x23 x34 O' _ i46)) ?_
 rintro v54 H55 ⟨G48, O49, s50, sm53, rfl⟩
 refine W.q1 (.string x45) rfl (.nil (.ret ?_))
 obtain rfl := zAa h47
 exact z1h kr (v1 := (.string x45)) (by rfl) (z07 (by rfl) (by exact rfl)) O49 (zAe s6 (zAe s17 (zAe s28 (zAe s39 s50)))) rfl
def z13 (K : Nat) (p3 : Int) (x137 : Int) (x148 : List zAd) : Nat -> Int -> Option (Bool ⊕ Unit)
  | 0, _ => none
  | k + 1, x159 => (if (decide (x159 < (List.length x148 : Int))) = true then ((idx x148 x159).bind fun x170 => (Option.bind ((if ((List.length x148 : Int) != p3) = true then some true else (if (!((sEq x170 (⟨#[49]⟩ : zAd)) == (x137 == x159))) = true then some true else (if (!(sEq x170 (⟨#[49]⟩ : zAd))) = true then some (!(sEq x170 (⟨#[48]⟩ : zAd))) else some false)))) (tu1 fun x189 => (if x189 = true then some (.inl false) else z13 K p3 x137 x148 k (z04 .i64 (x159 + 1)))))) else some (.inr ()))
def z0p (K : Nat) (x41 : List (List zAd) × Int) (p3 : Int) : Nat -> Int -> Option (Bool ⊕ Unit)
  | 0, _ => none
  | k + 1, x137 => (if (decide (x137 < (List.length x41.1 : Int))) = true then ((idx x41.1 x137).bind fun x148 => (z9q (z13 K p3 x137 x148 K 0) (tu1 fun a216 => some (.inl a216)) (tu0 (z0p K x41 p3 k (z04 .i64 (x137 + 1)))))) else some (.inr ()))
def z0s (K : Nat) (p0 : List (List zAd)) (p1 : List (List zAd)) (p2 : zAd) (x15 : List (List zAd) × Int) (x28 : List (List zAd) × Int) (x312 : Int) (x348 : Int) (x452 : Int) (x463 : List zAd) : Nat -> Int -> Option (Bool ⊕ Unit)
  | 0, _ => none
  | k + 1, x474 => (if (decide (x474 < (List.length x463 : Int))) = true then ((idx x463 x474).bind fun x485 => (Option.bind ((if (x312 == 0) = true then (if (x15.2 != 0) = true then some true else (if ((List.length x15.1 : Int) != (List.length p0 : Int)) = true then some true else ((idx x15.1 x452).bind fun x508 => (if ((List.length x508 : Int) != (List.length x463 : Int)) = true then some true else ((idx x15.1 x452).bind fun x519 => ((idx x519 x474).bind fun x526 => ((idx p1 x452).bind fun x530 => ((idx x530 x474).bind fun x537 => ((z7p K x485 x537).bind fun x541 => some (!(sEq x526 x541))))))))))) else some false)) (tu1 fun x553 => (if x553 = true then some (.inl false) else (Option.bind ((if (x348 == 0) = true then (if (x28.2 != 0) = true then some true else (if ((List.length x28.1 : Int) != (List.length p0 : Int)) = true then some true else ((idx x28.1 x452).bind fun x593 => (if ((List.length x593 : Int) != (List.length x463 : Int)) = true then some true else ((idx x28.1 x452).bind fun x604 => ((idx x604 x474).bind fun x611 => ((z7q K x485 p2).bind fun x615 => some (!(sEq x611 x615))))))))) else some false)) (tu1 fun x627 => (if x627 = true then some (.inl false) else z0s K p0 p1 p2 x15 x28 x312 x348 x452 x463 k (z04 .i64 (x474 + 1))))))))) else some (.inr ()))
def z0t (K : Nat) (p0 : List (List zAd)) (p1 : List (List zAd)) (p2 : zAd) (x15 : List (List zAd) × Int) (x28 : List (List zAd) × Int) (x312 : Int) (x348 : Int) : Nat -> Int -> Option (Bool ⊕ Unit)
  | 0, _ => none
  | k + 1, x452 => (if (decide (x452 < (List.length p0 : Int))) = true then ((idx p0 x452).bind fun x463 => (z9q (z0s K p0 p1 p2 x15 x28 x312 x348 x452 x463 K 0) (tu1 fun a657 => some (.inl a657)) (tu0 (z0t K p0 p1 p2 x15 x28 x312 x348 k (z04 .i64 (x452 + 1)))))) else some (.inr ()))
def z5f (K : Nat) (p0 : List (List zAd)) (p1 : List (List zAd)) (p2 : zAd) (p3 : Int) : Option Bool := ((z5d K ).bind fun x1 => (if (!x1) = true then some false else ((z35 K p0 p1).bind fun x15 => ((z2h K p0 p2).bind fun x28 => ((z1c K p3).bind fun x41 => (Option.bind ((if (decide (p3 < 0)) = true then some true else some (decide (p3 > 40)))) (tu1 fun x61 => (z9q ((if x61 = true then (Option.bind ((if (x41.2 != 4) = true then some true else some (decide ((List.length x41.1 : Int) > 0)))) (tu1 fun x83 => (if x83 = true then some (.inl false) else some (.inr ())))) else (Option.bind ((if (x41.2 != 0) = true then some true else some ((List.length x41.1 : Int) != p3))) (tu1 fun x108 => (if x108 = true then some (.inl false) else some (.inr ())))))) (tu1 fun a675 => some a675) (tu0 (z9q (z0p K x41 p3 K 0) (tu1 fun a674 => some a674) (tu0 ((z36 K p0).bind fun x226 => ((z36 K p1).bind fun x237 => ((z5t K [x226, x237]).bind fun x252 => (Option.bind ((if (x252 == 0) = true then (if ((List.length p0 : Int) != (List.length p1 : Int)) = true then some true else ((z8w K p0).bind fun x273 => ((z8w K p1).bind fun x284 => some (x273 != x284)))) else some false)) (tu1 fun x296 => (Option.bind ((if x296 = true then some 3 else some x252)) (tu1 fun x312 => ((z36 K p0).bind fun x322 => ((z4x K p2).bind fun x333 => ((z5t K [x322, x333]).bind fun x348 => (Option.bind ((if (x312 != 0) = true then (if (x15.2 != x312) = true then some true else (if (decide ((List.length x15.1 : Int) > 0)) = true then some true else (if (x348 != 0) = true then (if (x28.2 != x348) = true then some true else some (decide ((List.length x28.1 : Int) > 0))) else some false))) else (if (x348 != 0) = true then (if (x28.2 != x348) = true then some true else some (decide ((List.length x28.1 : Int) > 0))) else some false))) (tu1 fun x390 => (if x390 = true then some false else ((z7o K 6 [p0, p1, [[p2]]]).bind fun x428 => (if x428 = true then some true else (z9q (z0t K p0 p1 p2 x15 x28 x312 x348 K 0) (tu1 fun a673 => some a673) (tu0 (some true)))))))))))))))))))))))))))))
theorem za2 (v0 : Value) (p0 : List (List zAd)) (hp0 : (rSl (rSl rS)).rep G [v0] p0) (v1 : Value) (p1 : List (List zAd)) (hp1 : (rSl (rSl rS)).rep G [v1] p1) (p2 : zAd) (p3 : Int) (O : Ow G H (L)) (r : Bool) (h : z5f K p0 p1 p2 p3 = some r) :
    CR Tryz.prog 6 [v0, v1, (.string p2), (.int .i64 p3)] G H (L) (fun v G' _ => v = .bool r) := by
 unfold z5f at h
 refine CR.og (n := 256) (fn := Tryz.f6) (by kernel_rfl) rfl rfl fun R kr => (.seq (.region (W.q1 (.bool false) rfl (.nil (.seq (.seq ?_))))))
 refine .region ?_
 obtain ⟨x1, i2, h3⟩ := z00 h
 refine W.lo rfl rfl (Lo.cP rfl (fn := Tryz.f26) (by kernel_rfl) rfl mn O (fun L' O' => za0 K  O' _ i2)) ?_
 rintro v10 H11 ⟨G4, O5, s6, sm9, rfl⟩
 refine W.pure (v := (.bool (!x1))) rfl rfl (zbl (a := x1) (oo rfl rfl)) (.nil (.cond (b := (!x1)) rfl rfl (fun g12 => ?_) (fun g12 => ?_)))
 .have h13 := z03 g12 h3
  refine .seq (.region (W.q1 (.bool false) rfl (.nil (.ret ?_))))
  obtain rfl := zAa h13
  exact z1h kr (v1 := (.bool false)) (by rfl) (z07 (by rfl) (by exact rfl)) O5 s6 rfl
 have h14 := z0g g12 h3
 refine .skip (.seq (.region (W.q2 v0 rfl (W.q2 v1 rfl ?_))))
 obtain ⟨x15, i16, h17⟩ := z00 h14
 refine W.lo rfl rfl (Lo.callPF (ps := []) (pw := fun w => [eSl w 45 (rSl rS) x15.1]) rfl (fn := Tryz.f38) (by kernel_rfl) rfl (mc rfl (mc rfl mn)) O5 (fun L' O' => z96 K v0 p0 (RT.mono _ s6 hp0) v1 p1 (RT.mono _ s6 hp1) O' _ i16)) ?_
 rintro v26 H27 ⟨w23, G18, O19, s20, sm25, rfl⟩
 refine W.q2 (.tuple #[w23, (.int .i64 x15.2)]) rfl (W.pure (v := w23) rfl rfl (z08 (oo rfl rfl) rfl) (W.pure (v := (.int .i64 x15.2)) rfl rfl (z08 (oo rfl rfl) rfl) (W.q1 w23 rfl (W.q1 (.int .i64 x15.2) rfl (.nil (.seq ?_))))))
 refine .region (W.q2 v0 rfl (W.q2 (.string p2) rfl ?_))
 obtain ⟨x28, i29, h30⟩ := z00 h17
 refine W.lo rfl rfl (Lo.callPF (ps := []) (pw := fun w => [eSl w 45 (rSl rS) x28.1]) rfl (fn := Tryz.f39) (by kernel_rfl) rfl (mc rfl (mc rfl mn)) O19 (fun L' O' => z8b K v0 p0 (RT.mono _ (zAe s6 s20) hp0) p2 O' _ i29)) ?_
 rintro v39 H40 ⟨w36, G31, O32, s33, sm38, rfl⟩
 refine W.q2 (.tuple #[w36, (.int .i64 x28.2)]) rfl (W.pure (v := w36) rfl rfl (z08 (oo rfl rfl) rfl) (W.pure (v := (.int .i64 x28.2)) rfl rfl (z08 (oo rfl rfl) rfl) (W.q1 w36 rfl (W.q1 (.int .i64 x28.2) rfl (.nil (.seq ?_))))))
 refine .region (W.q2 (.int .i64 p3) rfl ?_)
 obtain ⟨x41, i42, h43⟩ := z00 h30
 refine W.lo rfl rfl (Lo.callPF (ps := []) (pw := fun w => [eSl w 45 (rSl rS) x41.1]) rfl (fn := Tryz.f40) (by kernel_rfl) rfl (mc rfl mn) O32 (fun L' O' => z6w K p3 O' _ i42)) ?_
 rintro v52 H53 ⟨w49, G44, O45, s46, sm51, rfl⟩
 refine W.q2 (.tuple #[w49, (.int .i64 x41.2)]) rfl (W.pure (v := w49) rfl rfl (z08 (oo rfl rfl) rfl) (W.pure (v := (.int .i64 x41.2)) rfl rfl (z08 (oo rfl rfl) rfl) (W.q1 w49 rfl (W.q1 (.int .i64 x41.2) rfl (.nil (.seq ?_))))))
 refine .seq ?_
 obtain ⟨q54, h55, h56⟩ := z00 h43
 refine AW.midT (fun σ' H' => ∃ (y1 : Bool) (G' : GM), y1 = q54 /\ Ow G' H' (eSl w49 45 (rSl rS) x41.1 :: eSl w36 45 (rSl rS) x28.1 :: eSl w23 45 (rSl rS) x15.1 :: L) /\ GM.le G44 G' /\ σ' 49 = .bool y1) ?_ ?_
 .refine .region (W.q2 (.int .i64 p3) rfl (W.q3 (.bool (decide (p3 < 0))) rfl rfl (W.q2 (.bool (decide (p3 < 0))) rfl (W.splitAt (t := 46) (b := decide (p3 < 0)) rfl (fun g57 gv58 => ?_) (fun g57 gv58 => ?_)))))
  .have h59 := z03 g57 h55
   refine W.q6 rfl gv58 (W.q6 rfl gv58 (W.q4 (.bool true) gv58 rfl (.nil ?_)))
   obtain rfl := zAa h59
   exact ⟨true, _, rfl, O45, (zAf _), rfl⟩
  have h60 := z0g g57 h55
  refine W.q2 (hg := gk rfl rfl gv58 rfl) (.int .i64 p3) rfl (W.q3 (hg := gk rfl rfl gv58 rfl) (.bool (decide (p3 > 40))) rfl rfl (W.q5 (.bool (decide (p3 > 40))) gv58 rfl (.nil ?_)))
  obtain rfl := zAa h60
  exact ⟨decide (p3 > 40), _, rfl, O45, (zAf _), rfl⟩
 rintro σ62 H63 fr64 ⟨x61, G65, rfl, O66, s67, t69⟩
 have h70 := z09 h56
 obtain ⟨q71, h72, h73⟩ := z1t h70
 refine AW.midT (fun σ' H' => ∃  (G' : GM), (.inr ()) = q71 /\ Ow G' H' (eSl w49 45 (rSl rS) x41.1 :: eSl w36 45 (rSl rS) x28.1 :: eSl w23 45 (rSl rS) x15.1 :: L) /\ GM.le G65 G') ?_ ?_
 .refine .cond (b := x61) rfl t69 (fun g74 => ?_) (fun g74 => ?_)
  .have h75 := z03 g74 h72
   refine .seq ?_
   obtain ⟨q76, h77, h78⟩ := z00 h75
   refine AW.midT (fun σ' H' => ∃ (y1 : Bool) (G' : GM), y1 = q76 /\ Ow G' H' (eSl w49 45 (rSl rS) x41.1 :: eSl w36 45 (rSl rS) x28.1 :: eSl w23 45 (rSl rS) x15.1 :: L) /\ GM.le G65 G' /\ σ' 56 = .bool y1) ?_ ?_
   rotate_left
   .rintro σ84 H85 fr86 ⟨x83, G87, rfl, O88, s89, t91⟩
    have h92 := z09 h78
    refine .cond (b := x83) rfl t91 (fun g93 => ?_) (fun g93 => ?_)
    rotate_left
    .have h99 := z0g g93 h92
     refine .skip ?_
     obtain rfl := zAa h99
     exact ⟨_, rfl, O88, s89⟩
    have h94 := z03 g93 h92
    refine .seq (.region (W.q1 (.bool false) rfl (.nil (.ret ?_))))
    have O95 : Ow G87 H85 (eSl w36 45 (rSl rS) x28.1 :: eSl w23 45 (rSl rS) x15.1 :: L) := O88.drop 0
    have O96 : Ow G87 H85 (eSl w23 45 (rSl rS) x15.1 :: L) := O95.drop 0
    have O97 : Ow G87 H85 (L) := O96.drop 0
    obtain rfl := zAa h94
    have h98 := z09 (z59 h73)
    obtain rfl := zAa h98
    exact z1h kr (v1 := (.bool false)) (by rfl) (z07 (by rfl) (by exact rfl)) O97 (zAe s6 (zAe s20 (zAe s33 (zAe s46 (zAe s67 s89))))) rfl
   refine .region (W.q2 (.int .i64 x41.2) ((fr64 14 rfl).trans rfl) (W.q3 (.bool (x41.2 != 4)) rfl rfl (W.q2 (.bool (x41.2 != 4)) rfl (W.splitAt (t := 52) (b := (x41.2 != 4)) rfl (fun g79 gv80 => ?_) (fun g79 gv80 => ?_)))))
   .have h81 := z03 g79 h77
    refine W.q6 rfl gv80 (W.q6 rfl gv80 (W.q6 rfl gv80 (W.q4 (.bool true) gv80 rfl (.nil ?_))))
    obtain rfl := zAa h81
    exact ⟨true, _, rfl, O66, (zAf _), rfl⟩
   have h82 := z0g g79 h77
   refine W.q2 (hg := gk rfl rfl gv80 rfl) w49 ((fr64 13 rfl).trans rfl) (W.pure (v := (.int .i64 (List.length x41.1 : Int))) (gk rfl rfl gv80 rfl) rfl (z0f (oo rfl rfl) (O66.slLen (j := 0) rfl) (z02 el44)) (W.q3 (hg := gk rfl rfl gv80 rfl) (.bool (decide ((List.length x41.1 : Int) > 0))) rfl rfl (W.q5 (.bool (decide ((List.length x41.1 : Int) > 0))) gv80 rfl (.nil ?_))))
   obtain rfl := zAa h82
   exact ⟨decide ((List.length x41.1 : Int) > 0), _, rfl, O66, (zAf _), rfl⟩
  have h100 := z0g g74 h72
  refine .seq ?_
  obtain ⟨q101, h102, h103⟩ := z00 h100
  refine AW.midT (fun σ' H' => ∃ (y1 : Bool) (G' : GM), y1 = q101 /\ Ow G' H' (eSl w49 45 (rSl rS) x41.1 :: eSl w36 45 (rSl rS) x28.1 :: eSl w23 45 (rSl rS) x15.1 :: L) /\ GM.le G65 G' /\ σ' 64 = .bool y1) ?_ ?_
  rotate_left
  .rintro σ109 H110 fr111 ⟨x108, G112, rfl, O113, s114, t116⟩
   have h117 := z09 h103
   refine .cond (b := x108) rfl t116 (fun g118 => ?_) (fun g118 => ?_)
   rotate_left
   .have h124 := z0g g118 h117
    refine .skip ?_
    obtain rfl := zAa h124
    exact ⟨_, rfl, O113, s114⟩
   have h119 := z03 g118 h117
   refine .seq (.region (W.q1 (.bool false) rfl (.nil (.ret ?_))))
   have O120 : Ow G112 H110 (eSl w36 45 (rSl rS) x28.1 :: eSl w23 45 (rSl rS) x15.1 :: L) := O113.drop 0
   have O121 : Ow G112 H110 (eSl w23 45 (rSl rS) x15.1 :: L) := O120.drop 0
   have O122 : Ow G112 H110 (L) := O121.drop 0
   obtain rfl := zAa h119
   have h123 := z09 (z59 h73)
   obtain rfl := zAa h123
   exact z1h kr (v1 := (.bool false)) (by rfl) (z07 (by rfl) (by exact rfl)) O122 (zAe s6 (zAe s20 (zAe s33 (zAe s46 (zAe s67 s114))))) rfl
  refine .region (W.q2 (.int .i64 x41.2) ((fr64 14 rfl).trans rfl) (W.q3 (.bool (x41.2 != 0)) rfl rfl (W.q2 (.bool (x41.2 != 0)) rfl (W.splitAt (t := 59) (b := (x41.2 != 0)) rfl (fun g104 gv105 => ?_) (fun g104 gv105 => ?_)))))
  .have h106 := z03 g104 h102
   refine W.q6 rfl gv105 (W.q6 rfl gv105 (W.q6 rfl gv105 (W.q6 rfl gv105 (W.q4 (.bool true) gv105 rfl (.nil ?_)))))
   obtain rfl := zAa h106
   exact ⟨true, _, rfl, O66, (zAf _), rfl⟩
  have h107 := z0g g104 h102
  refine W.q2 (hg := gk rfl rfl gv105 rfl) w49 ((fr64 13 rfl).trans rfl) (W.pure (v := (.int .i64 (List.length x41.1 : Int))) (gk rfl rfl gv105 rfl) rfl (z0f (oo rfl rfl) (O66.slLen (j := 0) rfl) (z02 el44)) (W.q2 (hg := gk rfl rfl gv105 rfl) (.int .i64 p3) ((fr64 3 rfl).trans rfl) (W.q3 (hg := gk rfl rfl gv105 rfl) (.bool ((List.length x41.1 : Int) != p3)) rfl rfl (W.q5 (.bool ((List.length x41.1 : Int) != p3)) gv105 rfl (.nil ?_)))))
  obtain rfl := zAa h107
  exact ⟨((List.length x41.1 : Int) != p3), _, rfl, O66, (zAf _), rfl⟩
 rintro σ125 H126 fr127 ⟨G128, rfl, O129, s130⟩
 have h132 := z4z (z70 h73)
 refine .seq (.seq (.region (W.q2 w49 ((fr127 13 rfl).trans ((fr64 13 rfl).trans rfl)) (W.pure (v := (.int .i64 (List.length x41.1 : Int))) rfl rfl (z0f (oo rfl rfl) (O129.slLen (j := 0) rfl) (z02 el44)) (W.q2 (.int .i64 0) rfl (.nil ?_))))))
 obtain ⟨q133, h134, h135⟩ := z1t h132
 refine AW.midT (fun σ' H' => ∃  (G' : GM), (.inr ()) = q133 /\ Ow G' H' (eSl w49 45 (rSl rS) x41.1 :: eSl w36 45 (rSl rS) x28.1 :: eSl w23 45 (rSl rS) x15.1 :: L) /\ GM.le G128 G') ?_ ?_
 .refine .block (AW.loop (α := Nat) (fun k' σ' H' => ∃ (y1 : Int) (G' : GM), z0p K x41 p3 k' y1 = some q133 /\ Ow G' H' (eSl w49 45 (rSl rS) x41.1 :: eSl w36 45 (rSl rS) x28.1 :: eSl w23 45 (rSl rS) x15.1 :: L) /\ GM.le G128 G' /\ σ' 67 = .int .i64 y1) (fun k' => k') K ⟨0, _, h134, O129, (zAf _), rfl⟩ ?_)
  rintro k136
  rintro σ138 H139 fr140 ⟨x137, G141, h144, O142, s143, t145⟩
  rcases k136 with _ | k136
  .exact z06 h144
  rw [z0p] at h144
  refine .seq (.region (W.q3 (.bool (decide (x137 < (List.length x41.1 : Int)))) t145 ((fr140 66 rfl).trans rfl) (.nil (.seq (.cond (b := decide (x137 < (List.length x41.1 : Int))) rfl rfl (fun g146 => ?_) (fun g146 => ?_))))))
  rotate_left
  .have h217 := z0g g146 h144
   refine .exit ?_
   obtain rfl := zAa h217
   exact ⟨_, rfl, O142, s143⟩
  have h147 := z03 g146 h144
  refine .skip (.seq (.block (.seq (.region (W.q2 _ t145 ?_)))))
  obtain ⟨x148, i149, h150⟩ := z00 h147
  have j151 := z0d i149
  refine W.pure (v := (z1k w49 (Int.toNat x137 * 1))) rfl rfl (z26 el44 sz45 (oo rfl ((fr140 65 rfl).trans rfl)) (oo rfl t145) (O142.slLen (j := 0) rfl) j151.1 j151.2.1) ?_
  obtain ⟨w152, p153, f154⟩ := At.sl (O142.atSl (j := 0) rfl j151.2.2)
  refine W.load1 (v := w152) (r := []) rfl rfl ag45 (z15 rfl p153) (W.q1 (.int .i64 x137) rfl (W.q1 w152 rfl (.nil (.seq (.region (W.q2 w152 rfl ?_))))))
  refine W.pure (v := (.int .i64 (List.length x148 : Int))) rfl rfl (z0f (oo rfl rfl) (z0a f154) (z02 el45)) (W.q2 (.int .i64 0) rfl (.nil ?_))
  obtain ⟨q155, h156, h157⟩ := z1t h150
  refine AW.midT (fun σ' H' => ∃  (G' : GM), (.inr ()) = q155 /\ Ow G' H' (eSl w49 45 (rSl rS) x41.1 :: eSl w36 45 (rSl rS) x28.1 :: eSl w23 45 (rSl rS) x15.1 :: L) /\ GM.le G141 G') ?_ ?_
  rotate_left
  .rintro σ208 H209 fr210 ⟨G211, rfl, O212, s213⟩
   have h215 := z4z (z70 h157)
   refine .region (W.q3 (.int .i64 (z04 .i64 (x137 + 1))) ((fr210 67 rfl).trans t145) rfl (W.q2 (.int .i64 (z04 .i64 (x137 + 1))) rfl (.nil ?_)))
   exact ⟨k136, zAg _, ⟨z04 .i64 (x137 + 1), _, h215, O212, (zAe s143 s213), rfl⟩⟩
  refine .block (AW.loop (α := Nat) (fun k' σ' H' => ∃ (y1 : Int) (G' : GM), z13 K p3 x137 x148 k' y1 = some q155 /\ Ow G' H' (eSl w49 45 (rSl rS) x41.1 :: eSl w36 45 (rSl rS) x28.1 :: eSl w23 45 (rSl rS) x15.1 :: L) /\ GM.le G141 G' /\ σ' 74 = .int .i64 y1) (fun k' => k') K ⟨0, _, h156, O142, (zAf _), rfl⟩ ?_)
  rintro k158
  rintro σ160 H161 fr162 ⟨x159, G163, h166, O164, s165, t167⟩
  rcases k158 with _ | k158
  .exact z06 h166
  rw [z13] at h166
  refine .seq (.region (W.q3 (.bool (decide (x159 < (List.length x148 : Int)))) t167 ((fr162 73 rfl).trans rfl) (.nil (.seq (.cond (b := decide (x159 < (List.length x148 : Int))) rfl rfl (fun g168 => ?_) (fun g168 => ?_))))))
  rotate_left
  .have h207 := z0g g168 h166
   refine .exit ?_
   obtain rfl := zAa h207
   exact ⟨_, rfl, O164, s165⟩
  have h169 := z03 g168 h166
  refine .skip (.seq (.block (.seq (.region (W.q2 _ t167 ?_)))))
  obtain ⟨x170, i171, h172⟩ := z00 h169
  have j173 := z0d i171
  refine W.pure (v := (z1k w152 (Int.toNat x159 * 1))) rfl rfl (z26 el45 sz22 (oo rfl ((fr162 72 rfl).trans rfl)) (oo rfl t167) (z0a (RT.mono _ s165 f154)) j173.1 j173.2.1) (W.load1 (v := (.string x170)) (r := []) rfl rfl ag22 (z15 rfl (At.str (At.le (At.le (z17 f154 j173.2.2) s165 s165) (zAf _) O164.fro))) (W.q1 (.int .i64 x159) rfl (W.q1 (.string x170) rfl (.nil (.seq ?_)))))
  obtain ⟨q174, h175, h176⟩ := z00 h172
  refine AW.midT (fun σ' H' => ∃ (y1 : Bool) (G' : GM), y1 = q174 /\ Ow G' H' (eSl w49 45 (rSl rS) x41.1 :: eSl w36 45 (rSl rS) x28.1 :: eSl w23 45 (rSl rS) x15.1 :: L) /\ GM.le G163 G' /\ σ' 98 = .bool y1) ?_ ?_
  rotate_left
  .rintro σ190 H191 fr192 ⟨x189, G193, rfl, O194, s195, t197⟩
   have h198 := z09 h176
   refine .cond (b := x189) rfl t197 (fun g199 => ?_) (fun g199 => ?_)
   rotate_left
   .have h206 := z0g g199 h198
    refine .skip (.region (W.q3 (.int .i64 (z04 .i64 (x159 + 1))) ((fr192 74 rfl).trans t167) rfl (W.q2 (.int .i64 (z04 .i64 (x159 + 1))) rfl (.nil ?_))))
    exact ⟨k158, zAg _, ⟨z04 .i64 (x159 + 1), _, h206, O194, (zAe s165 s195), rfl⟩⟩
   have h200 := z03 g199 h198
   refine .seq (.region (W.q1 (.bool false) rfl (.nil (.ret ?_))))
   have O201 : Ow G193 H191 (eSl w36 45 (rSl rS) x28.1 :: eSl w23 45 (rSl rS) x15.1 :: L) := O194.drop 0
   have O202 : Ow G193 H191 (eSl w23 45 (rSl rS) x15.1 :: L) := O201.drop 0
   have O203 : Ow G193 H191 (L) := O202.drop 0
   obtain rfl := zAa h200
   have h204 := z09 (z59 h157)
   obtain rfl := zAa h204
   have h205 := z09 (z59 h135)
   obtain rfl := zAa h205
   exact z1h kr (v1 := (.bool false)) (by rfl) (z07 (by rfl) (by exact rfl)) O203 (zAe s6 (zAe s20 (zAe s33 (zAe s46 (zAe s67 (zAe s130 (zAe s143 (zAe s165 s195)))))))) rfl
  refine .region (W.q2 w152 ((fr162 16 rfl).trans rfl) (W.pure (v := (.int .i64 (List.length x148 : Int))) rfl rfl (z0f (oo rfl rfl) (z0a (RT.mono _ s165 f154)) (z02 el45)) (W.q2 (.int .i64 p3) ((fr162 3 rfl).trans ((fr140 3 rfl).trans ((fr127 3 rfl).trans ((fr64 3 rfl).trans rfl)))) (W.q3 (.bool ((List.length x148 : Int) != p3)) rfl rfl (W.q2 (.bool ((List.length x148 : Int) != p3)) rfl (W.splitAt (t := 83) (b := ((List.length x148 : Int) != p3)) rfl (fun g177 gv178 => ?_) (fun g177 gv178 => ?_)))))))
  .have h179 := z03 g177 h175
   refine W.q6 rfl gv178 (W.q6 rfl gv178 (W.q6 rfl gv178 (W.q6 rfl gv178 (W.q6 rfl gv178 (W.q6 rfl gv178 (W.q4 (.bool true) gv178 rfl ?_))))))
   refine W.q2 (.bool true) rfl (W.q6 rfl rfl (W.q6 rfl rfl (W.q6 rfl rfl (W.skipU rfl rfl rfl rfl (W.skipU rfl rfl rfl rfl (W.q6 rfl rfl ?_))))))
   refine W.q4 (.bool true) rfl rfl (.nil ?_)
   obtain rfl := zAa h179
   exact ⟨true, _, rfl, O164, (zAf _), rfl⟩
  have h180 := z0g g177 h175
  refine W.q2 (hg := gk rfl rfl gv178 rfl) (.string x170) rfl (W.pure (v := (.bool (sEq x170 (⟨#[49]⟩ : zAd)))) (gk rfl rfl gv178 rfl) rfl (z9c (oo rfl rfl) (oo rfl rfl)) (W.q2 (hg := gk rfl rfl gv178 rfl) (.int .i64 x137) ((fr162 15 rfl).trans rfl) (W.q2 (hg := gk rfl rfl gv178 rfl) (.int .i64 x159) rfl (W.q3 (hg := gk rfl rfl gv178 rfl) (.bool (x137 == x159)) rfl rfl (W.pure (v := (.bool (!((sEq x170 (⟨#[49]⟩ : zAd)) == (x137 == x159))))) (gk rfl rfl gv178 rfl) rfl (zf2 (oo rfl rfl) (oo rfl rfl) un4) (W.q5 (.bool (!((sEq x170 (⟨#[49]⟩ : zAd)) == (x137 == x159)))) gv178 rfl ?_))))))
  refine W.q2 (.bool (!((sEq x170 (⟨#[49]⟩ : zAd)) == (x137 == x159)))) rfl (W.splitAt (t := 91) (b := (!((sEq x170 (⟨#[49]⟩ : zAd)) == (x137 == x159)))) rfl (fun g181 gv182 => ?_) (fun g181 gv182 => ?_))
  .have h183 := z03 g181 h180
   refine W.q6 rfl gv182 (W.q6 rfl gv182 (W.q6 rfl gv182 (W.skipU rfl rfl rfl rfl (W.skipU rfl rfl rfl rfl (W.q6 rfl gv182 (W.q4 (.bool true) gv182 rfl ?_))))))
   refine .nil ?_
   obtain rfl := zAa h183
   exact ⟨true, _, rfl, O164, (zAf _), rfl⟩
  have h184 := z0g g181 h180
  refine W.q2 (hg := gk rfl rfl gv182 rfl) (.string x170) rfl (W.pure (v := (.bool (!(sEq x170 (⟨#[49]⟩ : zAd))))) (gk rfl rfl gv182 rfl) rfl (ze8 (oo rfl rfl) (oo rfl rfl)) (W.q2 (hg := gk rfl rfl gv182 rfl) (.bool (!(sEq x170 (⟨#[49]⟩ : zAd)))) rfl (W.splitAt (t := 94) (b := (!(sEq x170 (⟨#[49]⟩ : zAd)))) rfl (fun g185 gv186 => ?_) (fun g185 gv186 => ?_))))
  rotate_left
  .have h188 := z0g g185 h184
   refine W.q6 rfl gv186 (W.q6 rfl gv186 (W.q5 (hg := gk rfl rfl gv182 rfl) (.bool false) gv186 rfl (W.q5 (.bool false) gv182 rfl (.nil ?_))))
   obtain rfl := zAa h188
   exact ⟨false, _, rfl, O164, (zAf _), rfl⟩
  have h187 := z03 g185 h184
  refine W.q2 (hg := gk rfl rfl gv186 rfl) (.string x170) rfl (W.pure (v := (.bool (!(sEq x170 (⟨#[48]⟩ : zAd))))) (gk rfl rfl gv186 rfl) rfl (ze8 (oo rfl rfl) (oo rfl rfl)) (W.q4 (hg := gk rfl rfl gv182 rfl) (.bool (!(sEq x170 (⟨#[48]⟩ : zAd)))) gv186 rfl (W.q5 (.bool (!(sEq x170 (⟨#[48]⟩ : zAd)))) gv182 rfl (.nil ?_))))
  obtain rfl := zAa h187
  exact ⟨(!(sEq x170 (⟨#[48]⟩ : zAd))), _, rfl, O164, (zAf _), rfl⟩
 rintro σ218 H219 fr220 ⟨G221, rfl, O222, s223⟩
 have h225 := z4z (z70 h135)
 refine .seq (.region (W.q2 v0 ((fr220 0 rfl).trans ((fr127 0 rfl).trans ((fr64 0 rfl).trans rfl))) ?_))
 obtain ⟨x226, i227, h228⟩ := z00 h225
 refine W.lo rfl rfl (Lo.cP rfl (fn := Tryz.f30) (by kernel_rfl) rfl (mc rfl mn) O222 (fun L' O' => z5s K v0 p0 (RT.mono _ (zAe s6 (zAe s20 (zAe s33 (zAe s46 (zAe s67 (zAe s130 s223)))))) hp0) O' _ i227)) ?_
 rintro v235 H236 ⟨G229, O230, s231, sm234, rfl⟩
 refine W.q2 v1 ((fr220 1 rfl).trans ((fr127 1 rfl).trans ((fr64 1 rfl).trans rfl))) ?_
 obtain ⟨x237, i238, h239⟩ := z00 h228
 refine W.lo rfl rfl (Lo.cP rfl (fn := Tryz.f30) (by kernel_rfl) rfl (mc rfl mn) O230 (fun L' O' => z5s K v1 p1 (RT.mono _ (zAe s6 (zAe s20 (zAe s33 (zAe s46 (zAe s67 (zAe s130 (zAe s223 s231))))))) hp1) O' _ i238)) ?_
 rintro v246 H247 ⟨G240, O241, s242, sm245, rfl⟩
 refine W.lo rfl rfl (Lo.buildSlice (r := (rI .i64)) (vs := [(.int .i64 x226), (.int .i64 x237)]) (xs := [x226, x237]) el91 ze28 sz28 (by kernel_rfl) rfl (qc rfl (qc rfl qn)) rfl (.cons rfl (.cons rfl .nil)) O241) ?_
 rintro v250 H251 ⟨O248, sm249⟩
 obtain ⟨x252, i253, h254⟩ := z00 h239
 refine W.lo rfl rfl (Lo.callB (j := 0) rfl rfl (fn := Tryz.f18) (by kernel_rfl) rfl (mc rfl mn) O248 (fun G' L' hG O' hB => za1 K v250 [x226, x237] hB O' _ i253)) ?_
 rintro v261 H262 ⟨G255, O256, s257, sm260, rfl⟩
 refine W.q1 (.int .i64 x252) rfl (.nil (.seq (.seq ?_)))
 obtain ⟨q263, h264, h265⟩ := z00 h254
 refine AW.midT (fun σ' H' => ∃ (y1 : Bool) (G' : GM), y1 = q263 /\ Ow G' H' (eSl v250 28 (rI .i64) [x226, x237] :: eSl w49 45 (rSl rS) x41.1 :: eSl w36 45 (rSl rS) x28.1 :: eSl w23 45 (rSl rS) x15.1 :: L) /\ GM.le G255 G' /\ σ' 122 = .bool y1) ?_ ?_
 .refine .region (W.q2 (.int .i64 x252) rfl (W.q3 (.bool (x252 == 0)) rfl rfl (W.q2 (.bool (x252 == 0)) rfl (W.splitAt (t := 109) (b := (x252 == 0)) rfl (fun g266 gv267 => ?_) (fun g266 gv267 => ?_)))))
  rotate_left
  .have h295 := z0g g266 h264
   refine W.q6 rfl gv267 (W.q6 rfl gv267 (W.q6 rfl gv267 (W.q6 rfl gv267 (W.q6 rfl gv267 (W.q6 rfl gv267 (W.skipU rfl rfl rfl rfl ?_))))))
   refine W.skipU rfl rfl rfl rfl (W.skipU rfl rfl rfl rfl (W.skipU rfl rfl rfl rfl (W.skipU rfl rfl rfl rfl (W.q6 rfl gv267 (W.q5 (.bool false) gv267 rfl (.nil ?_))))))
   obtain rfl := zAa h295
   exact ⟨false, _, rfl, O256, (zAf _), rfl⟩
  have h268 := z03 g266 h264
  refine W.q2 (hg := gk rfl rfl gv267 rfl) v0 ((fr220 0 rfl).trans ((fr127 0 rfl).trans ((fr64 0 rfl).trans rfl))) (W.pure (v := (.int .i64 (List.length p0 : Int))) (gk rfl rfl gv267 rfl) rfl (z0f (oo rfl rfl) (z0a (RT.mono _ (zAe s6 (zAe s20 (zAe s33 (zAe s46 (zAe s67 (zAe s130 (zAe s223 (zAe s231 (zAe s242 s257))))))))) hp0)) (z02 el44)) (W.q2 (hg := gk rfl rfl gv267 rfl) v1 ((fr220 1 rfl).trans ((fr127 1 rfl).trans ((fr64 1 rfl).trans rfl))) (W.pure (v := (.int .i64 (List.length p1 : Int))) (gk rfl rfl gv267 rfl) rfl (z0f (oo rfl rfl) (z0a (RT.mono _ (zAe s6 (zAe s20 (zAe s33 (zAe s46 (zAe s67 (zAe s130 (zAe s223 (zAe s231 (zAe s242 s257))))))))) hp1)) (z02 el44)) (W.q3 (hg := gk rfl rfl gv267 rfl) (.bool ((List.length p0 : Int) != (List.length p1 : Int))) rfl rfl (W.q2 (hg := gk rfl rfl gv267 rfl) (.bool ((List.length p0 : Int) != (List.length p1 : Int))) rfl (W.splitAt (t := 115) (b := ((List.length p0 : Int) != (List.length p1 : Int))) rfl (fun g269 gv270 => ?_) (fun g269 gv270 => ?_)))))))
  .have h271 := z03 g269 h268
   refine W.q6 rfl gv270 (W.q6 rfl gv270 (W.q6 rfl gv270 (W.q6 rfl gv270 (W.q6 rfl gv270 (W.q4 (hg := gk rfl rfl gv267 rfl) (.bool true) gv270 rfl (W.q4 (.bool true) gv267 rfl ?_))))))
   refine .nil ?_
   obtain rfl := zAa h271
   exact ⟨true, _, rfl, O256, (zAf _), rfl⟩
  have h272 := z0g g269 h268
  refine W.q2 (hg := gk rfl rfl gv270 rfl) v0 ((fr220 0 rfl).trans ((fr127 0 rfl).trans ((fr64 0 rfl).trans rfl))) ?_
  obtain ⟨x273, i274, h275⟩ := z00 h272
  refine W.lo (gk rfl rfl gv270 rfl) rfl (Lo.cP rfl (fn := Tryz.f31) (by kernel_rfl) rfl (mc rfl mn) O256 (fun L' O' => zbt K v0 p0 (RT.mono _ (zAe s6 (zAe s20 (zAe s33 (zAe s46 (zAe s67 (zAe s130 (zAe s223 (zAe s231 (zAe s242 s257))))))))) hp0) O' _ i274)) ?_
  rintro v282 H283 ⟨G276, O277, s278, sm281, rfl⟩
  refine W.q2 (hg := gk rfl rfl gv270 rfl) v1 ((fr220 1 rfl).trans ((fr127 1 rfl).trans ((fr64 1 rfl).trans rfl))) ?_
  obtain ⟨x284, i285, h286⟩ := z00 h275
  refine W.lo (gk rfl rfl gv270 rfl) rfl (Lo.cP rfl (fn := Tryz.f31) (by kernel_rfl) rfl (mc rfl mn) O277 (fun L' O' => zbt K v1 p1 (RT.mono _ (zAe s6 (zAe s20 (zAe s33 (zAe s46 (zAe s67 (zAe s130 (zAe s223 (zAe s231 (zAe s242 (zAe s257 s278)))))))))) hp1) O' _ i285)) ?_
  rintro v293 H294 ⟨G287, O288, s289, sm292, rfl⟩
  refine W.q3 (hg := gk rfl rfl gv270 rfl) (.bool (x273 != x284)) rfl rfl (W.q5 (hg := gk rfl rfl gv267 rfl) (.bool (x273 != x284)) gv270 rfl (W.q4 (.bool (x273 != x284)) gv267 rfl (.nil ?_)))
  obtain rfl := zAa h286
  exact ⟨(x273 != x284), _, rfl, O288, (zAe s278 s289), rfl⟩
 rintro σ297 H298 fr299 ⟨x296, G300, rfl, O301, s302, t304⟩
 have h305 := z09 h265
 obtain ⟨q306, h307, h308⟩ := z00 h305
 refine AW.midT (fun σ' H' => ∃ (y1 : Int) (G' : GM), y1 = q306 /\ Ow G' H' (eSl v250 28 (rI .i64) [x226, x237] :: eSl w49 45 (rSl rS) x41.1 :: eSl w36 45 (rSl rS) x28.1 :: eSl w23 45 (rSl rS) x15.1 :: L) /\ GM.le G300 G' /\ σ' 19 = .int .i64 y1) ?_ ?_
 .refine .cond (b := x296) rfl t304 (fun g309 => ?_) (fun g309 => ?_)
  rotate_left
  .have h311 := z0g g309 h307
   refine .skip ?_
   obtain rfl := zAa h311
   exact ⟨x252, _, rfl, O301, (zAf _), ((fr299 19 rfl).trans rfl)⟩
  have h310 := z03 g309 h307
  refine .region (W.q1 (.int .i64 3) rfl (.nil ?_))
  obtain rfl := zAa h310
  exact ⟨3, _, rfl, O301, (zAf _), rfl⟩
 rintro σ313 H314 fr315 ⟨x312, G316, rfl, O317, s318, t320⟩
 have h321 := z09 h308
 refine .seq (.region (W.q2 v0 ((fr315 0 rfl).trans ((fr299 0 rfl).trans ((fr220 0 rfl).trans ((fr127 0 rfl).trans ((fr64 0 rfl).trans rfl))))) ?_))
 obtain ⟨x322, i323, h324⟩ := z00 h321
 refine W.lo rfl rfl (Lo.cP rfl (fn := Tryz.f30) (by kernel_rfl) rfl (mc rfl mn) O317 (fun L' O' => z5s K v0 p0 (RT.mono _ (zAe s6 (zAe s20 (zAe s33 (zAe s46 (zAe s67 (zAe s130 (zAe s223 (zAe s231 (zAe s242 (zAe s257 (zAe s302 s318))))))))))) hp0) O' _ i323)) ?_
 rintro v331 H332 ⟨G325, O326, s327, sm330, rfl⟩
 refine W.q2 (.string p2) ((fr315 2 rfl).trans ((fr299 2 rfl).trans ((fr220 2 rfl).trans ((fr127 2 rfl).trans ((fr64 2 rfl).trans rfl))))) ?_
 obtain ⟨x333, i334, h335⟩ := z00 h324
 refine W.lo rfl rfl (Lo.cP rfl (fn := Tryz.f16) (by kernel_rfl) rfl (mc rfl mn) O326 (fun L' O' => z98 K p2 O' _ i334)) ?_
 rintro v342 H343 ⟨G336, O337, s338, sm341, rfl⟩
 refine W.lo rfl rfl (Lo.buildSlice (r := (rI .i64)) (vs := [(.int .i64 x322), (.int .i64 x333)]) (xs := [x322, x333]) el91 ze28 sz28 (by kernel_rfl) rfl (qc rfl (qc rfl qn)) rfl (.cons rfl (.cons rfl .nil)) O337) ?_
 rintro v346 H347 ⟨O344, sm345⟩
 obtain ⟨x348, i349, h350⟩ := z00 h335
 refine W.lo rfl rfl (Lo.callB (j := 0) rfl rfl (fn := Tryz.f18) (by kernel_rfl) rfl (mc rfl mn) O344 (fun G' L' hG O' hB => za1 K v346 [x322, x333] hB O' _ i349)) ?_
 rintro v357 H358 ⟨G351, O352, s353, sm356, rfl⟩
 refine W.q1 (.int .i64 x348) rfl (.nil (.seq (.seq ?_)))
 obtain ⟨q359, h360, h361⟩ := z00 h350
 refine AW.midT (fun σ' H' => ∃ (y1 : Bool) (G' : GM), y1 = q359 /\ Ow G' H' (eSl v346 28 (rI .i64) [x322, x333] :: eSl v250 28 (rI .i64) [x226, x237] :: eSl w49 45 (rSl rS) x41.1 :: eSl w36 45 (rSl rS) x28.1 :: eSl w23 45 (rSl rS) x15.1 :: L) /\ GM.le G351 G' /\ σ' 154 = .bool y1) ?_ ?_
 .refine .region (W.q2 _ t320 (W.q3 (.bool (x312 != 0)) rfl rfl (W.q2 (.bool (x312 != 0)) rfl (W.splitAt (t := 131) (b := (x312 != 0)) rfl (fun g362 gv363 => ?_) (fun g362 gv363 => ?_)))))
  rotate_left
  .have h381 := z0g g362 h360
   refine W.q6 rfl gv363 (W.q6 rfl gv363 (W.q6 rfl gv363 (W.q6 rfl gv363 (W.skipU rfl rfl rfl rfl (W.skipU rfl rfl rfl rfl (W.skipU rfl rfl rfl rfl ?_))))))
   refine W.q6 rfl gv363 (W.q5 (.bool false) gv363 rfl (W.q2 (.bool false) rfl (W.q2 (hg := gk rfl rfl rfl rfl) (.int .i64 x348) rfl (W.q3 (hg := gk rfl rfl rfl rfl) (.bool (x348 != 0)) rfl rfl (W.q2 (hg := gk rfl rfl rfl rfl) (.bool (x348 != 0)) rfl (W.splitAt (t := 144) (b := (x348 != 0)) rfl (fun g382 gv383 => ?_) (fun g382 gv383 => ?_)))))))
   rotate_left
   .have h389 := z0g g382 h381
    refine W.q6 rfl gv383 (W.q6 rfl gv383 (W.q6 rfl gv383 (W.q6 rfl gv383 (W.skipU rfl rfl rfl rfl (W.skipU rfl rfl rfl rfl (W.skipU rfl rfl rfl rfl ?_))))))
    refine W.q6 rfl gv383 (W.q5 (hg := gk rfl rfl rfl rfl) (.bool false) gv383 rfl (W.q5 (.bool false) rfl rfl (.nil ?_)))
    obtain rfl := zAa h389
    exact ⟨false, _, rfl, O352, (zAf _), rfl⟩
   have h384 := z03 g382 h381
   refine W.q2 (hg := gk rfl rfl gv383 rfl) (.int .i64 x28.2) ((fr315 12 rfl).trans ((fr299 12 rfl).trans ((fr220 12 rfl).trans ((fr127 12 rfl).trans ((fr64 12 rfl).trans rfl))))) (W.q2 (hg := gk rfl rfl gv383 rfl) (.int .i64 x348) rfl (W.q3 (hg := gk rfl rfl gv383 rfl) (.bool (x28.2 != x348)) rfl rfl (W.q2 (hg := gk rfl rfl gv383 rfl) (.bool (x28.2 != x348)) rfl (W.splitAt (t := 148) (b := (x28.2 != x348)) rfl (fun g385 gv386 => ?_) (fun g385 gv386 => ?_)))))
   .have h387 := z03 g385 h384
    refine W.q6 rfl gv386 (W.q6 rfl gv386 (W.q6 rfl gv386 (W.q4 (hg := gk rfl rfl gv383 rfl) (.bool true) gv386 rfl (W.q4 (hg := gk rfl rfl rfl rfl) (.bool true) gv383 rfl (W.q5 (.bool true) rfl rfl (.nil ?_))))))
    obtain rfl := zAa h387
    exact ⟨true, _, rfl, O352, (zAf _), rfl⟩
   have h388 := z0g g385 h384
   refine W.q2 (hg := gk rfl rfl gv386 rfl) w36 ((fr315 11 rfl).trans ((fr299 11 rfl).trans ((fr220 11 rfl).trans ((fr127 11 rfl).trans ((fr64 11 rfl).trans rfl))))) (W.pure (v := (.int .i64 (List.length x28.1 : Int))) (gk rfl rfl gv386 rfl) rfl (z0f (oo rfl rfl) (O352.slLen (j := 3) rfl) (z02 el44)) (W.q3 (hg := gk rfl rfl gv386 rfl) (.bool (decide ((List.length x28.1 : Int) > 0))) rfl rfl (W.q5 (hg := gk rfl rfl gv383 rfl) (.bool (decide ((List.length x28.1 : Int) > 0))) gv386 rfl (W.q4 (hg := gk rfl rfl rfl rfl) (.bool (decide ((List.length x28.1 : Int) > 0))) gv383 rfl (W.q5 (.bool (decide ((List.length x28.1 : Int) > 0))) rfl rfl (.nil ?_))))))
   obtain rfl := zAa h388
   exact ⟨decide ((List.length x28.1 : Int) > 0), _, rfl, O352, (zAf _), rfl⟩
  have h364 := z03 g362 h360
  refine W.q2 (hg := gk rfl rfl gv363 rfl) (.int .i64 x15.2) ((fr315 10 rfl).trans ((fr299 10 rfl).trans ((fr220 10 rfl).trans ((fr127 10 rfl).trans ((fr64 10 rfl).trans rfl))))) (W.q2 (hg := gk rfl rfl gv363 rfl) _ t320 (W.q3 (hg := gk rfl rfl gv363 rfl) (.bool (x15.2 != x312)) rfl rfl (W.q2 (hg := gk rfl rfl gv363 rfl) (.bool (x15.2 != x312)) rfl (W.splitAt (t := 135) (b := (x15.2 != x312)) rfl (fun g365 gv366 => ?_) (fun g365 gv366 => ?_)))))
  .have h367 := z03 g365 h364
   refine W.q6 rfl gv366 (W.q6 rfl gv366 (W.q6 rfl gv366 (W.q4 (hg := gk rfl rfl gv363 rfl) (.bool true) gv366 rfl (W.q4 (.bool true) gv363 rfl (W.q2 (.bool true) rfl (W.q6 rfl rfl ?_))))))
   refine W.q6 rfl rfl (W.q6 rfl rfl (W.skipU rfl rfl rfl rfl (W.skipU rfl rfl rfl rfl (W.skipU rfl rfl rfl rfl (W.skipU rfl rfl rfl rfl (W.skipU rfl rfl rfl rfl ?_))))))
   refine W.skipU rfl rfl rfl rfl (W.skipU rfl rfl rfl rfl (W.skipU rfl rfl rfl rfl (W.q6 rfl rfl (W.q4 (.bool true) rfl rfl (.nil ?_)))))
   obtain rfl := zAa h367
   exact ⟨true, _, rfl, O352, (zAf _), rfl⟩
  have h368 := z0g g365 h364
  refine W.q2 (hg := gk rfl rfl gv366 rfl) w23 ((fr315 9 rfl).trans ((fr299 9 rfl).trans ((fr220 9 rfl).trans ((fr127 9 rfl).trans ((fr64 9 rfl).trans rfl))))) (W.pure (v := (.int .i64 (List.length x15.1 : Int))) (gk rfl rfl gv366 rfl) rfl (z0f (oo rfl rfl) (O352.slLen (j := 4) rfl) (z02 el44)) (W.q3 (hg := gk rfl rfl gv366 rfl) (.bool (decide ((List.length x15.1 : Int) > 0))) rfl rfl (W.q5 (hg := gk rfl rfl gv363 rfl) (.bool (decide ((List.length x15.1 : Int) > 0))) gv366 rfl (W.q4 (.bool (decide ((List.length x15.1 : Int) > 0))) gv363 rfl (W.q2 (.bool (decide ((List.length x15.1 : Int) > 0))) rfl (W.splitAt (t := 141) (b := decide ((List.length x15.1 : Int) > 0)) rfl (fun g369 gv370 => ?_) (fun g369 gv370 => ?_)))))))
  .have h371 := z03 g369 h368
   refine W.q6 rfl gv370 (W.q6 rfl gv370 (W.q6 rfl gv370 (W.skipU rfl rfl rfl rfl (W.skipU rfl rfl rfl rfl (W.skipU rfl rfl rfl rfl (W.skipU rfl rfl rfl rfl ?_))))))
   refine W.skipU rfl rfl rfl rfl (W.skipU rfl rfl rfl rfl (W.skipU rfl rfl rfl rfl (W.skipU rfl rfl rfl rfl (W.q6 rfl gv370 (W.q4 (.bool true) gv370 rfl (.nil ?_))))))
   obtain rfl := zAa h371
   exact ⟨true, _, rfl, O352, (zAf _), rfl⟩
  have h372 := z0g g369 h368
  refine W.q2 (hg := gk rfl rfl gv370 rfl) (.int .i64 x348) rfl (W.q3 (hg := gk rfl rfl gv370 rfl) (.bool (x348 != 0)) rfl rfl (W.q2 (hg := gk rfl rfl gv370 rfl) (.bool (x348 != 0)) rfl (W.splitAt (t := 144) (b := (x348 != 0)) rfl (fun g373 gv374 => ?_) (fun g373 gv374 => ?_))))
  rotate_left
  .have h380 := z0g g373 h372
   refine W.q6 rfl gv374 (W.q6 rfl gv374 (W.q6 rfl gv374 (W.q6 rfl gv374 (W.skipU rfl rfl rfl rfl (W.skipU rfl rfl rfl rfl (W.skipU rfl rfl rfl rfl ?_))))))
   refine W.q6 rfl gv374 (W.q5 (hg := gk rfl rfl gv370 rfl) (.bool false) gv374 rfl (W.q5 (.bool false) gv370 rfl (.nil ?_)))
   obtain rfl := zAa h380
   exact ⟨false, _, rfl, O352, (zAf _), rfl⟩
  have h375 := z03 g373 h372
  refine W.q2 (hg := gk rfl rfl gv374 rfl) (.int .i64 x28.2) ((fr315 12 rfl).trans ((fr299 12 rfl).trans ((fr220 12 rfl).trans ((fr127 12 rfl).trans ((fr64 12 rfl).trans rfl))))) (W.q2 (hg := gk rfl rfl gv374 rfl) (.int .i64 x348) rfl (W.q3 (hg := gk rfl rfl gv374 rfl) (.bool (x28.2 != x348)) rfl rfl (W.q2 (hg := gk rfl rfl gv374 rfl) (.bool (x28.2 != x348)) rfl (W.splitAt (t := 148) (b := (x28.2 != x348)) rfl (fun g376 gv377 => ?_) (fun g376 gv377 => ?_)))))
  .have h378 := z03 g376 h375
   refine W.q6 rfl gv377 (W.q6 rfl gv377 (W.q6 rfl gv377 (W.q4 (hg := gk rfl rfl gv374 rfl) (.bool true) gv377 rfl (W.q4 (hg := gk rfl rfl gv370 rfl) (.bool true) gv374 rfl (W.q5 (.bool true) gv370 rfl (.nil ?_))))))
   obtain rfl := zAa h378
   exact ⟨true, _, rfl, O352, (zAf _), rfl⟩
  have h379 := z0g g376 h375
  refine W.q2 (hg := gk rfl rfl gv377 rfl) w36 ((fr315 11 rfl).trans ((fr299 11 rfl).trans ((fr220 11 rfl).trans ((fr127 11 rfl).trans ((fr64 11 rfl).trans rfl))))) (W.pure (v := (.int .i64 (List.length x28.1 : Int))) (gk rfl rfl gv377 rfl) rfl (z0f (oo rfl rfl) (O352.slLen (j := 3) rfl) (z02 el44)) (W.q3 (hg := gk rfl rfl gv377 rfl) (.bool (decide ((List.length x28.1 : Int) > 0))) rfl rfl (W.q5 (hg := gk rfl rfl gv374 rfl) (.bool (decide ((List.length x28.1 : Int) > 0))) gv377 rfl (W.q4 (hg := gk rfl rfl gv370 rfl) (.bool (decide ((List.length x28.1 : Int) > 0))) gv374 rfl (W.q5 (.bool (decide ((List.length x28.1 : Int) > 0))) gv370 rfl (.nil ?_))))))
  obtain rfl := zAa h379
  exact ⟨decide ((List.length x28.1 : Int) > 0), _, rfl, O352, (zAf _), rfl⟩
 rintro σ391 H392 fr393 ⟨x390, G394, rfl, O395, s396, t398⟩
 have h399 := z09 h361
 refine .cond (b := x390) rfl t398 (fun g400 => ?_) (fun g400 => ?_)
 .have h401 := z03 g400 h399
  refine .seq (.region (W.q1 (.bool false) rfl (.nil (.ret ?_))))
  have O402 : Ow G394 H392 (eSl v250 28 (rI .i64) [x226, x237] :: eSl w49 45 (rSl rS) x41.1 :: eSl w36 45 (rSl rS) x28.1 :: eSl w23 45 (rSl rS) x15.1 :: L) := O395.drop 0
  have O403 : Ow G394 H392 (eSl w49 45 (rSl rS) x41.1 :: eSl w36 45 (rSl rS) x28.1 :: eSl w23 45 (rSl rS) x15.1 :: L) := O402.drop 0
  have O404 : Ow G394 H392 (eSl w36 45 (rSl rS) x28.1 :: eSl w23 45 (rSl rS) x15.1 :: L) := O403.drop 0
  have O405 : Ow G394 H392 (eSl w23 45 (rSl rS) x15.1 :: L) := O404.drop 0
  have O406 : Ow G394 H392 (L) := O405.drop 0
  obtain rfl := zAa h401
  exact z1h kr (v1 := (.bool false)) (by rfl) (z07 (by rfl) (by exact rfl)) O406 (zAe s6 (zAe s20 (zAe s33 (zAe s46 (zAe s67 (zAe s130 (zAe s223 (zAe s231 (zAe s242 (zAe s257 (zAe s302 (zAe s318 (zAe s327 (zAe s338 (zAe s353 s396))))))))))))))) rfl
 have h407 := z0g g400 h399
 refine .skip (.seq (.seq (.region (W.q2 v0 ((fr393 0 rfl).trans ((fr315 0 rfl).trans ((fr299 0 rfl).trans ((fr220 0 rfl).trans ((fr127 0 rfl).trans ((fr64 0 rfl).trans rfl)))))) (W.q2 v1 ((fr393 1 rfl).trans ((fr315 1 rfl).trans ((fr299 1 rfl).trans ((fr220 1 rfl).trans ((fr127 1 rfl).trans ((fr64 1 rfl).trans rfl)))))) (W.q2 (.string p2) ((fr393 2 rfl).trans ((fr315 2 rfl).trans ((fr299 2 rfl).trans ((fr220 2 rfl).trans ((fr127 2 rfl).trans ((fr64 2 rfl).trans rfl)))))) ?_))))))
 refine W.lo rfl rfl (Lo.buildSlice (r := rS) (vs := [(.string p2)]) (xs := [p2]) el45 ze22 sz22 (by kernel_rfl) rfl (qc rfl qn) rfl (.cons rfl .nil) O395) ?_
 rintro v410 H411 ⟨O408, sm409⟩
 obtain ⟨G413, O414, s415, f416⟩ := O408.frzSl (j := 0) rfl
 refine W.lo rfl rfl (Lo.buildSlice (r := (rSl rS)) (vs := [v410]) (xs := [[p2]]) el44 ze45 sz45 (by kernel_rfl) rfl (qc rfl qn) rfl (.cons (z2q f416) .nil) O414) ?_
 rintro v418 H419 ⟨O412, sm417⟩
 obtain ⟨G421, O422, s423, f424⟩ := O412.frzSl (j := 0) rfl
 refine W.lo rfl rfl (Lo.buildSlice (r := (rSl (rSl rS))) (vs := [v0, v1, v418]) (xs := [p0, p1, [[p2]]]) zo9 ze44 sz44 (by kernel_rfl) rfl (qc rfl (qc rfl (qc rfl qn))) rfl (.cons (z2q (RT.mono _ (zAe s6 (zAe s20 (zAe s33 (zAe s46 (zAe s67 (zAe s130 (zAe s223 (zAe s231 (zAe s242 (zAe s257 (zAe s302 (zAe s318 (zAe s327 (zAe s338 (zAe s353 (zAe s396 (zAe s415 s423))))))))))))))))) hp0)) (.cons (z2q (RT.mono _ (zAe s6 (zAe s20 (zAe s33 (zAe s46 (zAe s67 (zAe s130 (zAe s223 (zAe s231 (zAe s242 (zAe s257 (zAe s302 (zAe s318 (zAe s327 (zAe s338 (zAe s353 (zAe s396 (zAe s415 s423))))))))))))))))) hp1)) (.cons (z2q f424) .nil))) O422) ?_
 rintro v426 H427 ⟨O420, sm425⟩
 obtain ⟨x428, i429, h430⟩ := z00 h407
 refine W.lo rfl rfl (Lo.callB (j := 0) rfl rfl (fn := Tryz.f32) (by kernel_rfl) rfl (mc rfl (mc rfl mn)) O420 (fun G' L' hG O' hB => zee K 6 v426 [p0, p1, [[p2]]] hB O' _ i429)) ?_
 rintro v437 H438 ⟨G431, O432, s433, sm436, rfl⟩
 refine .nil (.cond (b := x428) rfl rfl (fun g439 => ?_) (fun g439 => ?_))
 .have h440 := z03 g439 h430
  refine .seq (.region (W.q1 (.bool true) rfl (.nil (.ret ?_))))
  have O441 : Ow G431 H438 (eSl v346 28 (rI .i64) [x322, x333] :: eSl v250 28 (rI .i64) [x226, x237] :: eSl w49 45 (rSl rS) x41.1 :: eSl w36 45 (rSl rS) x28.1 :: eSl w23 45 (rSl rS) x15.1 :: L) := O432.drop 0
  have O442 : Ow G431 H438 (eSl v250 28 (rI .i64) [x226, x237] :: eSl w49 45 (rSl rS) x41.1 :: eSl w36 45 (rSl rS) x28.1 :: eSl w23 45 (rSl rS) x15.1 :: L) := O441.drop 0
  have O443 : Ow G431 H438 (eSl w49 45 (rSl rS) x41.1 :: eSl w36 45 (rSl rS) x28.1 :: eSl w23 45 (rSl rS) x15.1 :: L) := O442.drop 0
  have O444 : Ow G431 H438 (eSl w36 45 (rSl rS) x28.1 :: eSl w23 45 (rSl rS) x15.1 :: L) := O443.drop 0
  have O445 : Ow G431 H438 (eSl w23 45 (rSl rS) x15.1 :: L) := O444.drop 0
  have O446 : Ow G431 H438 (L) := O445.drop 0
  obtain rfl := zAa h440
  exact z1h kr (v1 := (.bool true)) (by rfl) (z07 (by rfl) (by exact rfl)) O446 (zAe s6 (zAe s20 (zAe s33 (zAe s46 (zAe s67 (zAe s130 (zAe s223 (zAe s231 (zAe s242 (zAe s257 (zAe s302 (zAe s318 (zAe s327 (zAe s338 (zAe s353 (zAe s396 (zAe s415 (zAe s423 s433)))))))))))))))))) rfl
 have h447 := z0g g439 h430
 refine .skip (.seq (.seq (.region (W.q2 v0 ((fr393 0 rfl).trans ((fr315 0 rfl).trans ((fr299 0 rfl).trans ((fr220 0 rfl).trans ((fr127 0 rfl).trans ((fr64 0 rfl).trans rfl)))))) (W.pure (v := (.int .i64 (List.length p0 : Int))) rfl rfl (z0f (oo rfl rfl) (z0a (RT.mono _ (zAe s6 (zAe s20 (zAe s33 (zAe s46 (zAe s67 (zAe s130 (zAe s223 (zAe s231 (zAe s242 (zAe s257 (zAe s302 (zAe s318 (zAe s327 (zAe s338 (zAe s353 (zAe s396 (zAe s415 (zAe s423 s433)))))))))))))))))) hp0)) (z02 el44)) (W.q2 (.int .i64 0) rfl ?_))))))
 refine .nil ?_
 obtain ⟨q448, h449, h450⟩ := z1t h447
 refine AW.midT (fun σ' H' => ∃  (G' : GM), (.inr ()) = q448 /\ Ow G' H' (eSl v426 44 (rSl (rSl rS)) [p0, p1, [[p2]]] :: eSl v346 28 (rI .i64) [x322, x333] :: eSl v250 28 (rI .i64) [x226, x237] :: eSl w49 45 (rSl rS) x41.1 :: eSl w36 45 (rSl rS) x28.1 :: eSl w23 45 (rSl rS) x15.1 :: L) /\ GM.le G431 G') ?_ ?_
 rotate_left
 .rintro σ659 H660 fr661 ⟨G662, rfl, O663, s664⟩
  have h666 := z4z (z70 h450)
  refine .seq (.region (W.q1 (.bool true) rfl (.nil (.ret ?_))))
  have O667 : Ow G662 H660 (eSl v346 28 (rI .i64) [x322, x333] :: eSl v250 28 (rI .i64) [x226, x237] :: eSl w49 45 (rSl rS) x41.1 :: eSl w36 45 (rSl rS) x28.1 :: eSl w23 45 (rSl rS) x15.1 :: L) := O663.drop 0
  have O668 : Ow G662 H660 (eSl v250 28 (rI .i64) [x226, x237] :: eSl w49 45 (rSl rS) x41.1 :: eSl w36 45 (rSl rS) x28.1 :: eSl w23 45 (rSl rS) x15.1 :: L) := O667.drop 0
  have O669 : Ow G662 H660 (eSl w49 45 (rSl rS) x41.1 :: eSl w36 45 (rSl rS) x28.1 :: eSl w23 45 (rSl rS) x15.1 :: L) := O668.drop 0
  have O670 : Ow G662 H660 (eSl w36 45 (rSl rS) x28.1 :: eSl w23 45 (rSl rS) x15.1 :: L) := O669.drop 0
  have O671 : Ow G662 H660 (eSl w23 45 (rSl rS) x15.1 :: L) := O670.drop 0
  have O672 : Ow G662 H660 (L) := O671.drop 0
  obtain rfl := zAa h666
  exact z1h kr (v1 := (.bool true)) (by rfl) (z07 (by rfl) (by exact rfl)) O672 (zAe s6 (zAe s20 (zAe s33 (zAe s46 (zAe s67 (zAe s130 (zAe s223 (zAe s231 (zAe s242 (zAe s257 (zAe s302 (zAe s318 (zAe s327 (zAe s338 (zAe s353 (zAe s396 (zAe s415 (zAe s423 (zAe s433 s664))))))))))))))))))) rfl
 refine .block (AW.loop (α := Nat) (fun k' σ' H' => ∃ (y1 : Int) (G' : GM), z0t K p0 p1 p2 x15 x28 x312 x348 k' y1 = some q448 /\ Ow G' H' (eSl v426 44 (rSl (rSl rS)) [p0, p1, [[p2]]] :: eSl v346 28 (rI .i64) [x322, x333] :: eSl v250 28 (rI .i64) [x226, x237] :: eSl w49 45 (rSl rS) x41.1 :: eSl w36 45 (rSl rS) x28.1 :: eSl w23 45 (rSl rS) x15.1 :: L) /\ GM.le G431 G' /\ σ' 164 = .int .i64 y1) (fun k' => k') K ⟨0, _, h449, O432, (zAf _), rfl⟩ ?_)
 rintro k451
 rintro σ453 H454 fr455 ⟨x452, G456, h459, O457, s458, t460⟩
 rcases k451 with _ | k451
 .exact z06 h459
 rw [z0t] at h459
 refine .seq (.region (W.q3 (.bool (decide (x452 < (List.length p0 : Int)))) t460 ((fr455 163 rfl).trans rfl) (.nil (.seq (.cond (b := decide (x452 < (List.length p0 : Int))) rfl rfl (fun g461 => ?_) (fun g461 => ?_))))))
 rotate_left
 .have h658 := z0g g461 h459
  refine .exit ?_
  obtain rfl := zAa h658
  exact ⟨_, rfl, O457, s458⟩
 have h462 := z03 g461 h459
 refine .skip (.seq (.block (.seq (.region (W.q2 _ t460 ?_)))))
 obtain ⟨x463, i464, h465⟩ := z00 h462
 have j466 := z0d i464
 refine W.pure (v := (z1k v0 (Int.toNat x452 * 1))) rfl rfl (z26 el44 sz45 (oo rfl ((fr455 162 rfl).trans rfl)) (oo rfl t460) (z0a (RT.mono _ (zAe s6 (zAe s20 (zAe s33 (zAe s46 (zAe s67 (zAe s130 (zAe s223 (zAe s231 (zAe s242 (zAe s257 (zAe s302 (zAe s318 (zAe s327 (zAe s338 (zAe s353 (zAe s396 (zAe s415 (zAe s423 (zAe s433 s458))))))))))))))))))) hp0)) j466.1 j466.2.1) ?_
 obtain ⟨w467, p468, f469⟩ := At.sl (At.le (z17 hp0 j466.2.2) (zAe s6 (zAe s20 (zAe s33 (zAe s46 (zAe s67 (zAe s130 (zAe s223 (zAe s231 (zAe s242 (zAe s257 (zAe s302 (zAe s318 (zAe s327 (zAe s338 (zAe s353 (zAe s396 (zAe s415 (zAe s423 (zAe s433 s458))))))))))))))))))) (zAe s6 (zAe s20 (zAe s33 (zAe s46 (zAe s67 (zAe s130 (zAe s223 (zAe s231 (zAe s242 (zAe s257 (zAe s302 (zAe s318 (zAe s327 (zAe s338 (zAe s353 (zAe s396 (zAe s415 (zAe s423 (zAe s433 s458))))))))))))))))))))
 replace p468 := PtG.le p468 O457.fro
 refine W.load1 (v := w467) (r := []) rfl rfl ag45 (z15 rfl p468) (W.q1 (.int .i64 x452) rfl (W.q1 w467 rfl (.nil (.seq (.region (W.q2 w467 rfl ?_))))))
 refine W.pure (v := (.int .i64 (List.length x463 : Int))) rfl rfl (z0f (oo rfl rfl) (z0a f469) (z02 el45)) (W.q2 (.int .i64 0) rfl (.nil ?_))
 obtain ⟨q470, h471, h472⟩ := z1t h465
 refine AW.midT (fun σ' H' => ∃  (G' : GM), (.inr ()) = q470 /\ Ow G' H' (eSl v426 44 (rSl (rSl rS)) [p0, p1, [[p2]]] :: eSl v346 28 (rI .i64) [x322, x333] :: eSl v250 28 (rI .i64) [x226, x237] :: eSl w49 45 (rSl rS) x41.1 :: eSl w36 45 (rSl rS) x28.1 :: eSl w23 45 (rSl rS) x15.1 :: L) /\ GM.le G456 G') ?_ ?_
 rotate_left
 .rintro σ649 H650 fr651 ⟨G652, rfl, O653, s654⟩
  have h656 := z4z (z70 h472)
  refine .region (W.q3 (.int .i64 (z04 .i64 (x452 + 1))) ((fr651 164 rfl).trans t460) rfl (W.q2 (.int .i64 (z04 .i64 (x452 + 1))) rfl (.nil ?_)))
  exact ⟨k451, zAg _, ⟨z04 .i64 (x452 + 1), _, h656, O653, (zAe s458 s654), rfl⟩⟩
 refine .block (AW.loop (α := Nat) (fun k' σ' H' => ∃ (y1 : Int) (G' : GM), z0s K p0 p1 p2 x15 x28 x312 x348 x452 x463 k' y1 = some q470 /\ Ow G' H' (eSl v426 44 (rSl (rSl rS)) [p0, p1, [[p2]]] :: eSl v346 28 (rI .i64) [x322, x333] :: eSl v250 28 (rI .i64) [x226, x237] :: eSl w49 45 (rSl rS) x41.1 :: eSl w36 45 (rSl rS) x28.1 :: eSl w23 45 (rSl rS) x15.1 :: L) /\ GM.le G456 G' /\ σ' 171 = .int .i64 y1) (fun k' => k') K ⟨0, _, h471, O457, (zAf _), rfl⟩ ?_)
 rintro k473
 rintro σ475 H476 fr477 ⟨x474, G478, h481, O479, s480, t482⟩
 rcases k473 with _ | k473
 .exact z06 h481
 rw [z0s] at h481
 refine .seq (.region (W.q3 (.bool (decide (x474 < (List.length x463 : Int)))) t482 ((fr477 170 rfl).trans rfl) (.nil (.seq (.cond (b := decide (x474 < (List.length x463 : Int))) rfl rfl (fun g483 => ?_) (fun g483 => ?_))))))
 rotate_left
 .have h648 := z0g g483 h481
  refine .exit ?_
  obtain rfl := zAa h648
  exact ⟨_, rfl, O479, s480⟩
 have h484 := z03 g483 h481
 refine .skip (.seq (.block (.seq (.region (W.q2 _ t482 ?_)))))
 obtain ⟨x485, i486, h487⟩ := z00 h484
 have j488 := z0d i486
 refine W.pure (v := (z1k w467 (Int.toNat x474 * 1))) rfl rfl (z26 el45 sz22 (oo rfl ((fr477 169 rfl).trans rfl)) (oo rfl t482) (z0a (RT.mono _ s480 f469)) j488.1 j488.2.1) (W.load1 (v := (.string x485)) (r := []) rfl rfl ag22 (z15 rfl (At.str (At.le (At.le (z17 f469 j488.2.2) s480 s480) (zAf _) O479.fro))) (W.q1 (.int .i64 x474) rfl (W.q1 (.string x485) rfl (.nil (.seq (.seq ?_))))))
 obtain ⟨q489, h490, h491⟩ := z00 h487
 refine AW.midT (fun σ' H' => ∃ (y1 : Bool) (G' : GM), y1 = q489 /\ Ow G' H' (eSl v426 44 (rSl (rSl rS)) [p0, p1, [[p2]]] :: eSl v346 28 (rI .i64) [x322, x333] :: eSl v250 28 (rI .i64) [x226, x237] :: eSl w49 45 (rSl rS) x41.1 :: eSl w36 45 (rSl rS) x28.1 :: eSl w23 45 (rSl rS) x15.1 :: L) /\ GM.le G478 G' /\ σ' 217 = .bool y1) ?_ ?_
 .refine .draw2 (M := [0, 1, 3, 7, 15, 31, 63, 127, 63, 319, 1023, 2047, 4095, 8191, 8191, 32767, 65535, 131071, 8191, 270335, 1048575, 2097151, 4194303, 8388607, 8388607, 33554431, 67108863, 8388607, 268435455, 536870911, 8388607, 8388607, 8388607, 6450839551, 15040774143, 8388607, 66580381695, 135299858431, 273812553727, 549755813887, 1099511627775, 2199023255551]) mixed (by kernel_rfl) (by kernel_rfl) fun H492 N496 x493 F495 => ?_
  have O494 := O479.ext x493
  refine D2.q2 _ ((fr477 19 rfl).trans ((fr455 19 rfl).trans ((fr393 19 rfl).trans t320))) (D2.q3 (.bool (x312 == 0)) rfl rfl (D2.q2 (.bool (x312 == 0)) rfl (D2.splitAt (t := 178) (b := (x312 == 0)) rfl (fun g497 gv498 => ?_) (fun g497 gv498 => ?_))))
  rotate_left
  .have h552 := z0g g497 h490
   refine D2.skip (gk rfl rfl gv498 rfl) rfl (D2.skip (gk rfl rfl gv498 rfl) rfl (D2.skip (gk rfl rfl gv498 rfl) rfl (D2.skipU rfl rfl rfl rfl (D2.skipU rfl rfl rfl rfl (D2.skipU rfl rfl rfl rfl (D2.skipU rfl rfl rfl rfl ?_))))))
   refine D2.skipU rfl rfl rfl rfl (D2.skip (gk rfl rfl gv498 rfl) rfl (D2.skip (gk rfl rfl gv498 rfl) rfl (D2.skipU rfl rfl rfl rfl (D2.skipU rfl rfl rfl rfl (D2.skipU rfl rfl rfl rfl (D2.skipU rfl rfl rfl rfl ?_))))))
   refine D2.skipU rfl rfl rfl rfl (D2.skipU rfl rfl rfl rfl (D2.skipU rfl rfl rfl rfl (D2.skipU rfl rfl rfl rfl (D2.skip (gk rfl rfl gv498 rfl) rfl (D2.skip (gk rfl rfl gv498 rfl) rfl (D2.skipU rfl rfl rfl rfl ?_))))))
   refine D2.skipU rfl rfl rfl rfl (D2.skipU rfl rfl rfl rfl (D2.skipU rfl rfl rfl rfl (D2.skipU rfl rfl rfl rfl (D2.skipU rfl rfl rfl rfl (D2.skipU rfl rfl rfl rfl (D2.skipU rfl rfl rfl rfl ?_))))))
   refine D2.skipU rfl rfl rfl rfl (D2.skipU rfl rfl rfl rfl (D2.skipU rfl rfl rfl rfl (D2.skipU rfl rfl rfl rfl (D2.skipU rfl rfl rfl rfl (D2.skipU rfl rfl rfl rfl (D2.skipU rfl rfl rfl rfl ?_))))))
   refine D2.skipU rfl rfl rfl rfl (D2.skipU rfl rfl rfl rfl (D2.skip (gk rfl rfl gv498 rfl) rfl (D2.pure (v := (.bool false)) rfl rfl (z89 (oo rfl gv498) (oo rfl rfl)) (.nil ?_))))
   obtain rfl := zAa h552
   exact ⟨false, _, rfl, O494, (zAf _), rfl⟩
  have h499 := z03 g497 h490
  refine D2.q2 (hg := gk rfl rfl gv498 rfl) (.int .i64 x15.2) ((fr477 10 rfl).trans ((fr455 10 rfl).trans ((fr393 10 rfl).trans ((fr315 10 rfl).trans ((fr299 10 rfl).trans ((fr220 10 rfl).trans ((fr127 10 rfl).trans ((fr64 10 rfl).trans rfl)))))))) (D2.q3 (hg := gk rfl rfl gv498 rfl) (.bool (x15.2 != 0)) rfl rfl (D2.q2 (hg := gk rfl rfl gv498 rfl) (.bool (x15.2 != 0)) rfl (D2.splitAt (t := 181) (b := (x15.2 != 0)) rfl (fun g500 gv501 => ?_) (fun g500 gv501 => ?_))))
  .have h502 := z03 g500 h499
   refine D2.skip (gk rfl rfl gv501 rfl) rfl (D2.skip (gk rfl rfl gv501 rfl) rfl (D2.skip (gk rfl rfl gv501 rfl) rfl (D2.skip (gk rfl rfl gv501 rfl) rfl (D2.skip (gk rfl rfl gv501 rfl) rfl (D2.pure (v := (.bool true)) (gk rfl rfl gv498 rfl) rfl (z4i (oo rfl gv501) (oo rfl rfl)) (D2.q2 (hg := gk rfl rfl gv498 rfl) (.bool true) rfl ?_))))))
   refine D2.skip (gk rfl rfl rfl rfl) rfl (D2.skip (gk rfl rfl rfl rfl) rfl (D2.skip (gk rfl rfl rfl rfl) rfl (D2.skip (gk rfl rfl rfl rfl) rfl (D2.skip (gk rfl rfl rfl rfl) rfl (D2.skip (gk rfl rfl rfl rfl) rfl (D2.skip (gk rfl rfl rfl rfl) rfl ?_))))))
   refine D2.skip (gk rfl rfl rfl rfl) rfl (D2.pure (v := (.bool true)) (gk rfl rfl gv498 rfl) rfl (z4i (oo rfl rfl) (oo rfl rfl)) (D2.q2 (hg := gk rfl rfl gv498 rfl) (.bool true) rfl (D2.skip (gk rfl rfl rfl rfl) rfl (D2.skip (gk rfl rfl rfl rfl) rfl (D2.skip (gk rfl rfl rfl rfl) rfl (D2.skip (gk rfl rfl rfl rfl) rfl ?_))))))
   refine D2.skip (gk rfl rfl rfl rfl) rfl (D2.skip (gk rfl rfl rfl rfl) rfl (D2.skip (gk rfl rfl rfl rfl) rfl (D2.skip (gk rfl rfl rfl rfl) rfl (D2.skip (gk rfl rfl rfl rfl) rfl (D2.skip (gk rfl rfl rfl rfl) rfl (D2.skip (gk rfl rfl rfl rfl) rfl ?_))))))
   refine D2.skip (gk rfl rfl rfl rfl) rfl (D2.skip (gk rfl rfl rfl rfl) rfl (D2.skip (gk rfl rfl rfl rfl) rfl (D2.skip (gk rfl rfl rfl rfl) rfl (D2.skip (gk rfl rfl rfl rfl) rfl (D2.skip (gk rfl rfl rfl rfl) rfl (D2.pure (v := (.bool true)) (gk rfl rfl gv498 rfl) rfl (z4i (oo rfl rfl) (oo rfl rfl)) ?_))))))
   refine D2.pure (v := (.bool true)) rfl rfl (z4i (oo rfl gv498) (oo rfl rfl)) (.nil ?_)
   obtain rfl := zAa h502
   exact ⟨true, _, rfl, O494, (zAf _), rfl⟩
  have h503 := z0g g500 h499
  refine D2.q2 (hg := gk rfl rfl gv501 rfl) w23 ((fr477 9 rfl).trans ((fr455 9 rfl).trans ((fr393 9 rfl).trans ((fr315 9 rfl).trans ((fr299 9 rfl).trans ((fr220 9 rfl).trans ((fr127 9 rfl).trans ((fr64 9 rfl).trans rfl)))))))) (D2.pure (v := (.int .i64 (List.length x15.1 : Int))) (gk rfl rfl gv501 rfl) rfl (z0f (oo rfl rfl) (O494.slLen (j := 5) rfl) (z02 el44)) (D2.q2 (hg := gk rfl rfl gv501 rfl) v0 ((fr477 0 rfl).trans ((fr455 0 rfl).trans ((fr393 0 rfl).trans ((fr315 0 rfl).trans ((fr299 0 rfl).trans ((fr220 0 rfl).trans ((fr127 0 rfl).trans ((fr64 0 rfl).trans rfl)))))))) (D2.pure (v := (.int .i64 (List.length p0 : Int))) (gk rfl rfl gv501 rfl) rfl (z0f (oo rfl rfl) (z0a (RT.mono _ (zAe s6 (zAe s20 (zAe s33 (zAe s46 (zAe s67 (zAe s130 (zAe s223 (zAe s231 (zAe s242 (zAe s257 (zAe s302 (zAe s318 (zAe s327 (zAe s338 (zAe s353 (zAe s396 (zAe s415 (zAe s423 (zAe s433 (zAe s458 s480)))))))))))))))))))) hp0)) (z02 el44)) (D2.q3 (hg := gk rfl rfl gv501 rfl) (.bool ((List.length x15.1 : Int) != (List.length p0 : Int))) rfl rfl (D2.pure (v := (.bool ((List.length x15.1 : Int) != (List.length p0 : Int)))) (gk rfl rfl gv498 rfl) rfl (z89 (oo rfl gv501) (oo rfl rfl)) (D2.q2 (hg := gk rfl rfl gv498 rfl) (.bool ((List.length x15.1 : Int) != (List.length p0 : Int))) rfl ?_))))))
  refine D2.splitAt (t := 188) (b := ((List.length x15.1 : Int) != (List.length p0 : Int))) rfl (fun g504 gv505 => ?_) (fun g504 gv505 => ?_)
  .have h506 := z03 g504 h503
   refine D2.skip (gk rfl rfl gv505 rfl) rfl (D2.skip (gk rfl rfl gv505 rfl) rfl (D2.skip (gk rfl rfl gv505 rfl) rfl (D2.skip (gk rfl rfl gv505 rfl) rfl (D2.skip (gk rfl rfl gv505 rfl) rfl (D2.skip (gk rfl rfl gv505 rfl) rfl (D2.skip (gk rfl rfl gv505 rfl) rfl ?_))))))
   refine D2.skip (gk rfl rfl gv505 rfl) rfl (D2.pure (v := (.bool true)) (gk rfl rfl gv498 rfl) rfl (z4i (oo rfl gv505) (oo rfl rfl)) (D2.q2 (hg := gk rfl rfl gv498 rfl) (.bool true) rfl (D2.skip (gk rfl rfl rfl rfl) rfl (D2.skip (gk rfl rfl rfl rfl) rfl (D2.skip (gk rfl rfl rfl rfl) rfl (D2.skip (gk rfl rfl rfl rfl) rfl ?_))))))
   refine D2.skip (gk rfl rfl rfl rfl) rfl (D2.skip (gk rfl rfl rfl rfl) rfl (D2.skip (gk rfl rfl rfl rfl) rfl (D2.skip (gk rfl rfl rfl rfl) rfl (D2.skip (gk rfl rfl rfl rfl) rfl (D2.skip (gk rfl rfl rfl rfl) rfl (D2.skip (gk rfl rfl rfl rfl) rfl ?_))))))
   refine D2.skip (gk rfl rfl rfl rfl) rfl (D2.skip (gk rfl rfl rfl rfl) rfl (D2.skip (gk rfl rfl rfl rfl) rfl (D2.skip (gk rfl rfl rfl rfl) rfl (D2.skip (gk rfl rfl rfl rfl) rfl (D2.skip (gk rfl rfl rfl rfl) rfl (D2.pure (v := (.bool true)) (gk rfl rfl gv498 rfl) rfl (z4i (oo rfl rfl) (oo rfl rfl)) ?_))))))
   refine D2.pure (v := (.bool true)) rfl rfl (z4i (oo rfl gv498) (oo rfl rfl)) (.nil ?_)
   obtain rfl := zAa h506
   exact ⟨true, _, rfl, O494, (zAf _), rfl⟩
  have h507 := z0g g504 h503
  refine D2.q2 (hg := gk rfl rfl gv505 rfl) w23 ((fr477 9 rfl).trans ((fr455 9 rfl).trans ((fr393 9 rfl).trans ((fr315 9 rfl).trans ((fr299 9 rfl).trans ((fr220 9 rfl).trans ((fr127 9 rfl).trans ((fr64 9 rfl).trans rfl)))))))) (D2.q2 (hg := gk rfl rfl gv505 rfl) (.int .i64 x452) ((fr477 21 rfl).trans rfl) ?_)
  obtain ⟨x508, i509, h510⟩ := z00 h507
  have j511 := z0d i509
  refine D2.pure (v := (z1k w23 (Int.toNat x452 * 1))) (gk rfl rfl gv505 rfl) rfl (z26 el44 sz45 (oo rfl rfl) (oo rfl rfl) (O494.slLen (j := 5) rfl) j511.1 j511.2.1) ?_
  obtain ⟨w512, p513, f514⟩ := At.sl (O494.atSl (j := 5) rfl j511.2.2)
  refine D2.load1' (v := w512) (r := []) (gk rfl rfl gv505 rfl) rfl ag45 (z15 rfl p513) z0b (D2.pure (v := (.int .i64 (List.length x508 : Int))) (gk rfl rfl gv505 rfl) rfl (z0f (oo rfl rfl) (z0a f514) (z02 el45)) (D2.q2 (hg := gk rfl rfl gv505 rfl) w467 ((fr477 22 rfl).trans rfl) (D2.pure (v := (.int .i64 (List.length x463 : Int))) (gk rfl rfl gv505 rfl) rfl (z0f (oo rfl rfl) (z0a (RT.mono _ s480 f469)) (z02 el45)) (D2.q3 (hg := gk rfl rfl gv505 rfl) (.bool ((List.length x508 : Int) != (List.length x463 : Int))) rfl rfl (D2.pure (v := (.bool ((List.length x508 : Int) != (List.length x463 : Int)))) (gk rfl rfl gv498 rfl) rfl (z89 (oo rfl gv505) (oo rfl rfl)) (D2.q2 (hg := gk rfl rfl gv498 rfl) (.bool ((List.length x508 : Int) != (List.length x463 : Int))) rfl ?_))))))
  refine D2.splitAt (t := 198) (b := ((List.length x508 : Int) != (List.length x463 : Int))) rfl (fun g515 gv516 => ?_) (fun g515 gv516 => ?_)
  .have h517 := z03 g515 h510
   refine D2.skip (gk rfl rfl gv516 rfl) rfl (D2.skip (gk rfl rfl gv516 rfl) rfl (D2.skip (gk rfl rfl gv516 rfl) rfl (D2.skip (gk rfl rfl gv516 rfl) rfl (D2.skip (gk rfl rfl gv516 rfl) rfl (D2.skip (gk rfl rfl gv516 rfl) rfl (D2.skip (gk rfl rfl gv516 rfl) rfl ?_))))))
   refine D2.skip (gk rfl rfl gv516 rfl) rfl (D2.skip (gk rfl rfl gv516 rfl) rfl (D2.skip (gk rfl rfl gv516 rfl) rfl (D2.skip (gk rfl rfl gv516 rfl) rfl (D2.skip (gk rfl rfl gv516 rfl) rfl (D2.skip (gk rfl rfl gv516 rfl) rfl (D2.skip (gk rfl rfl gv516 rfl) rfl ?_))))))
   refine D2.skip (gk rfl rfl gv516 rfl) rfl (D2.skip (gk rfl rfl gv516 rfl) rfl (D2.skip (gk rfl rfl gv516 rfl) rfl (D2.pure (v := (.bool true)) (gk rfl rfl gv498 rfl) rfl (z4i (oo rfl gv516) (oo rfl rfl)) (D2.pure (v := (.bool true)) rfl rfl (z4i (oo rfl gv498) (oo rfl rfl)) (.nil ?_)))))
   obtain rfl := zAa h517
   exact ⟨true, _, rfl, O494, (zAf _), rfl⟩
  have h518 := z0g g515 h510
  refine D2.q2 (hg := gk rfl rfl gv516 rfl) w23 ((fr477 9 rfl).trans ((fr455 9 rfl).trans ((fr393 9 rfl).trans ((fr315 9 rfl).trans ((fr299 9 rfl).trans ((fr220 9 rfl).trans ((fr127 9 rfl).trans ((fr64 9 rfl).trans rfl)))))))) (D2.q2 (hg := gk rfl rfl gv516 rfl) (.int .i64 x452) ((fr477 21 rfl).trans rfl) ?_)
  obtain ⟨x519, i520, h521⟩ := z00 h518
  have j522 := z0d i520
  refine D2.pure (v := (z1k w23 (Int.toNat x452 * 1))) (gk rfl rfl gv516 rfl) rfl (z26 el44 sz45 (oo rfl rfl) (oo rfl rfl) (O494.slLen (j := 5) rfl) j522.1 j522.2.1) ?_
  obtain ⟨w523, p524, f525⟩ := At.sl (O494.atSl (j := 5) rfl j522.2.2)
  refine D2.load1' (v := w523) (r := []) (gk rfl rfl gv516 rfl) rfl ag45 (z15 rfl p524) z0b (D2.q2 (hg := gk rfl rfl gv516 rfl) (.int .i64 x474) rfl ?_)
  obtain ⟨x526, i527, h528⟩ := z00 h521
  have j529 := z0d i527
  refine D2.pure (v := (z1k w523 (Int.toNat x474 * 1))) (gk rfl rfl gv516 rfl) rfl (z26 el45 sz22 (oo rfl rfl) (oo rfl rfl) (z0a f525) j529.1 j529.2.1) (D2.load1' (v := (.string x526)) (r := []) (gk rfl rfl gv516 rfl) rfl ag22 (z15 rfl (At.str (At.le (z17 f525 j529.2.2) (zAf _) O494.fro))) z0b (D2.q2 (hg := gk rfl rfl gv516 rfl) (.string x485) rfl (D2.q2 (hg := gk rfl rfl gv516 rfl) v1 ((fr477 1 rfl).trans ((fr455 1 rfl).trans ((fr393 1 rfl).trans ((fr315 1 rfl).trans ((fr299 1 rfl).trans ((fr220 1 rfl).trans ((fr127 1 rfl).trans ((fr64 1 rfl).trans rfl)))))))) (D2.q2 (hg := gk rfl rfl gv516 rfl) (.int .i64 x452) ((fr477 21 rfl).trans rfl) ?_))))
  obtain ⟨x530, i531, h532⟩ := z00 h528
  have j533 := z0d i531
  refine D2.pure (v := (z1k v1 (Int.toNat x452 * 1))) (gk rfl rfl gv516 rfl) rfl (z26 el44 sz45 (oo rfl rfl) (oo rfl rfl) (z0a (RT.mono _ (zAe s6 (zAe s20 (zAe s33 (zAe s46 (zAe s67 (zAe s130 (zAe s223 (zAe s231 (zAe s242 (zAe s257 (zAe s302 (zAe s318 (zAe s327 (zAe s338 (zAe s353 (zAe s396 (zAe s415 (zAe s423 (zAe s433 (zAe s458 s480)))))))))))))))))))) hp1)) j533.1 j533.2.1) ?_
  obtain ⟨w534, p535, f536⟩ := At.sl (At.le (z17 hp1 j533.2.2) (zAe s6 (zAe s20 (zAe s33 (zAe s46 (zAe s67 (zAe s130 (zAe s223 (zAe s231 (zAe s242 (zAe s257 (zAe s302 (zAe s318 (zAe s327 (zAe s338 (zAe s353 (zAe s396 (zAe s415 (zAe s423 (zAe s433 (zAe s458 s480)))))))))))))))))))) (zAe s6 (zAe s20 (zAe s33 (zAe s46 (zAe s67 (zAe s130 (zAe s223 (zAe s231 (zAe s242 (zAe s257 (zAe s302 (zAe s318 (zAe s327 (zAe s338 (zAe s353 (zAe s396 (zAe s415 (zAe s423 (zAe s433 (zAe s458 s480)))))))))))))))))))))
  replace p535 := PtG.le p535 O494.fro
  refine D2.load1' (v := w534) (r := []) (gk rfl rfl gv516 rfl) rfl ag45 (z15 rfl p535) z0b (D2.q2 (hg := gk rfl rfl gv516 rfl) (.int .i64 x474) rfl ?_)
  obtain ⟨x537, i538, h539⟩ := z00 h532
  have j540 := z0d i538
  refine D2.pure (v := (z1k w534 (Int.toNat x474 * 1))) (gk rfl rfl gv516 rfl) rfl (z26 el45 sz22 (oo rfl rfl) (oo rfl rfl) (z0a f536) j540.1 j540.2.1) (D2.load1' (v := (.string x537)) (r := []) (gk rfl rfl gv516 rfl) rfl ag22 (z15 rfl (At.str (At.le (z17 f536 j540.2.2) (zAf _) O494.fro))) z0b ?_)
  obtain ⟨x541, i542, h543⟩ := z00 h539
  refine D2.lo (gk rfl rfl gv516 rfl) rfl (Lo.cP rfl (fn := Tryz.f41) (by kernel_rfl) rfl (mc rfl (mc rfl mn)) O494 (fun L' O' => zeg K x485 x537 O' _ i542)) ?_ z0b ?_ ?_
  .rintro v550 H551 ⟨G544, O545, s546, sm549, rfl⟩; exact (faR1 (.inl (by decide)) (faR1 (.inl (by decide)) (faR1 (.inr (sm549 _ (zmq (M := G478) (z17 f525 j529.2.2) rfl))) (faR1 (.inr (sm549 _ (Or.inr ⟨5, _, rfl, (O494.footSl (j := 5) rfl j522.2.2)⟩))) (faR1 (.inl (by decide)) z0b)))))
  .rintro v550 H551 ⟨G544, O545, s546, sm549, rfl⟩; exact z0b
  rintro v550 H551 ⟨G544, O545, s546, sm549, rfl⟩
  refine D2.pure (v := (.bool (!(sEq x526 x541)))) (gk rfl rfl gv516 rfl) rfl (ze8 (oo rfl rfl) (oo rfl rfl)) (D2.pure (v := (.bool (!(sEq x526 x541)))) (gk rfl rfl gv498 rfl) rfl (z89 (oo rfl gv516) (oo rfl rfl)) (D2.pure (v := (.bool (!(sEq x526 x541)))) rfl rfl (z4i (oo rfl gv498) (oo rfl rfl)) (.nil ?_)))
  obtain rfl := zAa h543
  exact ⟨(!(sEq x526 x541)), _, rfl, O545, s546, rfl⟩
 rintro σ554 H555 fr556 ⟨x553, G557, rfl, O558, s559, t561⟩
 have h562 := z09 h491
 refine .cond (b := x553) rfl t561 (fun g563 => ?_) (fun g563 => ?_)
 .have h564 := z03 g563 h562
  refine .seq (.region (W.q1 (.bool false) rfl (.nil (.ret ?_))))
  have O565 : Ow G557 H555 (eSl v346 28 (rI .i64) [x322, x333] :: eSl v250 28 (rI .i64) [x226, x237] :: eSl w49 45 (rSl rS) x41.1 :: eSl w36 45 (rSl rS) x28.1 :: eSl w23 45 (rSl rS) x15.1 :: L) := O558.drop 0
  have O566 : Ow G557 H555 (eSl v250 28 (rI .i64) [x226, x237] :: eSl w49 45 (rSl rS) x41.1 :: eSl w36 45 (rSl rS) x28.1 :: eSl w23 45 (rSl rS) x15.1 :: L) := O565.drop 0
  have O567 : Ow G557 H555 (eSl w49 45 (rSl rS) x41.1 :: eSl w36 45 (rSl rS) x28.1 :: eSl w23 45 (rSl rS) x15.1 :: L) := O566.drop 0
  have O568 : Ow G557 H555 (eSl w36 45 (rSl rS) x28.1 :: eSl w23 45 (rSl rS) x15.1 :: L) := O567.drop 0
  have O569 : Ow G557 H555 (eSl w23 45 (rSl rS) x15.1 :: L) := O568.drop 0
  have O570 : Ow G557 H555 (L) := O569.drop 0
  obtain rfl := zAa h564
  have h571 := z09 (z59 h472)
  obtain rfl := zAa h571
  have h572 := z09 (z59 h450)
  obtain rfl := zAa h572
  exact z1h kr (v1 := (.bool false)) (by rfl) (z07 (by rfl) (by exact rfl)) O570 (zAe s6 (zAe s20 (zAe s33 (zAe s46 (zAe s67 (zAe s130 (zAe s223 (zAe s231 (zAe s242 (zAe s257 (zAe s302 (zAe s318 (zAe s327 (zAe s338 (zAe s353 (zAe s396 (zAe s415 (zAe s423 (zAe s433 (zAe s458 (zAe s480 s559))))))))))))))))))))) rfl
 have h573 := z0g g563 h562
 refine .skip (.seq ?_)
 obtain ⟨q574, h575, h576⟩ := z00 h573
 refine AW.midT (fun σ' H' => ∃ (y1 : Bool) (G' : GM), y1 = q574 /\ Ow G' H' (eSl v426 44 (rSl (rSl rS)) [p0, p1, [[p2]]] :: eSl v346 28 (rI .i64) [x322, x333] :: eSl v250 28 (rI .i64) [x226, x237] :: eSl w49 45 (rSl rS) x41.1 :: eSl w36 45 (rSl rS) x28.1 :: eSl w23 45 (rSl rS) x15.1 :: L) /\ GM.le G557 G' /\ σ' 253 = .bool y1) ?_ ?_
 rotate_left
 .rintro σ628 H629 fr630 ⟨x627, G631, rfl, O632, s633, t635⟩
  have h636 := z09 h576
  refine .cond (b := x627) rfl t635 (fun g637 => ?_) (fun g637 => ?_)
  rotate_left
  .have h647 := z0g g637 h636
   refine .skip (.region (W.q3 (.int .i64 (z04 .i64 (x474 + 1))) ((fr630 171 rfl).trans ((fr556 171 rfl).trans t482)) rfl (W.q2 (.int .i64 (z04 .i64 (x474 + 1))) rfl (.nil ?_))))
   exact ⟨k473, zAg _, ⟨z04 .i64 (x474 + 1), _, h647, O632, (zAe s480 (zAe s559 s633)), rfl⟩⟩
  have h638 := z03 g637 h636
  refine .seq (.region (W.q1 (.bool false) rfl (.nil (.ret ?_))))
  have O639 : Ow G631 H629 (eSl v346 28 (rI .i64) [x322, x333] :: eSl v250 28 (rI .i64) [x226, x237] :: eSl w49 45 (rSl rS) x41.1 :: eSl w36 45 (rSl rS) x28.1 :: eSl w23 45 (rSl rS) x15.1 :: L) := O632.drop 0
  have O640 : Ow G631 H629 (eSl v250 28 (rI .i64) [x226, x237] :: eSl w49 45 (rSl rS) x41.1 :: eSl w36 45 (rSl rS) x28.1 :: eSl w23 45 (rSl rS) x15.1 :: L) := O639.drop 0
  have O641 : Ow G631 H629 (eSl w49 45 (rSl rS) x41.1 :: eSl w36 45 (rSl rS) x28.1 :: eSl w23 45 (rSl rS) x15.1 :: L) := O640.drop 0
  have O642 : Ow G631 H629 (eSl w36 45 (rSl rS) x28.1 :: eSl w23 45 (rSl rS) x15.1 :: L) := O641.drop 0
  have O643 : Ow G631 H629 (eSl w23 45 (rSl rS) x15.1 :: L) := O642.drop 0
  have O644 : Ow G631 H629 (L) := O643.drop 0
  obtain rfl := zAa h638
  have h645 := z09 (z59 h472)
  obtain rfl := zAa h645
  have h646 := z09 (z59 h450)
  obtain rfl := zAa h646
  exact z1h kr (v1 := (.bool false)) (by rfl) (z07 (by rfl) (by exact rfl)) O644 (zAe s6 (zAe s20 (zAe s33 (zAe s46 (zAe s67 (zAe s130 (zAe s223 (zAe s231 (zAe s242 (zAe s257 (zAe s302 (zAe s318 (zAe s327 (zAe s338 (zAe s353 (zAe s396 (zAe s415 (zAe s423 (zAe s433 (zAe s458 (zAe s480 (zAe s559 s633)))))))))))))))))))))) rfl
 refine .draw2 (M := [0, 1, 3, 7, 15, 31, 63, 127, 63, 319, 1023, 2047, 4095, 8191, 8191, 32767, 65535, 131071, 8191, 270335, 1048575, 2097151, 4194303, 8388607, 8388607, 33554431, 67108863, 8388607, 268435455, 536870911, 8388607, 8388607, 3229614079, 8589934591, 17179869183, 34359738367]) mixed (by kernel_rfl) (by kernel_rfl) fun H577 N581 x578 F580 => ?_
 have O579 := O558.ext x578
 refine D2.q2 (.int .i64 x348) ((fr556 20 rfl).trans ((fr477 20 rfl).trans ((fr455 20 rfl).trans ((fr393 20 rfl).trans rfl)))) (D2.q3 (.bool (x348 == 0)) rfl rfl (D2.q2 (.bool (x348 == 0)) rfl (D2.splitAt (t := 220) (b := (x348 == 0)) rfl (fun g582 gv583 => ?_) (fun g582 gv583 => ?_))))
 rotate_left
 .have h626 := z0g g582 h575
  refine D2.skip (gk rfl rfl gv583 rfl) rfl (D2.skip (gk rfl rfl gv583 rfl) rfl (D2.skip (gk rfl rfl gv583 rfl) rfl (D2.skipU rfl rfl rfl rfl (D2.skipU rfl rfl rfl rfl (D2.skipU rfl rfl rfl rfl (D2.skipU rfl rfl rfl rfl ?_))))))
  refine D2.skipU rfl rfl rfl rfl (D2.skip (gk rfl rfl gv583 rfl) rfl (D2.skip (gk rfl rfl gv583 rfl) rfl (D2.skipU rfl rfl rfl rfl (D2.skipU rfl rfl rfl rfl (D2.skipU rfl rfl rfl rfl (D2.skipU rfl rfl rfl rfl ?_))))))
  refine D2.skipU rfl rfl rfl rfl (D2.skipU rfl rfl rfl rfl (D2.skipU rfl rfl rfl rfl (D2.skipU rfl rfl rfl rfl (D2.skip (gk rfl rfl gv583 rfl) rfl (D2.skip (gk rfl rfl gv583 rfl) rfl (D2.skipU rfl rfl rfl rfl ?_))))))
  refine D2.skipU rfl rfl rfl rfl (D2.skipU rfl rfl rfl rfl (D2.skipU rfl rfl rfl rfl (D2.skipU rfl rfl rfl rfl (D2.skipU rfl rfl rfl rfl (D2.skipU rfl rfl rfl rfl (D2.skipU rfl rfl rfl rfl ?_))))))
  refine D2.skipU rfl rfl rfl rfl (D2.skipU rfl rfl rfl rfl (D2.skipU rfl rfl rfl rfl (D2.skip (gk rfl rfl gv583 rfl) rfl (D2.pure (v := (.bool false)) rfl rfl (z89 (oo rfl gv583) (oo rfl rfl)) (.nil ?_)))))
  obtain rfl := zAa h626
  exact ⟨false, _, rfl, O579, (zAf _), rfl⟩
 have h584 := z03 g582 h575
 refine D2.q2 (hg := gk rfl rfl gv583 rfl) (.int .i64 x28.2) ((fr556 12 rfl).trans ((fr477 12 rfl).trans ((fr455 12 rfl).trans ((fr393 12 rfl).trans ((fr315 12 rfl).trans ((fr299 12 rfl).trans ((fr220 12 rfl).trans ((fr127 12 rfl).trans ((fr64 12 rfl).trans rfl))))))))) (D2.q3 (hg := gk rfl rfl gv583 rfl) (.bool (x28.2 != 0)) rfl rfl (D2.q2 (hg := gk rfl rfl gv583 rfl) (.bool (x28.2 != 0)) rfl (D2.splitAt (t := 223) (b := (x28.2 != 0)) rfl (fun g585 gv586 => ?_) (fun g585 gv586 => ?_))))
 .have h587 := z03 g585 h584
  refine D2.skip (gk rfl rfl gv586 rfl) rfl (D2.skip (gk rfl rfl gv586 rfl) rfl (D2.skip (gk rfl rfl gv586 rfl) rfl (D2.skip (gk rfl rfl gv586 rfl) rfl (D2.skip (gk rfl rfl gv586 rfl) rfl (D2.pure (v := (.bool true)) (gk rfl rfl gv583 rfl) rfl (z4i (oo rfl gv586) (oo rfl rfl)) (D2.q2 (hg := gk rfl rfl gv583 rfl) (.bool true) rfl ?_))))))
  refine D2.skip (gk rfl rfl rfl rfl) rfl (D2.skip (gk rfl rfl rfl rfl) rfl (D2.skip (gk rfl rfl rfl rfl) rfl (D2.skip (gk rfl rfl rfl rfl) rfl (D2.skip (gk rfl rfl rfl rfl) rfl (D2.skip (gk rfl rfl rfl rfl) rfl (D2.skip (gk rfl rfl rfl rfl) rfl ?_))))))
  refine D2.skip (gk rfl rfl rfl rfl) rfl (D2.pure (v := (.bool true)) (gk rfl rfl gv583 rfl) rfl (z4i (oo rfl rfl) (oo rfl rfl)) (D2.q2 (hg := gk rfl rfl gv583 rfl) (.bool true) rfl (D2.skip (gk rfl rfl rfl rfl) rfl (D2.skip (gk rfl rfl rfl rfl) rfl (D2.skip (gk rfl rfl rfl rfl) rfl (D2.skip (gk rfl rfl rfl rfl) rfl ?_))))))
  refine D2.skip (gk rfl rfl rfl rfl) rfl (D2.skip (gk rfl rfl rfl rfl) rfl (D2.skip (gk rfl rfl rfl rfl) rfl (D2.skip (gk rfl rfl rfl rfl) rfl (D2.skip (gk rfl rfl rfl rfl) rfl (D2.skip (gk rfl rfl rfl rfl) rfl (D2.skip (gk rfl rfl rfl rfl) rfl ?_))))))
  refine D2.pure (v := (.bool true)) (gk rfl rfl gv583 rfl) rfl (z4i (oo rfl rfl) (oo rfl rfl)) (D2.pure (v := (.bool true)) rfl rfl (z4i (oo rfl gv583) (oo rfl rfl)) (.nil ?_))
  obtain rfl := zAa h587
  exact ⟨true, _, rfl, O579, (zAf _), rfl⟩
 have h588 := z0g g585 h584
 refine D2.q2 (hg := gk rfl rfl gv586 rfl) w36 ((fr556 11 rfl).trans ((fr477 11 rfl).trans ((fr455 11 rfl).trans ((fr393 11 rfl).trans ((fr315 11 rfl).trans ((fr299 11 rfl).trans ((fr220 11 rfl).trans ((fr127 11 rfl).trans ((fr64 11 rfl).trans rfl))))))))) (D2.pure (v := (.int .i64 (List.length x28.1 : Int))) (gk rfl rfl gv586 rfl) rfl (z0f (oo rfl rfl) (O579.slLen (j := 4) rfl) (z02 el44)) (D2.q2 (hg := gk rfl rfl gv586 rfl) v0 ((fr556 0 rfl).trans ((fr477 0 rfl).trans ((fr455 0 rfl).trans ((fr393 0 rfl).trans ((fr315 0 rfl).trans ((fr299 0 rfl).trans ((fr220 0 rfl).trans ((fr127 0 rfl).trans ((fr64 0 rfl).trans rfl))))))))) (D2.pure (v := (.int .i64 (List.length p0 : Int))) (gk rfl rfl gv586 rfl) rfl (z0f (oo rfl rfl) (z0a (RT.mono _ (zAe s6 (zAe s20 (zAe s33 (zAe s46 (zAe s67 (zAe s130 (zAe s223 (zAe s231 (zAe s242 (zAe s257 (zAe s302 (zAe s318 (zAe s327 (zAe s338 (zAe s353 (zAe s396 (zAe s415 (zAe s423 (zAe s433 (zAe s458 (zAe s480 s559))))))))))))))))))))) hp0)) (z02 el44)) (D2.q3 (hg := gk rfl rfl gv586 rfl) (.bool ((List.length x28.1 : Int) != (List.length p0 : Int))) rfl rfl (D2.pure (v := (.bool ((List.length x28.1 : Int) != (List.length p0 : Int)))) (gk rfl rfl gv583 rfl) rfl (z89 (oo rfl gv586) (oo rfl rfl)) (D2.q2 (hg := gk rfl rfl gv583 rfl) (.bool ((List.length x28.1 : Int) != (List.length p0 : Int))) rfl ?_))))))
 refine D2.splitAt (t := 230) (b := ((List.length x28.1 : Int) != (List.length p0 : Int))) rfl (fun g589 gv590 => ?_) (fun g589 gv590 => ?_)
 .have h591 := z03 g589 h588
  refine D2.skip (gk rfl rfl gv590 rfl) rfl (D2.skip (gk rfl rfl gv590 rfl) rfl (D2.skip (gk rfl rfl gv590 rfl) rfl (D2.skip (gk rfl rfl gv590 rfl) rfl (D2.skip (gk rfl rfl gv590 rfl) rfl (D2.skip (gk rfl rfl gv590 rfl) rfl (D2.skip (gk rfl rfl gv590 rfl) rfl ?_))))))
  refine D2.skip (gk rfl rfl gv590 rfl) rfl (D2.pure (v := (.bool true)) (gk rfl rfl gv583 rfl) rfl (z4i (oo rfl gv590) (oo rfl rfl)) (D2.q2 (hg := gk rfl rfl gv583 rfl) (.bool true) rfl (D2.skip (gk rfl rfl rfl rfl) rfl (D2.skip (gk rfl rfl rfl rfl) rfl (D2.skip (gk rfl rfl rfl rfl) rfl (D2.skip (gk rfl rfl rfl rfl) rfl ?_))))))
  refine D2.skip (gk rfl rfl rfl rfl) rfl (D2.skip (gk rfl rfl rfl rfl) rfl (D2.skip (gk rfl rfl rfl rfl) rfl (D2.skip (gk rfl rfl rfl rfl) rfl (D2.skip (gk rfl rfl rfl rfl) rfl (D2.skip (gk rfl rfl rfl rfl) rfl (D2.skip (gk rfl rfl rfl rfl) rfl ?_))))))
  refine D2.pure (v := (.bool true)) (gk rfl rfl gv583 rfl) rfl (z4i (oo rfl rfl) (oo rfl rfl)) (D2.pure (v := (.bool true)) rfl rfl (z4i (oo rfl gv583) (oo rfl rfl)) (.nil ?_))
  obtain rfl := zAa h591
  exact ⟨true, _, rfl, O579, (zAf _), rfl⟩
 have h592 := z0g g589 h588
 refine D2.q2 (hg := gk rfl rfl gv590 rfl) w36 ((fr556 11 rfl).trans ((fr477 11 rfl).trans ((fr455 11 rfl).trans ((fr393 11 rfl).trans ((fr315 11 rfl).trans ((fr299 11 rfl).trans ((fr220 11 rfl).trans ((fr127 11 rfl).trans ((fr64 11 rfl).trans rfl))))))))) (D2.q2 (hg := gk rfl rfl gv590 rfl) (.int .i64 x452) ((fr556 21 rfl).trans ((fr477 21 rfl).trans rfl)) ?_)
 obtain ⟨x593, i594, h595⟩ := z00 h592
 have j596 := z0d i594
 refine D2.pure (v := (z1k w36 (Int.toNat x452 * 1))) (gk rfl rfl gv590 rfl) rfl (z26 el44 sz45 (oo rfl rfl) (oo rfl rfl) (O579.slLen (j := 4) rfl) j596.1 j596.2.1) ?_
 obtain ⟨w597, p598, f599⟩ := At.sl (O579.atSl (j := 4) rfl j596.2.2)
 refine D2.load1' (v := w597) (r := []) (gk rfl rfl gv590 rfl) rfl ag45 (z15 rfl p598) z0b (D2.pure (v := (.int .i64 (List.length x593 : Int))) (gk rfl rfl gv590 rfl) rfl (z0f (oo rfl rfl) (z0a f599) (z02 el45)) (D2.q2 (hg := gk rfl rfl gv590 rfl) w467 ((fr556 22 rfl).trans ((fr477 22 rfl).trans rfl)) (D2.pure (v := (.int .i64 (List.length x463 : Int))) (gk rfl rfl gv590 rfl) rfl (z0f (oo rfl rfl) (z0a (RT.mono _ (zAe s480 s559) f469)) (z02 el45)) (D2.q3 (hg := gk rfl rfl gv590 rfl) (.bool ((List.length x593 : Int) != (List.length x463 : Int))) rfl rfl (D2.pure (v := (.bool ((List.length x593 : Int) != (List.length x463 : Int)))) (gk rfl rfl gv583 rfl) rfl (z89 (oo rfl gv590) (oo rfl rfl)) (D2.q2 (hg := gk rfl rfl gv583 rfl) (.bool ((List.length x593 : Int) != (List.length x463 : Int))) rfl ?_))))))
 refine D2.splitAt (t := 240) (b := ((List.length x593 : Int) != (List.length x463 : Int))) rfl (fun g600 gv601 => ?_) (fun g600 gv601 => ?_)
 .have h602 := z03 g600 h595
  refine D2.skip (gk rfl rfl gv601 rfl) rfl (D2.skip (gk rfl rfl gv601 rfl) rfl (D2.skip (gk rfl rfl gv601 rfl) rfl (D2.skip (gk rfl rfl gv601 rfl) rfl (D2.skip (gk rfl rfl gv601 rfl) rfl (D2.skip (gk rfl rfl gv601 rfl) rfl (D2.skip (gk rfl rfl gv601 rfl) rfl ?_))))))
  refine D2.skip (gk rfl rfl gv601 rfl) rfl (D2.skip (gk rfl rfl gv601 rfl) rfl (D2.skip (gk rfl rfl gv601 rfl) rfl (D2.skip (gk rfl rfl gv601 rfl) rfl (D2.pure (v := (.bool true)) (gk rfl rfl gv583 rfl) rfl (z4i (oo rfl gv601) (oo rfl rfl)) (D2.pure (v := (.bool true)) rfl rfl (z4i (oo rfl gv583) (oo rfl rfl)) (.nil ?_))))))
  obtain rfl := zAa h602
  exact ⟨true, _, rfl, O579, (zAf _), rfl⟩
 have h603 := z0g g600 h595
 refine D2.q2 (hg := gk rfl rfl gv601 rfl) w36 ((fr556 11 rfl).trans ((fr477 11 rfl).trans ((fr455 11 rfl).trans ((fr393 11 rfl).trans ((fr315 11 rfl).trans ((fr299 11 rfl).trans ((fr220 11 rfl).trans ((fr127 11 rfl).trans ((fr64 11 rfl).trans rfl))))))))) (D2.q2 (hg := gk rfl rfl gv601 rfl) (.int .i64 x452) ((fr556 21 rfl).trans ((fr477 21 rfl).trans rfl)) ?_)
 obtain ⟨x604, i605, h606⟩ := z00 h603
 have j607 := z0d i605
 refine D2.pure (v := (z1k w36 (Int.toNat x452 * 1))) (gk rfl rfl gv601 rfl) rfl (z26 el44 sz45 (oo rfl rfl) (oo rfl rfl) (O579.slLen (j := 4) rfl) j607.1 j607.2.1) ?_
 obtain ⟨w608, p609, f610⟩ := At.sl (O579.atSl (j := 4) rfl j607.2.2)
 refine D2.load1' (v := w608) (r := []) (gk rfl rfl gv601 rfl) rfl ag45 (z15 rfl p609) z0b (D2.q2 (hg := gk rfl rfl gv601 rfl) (.int .i64 x474) ((fr556 23 rfl).trans rfl) ?_)
 obtain ⟨x611, i612, h613⟩ := z00 h606
 have j614 := z0d i612
 refine D2.pure (v := (z1k w608 (Int.toNat x474 * 1))) (gk rfl rfl gv601 rfl) rfl (z26 el45 sz22 (oo rfl rfl) (oo rfl rfl) (z0a f610) j614.1 j614.2.1) (D2.load1' (v := (.string x611)) (r := []) (gk rfl rfl gv601 rfl) rfl ag22 (z15 rfl (At.str (At.le (z17 f610 j614.2.2) (zAf _) O579.fro))) z0b (D2.q2 (hg := gk rfl rfl gv601 rfl) (.string x485) ((fr556 24 rfl).trans rfl) (D2.q2 (hg := gk rfl rfl gv601 rfl) (.string p2) ((fr556 2 rfl).trans ((fr477 2 rfl).trans ((fr455 2 rfl).trans ((fr393 2 rfl).trans ((fr315 2 rfl).trans ((fr299 2 rfl).trans ((fr220 2 rfl).trans ((fr127 2 rfl).trans ((fr64 2 rfl).trans rfl))))))))) ?_)))
 obtain ⟨x615, i616, h617⟩ := z00 h613
 refine D2.lo (gk rfl rfl gv601 rfl) rfl (Lo.cP rfl (fn := Tryz.f42) (by kernel_rfl) rfl (mc rfl (mc rfl mn)) O579 (fun L' O' => zeh K x485 p2 O' _ i616)) ?_ z0b ?_ ?_
 .rintro v624 H625 ⟨G618, O619, s620, sm623, rfl⟩; exact (faR1 (.inr (sm623 _ (zmq (M := G557) (z17 f610 j614.2.2) rfl))) (faR1 (.inr (sm623 _ (Or.inr ⟨4, _, rfl, (O579.footSl (j := 4) rfl j607.2.2)⟩))) (faR1 (.inl (by decide)) z0b)))
 .rintro v624 H625 ⟨G618, O619, s620, sm623, rfl⟩; exact z0b
 rintro v624 H625 ⟨G618, O619, s620, sm623, rfl⟩
 refine D2.pure (v := (.bool (!(sEq x611 x615)))) (gk rfl rfl gv601 rfl) rfl (ze8 (oo rfl rfl) (oo rfl rfl)) (D2.pure (v := (.bool (!(sEq x611 x615)))) (gk rfl rfl gv583 rfl) rfl (z89 (oo rfl gv601) (oo rfl rfl)) (D2.pure (v := (.bool (!(sEq x611 x615)))) rfl rfl (z4i (oo rfl gv583) (oo rfl rfl)) (.nil ?_)))
 obtain rfl := zAa h617
 exact ⟨(!(sEq x611 x615)), _, rfl, O619, s620, rfl⟩
end Go.Am.Tryz
/- Typed functions with the same answers as the program's, and the walks that show it. -/
namespace Go.Am.Tryz
open Go Go.Am Go.Proofs
end Go.Am.Tryz
/- Plain lemmas for typed functions: loops over lists, texts, whole numbers. -/
namespace Go.Am
open Go
theorem kw {a : Int} (h1 : -9223372036854775808 <= a) (h2 : a <= 9223372036854775807) : z04 .i64 a = a := z7a (z8h h1 h2)
theorem kw1 {i n : Nat} (h : i < n) (hn : n <= 4611686018427387904) : z04 .i64 ((i : Int) + 1) = ((i + 1 : Nat) : Int) := by rw [kw (by omega) (by omega)]; omega
theorem z41 {α : Type} {xs : List α} {i : Nat} {x : α} (h : xs[i]? = some x) : idx xs (i : Int) = some x := by
 unfold idx
 rw [if_neg (by omega)]
 simpa using h
theorem zk7 {i n : Nat} (h : i < n) : decide ((i : Int) < (n : Int)) = true := by simp; omega
theorem zfr {i n : Nat} (h : n <= i) : decide ((i : Int) < (n : Int)) = false := by simp; omega
@[simp] theorem Sum.elim_ite {α β γ : Type} (f : α -> γ) (g : β -> γ) (c : Prop) [Decidable c] (x y : α ⊕ β) : Sum.elim f g (if c then x else y) = if c then Sum.elim f g x else Sum.elim f g y := by split <;> rfl
def runS {α S E : Type} (chk : α -> S -> E ⊕ S) : List α -> S -> E ⊕ S
 | [], s => .inr s
 | x :: xs, s => Sum.elim .inl (runS chk xs) (chk x s)
theorem zlw {α S E : Type} (xs : List α) (l : Nat -> S -> Int -> Option (E ⊕ S)) (chk : α -> S -> E ⊕ S) (I : S -> Nat -> Prop)
  (h : ∀ k s (i : Nat) x, xs[i]? = some x -> I s i -> l (k + 1) s i = Sum.elim (fun e => some (.inl e)) (fun s' => l k s' ((i + 1 : Nat) : Int)) (chk x s))
  (hI : ∀ s (i : Nat) x s', xs[i]? = some x -> I s i -> chk x s = .inr s' -> I s' (i + 1))
  (h0 : ∀ k s (i : Nat), xs.length <= i -> l (k + 1) s i = some (.inr s)) : ∀ d k s (i : Nat), xs.length - i = d -> d < k -> I s i -> l k s i = some (runS chk (xs.drop i) s) := by
 intro d
 induction d with
 | zero =>
  intro k s i hd hk _
  obtain ⟨k, rfl⟩ : ∃ m, k = m + 1 := ⟨k - 1, by omega⟩
  rw [h0 k s i (by omega), List.drop_eq_nil_of_le (by omega)]; rfl
 | succ d ih =>
  intro k s i hd hk hi
  obtain ⟨k, rfl⟩ : ∃ m, k = m + 1 := ⟨k - 1, by omega⟩
  have hl : i < xs.length := by omega
  have hx : xs[i]? = some xs[i] := zAh hl
  rw [h k s i _ hx hi, List.drop_eq_getElem_cons hl, runS]
  cases hc : chk xs[i] s with
  | inl e => rfl
  | inr s' => exact ih k s' (i + 1) (by omega) (by omega) (hI s i _ s' hx hi hc)
theorem zfs {α S E : Type} (xs : List α) (l : Nat -> S -> Int -> Option (E ⊕ S)) (chk : α -> S -> E ⊕ S) (I : S -> Nat -> Prop)
  (h : ∀ k s (i : Nat) x, xs[i]? = some x -> I s i -> l (k + 1) s i = Sum.elim (fun e => some (.inl e)) (fun s' => l k s' ((i + 1 : Nat) : Int)) (chk x s))
  (hI : ∀ s (i : Nat) x s', xs[i]? = some x -> I s i -> chk x s = .inr s' -> I s' (i + 1))
  (h0 : ∀ k s (i : Nat), xs.length <= i -> l (k + 1) s i = some (.inr s)) (k : Nat) (s : S) (hk : xs.length < k) (hi : I s 0) : l k s 0 = some (runS chk xs s) := by
 have := zlw xs l chk I h hI h0 xs.length k s 0 (by omega) hk hi
 simpa using this
theorem sEq_iff {a b : zAd} : sEq a b = true ↔ a = b := by
 unfold sEq
 rw [beq_iff_eq, ByteArray.toList_eq, ByteArray.toList_eq]
 constructor
 ·intro h
  cases a; cases b
  simp at h
  rw [h]
 ·rintro rfl; rfl
theorem z01 (a : zAd) : (z05 a).length = a.size := by unfold z05; rw [List.length_map, Array.length_toList]; rfl
theorem za3 (a : zAd) (i : Int) : bidx a i = idx (z05 a) i := by
 unfold bidx idx
 by_cases h : 0 <= i
 ·rw [if_pos h, if_neg (by omega)]
  unfold z05
  rw [List.getElem?_map, Array.getElem?_toList]
  rfl
 ·rw [if_neg h, if_pos (by omega)]
end Go.Am
/- Numbers: digits in a base, the least one first; decimal texts. Plain, no program. -/
namespace Go.Am
open Go
def valB (B : Int) : List Int -> Int
 | [] => 0
 | d :: l => d + B * valB B l
def DigB (B : Int) (l : List Int) : Prop := ∀ d ∈ l, 0 <= d /\ d < B
theorem DigB.nil (B : Int) : DigB B [] := fun d h => by simp at h
theorem DigB.cons {B d : Int} {l : List Int} (h : DigB B (d :: l)) : (0 <= d /\ d < B) /\ DigB B l := ⟨h d (by simp), fun x hx => h x (by simp [hx])⟩
theorem DigB.app {B : Int} {l m : List Int} (h : DigB B l) (k : DigB B m) : DigB B (l ++ m) := fun d hd => by
 rcases List.mem_append.1 hd with hd | hd
 ·exact h d hd
 ·exact k d hd
theorem z6a (B : Int) : ∀ (l m : List Int), valB B (l ++ m) = valB B l + B ^ l.length * valB B m
 | [], m => by simp [valB]
 | d :: l, m => by
  simp only [List.cons_append, valB, z6a B l m, List.length_cons, Int.pow_succ]
  rw [Int.mul_add, <- Int.mul_assoc, Int.mul_comm B (B ^ l.length), Int.add_assoc]
theorem z14 {B : Int} (hB : 0 < B) : ∀ (l : List Int), DigB B l -> 0 <= valB B l
 | [], _ => Int.le_refl _
 | d :: l, h => by
  have h1 := (h.cons).1
  have h2 := z14 hB l h.cons.2
  have := Int.mul_nonneg (Int.le_of_lt hB) h2
  simp only [valB]; omega
theorem z5g {B : Int} (hB : 0 < B) : ∀ (l : List Int), DigB B l -> valB B l < B ^ l.length
 | [], _ => by simp [valB]
 | d :: l, h => by
  have h1 := (h.cons).1
  have h2 := z5g hB l h.cons.2
  have h3 : B * (valB B l + 1) <= B * B ^ l.length := Int.mul_le_mul_of_nonneg_left (by omega) (Int.le_of_lt hB)
  rw [Int.mul_add, Int.mul_one] at h3
  simp only [valB, List.length_cons, Int.pow_succ]
  rw [Int.mul_comm (B ^ l.length) B]
  omega
def CanB (B : Int) (l : List Int) : Prop := DigB B l /\ l.getLast? ≠ some 0
theorem CanB.tail {B d : Int} {l : List Int} (h : CanB B (d :: l)) : CanB B l := by
 refine ⟨h.1.cons.2, fun e => h.2 ?_⟩
 cases l with
 | nil => simp at e
 | cons x l => rw [List.getLast?_cons_cons]; exact e
theorem zbu {B : Int} (hB : 1 < B) : ∀ (l : List Int), CanB B l -> l ≠ [] -> 0 < valB B l
 | [], _, h => absurd rfl h
 | d :: l, h, _ => by
  have h1 := h.1.cons.1
  cases l with
  | nil =>
   have : d ≠ 0 := fun e => h.2 (by simp [e])
   simp only [valB]; omega
  | cons x l =>
   have h2 := zbu hB (x :: l) h.tail (by simp)
   have h3 : B * 1 <= B * valB B (x :: l) := Int.mul_le_mul_of_nonneg_left (by omega) (by omega)
   simp only [valB] at h2 h3 ⊢; omega
theorem zlx {B d e x y : Int} (hd : 0 <= d /\ d < B) (he : 0 <= e /\ e < B) (h : d + B * x = e + B * y) : d = e /\ x = y := by
 have h1 : x = y := by
  rcases Int.lt_trichotomy x y with h2 | h2 | h2
  ·have : B * (x + 1) <= B * y := Int.mul_le_mul_of_nonneg_left (by omega) (by omega)
   rw [Int.mul_add, Int.mul_one] at this; omega
  ·exact h2
  ·have : B * (y + 1) <= B * x := Int.mul_le_mul_of_nonneg_left (by omega) (by omega)
   rw [Int.mul_add, Int.mul_one] at this; omega
 subst h1
 exact ⟨by omega, rfl⟩
theorem zly {B : Int} (hB : 1 < B) : ∀ (l m : List Int), CanB B l -> CanB B m -> valB B l = valB B m -> l = m
 | [], [], _, _, _ => rfl
 | [], e :: m, _, h2, h => by
  have := zbu hB (e :: m) h2 (by simp)
  rw [<- h] at this; simp [valB] at this
 | d :: l, [], h1, _, h => by
  have := zbu hB (d :: l) h1 (by simp)
  rw [h] at this; simp [valB] at this
 | d :: l, e :: m, h1, h2, h => by
  obtain ⟨rfl, h3⟩ := zlx h1.1.cons.1 h2.1.cons.1 h
  rw [zly hB l m h1.tail h2.tail h3]
def digT (c : Int) : Bool := decide (48 <= c) && decide (c <= 57)
def z6b (s : zAd) : List Int := ((z05 s).map (· - 48)).reverse
def numT (s : zAd) : Int := valB 10 (z6b s)
def CanT (s : zAd) : Prop := s.size ≠ 0 /\ (z05 s).all digT = true /\ ((z05 s).head? = some 48 -> s.size = 1)
theorem z4g {a b : zAd} (h : z05 a = z05 b) : a = b := by
 unfold z05 at h
 have h1 : a.data.toList = b.data.toList := by
  have : Function.Injective fun b : UInt8 => (b.toNat : Int) := fun x y h => by
   have : x.toNat = y.toNat := by have h' : (x.toNat : Int) = (y.toNat : Int) := h; omega
   exact UInt8.toNat_inj.1 this
  exact List.map_inj_right (fun x y h => this h) |>.1 h
 cases a; cases b
 congr 1
 exact Array.toList_inj.1 h1
theorem z81 {s : zAd} (h : (z05 s).all digT = true) : DigB 10 (z6b s) := by
 intro d hd
 unfold z6b at hd
 rw [List.mem_reverse, List.mem_map] at hd
 obtain ⟨c, hc, rfl⟩ := hd
 have := List.all_eq_true.1 h c hc
 simp only [digT, Bool.and_eq_true, decide_eq_true_eq] at this
 omega
theorem z60 (s : zAd) : (z6b s).length = s.size := by
 unfold z6b
 rw [List.length_reverse, List.length_map, z01]
theorem zft {a b : zAd} (h : z6b a = z6b b) : a = b := by
 unfold z6b at h
 have h1 := List.reverse_inj.1 h
 exact z4g (List.map_inj_right (fun x y h => by omega) |>.1 h1)
theorem z8x {s : zAd} (h : CanT s) (h0 : (z05 s).head? = some 48) : z6b s = [0] := by
 have h1 := h.2.2 h0
 have hl := z01 s
 rw [h1] at hl
 match hb : z05 s, hl with
 | [c], _ => rw [hb] at h0; simp at h0; subst h0; simp [z6b, hb]
theorem zdh {s : zAd} (h : CanT s) (h0 : (z05 s).head? ≠ some 48) : CanB 10 (z6b s) := by
 refine ⟨z81 h.2.1, fun e => h0 ?_⟩
 unfold z6b at e
 rw [List.getLast?_reverse, List.head?_map] at e
 cases hb : (z05 s).head? with
 | none => rw [hb] at e; cases e
 | some c => rw [hb] at e; simp at e; congr 1; omega
theorem z9h {a b : zAd} (ha : CanT a) (hb : CanT b) (h : numT a = numT b) : a = b := by
 have pos : ∀ s : zAd, CanT s -> (z05 s).head? ≠ some 48 -> 0 < numT s := fun s hs h0 => zbu (by omega) _ (zdh hs h0) (fun e => by
  have := z60 s
  rw [e] at this
  exact hs.1 this.symm)
 by_cases h1 : (z05 a).head? = some 48 <;> by_cases h2 : (z05 b).head? = some 48
 ·exact zft (by rw [z8x ha h1, z8x hb h2])
 ·have := pos b hb h2
  unfold numT at h this
  rw [z8x ha h1] at h
  simp [valB] at h; omega
 ·have := pos a ha h1
  unfold numT at h this
  rw [z8x hb h2] at h
  simp [valB] at h; omega
 ·exact zft (zly (by omega) _ _ (zdh ha h1) (zdh hb h2) h)
theorem z37 (a : zAd) (i j : Nat) : z05 (a.extract i j) = ((z05 a).drop i).take (j - i) := by
 unfold z05
 rw [ByteArray.data_extract, Array.toList_extract]
 simp [List.extract, List.map_drop, List.map_take]
theorem z0u (a b : zAd) : z05 (a ++ b) = z05 a ++ z05 b := by
 unfold z05
 rw [ByteArray.data_append, Array.toList_append, List.map_append]
theorem zcq (xs : List Int) (h : ∀ x ∈ xs, 0 <= x /\ x <= 255) : z05 (strOfNums xs) = xs := by
 unfold z05
 rw [strOfNums_data, List.map_map]
 conv => rhs; rw [<- List.map_id xs]
 apply List.map_congr_left
 intro x hx
 have := h x hx
 show ((UInt8.ofNat x.toNat).toNat : Int) = x
 rw [UInt8.toNat_ofNat']
 omega
theorem zbv {s : zAd} {c : Int} {l : List Int} (h : z05 s = c :: l) : ∃ t, ssl s 1 (s.size : Int) = some t /\ z05 t = l /\ t.size = l.length := by
 have hn := z01 s
 rw [h] at hn
 simp at hn
 refine ⟨s.extract 1 s.size, ?_, ?_, ?_⟩
 ·unfold ssl
  rw [if_pos (by omega)]
  simp
 ·rw [z37, h]
  simp
  exact List.take_of_length_le (by omega)
 ·rw [<- z01, z37, h]
  simp
  omega
theorem zk8 {s t : zAd} {c : Int} (h : z05 s = c :: z05 t) : numT s = numT t + 10 ^ t.size * (c - 48) := by
 unfold numT z6b
 rw [h, List.map_cons, List.reverse_cons, z6a]
 simp [valB, z01]
end Go.Am
/- Graphs: connected parts, their numbers, closure of a matrix, ways. Plain, no program. -/
namespace Go.Am
open Go
def Edg (l : List (Int × Int)) (U : Nat -> Bool) (a b : Nat) : Prop := ∃ k, k < l.length /\ U k = true /\ (l.getD k (0, 0) = ((a : Int), (b : Int)) \/ l.getD k (0, 0) = ((b : Int), (a : Int)))
inductive Con (l : List (Int × Int)) (U : Nat -> Bool) : Nat -> Nat -> Prop
 | refl (a : Nat) : Con l U a a
 | tail {a b c : Nat} : Con l U a b -> Edg l U b c -> Con l U a c
structure Outer (l : List (Int × Int)) (U : Nat -> Bool) (n : Nat) (cs : List Int) (m s : Nat) : Prop where
 len : cs.length = n
 rng : ∀ i < n, -1 <= cs.getD i 0 /\ cs.getD i 0 < m
 done : ∀ i < s, i < n -> 0 <= cs.getD i 0
 cls : ∀ i j, i < n -> j < n -> 0 <= cs.getD i 0 -> (cs.getD i 0 = cs.getD j 0 ↔ Con l U i j)
 last : 0 < m -> ∃ j < s, j < n /\ cs.getD j 0 = (m : Int) - 1
 rgs : ∀ i < n, 0 < cs.getD i 0 -> ∃ j < i, cs.getD j 0 = cs.getD i 0 - 1
 few : m <= s
structure Mid (l : List (Int × Int)) (U : Nat -> Bool) (n : Nat) (base : List Int) (m s : Nat) (cs : List Int) : Prop where
 len : cs.length = n
 own : ∀ i < n, (cs.getD i 0 = m /\ base.getD i 0 = -1 /\ Con l U s i) \/ cs.getD i 0 = base.getD i 0
 start : cs.getD s 0 = m
theorem z82 {cs : List Int} {i j : Nat} {v : Int} (hi : i < cs.length) : (cs.set i v).getD j 0 = if j = i then v else cs.getD j 0 := by
 rw [zAb, List.getElem?_set]
 by_cases h : i = j
 ·subst h; simp [hi]
 ·rw [if_neg h, if_neg (fun e => h e.symm), zAb]
theorem Edg.symm {l : List (Int × Int)} {U : Nat -> Bool} {a b : Nat} (h : Edg l U a b) : Edg l U b a := by
 obtain ⟨k, h1, h2, h3⟩ := h
 exact ⟨k, h1, h2, h3.symm⟩
theorem Con.trans {l : List (Int × Int)} {U : Nat -> Bool} {a b c : Nat} (h : Con l U a b) (k : Con l U b c) : Con l U a c := by
 induction k with
 | refl => exact h
 | tail _ e ih => exact .tail ih e
theorem Con.symm {l : List (Int × Int)} {U : Nat -> Bool} {a b : Nat} (h : Con l U a b) : Con l U b a := by
 induction h with
 | refl => exact .refl _
 | tail _ e ih => exact (Con.tail (.refl _) e.symm).trans ih
structure EqvOn (M : Nat -> Nat -> Bool) (n : Nat) : Prop where
 refl : ∀ a < n, M a a = true
 symm : ∀ a b, a < n -> b < n -> M a b = true -> M b a = true
 trans : ∀ a b c, a < n -> b < n -> c < n -> M a b = true -> M b c = true -> M a c = true
structure NumOk (M : Nat -> Nat -> Bool) (cs : List Int) (m i : Nat) : Prop where
 len : cs.length = i
 rng : ∀ a < i, 0 <= cs.getD a 0 /\ cs.getD a 0 < m
 cls : ∀ a b, a < i -> b < i -> (cs.getD a 0 = cs.getD b 0 ↔ M a b = true)
 last : 0 < m -> ∃ a < i, cs.getD a 0 = (m : Int) - 1
 rgs : ∀ a < i, 0 < cs.getD a 0 -> ∃ b < a, cs.getD b 0 = cs.getD a 0 - 1
 few : m <= i
structure WOk (l : List (Int × Int)) (U : Nat -> Bool) (n : Nat) (M : Nat -> Nat -> Bool) (m : Nat) : Prop where
 sound : ∀ a b, a < n -> b < n -> M a b = true -> Con l U a b
 refl : ∀ a < n, M a a = true
 edge : ∀ a b, a < n -> b < n -> Edg l U a b -> M a b = true
 tr : ∀ c < m, ∀ a b, a < n -> b < n -> M a c = true -> M c b = true -> M a b = true
def Wk (l : List (Int × Int)) (U : Nat -> Bool) (to : Nat) : Nat -> Nat -> Prop
 | 0, v => v = to
 | k + 1, v => ∃ w, Edg l U v w /\ Wk l U to k w
structure FarOk (l : List (Int × Int)) (U : Nat -> Bool) (n to : Nat) (fs : List Int) (d : Nat) : Prop where
 len : fs.length = n
 rng : ∀ v < n, -1 <= fs.getD v 0
 fnd : ∀ v < n, ∀ k : Nat, fs.getD v 0 = k -> k <= d /\ Wk l U to k v /\ ∀ j < k, ¬ Wk l U to j v
 nof : ∀ v < n, fs.getD v 0 = -1 -> ∀ j ≤ d, ¬ Wk l U to j v
structure Rnd (l : List (Int × Int)) (U : Nat -> Bool) (n to : Nat) (fs gs : List Int) (d : Nat) : Prop where
 len : gs.length = n
 old : ∀ v < n, gs.getD v 0 = fs.getD v 0 \/ (fs.getD v 0 = -1 /\ gs.getD v 0 = (d : Int) + 1 /\ Wk l U to (d + 1) v)
def neg (n : Nat) (fs : List Int) : Nat := ((List.range n).filter fun v => fs.getD v 0 == -1).length
theorem zf4 {S R : Type} (n : Nat) (l : Nat -> S -> Int -> Option R) (I : S -> Nat -> Prop) (Q : R -> Prop)
  (h : ∀ k s (i : Nat), i < n -> I s i -> (∃ r, l (k + 1) s (i : Int) = some r /\ Q r) \/ ∃ s', I s' (i + 1) /\ l (k + 1) s (i : Int) = l k s' ((i + 1 : Nat) : Int))
  (h0 : ∀ k s (i : Nat), i = n -> I s i -> ∃ r, l (k + 1) s (i : Int) = some r /\ Q r) : ∀ k s, n < k -> I s 0 -> ∃ r, l k s 0 = some r /\ Q r := by
 have key : ∀ d k s (i : Nat), n - i = d -> i <= n -> d < k -> I s i -> ∃ r, l k s (i : Int) = some r /\ Q r := by
  intro d
  induction d with
  | zero =>
   intro k s i hd hi hk hI
   obtain ⟨k, rfl⟩ : ∃ m, k = m + 1 := ⟨k - 1, by omega⟩
   exact h0 k s i (by omega) hI
  | succ d ih =>
   intro k s i hd hi hk hI
   obtain ⟨k, rfl⟩ : ∃ m, k = m + 1 := ⟨k - 1, by omega⟩
   rcases h k s i (by omega) hI with h1 | ⟨s', h1, h2⟩
   ·exact h1
   ·rw [h2]; exact ih k s' (i + 1) (by omega) (by omega) (by omega) h1
 intro k s hk hI
 exact key n k s 0 (by omega) (Nat.zero_le _) hk hI
theorem zn1 {S R : Type} (l : Nat -> S -> Option R) (I : S -> Prop) (mu : S -> Nat) (Q : R -> Prop)
  (h : ∀ k s, I s -> (∃ r, l (k + 1) s = some r /\ Q r) \/ ∃ s', I s' /\ mu s' < mu s /\ l (k + 1) s = l k s') : ∀ k s, mu s < k -> I s -> ∃ r, l k s = some r /\ Q r := by
 intro k
 induction k with
 | zero => intro s h1; omega
 | succ k ih =>
  intro s h1 hI
  rcases h k s hI with h2 | ⟨s', h2, h3, h4⟩
  ·exact h2
  ·rw [h4]; exact ih s' (by omega) h2
def two (p : Int × Int) : List Int := [p.1, p.2]
theorem zif {cs : List Int} {a : Nat} (h : a < cs.length) : idx cs (a : Int) = some (cs.getD a 0) := by
 apply z41
 simp [h, zAb]
end Go.Am
/- Plain lemmas: rules for typed functions over whole numbers; digits set in place; the guess of a digit of a quotient. -/
namespace Go.Am
open Go
theorem z0i {α β : Type} (a : α) (f : α -> Option β) : Option.bind (some a) f = f a := (rfl)
theorem tu0a {β : Type} (g : Option β) (u : Unit) : tu0 g u = g := (rfl)
theorem tu1a {α β : Type} (g : α -> Option β) (a : α) : tu1 g a = g a := (rfl)
theorem tu2a {α1 α2 β : Type} (g : α1 -> α2 -> Option β) (p : α1 × α2) : tu2 g p = g p.1 p.2 := (rfl)
theorem tu3a {α1 α2 α3 β : Type} (g : α1 -> α2 -> α3 -> Option β) (p : α1 × α2 × α3) : tu3 g p = g p.1 p.2.1 p.2.2 := (rfl)
theorem tu4a {α1 α2 α3 α4 β : Type} (g : α1 -> α2 -> α3 -> α4 -> Option β) (p : α1 × α2 × α3 × α4) : tu4 g p = g p.1 p.2.1 p.2.2.1 p.2.2.2 := (rfl)
theorem tu5a {α1 α2 α3 α4 α5 β : Type} (g : α1 -> α2 -> α3 -> α4 -> α5 -> Option β) (p : α1 × α2 × α3 × α4 × α5) : tu5 g p = g p.1 p.2.1 p.2.2.1 p.2.2.2.1 p.2.2.2.2 := (rfl)
theorem lta {α β : Type} (x : α) (f : α -> Option β) : lt x f = f x := (rfl)
theorem zig {α β γ : Type} (a : α) (f : α -> Option γ) (g : β -> Option γ) : z9q (some (.inl a)) f g = f a := (rfl)
theorem zgo {α β γ : Type} (b : β) (f : α -> Option γ) (g : β -> Option γ) : z9q (some (.inr b)) f g = g b := (rfl)
theorem zpa {α β γ : Type} (a : α) (f : α -> Option γ) (g : β -> Option γ) : outS (.inl a) f g = f a := (rfl)
theorem zpb {α β γ : Type} (b : β) (f : α -> Option γ) (g : β -> Option γ) : outS (.inr b) f g = g b := (rfl)
theorem zn2 {α : Type} [BEq α] [LawfulBEq α] {a b : α} : ((a == b) = true) = (a = b) := propext beq_iff_eq
theorem zn3 {a b : Int} : ((a != b) = true) = (a ≠ b) := by simp
theorem k64 {a : Int} (h1 : -9223372036854775808 <= a) (h2 : a <= 9223372036854775807) : z04 .i64 a = a := kw h1 h2
theorem ku64 {a : Int} (h1 : 0 <= a) (h2 : a <= 18446744073709551615) : z04 .u64 a = a := z7a (by simp [z99]; omega)
theorem ku32 {a : Int} (h1 : 0 <= a) (h2 : a <= 4294967295) : z04 .u32 a = a := z7a (by simp [z99]; omega)
theorem ku8 {a : Int} (h1 : 0 <= a) (h2 : a <= 255) : z04 .u8 a = a := z7a (by simp [z99]; omega)
theorem i64w {a : Int} (h1 : -9223372036854775808 <= a) (h2 : a <= 9223372036854775807) : IntKind.wrap .i64 a = a := by rw [<- z8d]; exact k64 h1 h2
theorem u64w {a : Int} (h1 : 0 <= a) (h2 : a <= 18446744073709551615) : IntKind.wrap .u64 a = a := by rw [<- z8d]; exact ku64 h1 h2
theorem u32w {a : Int} (h1 : 0 <= a) (h2 : a <= 4294967295) : IntKind.wrap .u32 a = a := by rw [<- z8d]; exact ku32 h1 h2
theorem u8w {a : Int} (h1 : 0 <= a) (h2 : a <= 255) : IntKind.wrap .u8 a = a := by rw [<- z8d]; exact ku8 h1 h2
theorem idxI {xs : List Int} {j : Int} (h1 : 0 <= j) (h2 : j < (xs.length : Int)) : idx xs j = some (xs.getD j.toNat 0) := by
 unfold idx
 rw [if_neg (by omega), zAb, zAh (by omega)]
 rfl
theorem znx {s : zAd} {j : Int} (h1 : 0 <= j) (h2 : j < (s.size : Int)) : bidx s j = some ((z05 s).getD j.toNat 0) := by
 rw [za3]; exact idxI h1 (by rw [z01]; exact h2)
theorem lslI {α : Type} {xs : List α} {l h : Int} (h1 : 0 <= l) (h2 : l <= h) (h3 : h <= (xs.length : Int)) : lsl xs l h = some ((xs.drop l.toNat).take (h.toNat - l.toNat)) := by unfold lsl; rw [if_pos ⟨h1, h2, h3⟩]
theorem sslI {s : zAd} {l h : Int} (h1 : 0 <= l) (h2 : l <= h) (h3 : h <= (s.size : Int)) : ssl s l h = some (s.extract l.toNat h.toNat) := by unfold ssl; rw [if_pos ⟨h1, h2, h3⟩]
theorem zow {a b : Int} (h : 0 <= a) : Int.tdiv a b = a / b := Int.tdiv_eq_ediv_of_nonneg h
theorem zpc {a b : Int} (h : 0 <= a) : Int.tmod a b = a % b := Int.tmod_eq_emod_of_nonneg h
theorem zaw {S R : Type} (l : Nat -> S -> Option R) (I : S -> Prop) (mu : S -> Nat) (Q : R -> Prop)
  (h : ∀ k s, I s -> (∃ r, l (k + 1) s = some r /\ Q r) \/ ∃ s', l (k + 1) s = l k s' /\ mu s' < mu s /\ I s') {k : Nat} (s : S) (hk : mu s < k) (hI : I s) : ∃ r, l k s = some r /\ Q r :=
 zn1 l I mu Q (fun k s hs => (h k s hs).imp id fun ⟨s', a, b, c⟩ => ⟨s', c, b, a⟩) k s hk hI
theorem z24 {B : Int} (hB : 0 < B) {x : List Int} (h : DigB B x) (k : Nat) : 0 <= x.getD k 0 /\ x.getD k 0 < B := by
 by_cases hk : k < x.length
 ·rw [zAb, zAh hk]; exact h _ (List.getElem_mem hk)
 ·rw [zAb, List.getElem?_eq_none (by omega)]; exact ⟨Int.le_refl _, hB⟩
theorem z7e (B : Int) : ∀ (l : List Int) (p : Nat) (d : Int), p < l.length -> valB B (l.set p d) = valB B l + B ^ p * (d - l.getD p 0)
 | [], p, d, h => by simp at h
 | x :: l, 0, d, _ => by simp [valB]; omega
 | x :: l, p + 1, d, h => by
  have := z7e B l p d (by simpa using h)
  simp only [List.set_cons_succ, valB, this, List.getD_cons_succ, Int.pow_succ]
  grind
theorem DigB.set {B d : Int} {l : List Int} (h : DigB B l) (p : Nat) (hd : 0 <= d /\ d < B) : DigB B (l.set p d) := fun x hx => by
 rcases List.mem_or_eq_of_mem_set hx with h1 | h1
 ·exact h x h1
 ·subst h1; exact hd
theorem DigB.take {B : Int} {l : List Int} (h : DigB B l) (k : Nat) : DigB B (l.take k) := fun x hx => h x (List.mem_of_mem_take hx)
theorem DigB.drop {B : Int} {l : List Int} (h : DigB B l) (k : Nat) : DigB B (l.drop k) := fun x hx => h x (List.mem_of_mem_drop hx)
theorem DigB.snoc {B d : Int} {l : List Int} (h : DigB B l) (hd : 0 <= d /\ d < B) : DigB B (l ++ [d]) := h.app fun x hx => by simp at hx; omega
theorem z8p (B : Int) (l : List Int) (k : Nat) (hk : k <= l.length) : valB B l = valB B (l.take k) + B ^ k * valB B (l.drop k) := by
 conv => lhs; rw [<- List.take_append_drop k l]
 rw [z6a, List.length_take, Nat.min_eq_left hk]
theorem za4 (B : Int) (n : Nat) : valB B (List.replicate n 0) = 0 := by
 induction n with
 | zero => rfl
 | succ n ih => simp [List.replicate_succ, valB, ih]
theorem DigB.zeros {B : Int} (hB : 0 < B) (n : Nat) : DigB B (List.replicate n 0) := fun x hx => by
 rw [List.mem_replicate] at hx; omega
theorem z3t (B : Int) (x : List Int) (k : Nat) : valB B (x.take (k + 1)) = valB B (x.take k) + B ^ k * x.getD k 0 := by
 by_cases h : k < x.length
 ·have hx : x[k]? = some x[k] := zAh h
  rw [List.take_add_one, hx, z6a, List.length_take, Nat.min_eq_left (by omega), zAb, hx]
  simp [valB]
 ·rw [List.take_of_length_le (by omega), List.take_of_length_le (by omega), zAb, List.getElem?_eq_none (by omega)]
  simp
theorem z8y (B : Int) (x : List Int) (d : Int) : valB B (x ++ [d]) = valB B x + B ^ x.length * d := by rw [z6a]; simp [valB]
theorem za5 (l : List Int) (h : l ≠ []) : ∃ r d, l = r ++ [d] := by
 rcases List.eq_nil_or_concat l with rfl | ⟨r, d, rfl⟩
 ·exact absurd rfl h
 ·exact ⟨r, d, by simp⟩
theorem zih {B : Int} (hB : 1 < B) {l : List Int} (h : CanB B l) (h0 : l ≠ []) : B ^ (l.length - 1) <= valB B l := by
 obtain ⟨r, d, rfl⟩ := za5 l h0
 have hd : d ≠ 0 := fun e => h.2 (by simp [e])
 have hd2 := h.1 d (by simp)
 have hr := z14 (B := B) (by omega) r (fun x hx => h.1 x (by simp [hx]))
 have e : (r ++ [d]).length - 1 = r.length := by simp
 rw [z8y, e]
 have h1 : B ^ r.length * 1 <= B ^ r.length * d := Int.mul_le_mul_of_nonneg_left (by omega) (Int.le_of_lt (Int.pow_pos (by omega)))
 omega
theorem zoe {B : Int} (hB : 1 < B) {l : List Int} (h : DigB B l) (h0 : l ≠ []) (hv : B ^ (l.length - 1) <= valB B l) : CanB B l := by
 refine ⟨h, fun e => ?_⟩
 obtain ⟨r, d, rfl⟩ := za5 l h0
 have hd : d = 0 := by simpa using e
 have hr := z5g (B := B) (by omega) r (fun x hx => h x (by simp [hx]))
 have e : (r ++ [(0 : Int)]).length - 1 = r.length := by simp
 rw [z8y, hd, e] at hv
 omega
theorem z7r {B : Int} (hB : 0 < B) {i j : Nat} (h : i <= j) : B ^ i <= B ^ j := by
 obtain ⟨m, rfl⟩ : ∃ m, j = i + m := ⟨j - i, by omega⟩
 rw [Int.pow_add]
 have p1 : 0 < B ^ m := Int.pow_pos hB
 have p2 : 0 < B ^ i := Int.pow_pos hB
 have := Int.mul_le_mul_of_nonneg_left (show 1 <= B ^ m by omega) (Int.le_of_lt p2)
 omega
theorem zii {B : Int} (hB : 1 < B) {l m : List Int} (h : DigB B l) (hm : CanB B m) (hl : l.length < m.length) : valB B l < valB B m := by
 have h1 := z5g (B := B) (by omega) l h
 have h2 := zih hB hm (by intro e; subst e; simp at hl)
 have h3 : B ^ l.length <= B ^ (m.length - 1) := by
  obtain ⟨j, hj⟩ : ∃ j, m.length - 1 = l.length + j := ⟨m.length - 1 - l.length, by omega⟩
  rw [hj, Int.pow_add]
  have p1 : 0 < B ^ j := Int.pow_pos (by omega)
  have p2 : 0 < B ^ l.length := Int.pow_pos (by omega)
  have := Int.mul_le_mul_of_nonneg_left (show 1 <= B ^ j by omega) (Int.le_of_lt p2)
  omega
 omega
theorem zei {B : Int} (hB : 1 < B) {l m : List Int} (h : CanB B l) (hm : DigB B m) (hv : valB B l <= valB B m) : l.length <= m.length := by
 refine Nat.not_lt.1 fun hl => ?_
 have := zii hB hm h hl
 omega
theorem z43 {a b c : Int} (hc : 0 <= c) (h : a <= b) : c * a <= c * b := Int.mul_le_mul_of_nonneg_left h hc
theorem z93 {a b : Int} (ha : 0 <= a) (hb : 0 <= b) : 0 <= a * b := Int.mul_nonneg ha hb
structure Kn (B P v1 v2 vl top u3 ul q : Int) : Prop where
 B1 : 1 < B
 P0 : 0 < P
 v1p : 1 <= v1
 v2p : 0 <= v2
 v2b : v2 < B
 vlp : 0 <= vl
 vlb : vl < P
 tp : 0 <= top
 u3p : 0 <= u3
 u3b : u3 < B
 ulp : 0 <= ul
 ulb : ul < P
 q0 : 0 <= q
 qB : q < B
 lo : q * (P * (B * v1 + v2) + vl) <= P * (B * top + u3) + ul
 hi : P * (B * top + u3) + ul < (q + 1) * (P * (B * v1 + v2) + vl)
section
variable {B P v1 v2 vl top u3 ul q g r : Int}
theorem Kn.first (h : Kn B P v1 v2 vl top u3 ul q) : q <= top / v1 := by
 obtain ⟨B1, P0, v1p, v2p, v2b, vlp, vlb, tp, u3p, u3b, ulp, ulb, q0, qB, lo, hi⟩ := h
 rw [Int.le_ediv_iff_mul_le (by omega)]
 refine Int.le_of_lt_add_one (Int.not_le.1 fun hc => ?_)
 have a1 := z43 (Int.le_of_lt (Int.mul_pos P0 (show 0 < B by omega))) hc
 have a2 := z93 (Int.le_of_lt P0) (z93 q0 v2p)
 have a3 := z93 q0 vlp
 have a4 := z43 (Int.le_of_lt P0) (show u3 <= B - 1 by omega)
 grind
theorem Kn.down (h : Kn B P v1 v2 vl top u3 ul q) (hr : top = g * v1 + r) (hg : 0 <= g) (hc : g * v2 > r * B + u3) : q < g := by
 obtain ⟨B1, P0, v1p, v2p, v2b, vlp, vlb, tp, u3p, u3b, ulp, ulb, q0, qB, lo, hi⟩ := h
 refine Int.not_le.1 fun hq => ?_
 have hV : 0 <= P * (B * v1 + v2) + vl := by
  have := z93 (Int.le_of_lt P0) (show 0 <= B * v1 + v2 from by have := z93 (show 0 <= B by omega) (show 0 <= v1 by omega); omega)
  omega
 have a1 := z43 hV hq
 have a2 := z43 (Int.le_of_lt P0) (show r * B + u3 + 1 <= g * v2 by omega)
 have a3 := z93 hg vlp
 subst hr
 grind
theorem Kn.exitA (h : Kn B P v1 v2 vl top u3 ul q) (hr : top = g * v1 + r) (hg : 0 <= g) (hB : g < B) (hc : g * v2 <= r * B + u3) : g <= q + 1 := by
 obtain ⟨B1, P0, v1p, v2p, v2b, vlp, vlb, tp, u3p, u3b, ulp, ulb, q0, qB, lo, hi⟩ := h
 refine Int.not_lt.1 fun hq => ?_
 have hV : 0 <= P * (B * v1 + v2) + vl := by
  have := z93 (Int.le_of_lt P0) (show 0 <= B * v1 + v2 from by have := z93 (show 0 <= B by omega) (show 0 <= v1 by omega); omega)
  omega
 have a1 := z43 hV (show q + 1 <= g - 1 by omega)
 have a2 := z43 (Int.le_of_lt P0) hc
 have a3 := z43 hg (show vl <= P - 1 by omega)
 have a4 := z43 (Int.le_of_lt P0) (show g <= B - 1 by omega)
 have a5 := z43 (Int.le_of_lt (Int.mul_pos P0 (show 0 < B by omega))) v1p
 have a6 := z93 (Int.le_of_lt P0) v2p
 subst hr
 grind
theorem Kn.exitB (h : Kn B P v1 v2 vl top u3 ul q) (hr : top = g * v1 + r) (hg : 0 <= g) (hB : g <= B) (hc : B <= r) : g <= q := by
 obtain ⟨B1, P0, v1p, v2p, v2b, vlp, vlb, tp, u3p, u3b, ulp, ulb, q0, qB, lo, hi⟩ := h
 refine Int.not_lt.1 fun hq => ?_
 have hV : 0 <= P * (B * v1 + v2) + vl := by
  have := z93 (Int.le_of_lt P0) (show 0 <= B * v1 + v2 from by have := z93 (show 0 <= B by omega) (show 0 <= v1 by omega); omega)
  omega
 have a1 := z43 hV (show q + 1 <= g by omega)
 have hPg := z93 (Int.le_of_lt P0) hg
 have a2 := z43 hPg (show v2 <= B - 1 by omega)
 have a3 := z43 hg (show vl <= P - 1 by omega)
 have a4 := z43 (Int.le_of_lt (Int.mul_pos P0 (show 0 < B by omega))) (show g <= r by omega)
 have a6 := z93 (Int.le_of_lt P0) u3p
 subst hr
 grind
end
set_option linter.defProp false in
def runL := And.intro @decide_eq_true_eq (And.intro @if_pos.{1} (And.intro @if_neg.{1} (And.intro @if_true.{1} (And.intro @if_false.{1} (And.intro @z0i (And.intro @zn2 (And.intro @zn3 (And.intro @idxI (And.intro @znx (And.intro @sslI (And.intro @lslI (And.intro @k64 (And.intro @ku64 (And.intro @ku32 (And.intro @ku8 (And.intro @i64w (And.intro @u64w (And.intro @u32w (And.intro @u8w (And.intro @zow (And.intro @zpc (And.intro @tu0a (And.intro @tu1a (And.intro @tu2a (And.intro @tu3a (And.intro @tu4a (And.intro @tu5a (And.intro @lta (And.intro @zig (And.intro @zgo (And.intro @zpa (And.intro @zpb (And.intro @Int.toNat_natCast (And.intro @List.length_cons.{0} (And.intro @List.length_nil.{0} (And.intro @List.length_set.{0} (And.intro @Int.toNat_zero (@List.replicate_zero.{0}))))))))))))))))))))))))))))))))))))))
end Go.Am
/- Plain law: the program's numbers: digits in the base 10^9. -/
namespace Go.Am.Tryz
open Go Go.Am Go.Proofs
variable {K : Nat}
def NumN (n : Int) (l : List Int) : Prop := CanB 1000000000 l /\ valB 1000000000 l = n
theorem NumN.inj {n : Int} {l m : List Int} (h : NumN n l) (k : NumN n m) : l = m := zly (B := 1000000000) (by omega) l m h.1 k.1 (h.2.trans k.2.symm)
theorem NumN.nonneg {n : Int} {l : List Int} (h : NumN n l) : 0 <= n := by rw [<- h.2]; exact z14 (by omega) l h.1.1
theorem NumN.nil : NumN 0 [] := ⟨⟨DigB.nil _, by simp⟩, rfl⟩
theorem NumN.pos {n : Int} {l : List Int} (h : NumN n l) (h0 : l ≠ []) : 0 < n := by rw [<- h.2]; exact zbu (by omega) l h.1 h0
theorem NumN.nil_iff {n : Int} {l : List Int} (h : NumN n l) : l = [] ↔ n = 0 := by
 constructor
 ·rintro rfl; exact h.2.symm
 ·intro e; by_cases h0 : l = []
  ·exact h0
  ·have := h.pos h0; omega
theorem NumN.len0 {n : Int} {l : List Int} (h : NumN n l) : l.length = 0 ↔ n = 0 := by rw [<- h.nil_iff, List.length_eq_zero_iff]
theorem NumN.one {n : Int} (h : 0 < n) (h2 : n < 1000000000) : NumN n [n] := ⟨⟨fun d hd => by simp at hd; omega, by simp; omega⟩, by simp [valB]⟩
theorem zk9 {B : Int} : ∀ n k (l : List Int), l.length = n -> n <= 8000000 -> n < k -> DigB B l -> ∃ t, z2z K k l = some t /\ CanB B t /\ valB B t = valB B l /\ t.length <= l.length := by
 intro n
 induction n with
 | zero =>
  intro k l hl _ hk hd
  obtain ⟨k, rfl⟩ : ∃ m, k = m + 1 := ⟨k - 1, by omega⟩
  have : l = [] := List.length_eq_zero_iff.1 hl
  subst this
  exact ⟨[], by rw [z2z]; simp [tu1], ⟨hd, by simp⟩, rfl, Nat.le_refl _⟩
 | succ n ih =>
  intro k l hl hb hk hd
  obtain ⟨k, rfl⟩ : ∃ m, k = m + 1 := ⟨k - 1, by omega⟩
  obtain ⟨r, d, rfl⟩ : ∃ r d, l = r ++ [d] := za5 l (by intro e; subst e; simp at hl)
  have hr : r.length = n := by simpa using hl
  have e1 : z04 .i64 (((r ++ [d]).length : Int) - 1) = (n : Int) := by rw [hl, kw (by omega) (by omega)]; omega
  have e2 : idx (r ++ [d]) (n : Int) = some d := z41 (by simp [<- hr])
  have e3 : lsl (r ++ [d]) 0 (n : Int) = some r := by
   unfold lsl
   rw [if_pos (by rw [hl]; omega)]
   simp [<- hr]
  have e4 : ((r ++ [d]).length : Int) > 0 := by rw [hl]; omega
  have dr : DigB B r := fun x hx => hd x (by simp [hx])
  rw [z2z, e1, e2, e3, decide_eq_true e4]
  by_cases h0 : d = 0
  ·obtain ⟨t, h1, h2, h3, h4⟩ := ih k r hr (by omega) (by omega) dr
   refine ⟨t, by simp [h0, tu1, h1], h2, ?_, by simp; omega⟩
   rw [h3, z6a, h0]; simp [valB]
  ·exact ⟨r ++ [d], by simp [h0, tu1], ⟨hd, by simpa using h0⟩, rfl, Nat.le_refl _⟩
theorem zbw {B : Int} {l : List Int} (hl : l.length <= 8000000) (hK : 2000000000 < K) (hd : DigB B l) : ∃ t, z27 K l = some t /\ CanB B t /\ valB B t = valB B l /\ t.length <= l.length := by
 obtain ⟨t, h1, h2⟩ := zk9 (K := K) l.length K l rfl hl (by omega) hd
 exact ⟨t, by unfold z27; rw [h1]; rfl, h2⟩
theorem zka {x y : List Int} (hlen : y.length <= x.length) (hx : x.length <= 4000000) (hK : 2000000000 < K) (dx : DigB 1000000000 x) (dy : DigB 1000000000 y) :
  ∃ r : List Int × Int, z2e K x y K [] 0 0 = some r /\ r.1.length = x.length /\ DigB 1000000000 r.1 /\ (0 <= r.2 /\ r.2 <= 1) /\ valB 1000000000 r.1 + 1000000000 ^ x.length * r.2 = valB 1000000000 x + valB 1000000000 y := by
 refine zaw (fun k (s : List Int × Int × Int) => z2e K x y k s.1 s.2.1 s.2.2) (fun s => ∃ i : Nat, s.2.2 = i /\ i <= x.length /\ s.1.length = i /\ DigB 1000000000 s.1 /\ (0 <= s.2.1 /\ s.2.1 <= 1) /\ valB 1000000000 s.1 + 1000000000 ^ i * s.2.1 = valB 1000000000 (x.take i) + valB 1000000000 (y.take i)) (fun s => x.length - s.1.length) _ ?_ (([], 0, 0) : List Int × Int × Int) (by simp; omega) ⟨0, rfl, by omega, rfl, DigB.nil _, ⟨by simp, by simp⟩, by simp [valB]⟩
 rintro k ⟨out, c, _⟩ ⟨i, rfl, h0, h1, h2, h3, h4⟩
 dsimp only at h1 h2 h3 h4 ⊢
 by_cases hi : i < x.length
 ·right
  have ex := z24 (by omega) dx i
  have ey := z24 (by omega) dy i
  have tx := z3t 1000000000 x i
  have ty := z3t 1000000000 y i
  have hy : ¬ i < y.length -> y.getD i 0 = 0 := fun h => by rw [zAb, List.getElem?_eq_none (by omega)]; rfl
  refine ⟨(out ++ [(x.getD i 0 + c + y.getD i 0) % 1000000000], (x.getD i 0 + c + y.getD i 0) / 1000000000, (i : Int) + 1), ?_, by simp; omega, i + 1, rfl, by omega, by simp [h1], h2.snoc (by omega), by dsimp only; omega, ?_⟩
  ·rw [z2e]
   by_cases h : i < y.length
   ·simp (discharger := omega) only [runL]
   ·have e := hy h
    simp (discharger := omega) only [runL, e, Int.add_zero]
  ·have hm := Int.emod_add_mul_ediv (x.getD i 0 + c + y.getD i 0) 1000000000
   dsimp only
   rw [z8y, h1, tx, ty, Int.pow_succ]
   grind
 ·left
  refine ⟨(out, c), ?_, by dsimp only; omega, h2, h3, ?_⟩
  ·rw [z2e]; simp [hi]
  ·have : i = x.length := by omega
   subst this
   rwa [List.take_of_length_le (Nat.le_refl _), List.take_of_length_le hlen] at h4
theorem zij {x y : List Int} {a b : Int} (hlen : y.length <= x.length) (hx : x.length <= 4000000) (hK : 2000000000 < K) (nx : NumN a x) (ny : NumN b y) :
  ∃ r : List Int × Int, z2e K x y K [] 0 0 = some r /\ r.1.length = x.length /\ NumN (a + b) (if r.2 > 0 then r.1 ++ [r.2] else r.1) := by
 obtain ⟨⟨r, c⟩, h1, h2, h3, h4, h5⟩ := zka hlen hx hK nx.1.1 ny.1.1
 dsimp only at h2 h3 h4 h5
 rw [nx.2, ny.2] at h5
 refine ⟨_, h1, h2, ?_⟩
 dsimp only
 by_cases hc : c > 0
 ·rw [if_pos hc]
  have e : c = 1 := by omega
  subst e
  refine ⟨⟨h3.snoc (by omega), by simp⟩, ?_⟩
  rw [z8y, h2]
  exact h5
 ·rw [if_neg hc]
  have e : c = 0 := by omega
  subst e
  rw [Int.mul_zero, Int.add_zero] at h5
  refine ⟨?_, h5⟩
  by_cases h0 : r = []
  ·subst h0; exact ⟨h3, by simp⟩
  ·refine zoe (by omega) h3 h0 ?_
   have h6 := zih (B := 1000000000) (by omega) nx.1 (by rintro rfl; exact h0 (List.length_eq_zero_iff.1 h2))
   have h7 := ny.nonneg
   rw [nx.2] at h6
   rw [h2, h5]
   omega
theorem zn4 {x y : List Int} {a b : Int} (hx : x.length <= 4000000) (hy : y.length <= 4000000) (hK : 2000000000 < K) (nx : NumN a x) (ny : NumN b y) : ∃ z, z7j K x y = some z /\ NumN (a + b) z /\ z.length <= max x.length y.length + 1 := by
 unfold z7j
 by_cases h : x.length < y.length
 ·obtain ⟨⟨r, c⟩, h1, h2, h3⟩ := zij (K := K) (x := y) (y := x) (by omega) hy (by omega) ny nx
  dsimp only at h2 h3
  rw [Int.add_comm b a] at h3
  by_cases hc : c > 0
  ·rw [if_pos hc] at h3
   exact ⟨r ++ [c], by simp (discharger := omega) only [runL, h1], h3, by simp; omega⟩
  ·rw [if_neg hc] at h3
   exact ⟨r, by simp (discharger := omega) only [runL, h1], h3, by omega⟩
 ·obtain ⟨⟨r, c⟩, h1, h2, h3⟩ := zij (K := K) (x := x) (y := y) (by omega) hx (by omega) nx ny
  dsimp only at h2 h3
  by_cases hc : c > 0
  ·rw [if_pos hc] at h3
   exact ⟨r ++ [c], by simp (discharger := omega) only [runL, h1], h3, by simp; omega⟩
  ·rw [if_neg hc] at h3
   exact ⟨r, by simp (discharger := omega) only [runL, h1], h3, by omega⟩
theorem zkb {x y : List Int} (hx : x.length <= 4000000) (hK : 2000000000 < K) (dx : DigB 1000000000 x) (dy : DigB 1000000000 y) :
  ∃ r : List Int, z2f K x y K (List.replicate x.length 0) 0 0 = some r /\ r.length = x.length /\ DigB 1000000000 r /\ ∃ c : Int, (0 <= c /\ c <= 1) /\ valB 1000000000 r + valB 1000000000 (y.take x.length) = valB 1000000000 x + 1000000000 ^ x.length * c := by
 refine zaw (fun k (s : List Int × Int × Int) => z2f K x y k s.1 s.2.1 s.2.2) (fun s => ∃ i : Nat, s.2.2 = i /\ i <= x.length /\ s.1.length = x.length /\ DigB 1000000000 s.1 /\ (∀ j, i <= j -> s.1.getD j 0 = 0) /\ (0 <= s.2.1 /\ s.2.1 <= 1) /\ valB 1000000000 s.1 + valB 1000000000 (y.take i) = valB 1000000000 (x.take i) + 1000000000 ^ i * s.2.1) (fun s => (x.length - s.2.2 : Int).toNat) _ ?_ ((List.replicate x.length 0, 0, 0) : List Int × Int × Int) (by simp; omega) ⟨0, rfl, by omega, by simp, .zeros (by omega) _, fun j _ => by simp [zAb, List.getElem?_replicate]; split <;> rfl, ⟨by simp, by simp⟩, by simp [valB, za4]⟩
 rintro k ⟨out, c, _⟩ ⟨i, rfl, h0, h1, h2, hz, h3, h4⟩
 dsimp only at h1 h2 h3 h4 hz ⊢
 by_cases hi : i < x.length
 ·right
  have ex := z24 (by omega) dx i
  have ey := z24 (by omega) dy i
  have tx := z3t 1000000000 x i
  have ty := z3t 1000000000 y i
  have hy : ¬ i < y.length -> y.getD i 0 = 0 := fun h => by rw [zAb, List.getElem?_eq_none (by omega)]; rfl
  have hset := fun d => z7e 1000000000 out i d (by omega)
  have hgs := fun d j => z82 (cs := out) (i := i) (j := j) (v := d) (by omega)
  have hz0 := hz i (Nat.le_refl _)
  by_cases hn : x.getD i 0 - c - y.getD i 0 < 0
  ·refine ⟨(out.set i (x.getD i 0 - c - y.getD i 0 + 1000000000), 1, (i : Int) + 1), ?_, by dsimp only; omega, i + 1, rfl, by omega, by simp [h1], h2.set _ (by omega), fun j hj => by rw [hgs, if_neg (by omega)]; exact hz j (by omega), by simp, ?_⟩
   ·rw [z2f]
    by_cases h : i < y.length
    ·simp (discharger := omega) only [runL]
    ·have e := hy h
     rw [e, Int.sub_zero] at hn
     simp (discharger := omega) only [runL, e, Int.sub_zero]
   ·dsimp only
    rw [hset, hz0, tx, ty, Int.pow_succ]
    grind
  ·refine ⟨(out.set i (x.getD i 0 - c - y.getD i 0), 0, (i : Int) + 1), ?_, by dsimp only; omega, i + 1, rfl, by omega, by simp [h1], h2.set _ (by omega), fun j hj => by rw [hgs, if_neg (by omega)]; exact hz j (by omega), by simp, ?_⟩
   ·rw [z2f]
    by_cases h : i < y.length
    ·simp (discharger := omega) only [runL]
    ·have e := hy h
     rw [e, Int.sub_zero] at hn
     simp (discharger := omega) only [runL, e, Int.sub_zero]
   ·dsimp only
    rw [hset, hz0, tx, ty, Int.pow_succ]
    grind
 ·left
  have : i = x.length := by omega
  subst this
  rw [List.take_of_length_le (i := x.length) (l := x) (Nat.le_refl _)] at h4
  exact ⟨out, by rw [z2f]; simp (discharger := omega) only [runL], h1, h2, c, h3, h4⟩
theorem zl5 {x y : List Int} {a b : Int} (hx : x.length <= 4000000) (hK : 2000000000 < K) (nx : NumN a x) (ny : NumN b y) (hab : b <= a) : ∃ z, z6m K x y = some z /\ NumN (a - b) z /\ z.length <= x.length := by
 obtain ⟨r, h1, h2, h3, c, h4, h5⟩ := zkb hx hK nx.1.1 ny.1.1
 have hl : y.length <= x.length := zei (B := 1000000000) (by omega) ny.1 nx.1.1 (by rw [nx.2, ny.2]; exact hab)
 rw [List.take_of_length_le hl, nx.2, ny.2] at h5
 have hv := z5g (B := 1000000000) (by omega) r h3
 rw [h2] at hv
 have hc : c = 0 := by
  by_cases e : c = 0
  ·exact e
  ·have : c = 1 := by omega
   subst this; omega
 subst hc
 obtain ⟨t, t1, t2, t3, t4⟩ := zbw (K := K) (B := 1000000000) (l := r) (by omega) hK h3
 refine ⟨t, ?_, ⟨t2, by rw [t3]; omega⟩, by omega⟩
 unfold z6m
 simp (discharger := omega) only [runL, h1, t1]
theorem zkc {x y : List Int} (hl : x.length = y.length) (hx : x.length <= 4000000) (hK : 2000000000 < K) (dx : DigB 1000000000 x) (dy : DigB 1000000000 y) :
  ∃ r : Int ⊕ Unit, z1z K x y K ((x.length : Int) - 1) = some r /\ r = (if valB 1000000000 x < valB 1000000000 y then .inl (-1) else if valB 1000000000 x = valB 1000000000 y then .inr () else .inl 1) := by
 have hdrop : ∀ (l : List Int) j, valB 1000000000 (l.drop j) = l.getD j 0 + 1000000000 * valB 1000000000 (l.drop (j + 1)) := fun l j => by
  by_cases h : j < l.length
  ·rw [List.drop_eq_getElem_cons h, zAb, zAh h]; rfl
  ·rw [List.drop_eq_nil_of_le (by omega), List.drop_eq_nil_of_le (by omega), zAb, List.getElem?_eq_none (by omega)]; rfl
 refine zaw (fun k (s : Int) => z1z K x y k s) (fun s => ∃ j : Nat, s = (j : Int) - 1 /\ j <= x.length /\ valB 1000000000 (x.drop j) = valB 1000000000 (y.drop j)) (fun s => (s + 1).toNat) _ ?_ ((x.length : Int) - 1) (by omega) ⟨x.length, rfl, Nat.le_refl _, by rw [List.drop_eq_nil_of_le (Nat.le_refl _), List.drop_eq_nil_of_le (by omega)]⟩
 rintro k _ ⟨j, rfl, hj, he⟩
 by_cases h0 : j = 0
 ·subst h0
  left
  rw [List.drop_zero, List.drop_zero] at he
  rw [z1z]
  refine ⟨.inr (), by simp (discharger := omega) only [runL], ?_⟩
  rw [if_neg (by omega), if_pos he]
 ·obtain ⟨i, rfl⟩ : ∃ i, j = i + 1 := ⟨j - 1, by omega⟩
  have e1 : ((i + 1 : Nat) : Int) - 1 = i := by omega
  rw [e1]
  have ex := z24 (by omega) dx i
  have ey := z24 (by omega) dy i
  have sx := z8p 1000000000 x i (by omega)
  have sy := z8p 1000000000 y i (by omega)
  have ax := hdrop x i
  have ay := hdrop y i
  have bx := z5g (B := 1000000000) (by omega) _ (dx.take i)
  have by' := z5g (B := 1000000000) (by omega) _ (dy.take i)
  have cx := z14 (B := 1000000000) (by omega) _ (dx.take i)
  have cy := z14 (B := 1000000000) (by omega) _ (dy.take i)
  rw [List.length_take, Nat.min_eq_left (by omega)] at bx by'
  have p0 : 0 < (1000000000 : Int) ^ i := Int.pow_pos (by omega)
  rw [ax, he] at sx
  rw [ay] at sy
  by_cases h1 : x.getD i 0 < y.getD i 0
  ·left
   refine ⟨.inl (-1), by rw [z1z]; simp (discharger := omega) only [runL], ?_⟩
   have := z43 (Int.le_of_lt p0) (show x.getD i 0 + 1 <= y.getD i 0 by omega)
   rw [if_pos (by grind)]
  ·by_cases h2 : x.getD i 0 > y.getD i 0
   ·left
    refine ⟨.inl 1, by rw [z1z]; simp (discharger := omega) only [runL], ?_⟩
    have := z43 (Int.le_of_lt p0) (show y.getD i 0 + 1 <= x.getD i 0 by omega)
    rw [if_neg (by grind), if_neg (by grind)]
   ·right
    refine ⟨(i : Int) - 1, by rw [z1z]; simp (discharger := omega) only [runL], by omega, i, rfl, by omega, ?_⟩
    rw [ax, ay, he]
    omega
theorem zfu {x y : List Int} {a b : Int} (hx : x.length <= 4000000) (hy : y.length <= 4000000) (hK : 2000000000 < K) (nx : NumN a x) (ny : NumN b y) : z51 K x y = some (if a < b then -1 else if a = b then 0 else 1) := by
 unfold z51
 by_cases h : x.length = y.length
 ·obtain ⟨r, h1, h2⟩ := zkc (K := K) h hx hK nx.1.1 ny.1.1
  rw [nx.2, ny.2] at h2
  have e : ((x.length : Int) != (y.length : Int)) = false := by simp; omega
  rw [e]
  rw [k64 (by omega) (by omega), h1, h2]
  simp only [Bool.false_eq_true, if_false, z9q, Option.bind_some]
  by_cases c1 : a < b
  ·simp [c1, tu1]
  ·by_cases c2 : a = b
   ·subst c2; simp [tu0]
   ·simp [c1, c2, tu1]
 ·have e : ((x.length : Int) != (y.length : Int)) = true := by simp; omega
  rw [e, if_pos rfl]
  by_cases h1 : x.length < y.length
  ·have := zii (B := 1000000000) (by omega) nx.1.1 ny.1 h1
   rw [nx.2, ny.2] at this
   simp (discharger := omega) only [runL]
  ·have := zii (B := 1000000000) (by omega) ny.1.1 nx.1 (by omega)
   rw [nx.2, ny.2] at this
   simp (discharger := omega) only [runL]
end Go.Am.Tryz
/- Plain law: products of the program's numbers; division by one digit. -/
namespace Go.Am.Tryz
open Go Go.Am Go.Proofs
variable {K : Nat}
theorem zl6 {a b : Int} (ha : 0 <= a /\ a < 1000000000) (hb : 0 <= b /\ b < 1000000000) : 0 <= a * b /\ a * b <= 999999998000000001 := by
 refine ⟨Int.mul_nonneg ha.1 hb.1, ?_⟩
 have h1 := z43 ha.1 (show b <= 999999999 by omega)
 omega
theorem zn5 {y out : List Int} {u : Int} {i : Nat} (hl : i + y.length <= out.length) (ho : out.length <= 8000000) (hK : 2000000000 < K) (hu : 0 <= u /\ u < 1000000000) (dy : DigB 1000000000 y) (d0 : DigB 1000000000 out) :
  ∃ r : List Int × Int, z2v K y (i : Int) u K out 0 0 = some r /\ r.1.length = out.length /\ DigB 1000000000 r.1 /\ (0 <= r.2 /\ r.2 < 1000000000) /\ (∀ j, i + y.length <= j -> r.1.getD j 0 = out.getD j 0) ∧
   valB 1000000000 r.1 + 1000000000 ^ (i + y.length) * r.2 = valB 1000000000 out + 1000000000 ^ i * (u * valB 1000000000 y) := by
 refine zaw (fun k (s : List Int × Int × Int) => z2v K y (i : Int) u k s.1 s.2.1 s.2.2) (fun s => ∃ q : Nat, s.2.2 = q /\ q <= y.length /\ s.1.length = out.length /\ DigB 1000000000 s.1 /\ (0 <= s.2.1 /\ s.2.1 < 1000000000) /\ (∀ j, i + q <= j -> s.1.getD j 0 = out.getD j 0) ∧
   valB 1000000000 s.1 + 1000000000 ^ (i + q) * s.2.1 = valB 1000000000 out + 1000000000 ^ i * (u * valB 1000000000 (y.take q))) (fun s => (y.length - s.2.2 : Int).toNat) _ ?_ ((out, 0, 0) : List Int × Int × Int) (by simp; omega) ⟨0, rfl, by omega, rfl, d0, by simp, fun _ _ => rfl, by simp [valB]⟩
 rintro k ⟨o, c, _⟩ ⟨q, rfl, h0, h1, h2, h3, hz, h4⟩
 dsimp only at h1 h2 h3 h4 hz ⊢
 by_cases hq : q < y.length
 ·right
  have ey := z24 (by omega) dy q
  have eo := z24 (by omega) h2 (i + q)
  have ty := z3t 1000000000 y q
  have hm := zl6 hu ey
  have hset := fun d => z7e 1000000000 o (i + q) d (by omega)
  have hgs := fun d j => z82 (cs := o) (i := i + q) (j := j) (v := d) (by omega)
  have e1 : ((i : Int) + (q : Int)) = ((i + q : Nat) : Int) := by omega
  generalize hw : u * y.getD q 0 = w at hm
  generalize ho : o.getD (i + q) 0 = z at eo hset
  have hdm := Int.emod_add_mul_ediv (w + z + c) 1000000000
  refine ⟨(o.set (i + q) ((w + z + c) % 1000000000), (w + z + c) / 1000000000, (q : Int) + 1), ?_, by dsimp only; omega, q + 1, rfl, by omega, by simp [h1], h2.set _ (by omega), by dsimp only; omega, fun j hj => by rw [hgs, if_neg (by omega)]; exact hz j (by omega), ?_⟩
  ·rw [z2v]
   simp (discharger := omega) only [runL, e1, hw, ho]
  ·dsimp only
   rw [hset, ty]
   have e2 : (1000000000 : Int) ^ (i + (q + 1)) = 1000000000 ^ i * 1000000000 ^ q * 1000000000 := by rw [<- Nat.add_assoc, Int.pow_succ, Int.pow_add]
   rw [e2]
   rw [Int.pow_add] at h4 ⊢
   subst hw
   generalize (u * y.getD q 0 + z + c) / 1000000000 = Q at *
   generalize (u * y.getD q 0 + z + c) % 1000000000 = R at *
   grind
 ·left
  have : q = y.length := by omega
  subst this
  rw [List.take_of_length_le (Nat.le_refl _)] at h4
  exact ⟨(o, c), by rw [z2v]; simp (discharger := omega) only [runL], h1, h2, h3, hz, h4⟩
theorem zkd {x y : List Int} (hl : x.length + y.length <= 8000000) (hK : 2000000000 < K) (dx : DigB 1000000000 x) (dy : DigB 1000000000 y) :
  ∃ r : List Int, z2w K x y K (List.replicate (x.length + y.length) 0) 0 = some r /\ r.length = x.length + y.length /\ DigB 1000000000 r /\ valB 1000000000 r = valB 1000000000 x * valB 1000000000 y := by
 refine zaw (fun k (s : List Int × Int) => z2w K x y k s.1 s.2) (fun s => ∃ i : Nat, s.2 = i /\ i <= x.length /\ s.1.length = x.length + y.length /\ DigB 1000000000 s.1 /\ (∀ j, i + y.length <= j -> s.1.getD j 0 = 0) /\ valB 1000000000 s.1 = valB 1000000000 (x.take i) * valB 1000000000 y) (fun s => (x.length - s.2 : Int).toNat) _ ?_ ((List.replicate (x.length + y.length) 0, 0) : List Int × Int) (by simp; omega) ⟨0, rfl, by omega, by simp, .zeros (by omega) _, fun j _ => by simp [zAb, List.getElem?_replicate]; split <;> rfl, by simp [valB, za4]⟩
 rintro k ⟨out, _⟩ ⟨i, rfl, h0, h1, h2, hz, h4⟩
 dsimp only at h1 h2 h4 hz ⊢
 by_cases hi : i < x.length
 ·right
  have ex := z24 (by omega) dx i
  have tx := z3t 1000000000 x i
  obtain ⟨⟨r, c⟩, r1, r2, r3, r4, r5, r6⟩ := zn5 (K := K) (y := y) (out := out) (u := x.getD i 0) (i := i) (by omega) (by omega) hK ex dy h2
  dsimp only at r2 r3 r4 r5 r6
  have hz0 := r5 (i + y.length) (Nat.le_refl _)
  rw [hz _ (Nat.le_refl _)] at hz0
  have hset := z7e 1000000000 r (i + y.length) c (by omega)
  have hgs := fun d j => z82 (cs := r) (i := i + y.length) (j := j) (v := d) (by omega)
  have e1 : ((i : Int) + (y.length : Int)) = ((i + y.length : Nat) : Int) := by omega
  refine ⟨(r.set (i + y.length) c, (i : Int) + 1), ?_, by dsimp only; omega, i + 1, rfl, by omega, by simp [r2, h1], r3.set _ r4, fun j hj => by rw [hgs, if_neg (by omega), r5 j (by omega)]; exact hz j (by omega), ?_⟩
  ·rw [z2w]
   simp (discharger := omega) only [runL, r1, e1]
  ·dsimp only
   rw [hset, hz0, tx]
   grind
 ·left
  have : i = x.length := by omega
  subst this
  rw [List.take_of_length_le (Nat.le_refl _)] at h4
  exact ⟨out, by rw [z2w]; simp (discharger := omega) only [runL], h1, h2, h4⟩
theorem zbx {x y : List Int} {a b : Int} (hl : x.length + y.length <= 8000000) (hK : 2000000000 < K) (nx : NumN a x) (ny : NumN b y) : ∃ z, z3c K x y = some z /\ NumN (a * b) z /\ z.length <= x.length + y.length := by
 obtain ⟨r, h1, h2, h3, h4⟩ := zkd hl hK nx.1.1 ny.1.1
 rw [nx.2, ny.2] at h4
 obtain ⟨t, t1, t2, t3, t4⟩ := zbw (K := K) (B := 1000000000) (l := r) (by omega) hK h3
 refine ⟨t, ?_, ⟨t2, by rw [t3, h4]⟩, by omega⟩
 unfold z3c
 have e1 : ((x.length : Int) + (y.length : Int)) = ((x.length + y.length : Nat) : Int) := by omega
 simp (discharger := omega) only [runL, h1, t1, e1]
theorem zf5 (l : List Int) (j : Nat) : valB 1000000000 (l.drop j) = l.getD j 0 + 1000000000 * valB 1000000000 (l.drop (j + 1)) := by
 by_cases h : j < l.length
 ·rw [List.drop_eq_getElem_cons h, zAb, zAh h]; rfl
 ·rw [List.drop_eq_nil_of_le (by omega), List.drop_eq_nil_of_le (by omega), zAb, List.getElem?_eq_none (by omega)]; rfl
theorem zgp {x : List Int} {d : Int} (hl : x.length <= 8000000) (hK : 2000000000 < K) (dx : DigB 1000000000 x) (hd : 1 <= d /\ d <= 1000000000) :
  ∃ r : List Int × Int, z22 K x d K (List.replicate x.length 0) 0 ((x.length : Int) - 1) = some r /\ r.1.length = x.length /\ DigB 1000000000 r.1 /\ (0 <= r.2 /\ r.2 < d) /\ valB 1000000000 x = d * valB 1000000000 r.1 + r.2 := by
 refine zaw (fun k (s : List Int × Int × Int) => z22 K x d k s.1 s.2.1 s.2.2) (fun s => ∃ j : Nat, s.2.2 = (j : Int) - 1 /\ j <= x.length /\ s.1.length = x.length /\ DigB 1000000000 s.1 /\ (0 <= s.2.1 /\ s.2.1 < d) /\ valB 1000000000 (x.drop j) = d * valB 1000000000 (s.1.drop j) + s.2.1) (fun s => (s.2.2 + 1).toNat) _ ?_ ((List.replicate x.length 0, 0, (x.length : Int) - 1) : List Int × Int × Int) (by dsimp only; omega) ⟨x.length, rfl, Nat.le_refl _, by simp, .zeros (by omega) _, by dsimp only; omega, by simp [valB]⟩
 rintro k ⟨out, c, _⟩ ⟨j, rfl, hj, h1, h2, h3, h4⟩
 dsimp only at h1 h2 h3 h4 ⊢
 by_cases h0 : j = 0
 ·left
  subst h0
  rw [List.drop_zero, List.drop_zero] at h4
  exact ⟨(out, c), by rw [z22]; simp (discharger := omega) only [runL], h1, h2, h3, h4⟩
 ·right
  obtain ⟨i, rfl⟩ : ∃ i, j = i + 1 := ⟨j - 1, by omega⟩
  have e1 : ((i + 1 : Nat) : Int) - 1 = i := by omega
  rw [e1]
  have ex := z24 (by omega) dx i
  have ax := zf5 x i
  generalize hu : x.getD i 0 = u at ex ax
  have hq0 : 0 <= (c * 1000000000 + u) / d := Int.ediv_nonneg (by omega) (by omega)
  have hqB : (c * 1000000000 + u) / d < 1000000000 := Int.ediv_lt_of_lt_mul (by omega) (by omega)
  have hr0 : 0 <= (c * 1000000000 + u) % d := Int.emod_nonneg _ (by omega)
  have hrd : (c * 1000000000 + u) % d < d := Int.emod_lt_of_pos _ (by omega)
  have hdm := Int.emod_add_mul_ediv (c * 1000000000 + u) d
  refine ⟨(out.set i ((c * 1000000000 + u) / d), (c * 1000000000 + u) % d, (i : Int) - 1), ?_, by dsimp only; omega, i, rfl, by omega, by simp [h1], h2.set _ ⟨hq0, hqB⟩, ⟨hr0, hrd⟩, ?_⟩
  ·rw [z22]
   have hd' : d ≠ 0 := by omega
   simp (discharger := omega) only [runL, hu]
  ·dsimp only
   rw [zf5 (out.set i _) i, List.drop_set_of_lt (by omega), z82 (by omega), if_pos rfl, ax, h4]
   generalize (c * 1000000000 + u) / d = Q at *
   generalize (c * 1000000000 + u) % d = R at *
   grind
theorem zke {d : Int} (hd : 0 <= d /\ d < 1000000000) (hK : 2000000000 < K) : ∃ z, z27 K [d] = some z /\ NumN d z /\ z.length <= 1 := by
 obtain ⟨t, t1, t2, t3, t4⟩ := zbw (K := K) (B := 1000000000) (l := [d]) (by simp) hK (fun x hx => by simp at hx; omega)
 exact ⟨t, t1, ⟨t2, by rw [t3]; simp [valB]⟩, by simpa using t4⟩
theorem zby {n d q r : Int} (hd : 0 < d) (h : n = d * q + r) (h0 : 0 <= r) (h1 : r < d) : q = n / d /\ r = n % d := by
 have e1 : n / d = q := by
  rw [h, Int.add_comm, Int.add_mul_ediv_left _ _ (by omega), Int.ediv_eq_zero_of_lt h0 h1]; omega
 refine ⟨e1.symm, ?_⟩
 have := Int.emod_add_mul_ediv n d
 rw [e1] at this
 omega
theorem zfv {x : List Int} {a d : Int} (hl : x.length <= 8000000) (hK : 2000000000 < K) (nx : NumN a x) (hd : 1 <= d /\ d <= 1000000000) : ∃ q r, z52 K x d = some (q, r) /\ NumN (a / d) q /\ NumN (a % d) r /\ q.length <= x.length /\ r.length <= 1 := by
 obtain ⟨⟨o, c⟩, h1, h2, h3, h4, h5⟩ := zgp hl hK nx.1.1 hd
 dsimp only at h2 h3 h4 h5
 rw [nx.2] at h5
 obtain ⟨e1, e2⟩ := zby (by omega) h5 h4.1 h4.2
 obtain ⟨t, t1, t2, t3, t4⟩ := zbw (K := K) (B := 1000000000) (l := o) (by omega) hK h3
 obtain ⟨z, z1, z2, z3⟩ := zke (K := K) (d := c) (by omega) hK
 refine ⟨t, z, ?_, ⟨t2, by rw [t3, e1]⟩, by rw [<- e2]; exact z2, by omega, z3⟩
 unfold z52
 simp (discharger := omega) only [runL, h1, t1, z1]
end Go.Am.Tryz
/- Plain law: texts and the program's numbers: Read and Text. -/
namespace Go.Am.Tryz
open Go Go.Am Go.Proofs
variable {K : Nat}
def numB (l : List Int) : Int := valB 10 ((l.map (· - 48)).reverse)
theorem zdi (s : zAd) : numT s = numB (z05 s) := rfl
theorem z9i : numB [] = 0 := rfl
theorem zb6 (l : List Int) (c : Int) : numB (l ++ [c]) = numB l * 10 + (c - 48) := by
 unfold numB
 simp [valB]
 omega
theorem zf6 (l m : List Int) : numB (l ++ m) = numB m + 10 ^ m.length * numB l := by
 unfold numB
 rw [List.map_append, List.reverse_append, z6a]
 simp
theorem zb7 (c : Int) (l : List Int) : numB (c :: l) = numB l + 10 ^ l.length * (c - 48) := by
 have := zf6 [c] l
 simpa [numB, valB] using this
theorem zik {l : List Int} (h : l.all digT = true) : DigB 10 ((l.map (· - 48)).reverse) := by
 intro d hd
 rw [List.mem_reverse, List.mem_map] at hd
 obtain ⟨c, hc, rfl⟩ := hd
 have := List.all_eq_true.1 h c hc
 simp only [digT, Bool.and_eq_true, decide_eq_true_eq] at this
 omega
theorem z6p {l : List Int} (h : l.all digT = true) : 0 <= numB l := z14 (by omega) _ (zik h)
theorem zcr {l : List Int} (h : l.all digT = true) : numB l < 10 ^ l.length := by
 have := z5g (B := 10) (by omega) _ (zik h)
 simpa [numB] using this
theorem digT_iff {c : Int} : digT c = true ↔ 48 <= c /\ c <= 57 := by simp [digT]
theorem zbz {l : List Int} (h : l.all digT = true) (k : Nat) : (l.take k).all digT = true := List.all_eq_true.2 fun x hx => List.all_eq_true.1 h x (List.mem_of_mem_take hx)
theorem zlz {l : List Int} (h : l.all digT = true) (k : Nat) : (l.drop k).all digT = true := List.all_eq_true.2 fun x hx => List.all_eq_true.1 h x (List.mem_of_mem_drop hx)
theorem zfw {l : List Int} {i : Nat} (h : i < l.length) : l.take (i + 1) = l.take i ++ [l.getD i 0] := by
 rw [List.take_add_one, zAh h, zAb, zAh h]; rfl
theorem zfx {l : List Int} (h : l.all digT = true) {i : Nat} (hi : i < l.length) : 48 <= l.getD i 0 /\ l.getD i 0 <= 57 := by
 rw [zAb, zAh hi]
 exact digT_iff.1 (List.all_eq_true.1 h _ (List.getElem_mem hi))
theorem zkf {t : zAd} (ht : t.size <= 9) (hK : 2000000000 < K) (hd : (z05 t).all digT = true) : z2u K t K 0 0 = some (numT t) := by
 suffices h : ∃ r, z2u K t K 0 0 = some r /\ r = numT t by obtain ⟨r, h1, rfl⟩ := h; exact h1
 have hn := z01 t
 refine zaw (fun k (s : Int × Int) => z2u K t k s.1 s.2) (fun s => ∃ i : Nat, s.2 = i /\ i <= t.size /\ s.1 = numB ((z05 t).take i)) (fun s => (t.size - s.2 : Int).toNat) _ ?_ ((0, 0) : Int × Int) (by simp; omega) ⟨0, rfl, by omega, by simp [z9i]⟩
 rintro k ⟨_, _⟩ ⟨i, rfl, h0, rfl⟩
 dsimp only
 by_cases hi : i < t.size
 ·right
  have b1 := z6p (zbz hd i)
  have b2 := zcr (zbz hd i)
  have b3 : (10 : Int) ^ (List.take i (z05 t)).length <= 10 ^ 8 := by
   rw [List.length_take, hn, Nat.min_eq_left (by omega)]
   exact z7r (by omega) (by omega)
  have hc := zfx hd (i := i) (by omega)
  have hs := zfw (l := z05 t) (i := i) (by omega)
  have b4 : (10 : Int) ^ 8 = 100000000 := by decide
  refine ⟨(numB ((z05 t).take (i + 1)), (i : Int) + 1), ?_, by dsimp only; omega, i + 1, rfl, by omega, rfl⟩
  rw [z2u, hs, zb6]
  generalize numB ((z05 t).take i) = d at *
  rw [hn]
  have hi' : (i : Int) < ((z05 t).length : Int) := by omega
  simp (discharger := omega) only [runL]
 ·left
  have : i = t.size := by omega
  subst this
  refine ⟨numB ((z05 t).take t.size), by rw [z2u, hn]; simp (discharger := omega) only [runL], ?_⟩
  rw [List.take_of_length_le (by omega)]
  rfl
theorem zkg {s : zAd} (hs : s.size <= 8000000) (hK : 2000000000 < K) (hd : (z05 s).all digT = true) :
  ∃ r : List Int, z3g K s K [] (s.size : Int) = some r /\ 9 * r.length < s.size + 9 /\ DigB 1000000000 r /\ valB 1000000000 r = numT s := by
 have hn := z01 s
 refine zaw (fun k (q : List Int × Int) => z3g K s k q.1 q.2) (fun q => q.2 = (s.size : Int) - 9 * q.1.length /\ 9 * q.1.length < s.size + 9 /\ DigB 1000000000 q.1 /\ valB 1000000000 q.1 + 1000000000 ^ q.1.length * numB ((z05 s).take q.2.toNat) = numT s) (fun q => (q.2 + 9).toNat) _ ?_ (([], (s.size : Int)) : List Int × Int) (by dsimp only; omega) ⟨by simp, by simp, .nil _, by simp [valB]; rw [List.take_of_length_le (by omega)]; rfl⟩
 rintro k ⟨out, e⟩ ⟨h1, h2, h3, h4⟩
 dsimp only at h1 h2 h3 h4 ⊢
 by_cases he : e > 0
 ·right
  obtain ⟨lo, hlo, hm⟩ : ∃ lo : Nat, imax 0 (z04 .i64 (e - 9)) = lo /\ ((lo : Int) = e - 9 \/ ((lo = 0) /\ e < 9)) := by
   rw [k64 (by omega) (by omega)]
   unfold imax
   by_cases h9 : e - 9 > 0
   ·exact ⟨(e - 9).toNat, by rw [if_pos h9]; omega, .inl (by omega)⟩
   ·exact ⟨0, by rw [if_neg h9]; rfl, by omega⟩
  have hb : z05 (s.extract lo e.toNat) = ((z05 s).drop lo).take (e.toNat - lo) := z37 _ _ _
  have hsz : (s.extract lo e.toNat).size = e.toNat - lo := by rw [<- z01, hb, List.length_take, List.length_drop]; omega
  have hdp : (z05 (s.extract lo e.toNat)).all digT = true := by rw [hb]; exact zbz (zlz hd _) _
  have hp := zkf (K := K) (t := s.extract lo e.toNat) (by omega) hK hdp
  have hv0 := z6p hdp
  have hv1 := zcr hdp
  have hsplit : (z05 s).take e.toNat = (z05 s).take lo ++ z05 (s.extract lo e.toNat) := by
   rw [hb, show e.toNat = lo + (e.toNat - lo) by omega, List.take_add]; simp
  have hlen : (z05 (s.extract lo e.toNat)).length = e.toNat - lo := by rw [z01]; exact hsz
  have hBv : numB (z05 (s.extract lo e.toNat)) < 1000000000 := by
   have : (10 : Int) ^ (z05 (s.extract lo e.toNat)).length <= 10 ^ 9 := z7r (by omega) (by omega)
   have e9 : (10 : Int) ^ 9 = 1000000000 := by decide
   omega
  refine ⟨(out ++ [numT (s.extract lo e.toNat)], e - 9), ?_, by dsimp only; omega, by simp; omega, by simp; omega, h3.snoc ⟨hv0, hBv⟩, ?_⟩
  ·rw [z3g, hlo]
   simp (discharger := omega) only [runL, hp]
  ·dsimp only
   rw [z8y, List.length_append, List.length_singleton, Int.pow_succ, zdi]
   rw [hsplit, zf6, hlen] at h4
   rcases hm with hm | ⟨hm, h9⟩
   ·have e9 : e.toNat - lo = 9 := by omega
    have e10 : (10 : Int) ^ 9 = 1000000000 := by decide
    have el : (e - 9).toNat = lo := by omega
    rw [e9, e10] at h4
    rw [el]
    grind
   ·subst hm
    have el : (e - 9).toNat = 0 := by omega
    rw [el, List.take_zero, z9i] at *
    grind
 ·left
  have el : e.toNat = 0 := by omega
  rw [el, List.take_zero, z9i] at h4
  exact ⟨out, by rw [z3g]; simp (discharger := omega) only [runL], h2, h3, by omega⟩
theorem zao {s : zAd} (hs : s.size <= 8000000) (hK : 2000000000 < K) (hd : (z05 s).all digT = true) : ∃ z, z65 K s = some z /\ NumN (numT s) z /\ 9 * z.length < s.size + 9 := by
 obtain ⟨r, h1, h2, h3, h4⟩ := zkg hs hK hd
 obtain ⟨t, t1, t2, t3, t4⟩ := zbw (K := K) (B := 1000000000) (l := r) (by omega) hK h3
 exact ⟨t, by unfold z65; simp (discharger := omega) only [runL, h1, t1], ⟨t2, by rw [t3, h4]⟩, by omega⟩
theorem zkh {d : Int} (hd : 0 <= d /\ d < 1000000000) (hK : 2000000000 < K) : ∃ p, z2j K K (List.replicate 9 0) d 8 = some p /\ p.length = 9 /\ p.all digT = true /\ numB p = d := by
 refine zaw (fun k (s : List Int × Int × Int) => z2j K k s.1 s.2.1 s.2.2) (fun s => ∃ j : Nat, s.2.2 = (j : Int) - 1 /\ j <= 9 /\ s.1.length = 9 /\ (s.1.drop j).all digT = true /\ (0 <= s.2.1 /\ s.2.1 <= d) /\ d = s.2.1 * 10 ^ (9 - j) + numB (s.1.drop j)) (fun s => (s.2.2 + 1).toNat) _ ?_ ((List.replicate 9 0, d, 8) : List Int × Int × Int) (by simp; omega) ⟨9, rfl, by omega, by simp, by simp, by dsimp only; omega, by simp [z9i]⟩
 rintro k ⟨p, c, _⟩ ⟨j, rfl, hj, h1, h2, h3, h4⟩
 dsimp only at h1 h2 h3 h4 ⊢
 by_cases h0 : j = 0
 ·subst h0
  left
  rw [List.drop_zero] at h2 h4
  have e9 : (10 : Int) ^ (9 - 0) = 1000000000 := by decide
  have := z6p h2
  rw [e9] at h4
  exact ⟨p, by rw [z2j]; simp (discharger := omega) only [runL], h1, h2, by omega⟩
 ·right
  obtain ⟨i, rfl⟩ : ∃ i, j = i + 1 := ⟨j - 1, by omega⟩
  have e1 : ((i + 1 : Nat) : Int) - 1 = i := by omega
  rw [e1]
  have hx : (p.set i (48 + c % 10)).drop i = (48 + c % 10) :: p.drop (i + 1) := by
   rw [List.drop_eq_getElem_cons (by simp; omega), List.drop_set_of_lt (by omega)]
   simp
  have e2 : (10 : Int) ^ (9 - i) = 10 ^ (9 - (i + 1)) * 10 := by rw [<- Int.pow_succ]; congr 1; omega
  have e3 : (p.drop (i + 1)).length = 9 - (i + 1) := by rw [List.length_drop, h1]
  have hdm := Int.emod_add_mul_ediv c 10
  refine ⟨(p.set i (48 + c % 10), c / 10, (i : Int) - 1), ?_, by dsimp only; omega, i, rfl, by omega, by simp [h1], ?_, by dsimp only; omega, ?_⟩
  ·rw [z2j]
   simp (discharger := omega) only [runL]
  ·dsimp only
   rw [hx, List.all_cons, h2, Bool.and_true]
   exact digT_iff.2 (by omega)
  ·dsimp only
   rw [hx, zb7, e2, e3]
   generalize (10 : Int) ^ (9 - (i + 1)) = P at *
   grind
theorem zil {x : List Int} (hx : x.length <= 1000000) (hK : 2000000000 < K) (dx : DigB 1000000000 x) : ∃ b, z2k K x K [] ((x.length : Int) - 1) = some b /\ b.length = 9 * x.length /\ b.all digT = true /\ numB b = valB 1000000000 x := by
 refine zaw (fun k (s : List Int × Int) => z2k K x k s.1 s.2) (fun s => ∃ j : Nat, s.2 = (j : Int) - 1 /\ j <= x.length /\ s.1.length = 9 * (x.length - j) /\ s.1.all digT = true /\ numB s.1 = valB 1000000000 (x.drop j)) (fun s => (s.2 + 1).toNat) _ ?_ (([], (x.length : Int) - 1) : List Int × Int) (by dsimp only; omega) ⟨x.length, rfl, Nat.le_refl _, by simp, by simp, by simp [valB, z9i]⟩
 rintro k ⟨b, _⟩ ⟨j, rfl, hj, h1, h2, h4⟩
 dsimp only at h1 h2 h4 ⊢
 by_cases h0 : j = 0
 ·subst h0
  left
  exact ⟨b, by rw [z2k]; simp (discharger := omega) only [runL], h1, h2, h4⟩
 ·right
  obtain ⟨i, rfl⟩ : ∃ i, j = i + 1 := ⟨j - 1, by omega⟩
  have e1 : ((i + 1 : Nat) : Int) - 1 = i := by omega
  rw [e1]
  have ex := z24 (by omega) dx i
  obtain ⟨p, p1, p2, p3, p4⟩ := zkh (K := K) (d := x.getD i 0) ex hK
  have e9 : (10 : Int) ^ 9 = 1000000000 := by decide
  refine ⟨(b ++ p, (i : Int) - 1), ?_, by dsimp only; omega, i, rfl, by omega, by simp; omega, ?_, ?_⟩
  ·rw [z2k]
   simp (discharger := omega) only [runL, p1]
  ·dsimp only
   rw [List.all_append, h2, p3]; rfl
  ·dsimp only
   rw [zf6, p2, p4, h4, zf5 x i, e9]
theorem zej {n : Int} : ∀ k (s : zAd), s.size < k -> s.size <= 16777216 -> (z05 s).all digT = true -> numT s = n -> ∃ t, z0n K 48 k s = some t /\ (z05 t).all digT = true /\ numT t = n /\ (z05 t).head? ≠ some 48 /\ t.size <= s.size := by
 intro k
 induction k with
 | zero => intro s h; omega
 | succ k ih =>
  intro s hk hb hd hn
  have hl := z01 s
  by_cases h0 : s.size > 0
  ·cases hc : z05 s with
   | nil => rw [hc] at hl; simp at hl; omega
   | cons c l =>
    obtain ⟨t, t1, t2, t3⟩ := zbv hc
    rw [hc] at hd hl
    simp only [List.all_cons, Bool.and_eq_true, List.length_cons] at hd hl
    have hcc : bidx s 0 = some c := by rw [za3, hc]; rfl
    by_cases h1 : c = 48
    ·subst h1
     obtain ⟨r, r1, r2, r3, r4, r5⟩ := ih t (by omega) (by omega) (by rw [t2]; exact hd.2) (by rw [<- hn, zdi, zdi, t2, hc, zb7]; simp)
     refine ⟨r, ?_, r2, r3, r4, by omega⟩
     rw [z0n, hcc, t1]
     simp (discharger := omega) only [runL, r1]
    ·refine ⟨s, ?_, by rw [hc]; simp [hd], hn, by rw [hc]; simp; omega, Nat.le_refl _⟩
     rw [z0n, hcc]
     simp (discharger := omega) only [runL]
  ·refine ⟨s, ?_, hd, hn, ?_, Nat.le_refl _⟩
   ·rw [z0n]
    have e : (decide ((s.size : Int) > 0)) = false := decide_eq_false (by omega)
    rw [e]
    simp (discharger := omega) only [runL, Bool.false_eq_true]
   ·have : z05 s = [] := List.length_eq_zero_iff.1 (by omega)
    rw [this]; simp
theorem zn6 {s t : zAd} (h : s.size ≠ t.size) : sEq s t = false := by
 cases e : sEq s t with
 | false => rfl
 | true => rw [sEq_iff] at e; subst e; exact absurd rfl h
theorem zgq {s : zAd} (hs : s.size <= 16777216) (hK : 2000000000 < K) (hp : 0 < numT s) (hd : (z05 s).all digT = true) : ∃ t, z3d K s ⟨#[48]⟩ = some t /\ CanT t /\ numT t = numT s /\ t.size <= s.size := by
 obtain ⟨t, t1, t2, t3, t4, t5⟩ := zej (K := K) K s (by omega) hs hd rfl
 have ne : ∀ u : zAd, 0 < numT u -> u.size ≠ 0 := fun u hu e => by
  have : z05 u = [] := List.length_eq_zero_iff.1 (by rw [z01]; exact e)
  rw [zdi, this, z9i] at hu; omega
 refine ⟨t, ?_, ⟨ne t (by omega), t2, fun h => absurd h t4⟩, t3, t5⟩
 unfold z3d z2x
 have e1 : sEq s ⟨#[]⟩ = false := zn6 (ne s hp)
 have e2 : sEq ⟨#[48]⟩ ⟨#[]⟩ = false := zn6 (by decide)
 have e3 : bidx (⟨#[48]⟩ : zAd) 0 = some 48 := rfl
 have e4 : (((⟨#[48]⟩ : zAd).size : Int) == 1) = true := rfl
 rw [e1, e2, e3, e4]
 simp (discharger := omega) only [runL, Bool.false_eq_true, t1]
theorem zim {x : List Int} {n : Int} (hx : x.length <= 1000000) (hK : 2000000000 < K) (nx : NumN n x) : ∃ t, z4w K x = some t /\ CanT t /\ numT t = n /\ t.size <= 9 * x.length + 1 := by
 unfold z4w
 by_cases h0 : x = []
 ·subst h0
  have e : n = 0 := nx.nil_iff.1 rfl
  subst e
  exact ⟨⟨#[48]⟩, rfl, ⟨by decide, rfl, fun _ => rfl⟩, rfl, by decide⟩
 ·have hl : x.length ≠ 0 := fun e => h0 (List.length_eq_zero_iff.1 e)
  obtain ⟨b, b1, b2, b3, b4⟩ := zil hx hK nx.1.1
  rw [nx.2] at b4
  have hr : ∀ c ∈ b, 0 <= c /\ c <= 255 := fun c hc => by have := digT_iff.1 (List.all_eq_true.1 b3 c hc); omega
  have hb := zcq b hr
  have hsz : (strOfNums b).size = b.length := by rw [<- z01, hb]
  obtain ⟨t, t1, t2, t3, t4⟩ := zgq (K := K) (s := strOfNums b) (by omega) hK (by rw [zdi, hb, b4]; exact nx.pos h0) (by rw [hb]; exact b3)
  refine ⟨t, ?_, t2, by rw [t3, zdi, hb, b4], by omega⟩
  have e : ((x.length : Int) == 0) = false := by simp; omega
  rw [e]
  simp (discharger := omega) only [runL, Bool.false_eq_true, b1, t1]
end Go.Am.Tryz
/- Plain law: the reference's texts of digits. -/
namespace Go.Am.Tryz
open Go Go.Am Go.Proofs
variable {K : Nat}
theorem zki {s : zAd} {c : Int} {l : List Int} (h : z05 s = c :: l) : bidx s 0 = some c := by rw [za3, h]; rfl
theorem zin : ∀ n k (s : zAd), s.size = n -> n < k -> 0 < n -> (z05 s).all digT = true -> ∃ t, z5q K k s = some t /\ CanT t /\ numT t = numT s := by
 intro n
 induction n with
 | zero => intro k s _ _ h; omega
 | succ n ih =>
  intro k s hs hk _ hd
  obtain ⟨k, rfl⟩ : ∃ m, k = m + 1 := ⟨k - 1, by omega⟩
  have hn := z01 s
  cases hb : z05 s with
  | nil => rw [hb] at hn; simp at hn; omega
  | cons c l =>
   rw [z5q, zki hb]
   by_cases h1 : (s.size : Int) > 1
   ·by_cases h2 : c = 48
    ·obtain ⟨t, h3, h4, h5⟩ := zbv hb
     have hl : l.length = n := by rw [hb] at hn; simp at hn; omega
     obtain ⟨r, h6, h7, h8⟩ := ih k t (by omega) (by omega) (by omega) (by rw [h4]; rw [hb] at hd; simp only [List.all_cons, Bool.and_eq_true] at hd; exact hd.2)
     refine ⟨r, ?_, h7, ?_⟩
     ·simp [h1, h2, h3, h6, tu1]
     ·rw [h8, zk8 (s := s) (t := t) (c := c) (by rw [hb, h4]), h2]; simp
    ·refine ⟨s, by simp [h1, h2, tu1], ⟨by omega, hd, fun e => ?_⟩, rfl⟩
     rw [hb] at e; simp at e; exact absurd e h2
   ·exact ⟨s, by simp [h1, tu1], ⟨by omega, hd, fun e => by omega⟩, rfl⟩
theorem zb8 {s : zAd} (hs : s.size <= 1048576) (h0 : 0 < s.size) (hK : s.size < K) (hd : (z05 s).all digT = true) : ∃ t, z74 K s = some t /\ CanT t /\ numT t = numT s := by
 obtain ⟨t, h1, h2⟩ := zin (K := K) s.size K s rfl hK h0 hd
 exact ⟨t, by unfold z74; rw [h1]; rfl, h2⟩
theorem z8z {s : zAd} (hs : s.size <= 1048576) (hd : (z05 s).all digT = true) (k : Nat) (hk : k <= 1048577) : z5z K s k = some ((z6b s).getD k 0) := by
 have hn := z01 s
 unfold z5z
 by_cases h : k < s.size
 ·have h' : ((k : Int) < (s.size : Int)) := by omega
  have hi : s.size - 1 - k < (z05 s).length := by omega
  have e1 : z04 .i64 (z04 .i64 ((s.size : Int) - 1) - (k : Int)) = ((s.size - 1 - k : Nat) : Int) := by
   rw [kw (a := (s.size : Int) - 1) (by omega) (by omega), kw (by omega) (by omega)]; omega
  have hx : (z05 s)[s.size - 1 - k]? = some (z05 s)[s.size - 1 - k] := zAh hi
  have hc := List.all_eq_true.1 hd _ (List.getElem_mem hi)
  simp only [digT, Bool.and_eq_true, decide_eq_true_eq] at hc
  rw [decide_eq_true h', if_pos rfl, e1, za3, z41 hx]
  have hg : (z6b s).getD k 0 = (z05 s)[s.size - 1 - k] - 48 := by
   unfold z6b
   rw [zAb, List.getElem?_reverse (by simp; omega), List.length_map, hn, List.getElem?_map, hx]
   rfl
  rw [hg]
  generalize (z05 s)[s.size - 1 - k] = c at hc
  have e2 : z04 .u8 (c - 48) = c - 48 := z7a (by simp [z99]; omega)
  have e3 : IntKind.wrap .i64 (c - 48) = c - 48 := by rw [<- z8d]; exact kw (by omega) (by omega)
  simp [e2, e3]
 ·have h' : ¬ ((k : Int) < (s.size : Int)) := by omega
  rw [decide_eq_false h', if_neg (by simp)]
  congr 1
  rw [zAb, List.getElem?_eq_none (by rw [z60]; omega)]
  rfl
theorem zpd {x : Int} (h : 0 <= x) (h' : x <= 255) : z04 .u8 x = x := z7a (by simp [z99]; omega)
theorem zkj {l : List Int} (hl : l.length <= 1048577) (hK : l.length < K) (hd : DigB 10 l) : z3e K l K (List.replicate l.length 0) 0 = some (l.map (48 + ·)).reverse := by
 suffices h : ∃ r, z3e K l K (List.replicate l.length 0) 0 = some r /\ r = (l.map (48 + ·)).reverse by
  obtain ⟨r, h1, rfl⟩ := h; exact h1
 refine zf4 (S := List Int) l.length (fun k s i => z3e K l k s i) (fun b i => b.length = l.length /\ ∀ j < l.length, b.getD j 0 = if l.length - 1 - j < i then 48 + l.getD (l.length - 1 - j) 0 else 0) _ ?_ ?_ K _ hK ⟨by simp, fun j hj => by simp [zAb, hj]⟩
 ·rintro k b i hi ⟨hb, hj⟩
  right
  have hp : l.length - 1 - i < b.length := by omega
  have e1 : z04 .i64 (z04 .i64 ((l.length : Int) - 1) - (i : Int)) = ((l.length - 1 - i : Nat) : Int) := by
   rw [kw (a := (l.length : Int) - 1) (by omega) (by omega), kw (by omega) (by omega)]; omega
  have hx := hd (l.getD i 0) (by rw [zAb, zAh hi]; simp)
  have e2 : IntKind.wrap .u8 (z04 .i64 (48 + l.getD i 0)) = 48 + l.getD i 0 := by
   rw [kw (a := 48 + l.getD i 0) (by omega) (by omega), <- z8d]; exact zpd (by omega) (by omega)
  refine ⟨b.set (l.length - 1 - i) (48 + l.getD i 0), ⟨by simp [hb], fun j hjl => ?_⟩, ?_⟩
  ·have hg : (b.set (l.length - 1 - i) (48 + l.getD i 0)).getD j 0 = if j = l.length - 1 - i then 48 + l.getD i 0 else b.getD j 0 := z82 hp
   rw [hg, hj j hjl]
   by_cases e : j = l.length - 1 - i
   ·have e3 : l.length - 1 - j = i := by omega
    rw [if_pos e, e3, if_pos (zAg i)]
   ·rw [if_neg e]
    by_cases e3 : l.length - 1 - j < i
    ·rw [if_pos e3, if_pos (by omega)]
    ·rw [if_neg e3, if_neg (by omega)]
  ·show z3e K l (k + 1) b i = _
   rw [z3e, zk7 hi, if_pos rfl, zif hi]
   simp only [Option.bind_some, e1, zif hp, e2, Int.toNat_natCast, kw1 hi (by omega)]
 ·rintro k b i rfl ⟨hb, hj⟩
  refine ⟨b, ?_, ?_⟩
  ·show z3e K l (k + 1) b l.length = _
   rw [z3e, zfr (Nat.le_refl _)]; simp
  ·apply List.ext_getElem (by simp [hb])
   intro j h1 h2
   have h3 := hj j (by omega)
   rw [if_pos (by omega), zAb, zAh h1, zAb, zAh (show l.length - 1 - j < l.length by omega)] at h3
   simp at h3
   simp [h3]
theorem zf7 {l : List Int} (hl : l.length <= 1048575) (h0 : l ≠ []) (hK : l.length + 1 < K) (hd : DigB 10 l) : ∃ t, z9f K l = some t /\ CanT t /\ numT t = valB 10 l := by
 have hlen : 0 < l.length := by cases l with | nil => exact absurd rfl h0 | cons _ _ => simp
 have hrange : ∀ x ∈ (l.map (48 + ·)).reverse, 0 <= x /\ x <= 255 := fun x hx => by
  rw [List.mem_reverse, List.mem_map] at hx
  obtain ⟨d, h1, rfl⟩ := hx
  have := hd d h1
  omega
 have hb := zcq _ hrange
 have hz : z05 ((⟨#[48]⟩ : zAd) ++ strOfNums (l.map (48 + ·)).reverse) = 48 :: (l.map (48 + ·)).reverse := by
  rw [z0u, hb]; rfl
 have hsz : ((⟨#[48]⟩ : zAd) ++ strOfNums (l.map (48 + ·)).reverse).size = l.length + 1 := by
  rw [<- z01, hz]; simp
 have hdg : (z05 ((⟨#[48]⟩ : zAd) ++ strOfNums (l.map (48 + ·)).reverse)).all digT = true := by
  rw [hz, List.all_eq_true]
  intro x hx
  rcases List.mem_cons.1 hx with rfl | hx
  ·rfl
  ·rw [List.mem_reverse, List.mem_map] at hx
   obtain ⟨d, h1, rfl⟩ := hx
   have := hd d h1
   simp [digT]; omega
 obtain ⟨t, h1, h2, h3⟩ := zb8 (K := K) (s := (⟨#[48]⟩ : zAd) ++ strOfNums (l.map (48 + ·)).reverse) (by omega) (by omega) (by omega) hdg
 refine ⟨t, ?_, h2, ?_⟩
 ·unfold z9f
  rw [if_pos (by omega), Int.toNat_natCast, zkj (by omega) (by omega) hd]
  have e1 : (⟨#[48]⟩ : zAd).size = 1 := rfl
  simp only [Option.bind_some, tu1, List.length_reverse, List.length_map, strOfNums_size, e1]
  rw [if_pos hlen, if_pos (by omega), h1]
  rfl
 ·rw [h3]
  unfold numT z6b
  rw [hz, List.map_cons, List.reverse_cons, z6a, List.map_reverse, List.reverse_reverse, List.map_map]
  have : l.map ((fun x => x - 48) ∘ (fun x => 48 + x)) = l := by
   conv => rhs; rw [<- List.map_id l]
   apply List.map_congr_left
   intro x _
   show 48 + x - 48 = x
   omega
  rw [this]
  simp [valB]
end Go.Am.Tryz
