/- Typed functions with the same answers as the program's, and the walks that show it. -/
import Derived.Test.YtlmgdnhnpkgheaaGreatDoorG2Z4
import Derived.Test.YtlmgdnhnpkgheaaGreatDoorG4Z4
import Derived.Laws.Strings
namespace Go.Am.Tryz
open Go Go.Am Go.Proofs
set_option linter.unusedVariables false
set_option linter.unusedSimpArgs false
set_option maxRecDepth 10000

def g_R_parts_l0 (K : Nat) (x1 : Int) (x13 : ByteArray) : Nat → Int → Option ((Bool × ByteArray × ByteArray) ⊕ Unit)
  | 0, _ => none
  | k + 1, x27 => (if (decide (x27 < (x13.size : Int))) = true then ((bidx x13 x27).bind fun x38 => (if (x38 == 47) = true then ((ssl x13 0 x27).bind fun x48 => ((ssl x13 (kwrap .i64 (x27 + 1)) (x13.size : Int)).bind fun x51 => some (.inl ((x1 == 45), x48, x51)))) else g_R_parts_l0 K x1 x13 k (kwrap .i64 (x27 + 1)))) else some (.inr ()))
def g_R_parts (K : Nat) (p0 : ByteArray) : Option (Bool × ByteArray × ByteArray) := ((bidx p0 0).bind fun x1 => (Option.bind ((if (x1 == 45) = true then ((ssl p0 1 (p0.size : Int)).bind fun x9 => some x9) else some p0)) (tu1 fun x13 => (bindS (g_R_parts_l0 K x1 x13 K 0) (tu3 fun a65 a66 a67 => some (a65, a66, a67)) (tu0 (some ((x1 == 45), x13, (⟨#[49]⟩ : ByteArray))))))))
set_option maxHeartbeats 4000000 in
theorem g_R_parts_ok (K : Nat) {G : GM} {H : AH} {L : List Pc} (p0 : ByteArray) (O : Ow G H (L)) (r : Bool × ByteArray × ByteArray) (h : g_R_parts K p0 = some r) :
    CR Tryz.prog 35 [(.string p0)] G H (L) (fun v G' _ => v = .tuple #[.bool r.1, .string r.2.1, .string r.2.2]) := by
 unfold g_R_parts at h
 refine CR.of (calls_of_AW (n := 35) (fn := Tryz.f35) (R := fun v H' => ∃ G', Ow G' H' (L) ∧ G.le G' ∧ v = .tuple #[.bool r.1, .string r.2.1, .string r.2.2]) (by kernel_rfl) rfl rfl ?_)
 refine .seq (.region (W.q1 (.bool false) rfl (W.q1 (.string (⟨#[]⟩ : ByteArray)) rfl (W.q1 (.string (⟨#[]⟩ : ByteArray)) rfl (.nil (.seq ?_))))))
 refine .region (W.q2 (.string p0) rfl (W.q1 (.string p0) rfl (.nil (.seq (.region (W.q2 (.string p0) rfl ?_))))))
 obtain ⟨x1, i2, h3⟩ := bd_inv h
 refine W.pure (v := (.int .u8 x1)) rfl rfl (v_sidx un9 (oo rfl rfl) (oo rfl rfl) i2) (W.q3 (.bool (x1 == 45)) rfl rfl (W.q1 (.bool (x1 == 45)) rfl (.nil (.seq (.seq (.region ?_))))))
 refine W.q2 (.bool (x1 == 45)) rfl (.nil ?_)
 obtain ⟨q4, h5, h6⟩ := bd_inv h3
 refine AW.midT (fun σ' H' => ∃ (y1 : ByteArray) (G' : GM), y1 = q4 ∧ Ow G' H' (L) ∧ GM.le G G' ∧ σ' 5 = .string y1) ?_ ?_
 ·refine .cond (b := (x1 == 45)) rfl rfl (fun g7 => ?_) (fun g7 => ?_)
  rotate_left
  ·have h12 := neg_b g7 h5
   refine .skip ?_
   obtain rfl := Option.some.inj h12
   exact ⟨p0, _, rfl, O, (GM.le.refl _), rfl⟩
  have h8 := pos_inv g7 h5
  refine .region (W.q2 (.string p0) rfl ?_)
  obtain ⟨x9, i10, h11⟩ := bd_inv h8
  refine W.pure (v := (.string x9)) rfl rfl (v_sslL un9 (oo rfl rfl) (oo rfl rfl) i10) (W.q1 (.string x9) rfl (.nil ?_))
  obtain rfl := Option.some.inj h11
  exact ⟨x9, _, rfl, O, (GM.le.refl _), rfl⟩
 rintro σ14 H15 fr16 ⟨x13, G17, rfl, O18, s19, t21⟩
 have h22 := tu1_inv h6
 refine .seq (.seq (.region (W.q2 (.string x13) t21 (W.pure (v := (.int .i64 (x13.size : Int))) rfl rfl (len_str (oo rfl rfl) un9) (W.q2 (.int .i64 0) rfl (.nil ?_))))))
 obtain ⟨q23, h24, h25⟩ := bindS_inv h22
 refine AW.midT (fun σ' H' => ∃  (G' : GM), (.inr ()) = q23 ∧ Ow G' H' (L) ∧ GM.le G17 G') ?_ ?_
 rotate_left
 ·rintro σ57 H58 fr59 ⟨G60, rfl, O61, s62⟩
  have h64 := tu0_inv (outS_r h25)
  refine .seq (.region (W.q2 (.bool (x1 == 45)) ((fr59 6 rfl).trans ((fr16 6 rfl).trans rfl)) (W.q2 (.string x13) ((fr59 5 rfl).trans t21) (W.q1 (.bool (x1 == 45)) rfl (W.q1 (.string x13) rfl (W.q1 (.string (⟨#[49]⟩ : ByteArray)) rfl ?_))))))
  refine .nil (.ret ?_)
  obtain rfl := Option.some.inj h64
  refine ret3R (P := Tryz.prog) (fn := Tryz.f35) (n := 35) (R := fun v H' => ∃ G', Ow G' H' (L) ∧ G.le G' ∧ v = .tuple #[.bool ((x1 == 45), x13, (⟨#[49]⟩ : ByteArray)).1, .string ((x1 == 45), x13, (⟨#[49]⟩ : ByteArray)).2.1, .string ((x1 == 45), x13, (⟨#[49]⟩ : ByteArray)).2.2]) (v1 := (.bool (x1 == 45))) (v2 := (.string x13)) (v3 := (.string (⟨#[49]⟩ : ByteArray))) (by rfl) (rr_tmp (by rfl) (by exact rfl)) (rr_tmp (by rfl) (by exact rfl)) (rr_tmp (by rfl) (by exact rfl)) ?_
  exact ⟨_, O61, (GM.le.trans s19 s62), rfl⟩
 refine .block (AW.loop (α := Nat) (fun k' σ' H' => ∃ (y1 : Int) (G' : GM), g_R_parts_l0 K x1 x13 k' y1 = some q23 ∧ Ow G' H' (L) ∧ GM.le G17 G' ∧ σ' 17 = .int .i64 y1) (fun k' => k') K ⟨0, _, h24, O18, (GM.le.refl _), rfl⟩ ?_)
 rintro k26
 rintro σ28 H29 fr30 ⟨x27, G31, h34, O32, s33, t35⟩
 rcases k26 with _ | k26
 ·exact none_absurd h34
 rw [g_R_parts_l0] at h34
 refine .seq (.region (W.q3 (.bool (decide (x27 < (x13.size : Int)))) t35 ((fr30 16 rfl).trans rfl) (.nil (.seq (.cond (b := decide (x27 < (x13.size : Int))) rfl rfl (fun g36 => ?_) (fun g36 => ?_))))))
 rotate_left
 ·have h56 := neg_b g36 h34
  refine .exit ?_
  obtain rfl := Option.some.inj h56
  exact ⟨_, rfl, O32, s33⟩
 have h37 := pos_inv g36 h34
 refine .skip (.seq (.block (.seq (.region (W.q2 (.int .i64 x27) t35 (W.q1 (.int .i64 x27) rfl ?_))))))
 refine .nil (.seq (.region (W.q2 (.string x13) ((fr30 5 rfl).trans t21) (W.q2 (.int .i64 x27) rfl ?_))))
 obtain ⟨x38, i39, h40⟩ := bd_inv h37
 refine W.pure (v := (.int .u8 x38)) rfl rfl (v_sidx un9 (oo rfl rfl) (oo rfl rfl) i39) (W.q3 (.bool (x38 == 47)) rfl rfl (.nil (.cond (b := (x38 == 47)) rfl rfl (fun g41 => ?_) (fun g41 => ?_))))
 rotate_left
 ·have h55 := neg_b g41 h40
  refine .skip (.region (W.q3 (.int .i64 (kwrap .i64 (x27 + 1))) t35 rfl (W.q2 (.int .i64 (kwrap .i64 (x27 + 1))) rfl (.nil ?_))))
  exact ⟨k26, Nat.lt_succ_self _, ⟨kwrap .i64 (x27 + 1), _, h55, O32, s33, rfl⟩⟩
 have h42 := pos_inv g41 h40
 refine .seq (.draw2 (M := [0, 0, 0, 6, 0, 0, 32, 112, 1, 271, 1023]) mixed (by kernel_rfl) (by kernel_rfl) fun H43 N47 x44 F46 => ?_)
 have O45 := O32.ext x44
 refine D2.q2 (.bool (x1 == 45)) ((fr30 6 rfl).trans ((fr16 6 rfl).trans rfl)) (D2.q2 (.string x13) ((fr30 5 rfl).trans t21) (D2.q2 (.int .i64 x27) rfl ?_))
 obtain ⟨x48, i49, h50⟩ := bd_inv h42
 refine D2.pure (v := (.string x48)) rfl rfl (v_sslH un9 (oo rfl rfl) (oo rfl rfl) i49) (D2.q2 (.string x13) ((fr30 5 rfl).trans t21) (D2.q2 (.int .i64 x27) rfl (D2.q3 (.int .i64 (kwrap .i64 (x27 + 1))) rfl rfl ?_)))
 obtain ⟨x51, i52, h53⟩ := bd_inv h50
 refine D2.pure (v := (.string x51)) rfl rfl (v_sslL un9 (oo rfl rfl) (oo rfl rfl) i52) (D2.q1 (.bool (x1 == 45)) rfl (D2.q1 (.string x48) rfl (D2.q1 (.string x51) rfl (.nil (.ret ?_)))))
 obtain rfl := Option.some.inj h53
 have h54 := tu3_inv (outS_l h25)
 obtain rfl := Option.some.inj h54
 refine ret3R (P := Tryz.prog) (fn := Tryz.f35) (n := 35) (R := fun v H' => ∃ G', Ow G' H' (L) ∧ G.le G' ∧ v = .tuple #[.bool ((x1 == 45), x48, x51).1, .string ((x1 == 45), x48, x51).2.1, .string ((x1 == 45), x48, x51).2.2]) (v1 := (.bool (x1 == 45))) (v2 := (.string x48)) (v3 := (.string x51)) (by rfl) (rr_tmp (by rfl) (by exact rfl)) (rr_tmp (by rfl) (by exact rfl)) (rr_tmp (by rfl) (by exact rfl)) ?_
 exact ⟨_, O45, (GM.le.trans s19 s33), rfl⟩
def g_R_RatSign (K : Nat) (p0 : ByteArray) : Option Int := ((g_R_parts K p0).bind fun x1 => (if (sEq x1.2.1 (⟨#[48]⟩ : ByteArray)) = true then some 0 else (if x1.1 = true then some (-1) else some 1)))
set_option maxHeartbeats 4000000 in
theorem g_R_RatSign_ok (K : Nat) {G : GM} {H : AH} {L : List Pc} (p0 : ByteArray) (O : Ow G H (L)) (r : Int) (h : g_R_RatSign K p0 = some r) :
    CR Tryz.prog 9 [(.string p0)] G H (L) (fun v G' _ => v = .int .i64 r) := by
 unfold g_R_RatSign at h
 refine CR.of (calls_of_AW (n := 17) (fn := Tryz.f9) (R := fun v H' => ∃ G', Ow G' H' (L) ∧ G.le G' ∧ v = .int .i64 r) (by kernel_rfl) rfl rfl ?_)
 refine .seq (.region (W.q1 (.int .i64 0) rfl (.nil (.seq (.region (W.q2 (.string p0) rfl ?_))))))
 obtain ⟨x1, i2, h3⟩ := bd_inv h
 refine W.lo rfl rfl (Lo.callP (ps := []) (ps' := []) rfl (fn := Tryz.f35) (by kernel_rfl) rfl (mc rfl mn) O (fun L' O' => g_R_parts_ok K p0 O' _ i2)) ?_
 rintro v10 H11 ⟨G4, O5, s6, sm9, rfl⟩
 replace O5 : Ow G4 H11 (L) := O5
 refine W.q2 (.tuple #[(.bool x1.1), (.string x1.2.1), (.string x1.2.2)]) rfl (W.pure (v := (.bool x1.1)) rfl rfl (v_extract (oo rfl rfl) rfl) (W.pure (v := (.string x1.2.1)) rfl rfl (v_extract (oo rfl rfl) rfl) (W.pure (v := (.string x1.2.2)) rfl rfl (v_extract (oo rfl rfl) rfl) (W.q1 (.bool x1.1) rfl (W.q1 (.string x1.2.1) rfl (W.q1 (.string x1.2.2) rfl ?_))))))
 refine .nil (.seq (.block (.seq (.region (W.q2 (.string x1.2.1) rfl (W.pure (v := (.bool (sEq x1.2.1 (⟨#[48]⟩ : ByteArray)))) rfl rfl (vs_eql (oo rfl rfl) (oo rfl rfl)) ?_))))))
 refine W.q1 (.bool (sEq x1.2.1 (⟨#[48]⟩ : ByteArray))) rfl (.nil (.cond (b := sEq x1.2.1 (⟨#[48]⟩ : ByteArray)) rfl rfl (fun g12 => ?_) (fun g12 => ?_)))
 ·have h13 := pos_inv g12 h3
  refine .seq (.region (W.q1 (.int .i64 0) rfl (.nil (.ret ?_))))
  obtain rfl := Option.some.inj h13
  refine ret1R (P := Tryz.prog) (fn := Tryz.f9) (n := 17) (R := fun v H' => ∃ G', Ow G' H' (L) ∧ G.le G' ∧ v = .int .i64 0) (v1 := (.int .i64 0)) (by rfl) (rr_tmp (by rfl) (by exact rfl)) ?_
  exact ⟨_, O5, s6, rfl⟩
 have h14 := neg_b g12 h3
 refine .seq (.region (W.q2 (.bool x1.1) rfl (W.q1 (.bool x1.1) rfl (.nil (.cond (b := x1.1) rfl rfl (fun g15 => ?_) (fun g15 => ?_))))))
 ·have h16 := pos_inv g15 h14
  refine .seq (.region (W.q1 (.int .i64 (-1)) rfl (.nil (.ret ?_))))
  obtain rfl := Option.some.inj h16
  refine ret1R (P := Tryz.prog) (fn := Tryz.f9) (n := 17) (R := fun v H' => ∃ G', Ow G' H' (L) ∧ G.le G' ∧ v = .int .i64 (-1)) (v1 := (.int .i64 (-1))) (by rfl) (rr_tmp (by rfl) (by exact rfl)) ?_
  exact ⟨_, O5, s6, rfl⟩
 have h17 := neg_b g15 h14
 refine .skip (.seq (.region (W.q1 (.int .i64 1) rfl (.nil (.ret ?_)))))
 obtain rfl := Option.some.inj h17
 refine ret1R (P := Tryz.prog) (fn := Tryz.f9) (n := 17) (R := fun v H' => ∃ G', Ow G' H' (L) ∧ G.le G' ∧ v = .int .i64 1) (v1 := (.int .i64 1)) (by rfl) (rr_tmp (by rfl) (by exact rfl)) ?_
 exact ⟨_, O5, s6, rfl⟩
def g_law_long_1 (K : Nat) (p0 : ByteArray) (p1 : Int) : Option Bool := some (decide ((p0.size : Int) > p1))
set_option maxHeartbeats 4000000 in
theorem g_law_long_1_ok (K : Nat) {G : GM} {H : AH} {L : List Pc} (p0 : ByteArray) (v1 : Value) (p1 : Int) (hp1 : At G G v1 (rI .i64) p1) (O : Ow G H (L)) (r : Bool) (h : g_law_long_1 K p0 p1 = some r) :
    CR Tryz.prog 37 [(.string p0), v1] G H (L) (fun v G' _ => v = .bool r) := by
 unfold g_law_long_1 at h
 refine CR.of (calls_of_AW (n := 8) (fn := Tryz.f37) (R := fun v H' => ∃ G', Ow G' H' (L) ∧ G.le G' ∧ v = .bool r) (by kernel_rfl) rfl rfl ?_)
 refine .seq (.region (W.q1 (.bool false) rfl (.nil (.seq (.region (W.q2 (.string p0) rfl ?_))))))
 refine W.pure (v := (.int .i64 (p0.size : Int))) rfl rfl (len_str (oo rfl rfl) un9) (W.load1 (v := (.int .i64 p1)) (r := []) rfl rfl ag3 (pt_px rfl (At.int (At.le hp1 (GM.le.refl _) O.fro))) (W.q3 (.bool (decide ((p0.size : Int) > p1))) rfl rfl (W.q1 (.bool (decide ((p0.size : Int) > p1))) rfl (.nil (.ret ?_)))))
 obtain rfl := Option.some.inj h
 refine ret1R (P := Tryz.prog) (fn := Tryz.f37) (n := 8) (R := fun v H' => ∃ G', Ow G' H' (L) ∧ G.le G' ∧ v = .bool (decide ((p0.size : Int) > p1))) (v1 := (.bool (decide ((p0.size : Int) > p1)))) (by rfl) (rr_tmp (by rfl) (by exact rfl)) ?_
 exact ⟨_, O, (GM.le.refl _), rfl⟩
def g_slices_IndexFunc_string_string_l0 (K : Nat) (p0 : List ByteArray) (p1 : ByteArray → Option Bool) : Nat → Int → Option (Int ⊕ Unit)
  | 0, _ => none
  | k + 1, x5 => (if (decide (x5 < (List.length p0 : Int))) = true then ((idx p0 x5).bind fun x16 => ((p1 x16).bind fun x20 => (if x20 = true then some (.inl x5) else g_slices_IndexFunc_string_string_l0 K p0 p1 k (kwrap .i64 (x5 + 1))))) else some (.inr ()))
def g_slices_IndexFunc_string_string (K : Nat) (p0 : List ByteArray) (p1 : ByteArray → Option Bool) : Option Int := (bindS (g_slices_IndexFunc_string_string_l0 K p0 p1 K 0) (tu1 fun a42 => some a42) (tu0 (some (-1))))
set_option maxHeartbeats 4000000 in
theorem g_slices_IndexFunc_string_string_ok (K : Nat) {G : GM} {H : AH} {L : List Pc} (v0 : Value) (p0 : List ByteArray) (hp0 : (rSl rS).rep G [v0] p0) (v1 : Value) (p1 : ByteArray → Option Bool) (hp1 : FnOk Tryz.prog G v1 (fun _ vs (x : (ByteArray)) => vs = [.string x]) (fun _ v (rr : (Bool)) => v = .bool rr) p1) (O : Ow G H (L)) (r : Int) (h : g_slices_IndexFunc_string_string K p0 p1 = some r) :
    CR Tryz.prog 67 [v0, v1] G H (L) (fun v G' _ => v = .int .i64 r) := by
 unfold g_slices_IndexFunc_string_string at h
 refine CR.of (calls_of_AW (n := 19) (fn := Tryz.f67) (R := fun v H' => ∃ G', Ow G' H' (L) ∧ G.le G' ∧ v = .int .i64 r) (by kernel_rfl) rfl rfl ?_)
 refine .seq (.region (W.q1 (.int .i64 0) rfl (.nil (.seq (.seq (.region ?_))))))
 refine W.q2 v0 rfl (W.pure (v := (.int .i64 (List.length p0 : Int))) rfl rfl (len_sl (oo rfl rfl) (sl_len hp0) (elemT_inv el56)) (W.q2 (.int .i64 0) rfl (.nil ?_)))
 obtain ⟨q1, h2, h3⟩ := bindS_inv h
 refine AW.midT (fun σ' H' => ∃  (G' : GM), (.inr ()) = q1 ∧ Ow G' H' (L) ∧ GM.le G G') ?_ ?_
 rotate_left
 ·rintro σ34 H35 fr36 ⟨G37, rfl, O38, s39⟩
  have h41 := tu0_inv (outS_r h3)
  refine .seq (.region (W.q1 (.int .i64 (-1)) rfl (.nil (.ret ?_))))
  obtain rfl := Option.some.inj h41
  refine ret1R (P := Tryz.prog) (fn := Tryz.f67) (n := 19) (R := fun v H' => ∃ G', Ow G' H' (L) ∧ G.le G' ∧ v = .int .i64 (-1)) (v1 := (.int .i64 (-1))) (by rfl) (rr_tmp (by rfl) (by exact rfl)) ?_
  exact ⟨_, O38, s39, rfl⟩
 refine .block (AW.loop (α := Nat) (fun k' σ' H' => ∃ (y1 : Int) (G' : GM), g_slices_IndexFunc_string_string_l0 K p0 p1 k' y1 = some q1 ∧ Ow G' H' (L) ∧ GM.le G G' ∧ σ' 8 = .int .i64 y1) (fun k' => k') K ⟨0, _, h2, O, (GM.le.refl _), rfl⟩ ?_)
 rintro k4
 rintro σ6 H7 fr8 ⟨x5, G9, h12, O10, s11, t13⟩
 rcases k4 with _ | k4
 ·exact none_absurd h12
 rw [g_slices_IndexFunc_string_string_l0] at h12
 refine .seq (.region (W.q3 (.bool (decide (x5 < (List.length p0 : Int)))) t13 ((fr8 7 rfl).trans rfl) (.nil (.seq (.cond (b := decide (x5 < (List.length p0 : Int))) rfl rfl (fun g14 => ?_) (fun g14 => ?_))))))
 rotate_left
 ·have h33 := neg_b g14 h12
  refine .exit ?_
  obtain rfl := Option.some.inj h33
  exact ⟨_, rfl, O10, s11⟩
 have h15 := pos_inv g14 h12
 refine .skip (.seq (.block (.seq (.region (W.q2 (.int .i64 x5) t13 (W.q1 (.int .i64 x5) rfl ?_))))))
 refine .nil (.seq (.region (W.q2 v1 ((fr8 1 rfl).trans rfl) (W.q2 v0 ((fr8 0 rfl).trans rfl) (W.q2 (.int .i64 x5) rfl ?_)))))
 obtain ⟨x16, i17, h18⟩ := bd_inv h15
 have j19 := idx_inv i17
 refine W.pure (v := (selem v0 (Int.toNat x5 * 1))) rfl rfl (v_idx el56 sz9 (oo rfl rfl) (oo rfl rfl) (sl_len (RT.mono _ s11 hp0)) j19.1 j19.2.1) (W.load1 (v := (.string x16)) (r := []) rfl rfl ag9 (pt_px rfl (At.str (At.le (At.le (sl_idx hp0 j19.2.2) s11 s11) (GM.le.refl _) O10.fro))) ?_)
 obtain ⟨x20, i21, h22⟩ := bd_inv h18
 refine W.lo rfl rfl (Lo.callF (x0 := x16) rfl rfl (FnOk.le hp1 s11) (mc rfl mn) rfl i21 O10) ?_
 rintro v27 H28 ⟨G23, O24, s25, sm26, rfl⟩
 refine .nil (.cond (b := x20) rfl rfl (fun g29 => ?_) (fun g29 => ?_))
 rotate_left
 ·have h32 := neg_b g29 h22
  refine .skip (.region (W.q3 (.int .i64 (kwrap .i64 (x5 + 1))) t13 rfl (W.q2 (.int .i64 (kwrap .i64 (x5 + 1))) rfl (.nil ?_))))
  exact ⟨k4, Nat.lt_succ_self _, ⟨kwrap .i64 (x5 + 1), _, h32, O24, (GM.le.trans s11 s25), rfl⟩⟩
 have h30 := pos_inv g29 h22
 refine .seq (.region (W.q2 (.int .i64 x5) rfl (W.q1 (.int .i64 x5) rfl (.nil (.ret ?_)))))
 obtain rfl := Option.some.inj h30
 have h31 := tu1_inv (outS_l h3)
 obtain rfl := Option.some.inj h31
 refine ret1R (P := Tryz.prog) (fn := Tryz.f67) (n := 19) (R := fun v H' => ∃ G', Ow G' H' (L) ∧ G.le G' ∧ v = .int .i64 x5) (v1 := (.int .i64 x5)) (by rfl) (rr_tmp (by rfl) (by exact rfl)) ?_
 exact ⟨_, O24, (GM.le.trans s11 s25), rfl⟩
def g_slices_ContainsFunc_string_string (K : Nat) (p0 : List ByteArray) (p1 : ByteArray → Option Bool) : Option Bool := ((g_slices_IndexFunc_string_string K p0 p1).bind fun x1 => some (decide (x1 ≥ 0)))
set_option maxHeartbeats 4000000 in
theorem g_slices_ContainsFunc_string_string_ok (K : Nat) {G : GM} {H : AH} {L : List Pc} (v0 : Value) (p0 : List ByteArray) (hp0 : (rSl rS).rep G [v0] p0) (v1 : Value) (p1 : ByteArray → Option Bool) (hp1 : FnOk Tryz.prog G v1 (fun _ vs (x : (ByteArray)) => vs = [.string x]) (fun _ v (rr : (Bool)) => v = .bool rr) p1) (O : Ow G H (L)) (r : Bool) (h : g_slices_ContainsFunc_string_string K p0 p1 = some r) :
    CR Tryz.prog 36 [v0, v1] G H (L) (fun v G' _ => v = .bool r) := by
 unfold g_slices_ContainsFunc_string_string at h
 refine CR.of (calls_of_AW (n := 9) (fn := Tryz.f36) (R := fun v H' => ∃ G', Ow G' H' (L) ∧ G.le G' ∧ v = .bool r) (by kernel_rfl) rfl rfl ?_)
 refine .seq (.region (W.q1 (.bool false) rfl (.nil (.seq (.region (W.q2 v0 rfl ?_))))))
 refine W.q2 v1 rfl ?_
 obtain ⟨x1, i2, h3⟩ := bd_inv h
 refine W.lo rfl rfl (Lo.callP (ps := []) (ps' := []) rfl (fn := Tryz.f67) (by kernel_rfl) rfl (mc rfl (mc rfl mn)) O (fun L' O' => g_slices_IndexFunc_string_string_ok K v0 p0 hp0 v1 p1 hp1 O' _ i2)) ?_
 rintro v10 H11 ⟨G4, O5, s6, sm9, rfl⟩
 replace O5 : Ow G4 H11 (L) := O5
 refine W.q3 (.bool (decide (x1 ≥ 0))) rfl rfl (W.q1 (.bool (decide (x1 ≥ 0))) rfl (.nil (.ret ?_)))
 obtain rfl := Option.some.inj h3
 refine ret1R (P := Tryz.prog) (fn := Tryz.f36) (n := 9) (R := fun v H' => ∃ G', Ow G' H' (L) ∧ G.le G' ∧ v = .bool (decide (x1 ≥ 0))) (v1 := (.bool (decide (x1 ≥ 0)))) (by rfl) (rr_tmp (by rfl) (by exact rfl)) ?_
 exact ⟨_, O5, s6, rfl⟩
def g_law_long (K : Nat) (p0 : Int) (p1 : List ByteArray) : Option Bool := ((g_slices_ContainsFunc_string_string K p1 (fun x => g_law_long_1 K x p0)).bind fun x10 => some x10)
set_option maxHeartbeats 4000000 in
theorem g_law_long_ok (K : Nat) {G : GM} {H : AH} {L : List Pc} (p0 : Int) (v1 : Value) (p1 : List ByteArray) (hp1 : (rSl rS).rep G [v1] p1) (O : Ow G H (L)) (r : Bool) (h : g_law_long K p0 p1 = some r) :
    CR Tryz.prog 11 [(.int .i64 p0), v1] G H (L) (fun v G' _ => v = .bool r) := by
 unfold g_law_long at h
 refine CR.of (calls_of_AW (n := 8) (fn := Tryz.f11) (R := fun v H' => ∃ G', Ow G' H' (L) ∧ G.le G' ∧ v = .bool r) (by kernel_rfl) rfl rfl ?_)
 refine .seq (.region (W.lo rfl rfl (Lo.box (r := (rI .i64)) (x0 := p0) (v := (.int .i64 p0)) rfl rfl rfl O) ?_))
 rintro v4 H5 ⟨b2, rfl, O1, sm3⟩
 refine W.q1 (.bool false) rfl (.nil (.seq (.region (W.q2 v1 rfl (W.pure (v := (.func (.func 37) #[] #[(.pointer (some ⟨b2, 0, none⟩))])) rfl rfl (v_makeFunc (opndL_ooL rfl mn) (opndL_ooL rfl (mc rfl mn))) ?_)))))
 obtain ⟨G6, O7, s8, f9⟩ := O1.frzVar (j := 0) rfl
 replace O7 : Ow G6 H5 (L) := O7
 obtain ⟨x10, i11, h12⟩ := bd_inv h
 refine W.lo rfl rfl (Lo.callP (ps := []) (ps' := []) rfl (fn := Tryz.f36) (by kernel_rfl) rfl (mc rfl (mc rfl mn)) O7 (fun L' O' => g_slices_ContainsFunc_string_string_ok K v1 p1 (RT.mono _ s8 hp1) (.func (.func 37) #[] #[(.pointer (some ⟨b2, 0, none⟩))]) (fun x => g_law_long_1 K x p0) ⟨37, _, _, Tryz.f37, rfl, by kernel_rfl, rfl, fun G1 H L vs x r hG O hA hF => by obtain rfl := hA; exact g_law_long_1_ok K x (.pointer (some ⟨b2, 0, none⟩)) p0 (At.le f9 hG hG) O _ hF⟩ O' _ i11)) ?_
 rintro v19 H20 ⟨G13, O14, s15, sm18, rfl⟩
 replace O14 : Ow G13 H20 (L) := O14
 refine W.q1 (.bool x10) rfl (.nil (.ret ?_))
 obtain rfl := Option.some.inj h12
 refine ret1R (P := Tryz.prog) (fn := Tryz.f11) (n := 8) (R := fun v H' => ∃ G', Ow G' H' (L) ∧ G.le G' ∧ v = .bool x10) (v1 := (.bool x10)) (by rfl) (rr_tmp (by rfl) (by exact rfl)) ?_
 exact ⟨_, O14, (GM.le.trans s8 s15), rfl⟩
def g_R_Canon (K : Nat) (p0 : Bool) (p1 : ByteArray) (p2 : ByteArray) : Option ByteArray := (if (sEq p1 (⟨#[48]⟩ : ByteArray)) = true then some (⟨#[48]⟩ : ByteArray) else ((g_R_NatGcd K p1 p2).bind fun x4 => ((g_R_NatDiv K p1 x4).bind fun x15 => ((g_R_NatDiv K p2 x4).bind fun x26 => (Option.bind ((if p0 = true then (if ((⟨#[45]⟩ : ByteArray)).size + (x15.1).size ≤ 4611686018427387904 then some ((⟨#[45]⟩ : ByteArray) ++ x15.1) else none) else some x15.1)) (tu1 fun x45 => (if (sEq x26.1 (⟨#[49]⟩ : ByteArray)) = true then some x45 else (if (x45).size + ((⟨#[47]⟩ : ByteArray)).size ≤ 4611686018427387904 then (if ((x45 ++ (⟨#[47]⟩ : ByteArray))).size + (x26.1).size ≤ 4611686018427387904 then some ((x45 ++ (⟨#[47]⟩ : ByteArray)) ++ x26.1) else none) else none))))))))
set_option maxHeartbeats 4000000 in
theorem g_R_Canon_ok (K : Nat) {G : GM} {H : AH} {L : List Pc} (p0 : Bool) (p1 : ByteArray) (p2 : ByteArray) (O : Ow G H (L)) (r : ByteArray) (h : g_R_Canon K p0 p1 p2 = some r) :
    CR Tryz.prog 45 [(.bool p0), (.string p1), (.string p2)] G H (L) (fun v G' _ => v = .string r) := by
 unfold g_R_Canon at h
 refine CR.of (calls_of_AW (n := 35) (fn := Tryz.f45) (R := fun v H' => ∃ G', Ow G' H' (L) ∧ G.le G' ∧ v = .string r) (by kernel_rfl) rfl rfl ?_)
 refine .seq (.region (W.q1 (.string (⟨#[]⟩ : ByteArray)) rfl (.nil (.seq (.seq (.region ?_))))))
 refine W.q2 (.string p1) rfl (W.pure (v := (.bool (sEq p1 (⟨#[48]⟩ : ByteArray)))) rfl rfl (vs_eql (oo rfl rfl) (oo rfl rfl)) (.nil (.cond (b := sEq p1 (⟨#[48]⟩ : ByteArray)) rfl rfl (fun g1 => ?_) (fun g1 => ?_))))
 ·have h2 := pos_inv g1 h
  refine .seq (.region (W.q1 (.string (⟨#[48]⟩ : ByteArray)) rfl (.nil (.ret ?_))))
  obtain rfl := Option.some.inj h2
  refine ret1R (P := Tryz.prog) (fn := Tryz.f45) (n := 35) (R := fun v H' => ∃ G', Ow G' H' (L) ∧ G.le G' ∧ v = .string (⟨#[48]⟩ : ByteArray)) (v1 := (.string (⟨#[48]⟩ : ByteArray))) (by rfl) (rr_tmp (by rfl) (by exact rfl)) ?_
  exact ⟨_, O, (GM.le.refl _), rfl⟩
 have h3 := neg_b g1 h
 refine .skip (.seq (.region (W.q2 (.string p1) rfl (W.q2 (.string p2) rfl ?_))))
 obtain ⟨x4, i5, h6⟩ := bd_inv h3
 refine W.lo rfl rfl (Lo.callP (ps := []) (ps' := []) rfl (fn := Tryz.f34) (by kernel_rfl) rfl (mc rfl (mc rfl mn)) O (fun L' O' => g_R_NatGcd_ok K p1 p2 O' _ i5)) ?_
 rintro v13 H14 ⟨G7, O8, s9, sm12, rfl⟩
 replace O8 : Ow G7 H14 (L) := O8
 refine W.q1 (.string x4) rfl (.nil (.seq (.region (W.q2 (.string p1) rfl (W.q2 (.string x4) rfl ?_)))))
 obtain ⟨x15, i16, h17⟩ := bd_inv h6
 refine W.lo rfl rfl (Lo.callP (ps := []) (ps' := []) rfl (fn := Tryz.f43) (by kernel_rfl) rfl (mc rfl (mc rfl mn)) O8 (fun L' O' => g_R_NatDiv_ok K p1 x4 O' _ i16)) ?_
 rintro v24 H25 ⟨G18, O19, s20, sm23, rfl⟩
 replace O19 : Ow G18 H25 (L) := O19
 refine W.q2 (.tuple #[(.string x15.1), (.string x15.2)]) rfl (W.pure (v := (.string x15.1)) rfl rfl (v_extract (oo rfl rfl) rfl) (W.pure (v := (.string x15.2)) rfl rfl (v_extract (oo rfl rfl) rfl) (W.q1 (.string x15.1) rfl (.nil (.seq (.region ?_))))))
 refine W.q2 (.string p2) rfl (W.q2 (.string x4) rfl ?_)
 obtain ⟨x26, i27, h28⟩ := bd_inv h17
 refine W.lo rfl rfl (Lo.callP (ps := []) (ps' := []) rfl (fn := Tryz.f43) (by kernel_rfl) rfl (mc rfl (mc rfl mn)) O19 (fun L' O' => g_R_NatDiv_ok K p2 x4 O' _ i27)) ?_
 rintro v35 H36 ⟨G29, O30, s31, sm34, rfl⟩
 replace O30 : Ow G29 H36 (L) := O30
 refine W.q2 (.tuple #[(.string x26.1), (.string x26.2)]) rfl (W.pure (v := (.string x26.1)) rfl rfl (v_extract (oo rfl rfl) rfl) (W.pure (v := (.string x26.2)) rfl rfl (v_extract (oo rfl rfl) rfl) (W.q1 (.string x26.1) rfl (.nil (.seq (.seq ?_))))))
 refine .region (W.q2 (.bool p0) rfl (.nil ?_))
 obtain ⟨q37, h38, h39⟩ := bd_inv h28
 refine AW.midT (fun σ' H' => ∃ (y1 : ByteArray) (G' : GM), y1 = q37 ∧ Ow G' H' (L) ∧ GM.le G29 G' ∧ σ' 1 = .string y1) ?_ ?_
 ·refine .cond (b := p0) rfl rfl (fun g40 => ?_) (fun g40 => ?_)
  rotate_left
  ·have h44 := neg_b g40 h38
   refine .skip ?_
   obtain rfl := Option.some.inj h44
   exact ⟨x15.1, _, rfl, O30, (GM.le.refl _), rfl⟩
  have h41 := pos_inv g40 h38
  refine .region (W.q2 (.string x15.1) rfl ?_)
  obtain ⟨g42, h43⟩ := gd_inv h41
  refine W.pure (v := (.string ((⟨#[45]⟩ : ByteArray) ++ x15.1))) rfl rfl (vs_add g42 (oo rfl rfl) (oo rfl rfl)) (W.q1 (.string ((⟨#[45]⟩ : ByteArray) ++ x15.1)) rfl (.nil ?_))
  obtain rfl := Option.some.inj h43
  exact ⟨((⟨#[45]⟩ : ByteArray) ++ x15.1), _, rfl, O30, (GM.le.refl _), rfl⟩
 rintro σ46 H47 fr48 ⟨x45, G49, rfl, O50, s51, t53⟩
 have h54 := tu1_inv h39
 refine .seq (.seq (.region (W.q2 (.string x26.1) ((fr48 2 rfl).trans rfl) (W.pure (v := (.bool (sEq x26.1 (⟨#[49]⟩ : ByteArray)))) rfl rfl (vs_eql (oo rfl rfl) (oo rfl rfl)) (.nil (.cond (b := sEq x26.1 (⟨#[49]⟩ : ByteArray)) rfl rfl (fun g55 => ?_) (fun g55 => ?_)))))))
 ·have h56 := pos_inv g55 h54
  refine .seq (.region (W.q2 (.string x45) t53 (W.q1 (.string x45) rfl (.nil (.ret ?_)))))
  obtain rfl := Option.some.inj h56
  refine ret1R (P := Tryz.prog) (fn := Tryz.f45) (n := 35) (R := fun v H' => ∃ G', Ow G' H' (L) ∧ G.le G' ∧ v = .string x45) (v1 := (.string x45)) (by rfl) (rr_tmp (by rfl) (by exact rfl)) ?_
  exact ⟨_, O50, (GM.le.trans s9 (GM.le.trans s20 (GM.le.trans s31 s51))), rfl⟩
 have h57 := neg_b g55 h54
 refine .skip (.seq (.region (W.q2 (.string x45) t53 ?_)))
 obtain ⟨g58, h59⟩ := gd_inv h57
 refine W.pure (v := (.string (x45 ++ (⟨#[47]⟩ : ByteArray)))) rfl rfl (vs_add g58 (oo rfl rfl) (oo rfl rfl)) (W.q2 (.string x26.1) ((fr48 2 rfl).trans rfl) ?_)
 obtain ⟨g60, h61⟩ := gd_inv h59
 refine W.pure (v := (.string ((x45 ++ (⟨#[47]⟩ : ByteArray)) ++ x26.1))) rfl rfl (vs_add g60 (oo rfl rfl) (oo rfl rfl)) (W.q1 (.string ((x45 ++ (⟨#[47]⟩ : ByteArray)) ++ x26.1)) rfl (.nil (.ret ?_)))
 obtain rfl := Option.some.inj h61
 refine ret1R (P := Tryz.prog) (fn := Tryz.f45) (n := 35) (R := fun v H' => ∃ G', Ow G' H' (L) ∧ G.le G' ∧ v = .string ((x45 ++ (⟨#[47]⟩ : ByteArray)) ++ x26.1)) (v1 := (.string ((x45 ++ (⟨#[47]⟩ : ByteArray)) ++ x26.1))) (by rfl) (rr_tmp (by rfl) (by exact rfl)) ?_
 exact ⟨_, O50, (GM.le.trans s9 (GM.le.trans s20 (GM.le.trans s31 s51))), rfl⟩
def g_R_RatNeg (K : Nat) (p0 : ByteArray) : Option ByteArray := ((g_R_parts K p0).bind fun x1 => ((g_R_Canon K (!x1.1) x1.2.1 x1.2.2).bind fun x12 => some x12))
set_option maxHeartbeats 4000000 in
theorem g_R_RatNeg_ok (K : Nat) {G : GM} {H : AH} {L : List Pc} (p0 : ByteArray) (O : Ow G H (L)) (r : ByteArray) (h : g_R_RatNeg K p0 = some r) :
    CR Tryz.prog 69 [(.string p0)] G H (L) (fun v G' _ => v = .string r) := by
 unfold g_R_RatNeg at h
 refine CR.of (calls_of_AW (n := 17) (fn := Tryz.f69) (R := fun v H' => ∃ G', Ow G' H' (L) ∧ G.le G' ∧ v = .string r) (by kernel_rfl) rfl rfl ?_)
 refine .seq (.region (W.q1 (.string (⟨#[]⟩ : ByteArray)) rfl (.nil (.seq (.region (W.q2 (.string p0) rfl ?_))))))
 obtain ⟨x1, i2, h3⟩ := bd_inv h
 refine W.lo rfl rfl (Lo.callP (ps := []) (ps' := []) rfl (fn := Tryz.f35) (by kernel_rfl) rfl (mc rfl mn) O (fun L' O' => g_R_parts_ok K p0 O' _ i2)) ?_
 rintro v10 H11 ⟨G4, O5, s6, sm9, rfl⟩
 replace O5 : Ow G4 H11 (L) := O5
 refine W.q2 (.tuple #[(.bool x1.1), (.string x1.2.1), (.string x1.2.2)]) rfl (W.pure (v := (.bool x1.1)) rfl rfl (v_extract (oo rfl rfl) rfl) (W.pure (v := (.string x1.2.1)) rfl rfl (v_extract (oo rfl rfl) rfl) (W.pure (v := (.string x1.2.2)) rfl rfl (v_extract (oo rfl rfl) rfl) (W.q1 (.bool x1.1) rfl (W.q1 (.string x1.2.1) rfl (W.q1 (.string x1.2.2) rfl ?_))))))
 refine .nil (.seq (.region (W.q2 (.bool x1.1) rfl (W.pure (v := (.bool (!x1.1))) rfl rfl (bool_not (a := x1.1) (oo rfl rfl)) (W.q2 (.string x1.2.1) rfl (W.q2 (.string x1.2.2) rfl ?_))))))
 obtain ⟨x12, i13, h14⟩ := bd_inv h3
 refine W.lo rfl rfl (Lo.callP (ps := []) (ps' := []) rfl (fn := Tryz.f45) (by kernel_rfl) rfl (mc rfl (mc rfl (mc rfl mn))) O5 (fun L' O' => g_R_Canon_ok K (!x1.1) x1.2.1 x1.2.2 O' _ i13)) ?_
 rintro v21 H22 ⟨G15, O16, s17, sm20, rfl⟩
 replace O16 : Ow G15 H22 (L) := O16
 refine W.q1 (.string x12) rfl (.nil (.ret ?_))
 obtain rfl := Option.some.inj h14
 refine ret1R (P := Tryz.prog) (fn := Tryz.f69) (n := 17) (R := fun v H' => ∃ G', Ow G' H' (L) ∧ G.le G' ∧ v = .string x12) (v1 := (.string x12)) (by rfl) (rr_tmp (by rfl) (by exact rfl)) ?_
 exact ⟨_, O16, (GM.le.trans s6 s17), rfl⟩
def g_R_NatMul_l2 (K : Nat) (p1 : ByteArray) (x15 : Int) (x26 : Int) : Nat → List Int → Int → Option (List Int)
  | 0, _, _ => none
  | k + 1, x41, x42 => (if (decide (x42 < (p1.size : Int))) = true then ((idx x41 (kwrap .i64 (x15 + x42))).bind fun x58 => ((g_R_digit K p1 x42).bind fun x62 => ((idx x41 (kwrap .i64 (x15 + x42))).bind fun x73 => g_R_NatMul_l2 K p1 x15 x26 k (List.set x41 (Int.toNat (kwrap .i64 (x15 + x42))) (kwrap .i64 (x58 + (kwrap .i64 (x26 * x62))))) (kwrap .i64 (x42 + 1))))) else some x41)
def g_R_NatMul_l4 (K : Nat) (x91 : List Int) : Nat → List Int → Int → Option (List Int)
  | 0, _, _ => none
  | k + 1, x102, x103 => (if (decide (x103 < (List.length x91 : Int))) = true then (Option.bind (((idx x102 x103).bind fun x117 => (if (decide (x117 > 9)) = true then ((idx x102 (kwrap .i64 (x103 + 1))).bind fun x128 => ((idx x102 x103).bind fun x132 => ((idx x102 (kwrap .i64 (x103 + 1))).bind fun x136 => ((idx (List.set x102 (Int.toNat (kwrap .i64 (x103 + 1))) (kwrap .i64 (x128 + (kwrap .i64 (Int.tdiv x132 10))))) x103).bind fun x144 => ((idx (List.set x102 (Int.toNat (kwrap .i64 (x103 + 1))) (kwrap .i64 (x128 + (kwrap .i64 (Int.tdiv x132 10))))) x103).bind fun x148 => some (List.set (List.set x102 (Int.toNat (kwrap .i64 (x103 + 1))) (kwrap .i64 (x128 + (kwrap .i64 (Int.tdiv x132 10))))) (Int.toNat x103) (Int.tmod x144 10))))))) else some x102))) (tu1 fun x157 => g_R_NatMul_l4 K x91 k x157 (kwrap .i64 (x103 + 1)))) else some x102)
def g_R_NatMul_l0 (K : Nat) (p0 : ByteArray) (p1 : ByteArray) : Nat → List Int → Int → Option (List Int)
  | 0, _, _ => none
  | k + 1, x14, x15 => (if (decide (x15 < (p0.size : Int))) = true then ((g_R_digit K p0 x15).bind fun x26 => (Option.bind (g_R_NatMul_l2 K p1 x15 x26 K x14 0) (tu1 fun x82 => ((lsl x82 0 (kwrap .i64 ((List.length x82 : Int) - 1))).bind fun x91 => (Option.bind (g_R_NatMul_l4 K x91 K x82 0) (tu1 fun x167 => g_R_NatMul_l0 K p0 p1 k x167 (kwrap .i64 (x15 + 1)))))))) else some x14)
def g_R_NatMul (K : Nat) (p0 : ByteArray) (p1 : ByteArray) : Option ByteArray := (lt (kwrap .i64 ((kwrap .i64 ((p0.size : Int) + (p1.size : Int))) + 1)) fun x1 => (if 0 ≤ x1 ∧ x1 ≤ x1 ∧ x1 ≤ 16777216 then (Option.bind (g_R_NatMul_l0 K p0 p1 K (List.replicate (Int.toNat x1) 0) 0) (tu1 fun x177 => ((g_R_text K x177).bind fun x186 => some x186))) else none))
set_option maxHeartbeats 4000000 in
theorem g_R_NatMul_ok (K : Nat) {G : GM} {H : AH} {L : List Pc} (p0 : ByteArray) (p1 : ByteArray) (O : Ow G H (L)) (r : ByteArray) (h : g_R_NatMul K p0 p1 = some r) :
    CR Tryz.prog 86 [(.string p0), (.string p1)] G H (L) (fun v G' _ => v = .string r) := by
 unfold g_R_NatMul at h
 refine CR.of (calls_of_AW (n := 80) (fn := Tryz.f86) (R := fun v H' => ∃ G', Ow G' H' (L) ∧ G.le G' ∧ v = .string r) (by kernel_rfl) rfl rfl ?_)
 refine .seq (.region (W.q1 (.string (⟨#[]⟩ : ByteArray)) rfl (.nil (.seq (.region (W.q2 (.string p0) rfl ?_))))))
 refine W.pure (v := (.int .i64 (p0.size : Int))) rfl rfl (len_str (oo rfl rfl) un9) (W.q2 (.string p1) rfl (W.pure (v := (.int .i64 (p1.size : Int))) rfl rfl (len_str (oo rfl rfl) un9) (W.q3 (.int .i64 (kwrap .i64 ((p0.size : Int) + (p1.size : Int)))) rfl rfl (W.q3 (.int .i64 (kwrap .i64 ((kwrap .i64 ((p0.size : Int) + (p1.size : Int))) + 1))) rfl rfl ?_))))
 obtain ⟨x1, e2, h3⟩ := lt_inv h
 obtain ⟨g5, h6⟩ := gd_inv h3
 refine W.lo rfl rfl (Lo.makeSlice (r := (rI .i64)) (x0 := 0) (a := x1) (c := x1) rfl el90 ze3 sz3 (by kernel_rfl) rfl by3 (by decide) (congrArg (Value.int .i64) e2) (congrArg (Value.int .i64) e2) g5 (zI .i64) O) ?_
 rintro v8 H9 ⟨O4, sm7⟩
 refine W.q1 v8 rfl (.nil (.seq (.seq (.region (W.q2 (.string p0) rfl (W.pure (v := (.int .i64 (p0.size : Int))) rfl rfl (len_str (oo rfl rfl) un9) ?_))))))
 refine W.q2 (.int .i64 0) rfl (.nil ?_)
 obtain ⟨q10, h11, h12⟩ := bd_inv h6
 refine AW.midT (fun σ' H' => ∃ (y1 : List Int) (G' : GM), y1 = q10 ∧ Ow G' H' (eSl v8 3 (rI .i64) y1 :: L) ∧ GM.le G G') ?_ ?_
 rotate_left
 ·rintro σ178 H179 fr180 ⟨x177, G181, rfl, O182, s183⟩
  have h185 := tu1_inv h12
  refine .seq (.region (W.q2 v8 ((fr180 5 rfl).trans rfl) ?_))
  obtain ⟨x186, i187, h188⟩ := bd_inv h185
  refine W.lo rfl rfl (Lo.callB (j := 0) rfl rfl (fn := Tryz.f74) (by kernel_rfl) rfl (mc rfl mn) O182 (fun G' L' hG O' hB => g_R_text_ok K v8 x177 hB O' _ i187)) ?_
  rintro v195 H196 ⟨G189, O190, s191, sm194, rfl⟩
  replace O190 : Ow G189 H196 (eSl v8 3 (rI .i64) x177 :: L) := O190
  refine W.q1 (.string x186) rfl (.nil (.ret ?_))
  have O197 : Ow G189 H196 (L) := O190.drop 0
  obtain rfl := Option.some.inj h188
  refine ret1R (P := Tryz.prog) (fn := Tryz.f86) (n := 80) (R := fun v H' => ∃ G', Ow G' H' (L) ∧ G.le G' ∧ v = .string x186) (v1 := (.string x186)) (by rfl) (rr_tmp (by rfl) (by exact rfl)) ?_
  exact ⟨_, O197, (GM.le.trans s183 s191), rfl⟩
 refine .block (AW.loop (α := Nat) (fun k' σ' H' => ∃ (y1 : List Int) (y2 : Int) (G' : GM), g_R_NatMul_l0 K p0 p1 k' y1 y2 = some q10 ∧ Ow G' H' (eSl v8 3 (rI .i64) y1 :: L) ∧ GM.le G G' ∧ σ' 19 = .int .i64 y2) (fun k' => k') K ⟨(List.replicate (Int.toNat x1) 0), 0, _, h11, O4, (GM.le.refl _), rfl⟩ ?_)
 rintro k13
 rintro σ16 H17 fr18 ⟨x14, x15, G19, h22, O20, s21, t23⟩
 rcases k13 with _ | k13
 ·exact none_absurd h22
 rw [g_R_NatMul_l0] at h22
 refine .seq (.region (W.q3 (.bool (decide (x15 < (p0.size : Int)))) t23 ((fr18 18 rfl).trans rfl) (.nil (.seq (.cond (b := decide (x15 < (p0.size : Int))) rfl rfl (fun g24 => ?_) (fun g24 => ?_))))))
 rotate_left
 ·have h176 := neg_b g24 h22
  refine .exit ?_
  obtain rfl := Option.some.inj h176
  exact ⟨x14, _, rfl, O20, s21⟩
 have h25 := pos_inv g24 h22
 refine .skip (.seq (.block (.seq (.region (W.q2 (.int .i64 x15) t23 (W.q1 (.int .i64 x15) rfl ?_))))))
 refine .nil (.seq (.region (W.q2 (.string p0) ((fr18 0 rfl).trans rfl) (W.q2 (.int .i64 x15) rfl ?_))))
 obtain ⟨x26, i27, h28⟩ := bd_inv h25
 refine W.lo rfl rfl (Lo.callP (ps := []) (ps' := []) rfl (fn := Tryz.f73) (by kernel_rfl) rfl (mc rfl (mc rfl mn)) O20 (fun L' O' => g_R_digit_ok K p0 x15 O' _ i27)) ?_
 rintro v35 H36 ⟨G29, O30, s31, sm34, rfl⟩
 replace O30 : Ow G29 H36 (eSl v8 3 (rI .i64) x14 :: L) := O30
 refine W.q1 (.int .i64 x26) rfl (.nil (.seq (.seq (.region (W.q2 (.string p1) ((fr18 1 rfl).trans rfl) (W.pure (v := (.int .i64 (p1.size : Int))) rfl rfl (len_str (oo rfl rfl) un9) ?_))))))
 refine W.q2 (.int .i64 0) rfl (.nil ?_)
 obtain ⟨q37, h38, h39⟩ := bd_inv h28
 refine AW.midT (fun σ' H' => ∃ (y1 : List Int) (G' : GM), y1 = q37 ∧ Ow G' H' (eSl v8 3 (rI .i64) y1 :: L) ∧ GM.le G29 G') ?_ ?_
 ·refine .block (AW.loop (α := Nat) (fun k' σ' H' => ∃ (y1 : List Int) (y2 : Int) (G' : GM), g_R_NatMul_l2 K p1 x15 x26 k' y1 y2 = some q37 ∧ Ow G' H' (eSl v8 3 (rI .i64) y1 :: L) ∧ GM.le G29 G' ∧ σ' 27 = .int .i64 y2) (fun k' => k') K ⟨x14, 0, _, h38, O30, (GM.le.refl _), rfl⟩ ?_)
  rintro k40
  rintro σ43 H44 fr45 ⟨x41, x42, G46, h49, O47, s48, t50⟩
  rcases k40 with _ | k40
  ·exact none_absurd h49
  rw [g_R_NatMul_l2] at h49
  refine .seq (.region (W.q3 (.bool (decide (x42 < (p1.size : Int)))) t50 ((fr45 26 rfl).trans rfl) (.nil (.seq (.cond (b := decide (x42 < (p1.size : Int))) rfl rfl (fun g51 => ?_) (fun g51 => ?_))))))
  rotate_left
  ·have h81 := neg_b g51 h49
   refine .exit ?_
   obtain rfl := Option.some.inj h81
   exact ⟨x41, _, rfl, O47, s48⟩
  have h52 := pos_inv g51 h49
  refine .skip (.seq (.block (.seq (.region (W.q2 (.int .i64 x42) t50 (W.q1 (.int .i64 x42) rfl ?_))))))
  refine .nil (.draw2 (M := [0, 0, 0, 6, 15, 31, 0, 0, 0, 384, 960, 2047, 4095, 8191]) mixed (by kernel_rfl) (by kernel_rfl) fun H53 N57 x54 F56 => ?_)
  have O55 := O47.ext x54
  refine D2.q2 v8 ((fr45 5 rfl).trans ((fr18 5 rfl).trans rfl)) (D2.q2 (.int .i64 x15) ((fr45 6 rfl).trans rfl) (D2.q2 (.int .i64 x42) rfl (D2.q3 (.int .i64 (kwrap .i64 (x15 + x42))) rfl rfl ?_)))
  obtain ⟨x58, i59, h60⟩ := bd_inv h52
  have j61 := idx_inv i59
  refine D2.pure (v := (selem v8 (Int.toNat (kwrap .i64 (x15 + x42)) * 1))) rfl rfl (v_idx el90 sz3 (oo rfl rfl) (oo rfl rfl) (O55.slLen (j := 0) rfl) j61.1 j61.2.1) (D2.load1' (v := (.int .i64 x58)) (r := []) rfl rfl ag3 (pt_px rfl (At.int (O55.atSl (j := 0) rfl j61.2.2))) fa_nil (D2.q2 (.int .i64 x26) ((fr45 7 rfl).trans rfl) (D2.q2 (.string p1) ((fr45 1 rfl).trans ((fr18 1 rfl).trans rfl)) (D2.q2 (.int .i64 x42) rfl ?_))))
  obtain ⟨x62, i63, h64⟩ := bd_inv h60
  refine D2.lo rfl rfl (Lo.callP (ps := []) (ps' := []) rfl (fn := Tryz.f73) (by kernel_rfl) rfl (mc rfl (mc rfl mn)) O55 (fun L' O' => g_R_digit_ok K p1 x42 O' _ i63)) ?_ fa_nil ?_ ?_
  ·rintro v71 H72 ⟨G65, O66, s67, sm70, rfl⟩; exact (faR1 (.inr (sm70 _ (Or.inr ⟨0, _, rfl, (O55.footSl (j := 0) rfl j61.2.2)⟩))) fa_nil)
  ·rintro v71 H72 ⟨G65, O66, s67, sm70, rfl⟩; exact fa_nil
  rintro v71 H72 ⟨G65, O66, s67, sm70, rfl⟩
  replace O66 : Ow G65 H72 (eSl v8 3 (rI .i64) x41 :: L) := O66
  refine D2.q3 (.int .i64 (kwrap .i64 (x26 * x62))) rfl rfl (D2.q3 (.int .i64 (kwrap .i64 (x58 + (kwrap .i64 (x26 * x62))))) rfl rfl ?_)
  obtain ⟨x73, i74, h75⟩ := bd_inv h64
  have j76 := idx_inv i74
  refine D2.pure (v := (selem v8 (Int.toNat (kwrap .i64 (x15 + x42)) * 1))) rfl rfl (v_idx el90 sz3 (oo rfl rfl) (oo rfl rfl) (O66.slLen (j := 0) rfl) j76.1 j76.2.1) (D2.lo rfl rfl (Lo.storeSl0 (j := 0) (y0 := kwrap .i64 (x58 + (kwrap .i64 (x26 * x62)))) (v := (.int .i64 (kwrap .i64 (x58 + (kwrap .i64 (x26 * x62)))))) rfl j76.2.2  rfl sz3 rfl rfl rfl O66) ?_ (faL_bit (by decide) fa_nil) ?_ ?_)
  ·rintro v79 H80 ⟨O77, sm78⟩; exact (faR1 (.inl (by decide)) fa_nil)
  ·rintro v79 H80 ⟨O77, sm78⟩; exact fa_nil
  rintro v79 H80 ⟨O77, sm78⟩
  replace O77 : Ow G65 H80 (eSl v8 3 (rI .i64) (List.set x41 (Int.toNat (kwrap .i64 (x15 + x42))) (kwrap .i64 (x58 + (kwrap .i64 (x26 * x62))))) :: L) := O77
  refine .nil (.region (W.q3 (.int .i64 (kwrap .i64 (x42 + 1))) t50 rfl (W.q2 (.int .i64 (kwrap .i64 (x42 + 1))) rfl (.nil ?_))))
  exact ⟨k40, Nat.lt_succ_self _, ⟨(List.set x41 (Int.toNat (kwrap .i64 (x15 + x42))) (kwrap .i64 (x58 + (kwrap .i64 (x26 * x62))))), kwrap .i64 (x42 + 1), _, h75, O77, (GM.le.trans s48 s67), rfl⟩⟩
 rintro σ83 H84 fr85 ⟨x82, G86, rfl, O87, s88⟩
 have h90 := tu1_inv h39
 refine .seq (.region (W.q2 v8 ((fr85 5 rfl).trans ((fr18 5 rfl).trans rfl)) (W.q2 v8 ((fr85 5 rfl).trans ((fr18 5 rfl).trans rfl)) (W.pure (v := (.int .i64 (List.length x82 : Int))) rfl rfl (len_sl (oo rfl rfl) (O87.slLen (j := 0) rfl) (elemT_inv el90)) (W.q3 (.int .i64 (kwrap .i64 ((List.length x82 : Int) - 1))) rfl rfl ?_)))))
 obtain ⟨x91, i92, h93⟩ := bd_inv h90
 obtain ⟨w94, e96, f97⟩ := O87.view (j := 0) rfl el90 sz3 i92
 refine W.pure (v := w94) rfl rfl (e96 (oo rfl rfl) (oo rfl rfl)) (W.pure (v := (.int .i64 (List.length x91 : Int))) rfl rfl (len_sl (oo rfl rfl) f97 (elemT_inv el90)) (W.q2 (.int .i64 0) rfl (.nil ?_)))
 obtain ⟨q98, h99, h100⟩ := bd_inv h93
 refine AW.midT (fun σ' H' => ∃ (y1 : List Int) (G' : GM), y1 = q98 ∧ Ow G' H' (eSl v8 3 (rI .i64) y1 :: L) ∧ GM.le G86 G') ?_ ?_
 rotate_left
 ·rintro σ168 H169 fr170 ⟨x167, G171, rfl, O172, s173⟩
  have h175 := tu1_inv h100
  refine .region (W.q3 (.int .i64 (kwrap .i64 (x15 + 1))) ((fr170 19 rfl).trans ((fr85 19 rfl).trans t23)) rfl (W.q2 (.int .i64 (kwrap .i64 (x15 + 1))) rfl (.nil ?_)))
  exact ⟨k13, Nat.lt_succ_self _, ⟨x167, kwrap .i64 (x15 + 1), _, h175, O172, (GM.le.trans s21 (GM.le.trans s31 (GM.le.trans s88 s173))), rfl⟩⟩
 refine .block (AW.loop (α := Nat) (fun k' σ' H' => ∃ (y1 : List Int) (y2 : Int) (G' : GM), g_R_NatMul_l4 K x91 k' y1 y2 = some q98 ∧ Ow G' H' (eSl v8 3 (rI .i64) y1 :: L) ∧ GM.le G86 G' ∧ σ' 50 = .int .i64 y2) (fun k' => k') K ⟨x82, 0, _, h99, O87, (GM.le.refl _), rfl⟩ ?_)
 rintro k101
 rintro σ104 H105 fr106 ⟨x102, x103, G107, h110, O108, s109, t111⟩
 rcases k101 with _ | k101
 ·exact none_absurd h110
 rw [g_R_NatMul_l4] at h110
 refine .seq (.region (W.q3 (.bool (decide (x103 < (List.length x91 : Int)))) t111 ((fr106 49 rfl).trans rfl) (.nil (.seq (.cond (b := decide (x103 < (List.length x91 : Int))) rfl rfl (fun g112 => ?_) (fun g112 => ?_))))))
 rotate_left
 ·have h166 := neg_b g112 h110
  refine .exit ?_
  obtain rfl := Option.some.inj h166
  exact ⟨x102, _, rfl, O108, s109⟩
 have h113 := pos_inv g112 h110
 refine .skip (.seq ?_)
 obtain ⟨q114, h115, h116⟩ := bd_inv h113
 refine AW.midT (fun σ' H' => ∃ (y1 : List Int) (G' : GM), y1 = q114 ∧ Ow G' H' (eSl v8 3 (rI .i64) y1 :: L) ∧ GM.le G107 G') ?_ ?_
 rotate_left
 ·rintro σ158 H159 fr160 ⟨x157, G161, rfl, O162, s163⟩
  have h165 := tu1_inv h116
  refine .region (W.q3 (.int .i64 (kwrap .i64 (x103 + 1))) ((fr160 50 rfl).trans t111) rfl (W.q2 (.int .i64 (kwrap .i64 (x103 + 1))) rfl (.nil ?_)))
  exact ⟨k101, Nat.lt_succ_self _, ⟨x157, kwrap .i64 (x103 + 1), _, h165, O162, (GM.le.trans s109 s163), rfl⟩⟩
 refine .block (.seq (.region (W.q2 (.int .i64 x103) t111 (W.q1 (.int .i64 x103) rfl (.nil (.seq ?_))))))
 refine .region (W.q2 v8 ((fr106 5 rfl).trans ((fr85 5 rfl).trans ((fr18 5 rfl).trans rfl))) (W.q2 (.int .i64 x103) rfl ?_))
 obtain ⟨x117, i118, h119⟩ := bd_inv h115
 have j120 := idx_inv i118
 refine W.pure (v := (selem v8 (Int.toNat x103 * 1))) rfl rfl (v_idx el90 sz3 (oo rfl rfl) (oo rfl rfl) (O108.slLen (j := 0) rfl) j120.1 j120.2.1) (W.load1 (v := (.int .i64 x117)) (r := []) rfl rfl ag3 (pt_px rfl (At.int (O108.atSl (j := 0) rfl j120.2.2))) (W.q3 (.bool (decide (x117 > 9))) rfl rfl (.nil (.cond (b := decide (x117 > 9)) rfl rfl (fun g121 => ?_) (fun g121 => ?_)))))
 rotate_left
 ·have h156 := neg_b g121 h119
  refine .skip ?_
  obtain rfl := Option.some.inj h156
  exact ⟨x102, _, rfl, O108, (GM.le.refl _)⟩
 have h122 := pos_inv g121 h119
 refine .seq (.draw2 (M := [0, 0, 2, 7, 15, 0, 0, 96, 224, 480, 1023, 2047, 4095]) mixed (by kernel_rfl) (by kernel_rfl) fun H123 N127 x124 F126 => ?_)
 have O125 := O108.ext x124
 refine D2.q2 v8 ((fr106 5 rfl).trans ((fr85 5 rfl).trans ((fr18 5 rfl).trans rfl))) (D2.q2 (.int .i64 x103) rfl (D2.q3 (.int .i64 (kwrap .i64 (x103 + 1))) rfl rfl ?_))
 obtain ⟨x128, i129, h130⟩ := bd_inv h122
 have j131 := idx_inv i129
 refine D2.pure (v := (selem v8 (Int.toNat (kwrap .i64 (x103 + 1)) * 1))) rfl rfl (v_idx el90 sz3 (oo rfl rfl) (oo rfl rfl) (O125.slLen (j := 0) rfl) j131.1 j131.2.1) (D2.load1' (v := (.int .i64 x128)) (r := []) rfl rfl ag3 (pt_px rfl (At.int (O125.atSl (j := 0) rfl j131.2.2))) fa_nil (D2.q2 v8 ((fr106 5 rfl).trans ((fr85 5 rfl).trans ((fr18 5 rfl).trans rfl))) (D2.q2 (.int .i64 x103) rfl ?_)))
 obtain ⟨x132, i133, h134⟩ := bd_inv h130
 have j135 := idx_inv i133
 refine D2.pure (v := (selem v8 (Int.toNat x103 * 1))) rfl rfl (v_idx el90 sz3 (oo rfl rfl) (oo rfl rfl) (O125.slLen (j := 0) rfl) j135.1 j135.2.1) (D2.load1' (v := (.int .i64 x132)) (r := []) rfl rfl ag3 (pt_px rfl (At.int (O125.atSl (j := 0) rfl j135.2.2))) fa_nil (D2.pure (v := (.int .i64 (kwrap .i64 (Int.tdiv x132 10)))) rfl rfl (v_quo (by decide) (oo rfl rfl) (oo rfl rfl)) (D2.q3 (.int .i64 (kwrap .i64 (x128 + (kwrap .i64 (Int.tdiv x132 10))))) rfl rfl ?_)))
 obtain ⟨x136, i137, h138⟩ := bd_inv h134
 have j139 := idx_inv i137
 refine D2.pure (v := (selem v8 (Int.toNat (kwrap .i64 (x103 + 1)) * 1))) rfl rfl (v_idx el90 sz3 (oo rfl rfl) (oo rfl rfl) (O125.slLen (j := 0) rfl) j139.1 j139.2.1) (D2.lo rfl rfl (Lo.storeSl0 (j := 0) (y0 := kwrap .i64 (x128 + (kwrap .i64 (Int.tdiv x132 10)))) (v := (.int .i64 (kwrap .i64 (x128 + (kwrap .i64 (Int.tdiv x132 10)))))) rfl j139.2.2  rfl sz3 rfl rfl rfl O125) ?_ fa_nil ?_ ?_)
 ·rintro v142 H143 ⟨O140, sm141⟩; exact (faR1 (.inl (by decide)) (faR1 (.inl (by decide)) fa_nil))
 ·rintro v142 H143 ⟨O140, sm141⟩; exact fa_nil
 rintro v142 H143 ⟨O140, sm141⟩
 replace O140 : Ow G107 H143 (eSl v8 3 (rI .i64) (List.set x102 (Int.toNat (kwrap .i64 (x103 + 1))) (kwrap .i64 (x128 + (kwrap .i64 (Int.tdiv x132 10))))) :: L) := O140
 refine .nil (.region (W.q2 v8 ((fr106 5 rfl).trans ((fr85 5 rfl).trans ((fr18 5 rfl).trans rfl))) (W.q2 (.int .i64 x103) rfl ?_)))
 obtain ⟨x144, i145, h146⟩ := bd_inv h138
 have j147 := idx_inv i145
 refine W.pure (v := (selem v8 (Int.toNat x103 * 1))) rfl rfl (v_idx el90 sz3 (oo rfl rfl) (oo rfl rfl) (O140.slLen (j := 0) rfl) j147.1 j147.2.1) (W.load1 (v := (.int .i64 x144)) (r := []) rfl rfl ag3 (pt_px rfl (At.int (O140.atSl (j := 0) rfl j147.2.2))) (W.pure (v := (.int .i64 (Int.tmod x144 10))) rfl rfl (v_rem (by decide) (oo rfl rfl) (oo rfl rfl)) ?_))
 obtain ⟨x148, i149, h150⟩ := bd_inv h146
 have j151 := idx_inv i149
 refine W.pure (v := (selem v8 (Int.toNat x103 * 1))) rfl rfl (v_idx el90 sz3 (oo rfl rfl) (oo rfl rfl) (O140.slLen (j := 0) rfl) j151.1 j151.2.1) (W.lo rfl rfl (Lo.storeSl0 (j := 0) (y0 := Int.tmod x144 10) (v := (.int .i64 (Int.tmod x144 10))) rfl j151.2.2  rfl sz3 rfl rfl rfl O140) ?_)
 rintro v154 H155 ⟨O152, sm153⟩
 replace O152 : Ow G107 H155 (eSl v8 3 (rI .i64) (List.set (List.set x102 (Int.toNat (kwrap .i64 (x103 + 1))) (kwrap .i64 (x128 + (kwrap .i64 (Int.tdiv x132 10))))) (Int.toNat x103) (Int.tmod x144 10)) :: L) := O152
 refine .nil ?_
 obtain rfl := Option.some.inj h150
 exact ⟨(List.set (List.set x102 (Int.toNat (kwrap .i64 (x103 + 1))) (kwrap .i64 (x128 + (kwrap .i64 (Int.tdiv x132 10))))) (Int.toNat x103) (Int.tmod x144 10)), _, rfl, O152, (GM.le.refl _)⟩
def g_R_NatAdd_l0 (K : Nat) (p0 : ByteArray) (p1 : ByteArray) : Nat → List Int → Int → Int → Option (List Int)
  | 0, _, _, _ => none
  | k + 1, x6, x7, x8 => (Option.bind ((if (decide (x8 < (p0.size : Int))) = true then some true else (if (decide (x8 < (p1.size : Int))) = true then some true else some (decide (x7 > 0))))) (tu1 fun x29 => (if x29 = true then ((g_R_digit K p0 x8).bind fun x41 => ((g_R_digit K p1 x8).bind fun x52 => (if List.length x6 + List.length [Int.tmod (kwrap .i64 ((kwrap .i64 (x41 + x52)) + x7)) 10] ≤ 16777216 then (lt (kwrap .i64 (Int.tdiv (kwrap .i64 ((kwrap .i64 (x41 + x52)) + x7)) 10)) fun x76 => g_R_NatAdd_l0 K p0 p1 k (x6 ++ [Int.tmod (kwrap .i64 ((kwrap .i64 (x41 + x52)) + x7)) 10]) x76 (kwrap .i64 (x8 + 1))) else none))) else some x6)))
def g_R_NatAdd (K : Nat) (p0 : ByteArray) (p1 : ByteArray) : Option ByteArray := (Option.bind (g_R_NatAdd_l0 K p0 p1 K [] 0 0) (tu1 fun x81 => ((g_R_text K x81).bind fun x90 => some x90)))
set_option maxHeartbeats 4000000 in
theorem g_R_NatAdd_ok (K : Nat) {G : GM} {H : AH} {L : List Pc} (p0 : ByteArray) (p1 : ByteArray) (O : Ow G H (L)) (r : ByteArray) (h : g_R_NatAdd K p0 p1 = some r) :
    CR Tryz.prog 44 [(.string p0), (.string p1)] G H (L) (fun v G' _ => v = .string r) := by
 unfold g_R_NatAdd at h
 refine CR.of (calls_of_AW (n := 43) (fn := Tryz.f44) (R := fun v H' => ∃ G', Ow G' H' (L) ∧ G.le G' ∧ v = .string r) (by kernel_rfl) rfl rfl ?_)
 refine .seq (.region (W.q1 (.string (⟨#[]⟩ : ByteArray)) rfl (.nil (.seq (.region (W.q1 (.slice none 0 0) rfl ?_))))))
 refine .nil (.seq (.region (W.q1 (.int .i64 0) rfl (.nil (.seq (.seq ?_))))))
 refine .region (W.q1 (.int .i64 0) rfl (.nil ?_))
 obtain ⟨q1, h2, h3⟩ := bd_inv h
 refine AW.midT (fun σ' H' => ∃ (y1 : List Int) (G' : GM), y1 = q1 ∧ Ow G' H' (eSl (σ' 5) 3 (rI .i64) y1 :: L) ∧ GM.le G G') ?_ ?_
 rotate_left
 ·rintro σ82 H83 fr84 ⟨x81, G85, rfl, O86, s87⟩
  have h89 := tu1_inv h3
  refine .seq (.region (W.q2 (σ82 5) rfl ?_))
  obtain ⟨x90, i91, h92⟩ := bd_inv h89
  refine W.lo rfl rfl (Lo.callB (j := 0) rfl rfl (fn := Tryz.f74) (by kernel_rfl) rfl (mc rfl mn) O86 (fun G' L' hG O' hB => g_R_text_ok K (σ82 5) x81 hB O' _ i91)) ?_
  rintro v99 H100 ⟨G93, O94, s95, sm98, rfl⟩
  replace O94 : Ow G93 H100 (eSl (σ82 5) 3 (rI .i64) x81 :: L) := O94
  refine W.q1 (.string x90) rfl (.nil (.ret ?_))
  have O101 : Ow G93 H100 (L) := O94.drop 0
  obtain rfl := Option.some.inj h92
  refine ret1R (P := Tryz.prog) (fn := Tryz.f44) (n := 43) (R := fun v H' => ∃ G', Ow G' H' (L) ∧ G.le G' ∧ v = .string x90) (v1 := (.string x90)) (by rfl) (rr_tmp (by rfl) (by exact rfl)) ?_
  exact ⟨_, O101, (GM.le.trans s87 s95), rfl⟩
 refine .block ?_
 have O4 := O.nilSl 3 (rI .i64)
 refine AW.loop (α := Nat) (fun k' σ' H' => ∃ (y1 : List Int) (y2 : Int) (y3 : Int) (G' : GM), g_R_NatAdd_l0 K p0 p1 k' y1 y2 y3 = some q1 ∧ Ow G' H' (eSl (σ' 5) 3 (rI .i64) y1 :: L) ∧ GM.le G G' ∧ σ' 6 = .int .i64 y2 ∧ σ' 7 = .int .i64 y3) (fun k' => k') K ⟨[], 0, 0, _, h2, O4, (GM.le.refl _), rfl, rfl⟩ ?_
 rintro k5
 rintro σ9 H10 fr11 ⟨x6, x7, x8, G12, h15, O13, s14, t16, t17⟩
 rcases k5 with _ | k5
 ·exact none_absurd h15
 rw [g_R_NatAdd_l0] at h15
 refine .seq (.seq ?_)
 obtain ⟨q18, h19, h20⟩ := bd_inv h15
 refine AW.midT (fun σ' H' => ∃ (y1 : Bool) (G' : GM), y1 = q18 ∧ Ow G' H' (eSl (σ9 5) 3 (rI .i64) x6 :: L) ∧ GM.le G12 G' ∧ σ' 22 = .bool y1) ?_ ?_
 ·refine .region (W.q2 (.int .i64 x8) t17 (W.q2 (.string p0) ((fr11 0 rfl).trans rfl) (W.pure (v := (.int .i64 (p0.size : Int))) rfl rfl (len_str (oo rfl rfl) un9) (W.q3 (.bool (decide (x8 < (p0.size : Int)))) rfl rfl (W.q2 (.bool (decide (x8 < (p0.size : Int)))) rfl (W.splitAt (t := 13) (b := decide (x8 < (p0.size : Int))) rfl (fun g21 gv22 => ?_) (fun g21 gv22 => ?_)))))))
  ·have h23 := pos_inv g21 h19
   refine W.q6 rfl gv22 (W.q6 rfl gv22 (W.q6 rfl gv22 (W.q6 rfl gv22 (W.q4 (.bool true) gv22 rfl (W.q2 (.bool true) rfl (W.q6 rfl rfl ?_))))))
   refine W.q6 rfl rfl (W.q4 (.bool true) rfl rfl (.nil ?_))
   obtain rfl := Option.some.inj h23
   exact ⟨true, _, rfl, O13, (GM.le.refl _), rfl⟩
  have h24 := neg_b g21 h19
  refine W.q2 (hg := gk rfl rfl gv22 rfl) (.int .i64 x8) t17 (W.q2 (hg := gk rfl rfl gv22 rfl) (.string p1) ((fr11 1 rfl).trans rfl) (W.pure (v := (.int .i64 (p1.size : Int))) (gk rfl rfl gv22 rfl) rfl (len_str (oo rfl rfl) un9) (W.q3 (hg := gk rfl rfl gv22 rfl) (.bool (decide (x8 < (p1.size : Int)))) rfl rfl (W.q5 (.bool (decide (x8 < (p1.size : Int)))) gv22 rfl (W.q2 (.bool (decide (x8 < (p1.size : Int)))) rfl (W.splitAt (t := 19) (b := decide (x8 < (p1.size : Int))) rfl (fun g25 gv26 => ?_) (fun g25 gv26 => ?_)))))))
  ·have h27 := pos_inv g25 h24
   refine W.q6 rfl gv26 (W.q6 rfl gv26 (W.q4 (.bool true) gv26 rfl (.nil ?_)))
   obtain rfl := Option.some.inj h27
   exact ⟨true, _, rfl, O13, (GM.le.refl _), rfl⟩
  have h28 := neg_b g25 h24
  refine W.q2 (hg := gk rfl rfl gv26 rfl) (.int .i64 x7) t16 (W.q3 (hg := gk rfl rfl gv26 rfl) (.bool (decide (x7 > 0))) rfl rfl (W.q5 (.bool (decide (x7 > 0))) gv26 rfl (.nil ?_)))
  obtain rfl := Option.some.inj h28
  exact ⟨decide (x7 > 0), _, rfl, O13, (GM.le.refl _), rfl⟩
 rintro σ30 H31 fr32 ⟨x29, G33, rfl, O34, s35, t37⟩
 have h38 := tu1_inv h20
 refine .cond (b := x29) rfl t37 (fun g39 => ?_) (fun g39 => ?_)
 rotate_left
 ·have h80 := neg_b g39 h38
  refine .exit ?_
  obtain rfl := Option.some.inj h80
  exact ⟨x6, _, rfl, (Ow.reval (j := 0) O34 rfl ((fr32 5 rfl).trans rfl)), (GM.le.trans s14 s35)⟩
 have h40 := pos_inv g39 h38
 refine .skip (.seq (.block (.seq (.region (W.q2 (.string p0) ((fr32 0 rfl).trans ((fr11 0 rfl).trans rfl)) (W.q2 (.int .i64 x8) ((fr32 7 rfl).trans t17) ?_))))))
 obtain ⟨x41, i42, h43⟩ := bd_inv h40
 refine W.lo rfl rfl (Lo.callP (ps := []) (ps' := []) rfl (fn := Tryz.f73) (by kernel_rfl) rfl (mc rfl (mc rfl mn)) O34 (fun L' O' => g_R_digit_ok K p0 x8 O' _ i42)) ?_
 rintro v50 H51 ⟨G44, O45, s46, sm49, rfl⟩
 replace O45 : Ow G44 H51 (eSl (σ9 5) 3 (rI .i64) x6 :: L) := O45
 refine W.q2 (.string p1) ((fr32 1 rfl).trans ((fr11 1 rfl).trans rfl)) (W.q2 (.int .i64 x8) ((fr32 7 rfl).trans t17) ?_)
 obtain ⟨x52, i53, h54⟩ := bd_inv h43
 refine W.lo rfl rfl (Lo.callP (ps := []) (ps' := []) rfl (fn := Tryz.f73) (by kernel_rfl) rfl (mc rfl (mc rfl mn)) O45 (fun L' O' => g_R_digit_ok K p1 x8 O' _ i53)) ?_
 rintro v61 H62 ⟨G55, O56, s57, sm60, rfl⟩
 replace O56 : Ow G55 H62 (eSl (σ9 5) 3 (rI .i64) x6 :: L) := O56
 refine W.q3 (.int .i64 (kwrap .i64 (x41 + x52))) rfl rfl (W.q2 (.int .i64 x7) ((fr32 6 rfl).trans t16) (W.q3 (.int .i64 (kwrap .i64 ((kwrap .i64 (x41 + x52)) + x7))) rfl rfl (W.q1 (.int .i64 (kwrap .i64 ((kwrap .i64 (x41 + x52)) + x7))) rfl (.nil (.seq (.region ?_))))))
 refine W.q2 (σ9 5) ((fr32 5 rfl).trans rfl) (W.q2 (.int .i64 (kwrap .i64 ((kwrap .i64 (x41 + x52)) + x7))) rfl (W.pure (v := (.int .i64 (Int.tmod (kwrap .i64 ((kwrap .i64 (x41 + x52)) + x7)) 10))) rfl rfl (v_rem (by decide) (oo rfl rfl) (oo rfl rfl)) (W.lo rfl rfl (Lo.buildSlice (r := (rI .i64)) (vs := [(.int .i64 (Int.tmod (kwrap .i64 ((kwrap .i64 (x41 + x52)) + x7)) 10))]) (xs := [Int.tmod (kwrap .i64 ((kwrap .i64 (x41 + x52)) + x7)) 10]) el90 ze3 sz3 (by kernel_rfl) rfl (qc rfl qn) rfl (.cons rfl .nil) O56) ?_)))
 rintro v65 H66 ⟨O63, sm64⟩
 obtain ⟨es68, e69, e70⟩ := src_own (j := 0) rfl O63
 obtain ⟨g71, h72⟩ := gd_inv h54
 refine W.lo rfl rfl (Lo.append (j := 1) (v := (σ9 5)) rfl rfl el90 ni90 ze3 sz3 by3 (by decide) (by decide) rfl e69 e70 g71 O63) ?_
 rintro v74 H75 ⟨O67, sm73⟩
 replace O67 : Ow G55 H75 (eSl v65 3 (rI .i64) [Int.tmod (kwrap .i64 ((kwrap .i64 (x41 + x52)) + x7)) 10] :: eSl v74 3 (rI .i64) (x6 ++ [Int.tmod (kwrap .i64 ((kwrap .i64 (x41 + x52)) + x7)) 10]) :: L) := O67
 refine W.q1 v74 rfl (.nil (.region (W.q2 (.int .i64 (kwrap .i64 ((kwrap .i64 (x41 + x52)) + x7))) rfl (W.pure (v := (.int .i64 (kwrap .i64 (Int.tdiv (kwrap .i64 ((kwrap .i64 (x41 + x52)) + x7)) 10)))) rfl rfl (v_quo (by decide) (oo rfl rfl) (oo rfl rfl)) ?_))))
 obtain ⟨x76, e77, h78⟩ := lt_inv h72
 refine W.q1 (.int .i64 x76) (congrArg (Value.int .i64) e77) (.nil (.region (W.q2 (.int .i64 x8) ((fr32 7 rfl).trans t17) (W.q3 (.int .i64 (kwrap .i64 (x8 + 1))) rfl rfl (W.q1 (.int .i64 (kwrap .i64 (x8 + 1))) rfl (.nil ?_))))))
 have O79 : Ow G55 H75 (eSl v74 3 (rI .i64) (x6 ++ [Int.tmod (kwrap .i64 ((kwrap .i64 (x41 + x52)) + x7)) 10]) :: L) := O67.drop 0
 exact ⟨k5, Nat.lt_succ_self _, ⟨(x6 ++ [Int.tmod (kwrap .i64 ((kwrap .i64 (x41 + x52)) + x7)) 10]), x76, kwrap .i64 (x8 + 1), _, h78, O79, (GM.le.trans s14 (GM.le.trans s35 (GM.le.trans s46 s57))), rfl, rfl⟩⟩
def g_R_RatAdd (K : Nat) (p0 : ByteArray) (p1 : ByteArray) : Option ByteArray := ((g_R_parts K p0).bind fun x1 => ((g_R_parts K p1).bind fun x12 => ((g_R_NatMul K x1.2.1 x12.2.2).bind fun x23 => ((g_R_NatMul K x12.2.1 x1.2.2).bind fun x34 => ((g_R_NatMul K x1.2.2 x12.2.2).bind fun x45 => (if (x1.1 == x12.1) = true then ((g_R_NatAdd K x23 x34).bind fun x58 => ((g_R_Canon K x1.1 x58 x45).bind fun x69 => some x69)) else ((g_R_NatCmp K x23 x34).bind fun x81 => (Option.bind ((if (decide (x81 < 0)) = true then some (x12.1, x34, x23) else some (x1.1, x23, x34))) (tu3 fun x98 x99 x100 => ((g_R_NatSub K x99 x100).bind fun x112 => ((g_R_Canon K x98 x112 x45).bind fun x123 => some x123)))))))))))
set_option maxHeartbeats 4000000 in
theorem g_R_RatAdd_ok (K : Nat) {G : GM} {H : AH} {L : List Pc} (p0 : ByteArray) (p1 : ByteArray) (O : Ow G H (L)) (r : ByteArray) (h : g_R_RatAdd K p0 p1 = some r) :
    CR Tryz.prog 68 [(.string p0), (.string p1)] G H (L) (fun v G' _ => v = .string r) := by
 unfold g_R_RatAdd at h
 refine CR.of (calls_of_AW (n := 57) (fn := Tryz.f68) (R := fun v H' => ∃ G', Ow G' H' (L) ∧ G.le G' ∧ v = .string r) (by kernel_rfl) rfl rfl ?_)
 refine .seq (.region (W.q1 (.string (⟨#[]⟩ : ByteArray)) rfl (.nil (.seq (.region (W.q2 (.string p0) rfl ?_))))))
 obtain ⟨x1, i2, h3⟩ := bd_inv h
 refine W.lo rfl rfl (Lo.callP (ps := []) (ps' := []) rfl (fn := Tryz.f35) (by kernel_rfl) rfl (mc rfl mn) O (fun L' O' => g_R_parts_ok K p0 O' _ i2)) ?_
 rintro v10 H11 ⟨G4, O5, s6, sm9, rfl⟩
 replace O5 : Ow G4 H11 (L) := O5
 refine W.q2 (.tuple #[(.bool x1.1), (.string x1.2.1), (.string x1.2.2)]) rfl (W.pure (v := (.bool x1.1)) rfl rfl (v_extract (oo rfl rfl) rfl) (W.pure (v := (.string x1.2.1)) rfl rfl (v_extract (oo rfl rfl) rfl) (W.pure (v := (.string x1.2.2)) rfl rfl (v_extract (oo rfl rfl) rfl) (W.q1 (.bool x1.1) rfl (W.q1 (.string x1.2.1) rfl (W.q1 (.string x1.2.2) rfl ?_))))))
 refine .nil (.seq (.region (W.q2 (.string p1) rfl ?_)))
 obtain ⟨x12, i13, h14⟩ := bd_inv h3
 refine W.lo rfl rfl (Lo.callP (ps := []) (ps' := []) rfl (fn := Tryz.f35) (by kernel_rfl) rfl (mc rfl mn) O5 (fun L' O' => g_R_parts_ok K p1 O' _ i13)) ?_
 rintro v21 H22 ⟨G15, O16, s17, sm20, rfl⟩
 replace O16 : Ow G15 H22 (L) := O16
 refine W.q2 (.tuple #[(.bool x12.1), (.string x12.2.1), (.string x12.2.2)]) rfl (W.pure (v := (.bool x12.1)) rfl rfl (v_extract (oo rfl rfl) rfl) (W.pure (v := (.string x12.2.1)) rfl rfl (v_extract (oo rfl rfl) rfl) (W.pure (v := (.string x12.2.2)) rfl rfl (v_extract (oo rfl rfl) rfl) (W.q1 (.bool x12.1) rfl (W.q1 (.string x12.2.1) rfl (W.q1 (.string x12.2.2) rfl ?_))))))
 refine .nil (.seq (.region (W.q2 (.string x1.2.1) rfl (W.q2 (.string x12.2.2) rfl ?_))))
 obtain ⟨x23, i24, h25⟩ := bd_inv h14
 refine W.lo rfl rfl (Lo.callP (ps := []) (ps' := []) rfl (fn := Tryz.f86) (by kernel_rfl) rfl (mc rfl (mc rfl mn)) O16 (fun L' O' => g_R_NatMul_ok K x1.2.1 x12.2.2 O' _ i24)) ?_
 rintro v32 H33 ⟨G26, O27, s28, sm31, rfl⟩
 replace O27 : Ow G26 H33 (L) := O27
 refine W.q2 (.string x12.2.1) rfl (W.q2 (.string x1.2.2) rfl ?_)
 obtain ⟨x34, i35, h36⟩ := bd_inv h25
 refine W.lo rfl rfl (Lo.callP (ps := []) (ps' := []) rfl (fn := Tryz.f86) (by kernel_rfl) rfl (mc rfl (mc rfl mn)) O27 (fun L' O' => g_R_NatMul_ok K x12.2.1 x1.2.2 O' _ i35)) ?_
 rintro v43 H44 ⟨G37, O38, s39, sm42, rfl⟩
 replace O38 : Ow G37 H44 (L) := O38
 refine W.q2 (.string x1.2.2) rfl (W.q2 (.string x12.2.2) rfl ?_)
 obtain ⟨x45, i46, h47⟩ := bd_inv h36
 refine W.lo rfl rfl (Lo.callP (ps := []) (ps' := []) rfl (fn := Tryz.f86) (by kernel_rfl) rfl (mc rfl (mc rfl mn)) O38 (fun L' O' => g_R_NatMul_ok K x1.2.2 x12.2.2 O' _ i46)) ?_
 rintro v54 H55 ⟨G48, O49, s50, sm53, rfl⟩
 replace O49 : Ow G48 H55 (L) := O49
 refine W.q1 (.string x23) rfl (W.q1 (.string x34) rfl (W.q1 (.string x45) rfl (.nil (.seq (.seq (.region ?_))))))
 refine W.q2 (.bool x1.1) rfl (W.q2 (.bool x12.1) rfl (W.pure (v := (.bool (x1.1 == x12.1))) rfl rfl (bool_eql (oo rfl rfl) (oo rfl rfl) un4) (.nil (.cond (b := (x1.1 == x12.1)) rfl rfl (fun g56 => ?_) (fun g56 => ?_)))))
 ·have h57 := pos_inv g56 h47
  refine .seq (.region (W.q2 (.bool x1.1) rfl (W.q2 (.string x23) rfl (W.q2 (.string x34) rfl ?_))))
  obtain ⟨x58, i59, h60⟩ := bd_inv h57
  refine W.lo rfl rfl (Lo.callP (ps := []) (ps' := []) rfl (fn := Tryz.f44) (by kernel_rfl) rfl (mc rfl (mc rfl mn)) O49 (fun L' O' => g_R_NatAdd_ok K x23 x34 O' _ i59)) ?_
  rintro v67 H68 ⟨G61, O62, s63, sm66, rfl⟩
  replace O62 : Ow G61 H68 (L) := O62
  refine W.q2 (.string x45) rfl ?_
  obtain ⟨x69, i70, h71⟩ := bd_inv h60
  refine W.lo rfl rfl (Lo.callP (ps := []) (ps' := []) rfl (fn := Tryz.f45) (by kernel_rfl) rfl (mc rfl (mc rfl (mc rfl mn))) O62 (fun L' O' => g_R_Canon_ok K x1.1 x58 x45 O' _ i70)) ?_
  rintro v78 H79 ⟨G72, O73, s74, sm77, rfl⟩
  replace O73 : Ow G72 H79 (L) := O73
  refine W.q1 (.string x69) rfl (.nil (.ret ?_))
  obtain rfl := Option.some.inj h71
  refine ret1R (P := Tryz.prog) (fn := Tryz.f68) (n := 57) (R := fun v H' => ∃ G', Ow G' H' (L) ∧ G.le G' ∧ v = .string x69) (v1 := (.string x69)) (by rfl) (rr_tmp (by rfl) (by exact rfl)) ?_
  exact ⟨_, O73, (GM.le.trans s6 (GM.le.trans s17 (GM.le.trans s28 (GM.le.trans s39 (GM.le.trans s50 (GM.le.trans s63 s74)))))), rfl⟩
 have h80 := neg_b g56 h47
 refine .skip (.seq (.seq (.region (W.q2 (.string x23) rfl (W.q2 (.string x34) rfl ?_)))))
 obtain ⟨x81, i82, h83⟩ := bd_inv h80
 refine W.lo rfl rfl (Lo.callP (ps := []) (ps' := []) rfl (fn := Tryz.f71) (by kernel_rfl) rfl (mc rfl (mc rfl mn)) O49 (fun L' O' => g_R_NatCmp_ok K x23 x34 O' _ i82)) ?_
 rintro v90 H91 ⟨G84, O85, s86, sm89, rfl⟩
 replace O85 : Ow G84 H91 (L) := O85
 refine W.q3 (.bool (decide (x81 < 0))) rfl rfl (.nil ?_)
 obtain ⟨q92, h93, h94⟩ := bd_inv h83
 refine AW.midT (fun σ' H' => ∃ (y1 : Bool) (y2 : ByteArray) (y3 : ByteArray) (G' : GM), (y1, y2, y3) = q92 ∧ Ow G' H' (L) ∧ GM.le G84 G' ∧ σ' 5 = .bool y1 ∧ σ' 11 = .string y2 ∧ σ' 12 = .string y3) ?_ ?_
 ·refine .cond (b := decide (x81 < 0)) rfl rfl (fun g95 => ?_) (fun g95 => ?_)
  rotate_left
  ·have h97 := neg_b g95 h93
   refine .skip ?_
   obtain rfl := Option.some.inj h97
   exact ⟨x1.1, x23, x34, _, rfl, O85, (GM.le.refl _), rfl, rfl, rfl⟩
  have h96 := pos_inv g95 h93
  refine .region (W.q2 (.string x34) rfl (W.q2 (.string x23) rfl (W.q2 (.bool x12.1) rfl (W.q1 (.string x34) rfl (W.q1 (.string x23) rfl (W.q1 (.bool x12.1) rfl ?_))))))
  refine .nil ?_
  obtain rfl := Option.some.inj h96
  exact ⟨x12.1, x34, x23, _, rfl, O85, (GM.le.refl _), rfl, rfl, rfl⟩
 rintro σ101 H102 fr103 ⟨x98, x99, x100, G104, rfl, O105, s106, t108, t109, t110⟩
 have h111 := tu3_inv h94
 refine .seq (.region (W.q2 (.bool x98) t108 (W.q2 (.string x99) t109 (W.q2 (.string x100) t110 ?_))))
 obtain ⟨x112, i113, h114⟩ := bd_inv h111
 refine W.lo rfl rfl (Lo.callP (ps := []) (ps' := []) rfl (fn := Tryz.f72) (by kernel_rfl) rfl (mc rfl (mc rfl mn)) O105 (fun L' O' => g_R_NatSub_ok K x99 x100 O' _ i113)) ?_
 rintro v121 H122 ⟨G115, O116, s117, sm120, rfl⟩
 replace O116 : Ow G115 H122 (L) := O116
 refine W.q2 (.string x45) ((fr103 13 rfl).trans rfl) ?_
 obtain ⟨x123, i124, h125⟩ := bd_inv h114
 refine W.lo rfl rfl (Lo.callP (ps := []) (ps' := []) rfl (fn := Tryz.f45) (by kernel_rfl) rfl (mc rfl (mc rfl (mc rfl mn))) O116 (fun L' O' => g_R_Canon_ok K x98 x112 x45 O' _ i124)) ?_
 rintro v132 H133 ⟨G126, O127, s128, sm131, rfl⟩
 replace O127 : Ow G126 H133 (L) := O127
 refine W.q1 (.string x123) rfl (.nil (.ret ?_))
 obtain rfl := Option.some.inj h125
 refine ret1R (P := Tryz.prog) (fn := Tryz.f68) (n := 57) (R := fun v H' => ∃ G', Ow G' H' (L) ∧ G.le G' ∧ v = .string x123) (v1 := (.string x123)) (by rfl) (rr_tmp (by rfl) (by exact rfl)) ?_
 exact ⟨_, O127, (GM.le.trans s6 (GM.le.trans s17 (GM.le.trans s28 (GM.le.trans s39 (GM.le.trans s50 (GM.le.trans s86 (GM.le.trans s106 (GM.le.trans s117 s128)))))))), rfl⟩
def g_R_RatSub (K : Nat) (p0 : ByteArray) (p1 : ByteArray) : Option ByteArray := ((g_R_RatNeg K p1).bind fun x1 => ((g_R_RatAdd K p0 x1).bind fun x12 => some x12))
set_option maxHeartbeats 4000000 in
theorem g_R_RatSub_ok (K : Nat) {G : GM} {H : AH} {L : List Pc} (p0 : ByteArray) (p1 : ByteArray) (O : Ow G H (L)) (r : ByteArray) (h : g_R_RatSub K p0 p1 = some r) :
    CR Tryz.prog 38 [(.string p0), (.string p1)] G H (L) (fun v G' _ => v = .string r) := by
 unfold g_R_RatSub at h
 refine CR.of (calls_of_AW (n := 9) (fn := Tryz.f38) (R := fun v H' => ∃ G', Ow G' H' (L) ∧ G.le G' ∧ v = .string r) (by kernel_rfl) rfl rfl ?_)
 refine .seq (.region (W.q1 (.string (⟨#[]⟩ : ByteArray)) rfl (.nil (.seq (.region (W.q2 (.string p0) rfl ?_))))))
 refine W.q2 (.string p1) rfl ?_
 obtain ⟨x1, i2, h3⟩ := bd_inv h
 refine W.lo rfl rfl (Lo.callP (ps := []) (ps' := []) rfl (fn := Tryz.f69) (by kernel_rfl) rfl (mc rfl mn) O (fun L' O' => g_R_RatNeg_ok K p1 O' _ i2)) ?_
 rintro v10 H11 ⟨G4, O5, s6, sm9, rfl⟩
 replace O5 : Ow G4 H11 (L) := O5
 obtain ⟨x12, i13, h14⟩ := bd_inv h3
 refine W.lo rfl rfl (Lo.callP (ps := []) (ps' := []) rfl (fn := Tryz.f68) (by kernel_rfl) rfl (mc rfl (mc rfl mn)) O5 (fun L' O' => g_R_RatAdd_ok K p0 x1 O' _ i13)) ?_
 rintro v21 H22 ⟨G15, O16, s17, sm20, rfl⟩
 replace O16 : Ow G15 H22 (L) := O16
 refine W.q1 (.string x12) rfl (.nil (.ret ?_))
 obtain rfl := Option.some.inj h14
 refine ret1R (P := Tryz.prog) (fn := Tryz.f38) (n := 9) (R := fun v H' => ∃ G', Ow G' H' (L) ∧ G.le G' ∧ v = .string x12) (v1 := (.string x12)) (by rfl) (rr_tmp (by rfl) (by exact rfl)) ?_
 exact ⟨_, O16, (GM.le.trans s6 s17), rfl⟩
def g_R_RatCmp (K : Nat) (p0 : ByteArray) (p1 : ByteArray) : Option Int := ((g_R_RatSub K p0 p1).bind fun x1 => ((g_R_RatSign K x1).bind fun x12 => some x12))
set_option maxHeartbeats 4000000 in
theorem g_R_RatCmp_ok (K : Nat) {G : GM} {H : AH} {L : List Pc} (p0 : ByteArray) (p1 : ByteArray) (O : Ow G H (L)) (r : Int) (h : g_R_RatCmp K p0 p1 = some r) :
    CR Tryz.prog 12 [(.string p0), (.string p1)] G H (L) (fun v G' _ => v = .int .i64 r) := by
 unfold g_R_RatCmp at h
 refine CR.of (calls_of_AW (n := 9) (fn := Tryz.f12) (R := fun v H' => ∃ G', Ow G' H' (L) ∧ G.le G' ∧ v = .int .i64 r) (by kernel_rfl) rfl rfl ?_)
 refine .seq (.region (W.q1 (.int .i64 0) rfl (.nil (.seq (.region (W.q2 (.string p0) rfl ?_))))))
 refine W.q2 (.string p1) rfl ?_
 obtain ⟨x1, i2, h3⟩ := bd_inv h
 refine W.lo rfl rfl (Lo.callP (ps := []) (ps' := []) rfl (fn := Tryz.f38) (by kernel_rfl) rfl (mc rfl (mc rfl mn)) O (fun L' O' => g_R_RatSub_ok K p0 p1 O' _ i2)) ?_
 rintro v10 H11 ⟨G4, O5, s6, sm9, rfl⟩
 replace O5 : Ow G4 H11 (L) := O5
 obtain ⟨x12, i13, h14⟩ := bd_inv h3
 refine W.lo rfl rfl (Lo.callP (ps := []) (ps' := []) rfl (fn := Tryz.f9) (by kernel_rfl) rfl (mc rfl mn) O5 (fun L' O' => g_R_RatSign_ok K x1 O' _ i13)) ?_
 rintro v21 H22 ⟨G15, O16, s17, sm20, rfl⟩
 replace O16 : Ow G15 H22 (L) := O16
 refine W.q1 (.int .i64 x12) rfl (.nil (.ret ?_))
 obtain rfl := Option.some.inj h14
 refine ret1R (P := Tryz.prog) (fn := Tryz.f12) (n := 9) (R := fun v H' => ∃ G', Ow G' H' (L) ∧ G.le G' ∧ v = .int .i64 x12) (v1 := (.int .i64 x12)) (by rfl) (rr_tmp (by rfl) (by exact rfl)) ?_
 exact ⟨_, O16, (GM.le.trans s6 s17), rfl⟩
def g_R_RatFloor (K : Nat) (p0 : ByteArray) : Option ByteArray := ((g_R_parts K p0).bind fun x1 => ((g_R_NatDiv K x1.2.1 x1.2.2).bind fun x12 => (Option.bind ((if x1.1 = true then some (!(sEq x12.2 (⟨#[48]⟩ : ByteArray))) else some false)) (tu1 fun x30 => (Option.bind ((if x30 = true then ((g_R_NatAdd K x12.1 (⟨#[49]⟩ : ByteArray)).bind fun x45 => some x45) else some x12.1)) (tu1 fun x57 => ((g_R_Canon K x1.1 x57 (⟨#[49]⟩ : ByteArray)).bind fun x67 => some x67)))))))
set_option maxHeartbeats 4000000 in
theorem g_R_RatFloor_ok (K : Nat) {G : GM} {H : AH} {L : List Pc} (p0 : ByteArray) (O : Ow G H (L)) (r : ByteArray) (h : g_R_RatFloor K p0 = some r) :
    CR Tryz.prog 14 [(.string p0)] G H (L) (fun v G' _ => v = .string r) := by
 unfold g_R_RatFloor at h
 refine CR.of (calls_of_AW (n := 30) (fn := Tryz.f14) (R := fun v H' => ∃ G', Ow G' H' (L) ∧ G.le G' ∧ v = .string r) (by kernel_rfl) rfl rfl ?_)
 refine .seq (.region (W.q1 (.string (⟨#[]⟩ : ByteArray)) rfl (.nil (.seq (.region (W.q2 (.string p0) rfl ?_))))))
 obtain ⟨x1, i2, h3⟩ := bd_inv h
 refine W.lo rfl rfl (Lo.callP (ps := []) (ps' := []) rfl (fn := Tryz.f35) (by kernel_rfl) rfl (mc rfl mn) O (fun L' O' => g_R_parts_ok K p0 O' _ i2)) ?_
 rintro v10 H11 ⟨G4, O5, s6, sm9, rfl⟩
 replace O5 : Ow G4 H11 (L) := O5
 refine W.q2 (.tuple #[(.bool x1.1), (.string x1.2.1), (.string x1.2.2)]) rfl (W.pure (v := (.bool x1.1)) rfl rfl (v_extract (oo rfl rfl) rfl) (W.pure (v := (.string x1.2.1)) rfl rfl (v_extract (oo rfl rfl) rfl) (W.pure (v := (.string x1.2.2)) rfl rfl (v_extract (oo rfl rfl) rfl) (W.q1 (.bool x1.1) rfl (W.q1 (.string x1.2.1) rfl (W.q1 (.string x1.2.2) rfl ?_))))))
 refine .nil (.seq (.region (W.q2 (.string x1.2.1) rfl (W.q2 (.string x1.2.2) rfl ?_))))
 obtain ⟨x12, i13, h14⟩ := bd_inv h3
 refine W.lo rfl rfl (Lo.callP (ps := []) (ps' := []) rfl (fn := Tryz.f43) (by kernel_rfl) rfl (mc rfl (mc rfl mn)) O5 (fun L' O' => g_R_NatDiv_ok K x1.2.1 x1.2.2 O' _ i13)) ?_
 rintro v21 H22 ⟨G15, O16, s17, sm20, rfl⟩
 replace O16 : Ow G15 H22 (L) := O16
 refine W.q2 (.tuple #[(.string x12.1), (.string x12.2)]) rfl (W.pure (v := (.string x12.1)) rfl rfl (v_extract (oo rfl rfl) rfl) (W.pure (v := (.string x12.2)) rfl rfl (v_extract (oo rfl rfl) rfl) (W.q1 (.string x12.1) rfl (W.q1 (.string x12.2) rfl (.nil (.seq ?_))))))
 refine .seq ?_
 obtain ⟨q23, h24, h25⟩ := bd_inv h14
 refine AW.midT (fun σ' H' => ∃ (y1 : Bool) (G' : GM), y1 = q23 ∧ Ow G' H' (L) ∧ GM.le G15 G' ∧ σ' 24 = .bool y1) ?_ ?_
 ·refine .region (W.q2 (.bool x1.1) rfl (W.q2 (.bool x1.1) rfl (W.splitAt (t := 21) (b := x1.1) rfl (fun g26 gv27 => ?_) (fun g26 gv27 => ?_))))
  rotate_left
  ·have h29 := neg_b g26 h24
   refine W.q6 rfl gv27 (W.q6 rfl gv27 (W.q5 (.bool false) gv27 rfl (.nil ?_)))
   obtain rfl := Option.some.inj h29
   exact ⟨false, _, rfl, O16, (GM.le.refl _), rfl⟩
  have h28 := pos_inv g26 h24
  refine W.q2 (hg := gk rfl rfl gv27 rfl) (.string x12.2) rfl (W.pure (v := (.bool (!(sEq x12.2 (⟨#[48]⟩ : ByteArray))))) (gk rfl rfl gv27 rfl) rfl (vs_neq (oo rfl rfl) (oo rfl rfl)) (W.q4 (.bool (!(sEq x12.2 (⟨#[48]⟩ : ByteArray)))) gv27 rfl (.nil ?_)))
  obtain rfl := Option.some.inj h28
  exact ⟨(!(sEq x12.2 (⟨#[48]⟩ : ByteArray))), _, rfl, O16, (GM.le.refl _), rfl⟩
 rintro σ31 H32 fr33 ⟨x30, G34, rfl, O35, s36, t38⟩
 have h39 := tu1_inv h25
 obtain ⟨q40, h41, h42⟩ := bd_inv h39
 refine AW.midT (fun σ' H' => ∃ (y1 : ByteArray) (G' : GM), y1 = q40 ∧ Ow G' H' (L) ∧ GM.le G34 G' ∧ σ' 6 = .string y1) ?_ ?_
 ·refine .cond (b := x30) rfl t38 (fun g43 => ?_) (fun g43 => ?_)
  rotate_left
  ·have h56 := neg_b g43 h41
   refine .skip ?_
   obtain rfl := Option.some.inj h56
   exact ⟨x12.1, _, rfl, O35, (GM.le.refl _), ((fr33 6 rfl).trans rfl)⟩
  have h44 := pos_inv g43 h41
  refine .region (W.q2 (.string x12.1) ((fr33 6 rfl).trans rfl) ?_)
  obtain ⟨x45, i46, h47⟩ := bd_inv h44
  refine W.lo rfl rfl (Lo.callP (ps := []) (ps' := []) rfl (fn := Tryz.f44) (by kernel_rfl) rfl (mc rfl (mc rfl mn)) O35 (fun L' O' => g_R_NatAdd_ok K x12.1 (⟨#[49]⟩ : ByteArray) O' _ i46)) ?_
  rintro v54 H55 ⟨G48, O49, s50, sm53, rfl⟩
  replace O49 : Ow G48 H55 (L) := O49
  refine W.q1 (.string x45) rfl (.nil ?_)
  obtain rfl := Option.some.inj h47
  exact ⟨x45, _, rfl, O49, s50, rfl⟩
 rintro σ58 H59 fr60 ⟨x57, G61, rfl, O62, s63, t65⟩
 have h66 := tu1_inv h42
 refine .seq (.region (W.q2 (.bool x1.1) ((fr60 3 rfl).trans ((fr33 3 rfl).trans rfl)) (W.q2 (.string x57) t65 ?_)))
 obtain ⟨x67, i68, h69⟩ := bd_inv h66
 refine W.lo rfl rfl (Lo.callP (ps := []) (ps' := []) rfl (fn := Tryz.f45) (by kernel_rfl) rfl (mc rfl (mc rfl (mc rfl mn))) O62 (fun L' O' => g_R_Canon_ok K x1.1 x57 (⟨#[49]⟩ : ByteArray) O' _ i68)) ?_
 rintro v76 H77 ⟨G70, O71, s72, sm75, rfl⟩
 replace O71 : Ow G70 H77 (L) := O71
 refine W.q1 (.string x67) rfl (.nil (.ret ?_))
 obtain rfl := Option.some.inj h69
 refine ret1R (P := Tryz.prog) (fn := Tryz.f14) (n := 30) (R := fun v H' => ∃ G', Ow G' H' (L) ∧ G.le G' ∧ v = .string x67) (v1 := (.string x67)) (by rfl) (rr_tmp (by rfl) (by exact rfl)) ?_
 exact ⟨_, O71, (GM.le.trans s6 (GM.le.trans s17 (GM.le.trans s36 (GM.le.trans s63 s72)))), rfl⟩
def g_R_RatInt_l0 (K : Nat) : Nat → Int → ByteArray → Option (ByteArray)
  | 0, _, _ => none
  | k + 1, x7, x8 => (Option.bind ((if (decide (x7 > 0)) = true then some true else some (sEq x8 (⟨#[]⟩ : ByteArray)))) (tu1 fun x25 => (if x25 = true then ((ssl (⟨#[48, 49, 50, 51, 52, 53, 54, 55, 56, 57]⟩ : ByteArray) (Int.tmod x7 10) (kwrap .i64 ((Int.tmod x7 10) + 1))).bind fun x37 => (if (x37).size + (x8).size ≤ 4611686018427387904 then g_R_RatInt_l0 K k (kwrap .i64 (Int.tdiv x7 10)) (x37 ++ x8) else none)) else some x8)))
def g_R_RatInt (K : Nat) : Nat → Int → Option ByteArray
  | 0, _ => none
  | D + 1, p0 => (if (decide (p0 ≥ 0)) = true then (Option.bind (g_R_RatInt_l0 K K p0 (⟨#[]⟩ : ByteArray)) (tu1 fun x43 => some x43)) else (if (p0 == (-9223372036854775808)) = true then some (⟨#[45, 57, 50, 50, 51, 51, 55, 50, 48, 51, 54, 56, 53, 52, 55, 55, 53, 56, 48, 56]⟩ : ByteArray) else (((g_R_RatInt K D) (kwrap .i64 (-p0))).bind fun x57 => (if ((⟨#[45]⟩ : ByteArray)).size + (x57).size ≤ 4611686018427387904 then some ((⟨#[45]⟩ : ByteArray) ++ x57) else none))))
set_option maxHeartbeats 4000000 in
theorem g_R_RatInt_ok (K D : Nat) : ∀ {G : GM} {H : AH} {L : List Pc} (p0 : Int) (O : Ow G H (L)) (r : ByteArray) (h : g_R_RatInt K D p0 = some r),
    CR Tryz.prog 15 [(.int .i64 p0)] G H (L) (fun v G' _ => v = .string r) := by
 induction D with
 | zero => intro G H L p0 O r h; exact none_absurd h
 | succ D ih =>
 intro G H L p0 O r h
 rw [g_R_RatInt] at h
 refine CR.of (calls_of_AW (n := 29) (fn := Tryz.f15) (R := fun v H' => ∃ G', Ow G' H' (L) ∧ G.le G' ∧ v = .string r) (by kernel_rfl) rfl rfl ?_)
 refine .seq (.region (W.q1 (.string (⟨#[]⟩ : ByteArray)) rfl (.nil (.seq (.seq (.region ?_))))))
 refine W.q2 (.int .i64 p0) rfl (W.q3 (.bool (decide (p0 ≥ 0))) rfl rfl (.nil (.cond (b := decide (p0 ≥ 0)) rfl rfl (fun g1 => ?_) (fun g1 => ?_))))
 rotate_left
 ·have h53 := neg_b g1 h
  refine .skip (.seq (.seq (.region (W.q2 (.int .i64 p0) rfl (W.q3 (.bool (p0 == (-9223372036854775808))) rfl rfl (.nil ?_))))))
  refine .cond (b := (p0 == (-9223372036854775808))) rfl rfl (fun g54 => ?_) (fun g54 => ?_)
  ·have h55 := pos_inv g54 h53
   refine .seq (.region (W.q1 (.string (⟨#[45, 57, 50, 50, 51, 51, 55, 50, 48, 51, 54, 56, 53, 52, 55, 55, 53, 56, 48, 56]⟩ : ByteArray)) rfl (.nil (.ret ?_))))
   obtain rfl := Option.some.inj h55
   refine ret1R (P := Tryz.prog) (fn := Tryz.f15) (n := 29) (R := fun v H' => ∃ G', Ow G' H' (L) ∧ G.le G' ∧ v = .string (⟨#[45, 57, 50, 50, 51, 51, 55, 50, 48, 51, 54, 56, 53, 52, 55, 55, 53, 56, 48, 56]⟩ : ByteArray)) (v1 := (.string (⟨#[45, 57, 50, 50, 51, 51, 55, 50, 48, 51, 54, 56, 53, 52, 55, 55, 53, 56, 48, 56]⟩ : ByteArray))) (by rfl) (rr_tmp (by rfl) (by exact rfl)) ?_
   exact ⟨_, O, (GM.le.refl _), rfl⟩
  have h56 := neg_b g54 h53
  refine .skip (.seq (.region (W.q2 (.int .i64 p0) rfl (W.pure (v := (.int .i64 (kwrap .i64 (-p0)))) rfl rfl (v_neg (oo rfl rfl)) ?_))))
  obtain ⟨x57, i58, h59⟩ := bd_inv h56
  refine W.lo rfl rfl (Lo.callP (ps := []) (ps' := []) rfl (fn := Tryz.f15) (by kernel_rfl) rfl (mc rfl mn) O (fun L' O' => ih (kwrap .i64 (-p0)) O' _ i58)) ?_
  rintro v66 H67 ⟨G60, O61, s62, sm65, rfl⟩
  replace O61 : Ow G60 H67 (L) := O61
  obtain ⟨g68, h69⟩ := gd_inv h59
  refine W.pure (v := (.string ((⟨#[45]⟩ : ByteArray) ++ x57))) rfl rfl (vs_add g68 (oo rfl rfl) (oo rfl rfl)) (W.q1 (.string ((⟨#[45]⟩ : ByteArray) ++ x57)) rfl (.nil (.ret ?_)))
  obtain rfl := Option.some.inj h69
  refine ret1R (P := Tryz.prog) (fn := Tryz.f15) (n := 29) (R := fun v H' => ∃ G', Ow G' H' (L) ∧ G.le G' ∧ v = .string ((⟨#[45]⟩ : ByteArray) ++ x57)) (v1 := (.string ((⟨#[45]⟩ : ByteArray) ++ x57))) (by rfl) (rr_tmp (by rfl) (by exact rfl)) ?_
  exact ⟨_, O61, s62, rfl⟩
 have h2 := pos_inv g1 h
 refine .seq (.region (W.q1 (.string (⟨#[]⟩ : ByteArray)) rfl (.nil (.seq ?_))))
 obtain ⟨q3, h4, h5⟩ := bd_inv h2
 refine AW.midT (fun σ' H' => ∃ (y1 : ByteArray) (G' : GM), y1 = q3 ∧ Ow G' H' (L) ∧ GM.le G G' ∧ σ' 3 = .string y1) ?_ ?_
 rotate_left
 ·rintro σ44 H45 fr46 ⟨x43, G47, rfl, O48, s49, t51⟩
  have h52 := tu1_inv h5
  refine .seq (.region (W.q2 (.string x43) t51 (W.q1 (.string x43) rfl (.nil (.ret ?_)))))
  obtain rfl := Option.some.inj h52
  refine ret1R (P := Tryz.prog) (fn := Tryz.f15) (n := 29) (R := fun v H' => ∃ G', Ow G' H' (L) ∧ G.le G' ∧ v = .string x43) (v1 := (.string x43)) (by rfl) (rr_tmp (by rfl) (by exact rfl)) ?_
  exact ⟨_, O48, s49, rfl⟩
 refine .block (AW.loop (α := Nat) (fun k' σ' H' => ∃ (y1 : Int) (y2 : ByteArray) (G' : GM), g_R_RatInt_l0 K k' y1 y2 = some q3 ∧ Ow G' H' (L) ∧ GM.le G G' ∧ σ' 0 = .int .i64 y1 ∧ σ' 3 = .string y2) (fun k' => k') K ⟨p0, (⟨#[]⟩ : ByteArray), _, h4, O, (GM.le.refl _), rfl, rfl⟩ ?_)
 rintro k6
 rintro σ9 H10 fr11 ⟨x7, x8, G12, h15, O13, s14, t16, t17⟩
 rcases k6 with _ | k6
 ·exact none_absurd h15
 rw [g_R_RatInt_l0] at h15
 refine .seq (.seq ?_)
 obtain ⟨q18, h19, h20⟩ := bd_inv h15
 refine AW.midT (fun σ' H' => ∃ (y1 : Bool) (G' : GM), y1 = q18 ∧ Ow G' H' (L) ∧ GM.le G12 G' ∧ σ' 11 = .bool y1) ?_ ?_
 ·refine .region (W.q2 (.int .i64 x7) t16 (W.q3 (.bool (decide (x7 > 0))) rfl rfl (W.q2 (.bool (decide (x7 > 0))) rfl (W.splitAt (t := 8) (b := decide (x7 > 0)) rfl (fun g21 gv22 => ?_) (fun g21 gv22 => ?_)))))
  ·have h23 := pos_inv g21 h19
   refine W.q6 rfl gv22 (W.q6 rfl gv22 (W.q4 (.bool true) gv22 rfl (.nil ?_)))
   obtain rfl := Option.some.inj h23
   exact ⟨true, _, rfl, O13, (GM.le.refl _), rfl⟩
  have h24 := neg_b g21 h19
  refine W.q2 (hg := gk rfl rfl gv22 rfl) (.string x8) t17 (W.pure (v := (.bool (sEq x8 (⟨#[]⟩ : ByteArray)))) (gk rfl rfl gv22 rfl) rfl (vs_eql (oo rfl rfl) (oo rfl rfl)) (W.q5 (.bool (sEq x8 (⟨#[]⟩ : ByteArray))) gv22 rfl (.nil ?_)))
  obtain rfl := Option.some.inj h24
  exact ⟨sEq x8 (⟨#[]⟩ : ByteArray), _, rfl, O13, (GM.le.refl _), rfl⟩
 rintro σ26 H27 fr28 ⟨x25, G29, rfl, O30, s31, t33⟩
 have h34 := tu1_inv h20
 refine .cond (b := x25) rfl t33 (fun g35 => ?_) (fun g35 => ?_)
 rotate_left
 ·have h42 := neg_b g35 h34
  refine .exit ?_
  obtain rfl := Option.some.inj h42
  exact ⟨x8, _, rfl, O30, (GM.le.trans s14 s31), ((fr28 3 rfl).trans t17)⟩
 have h36 := pos_inv g35 h34
 refine .skip (.block (.seq (.region (W.q2 (.int .i64 x7) ((fr28 0 rfl).trans t16) (W.pure (v := (.int .i64 (Int.tmod x7 10))) rfl rfl (v_rem (by decide) (oo rfl rfl) (oo rfl rfl)) (W.q2 (.int .i64 x7) ((fr28 0 rfl).trans t16) ?_))))))
 refine W.pure (v := (.int .i64 (Int.tmod x7 10))) rfl rfl (v_rem (by decide) (oo rfl rfl) (oo rfl rfl)) (W.q3 (.int .i64 (kwrap .i64 ((Int.tmod x7 10) + 1))) rfl rfl ?_)
 obtain ⟨x37, i38, h39⟩ := bd_inv h36
 refine W.pure (v := (.string x37)) rfl rfl (v_sslLH un9 (oo rfl rfl) (oo rfl rfl) (oo rfl rfl) i38) (W.q2 (.string x8) ((fr28 3 rfl).trans t17) ?_)
 obtain ⟨g40, h41⟩ := gd_inv h39
 refine W.pure (v := (.string (x37 ++ x8))) rfl rfl (vs_add g40 (oo rfl rfl) (oo rfl rfl)) (W.q1 (.string (x37 ++ x8)) rfl (.nil (.region (W.q2 (.int .i64 x7) ((fr28 0 rfl).trans t16) (W.pure (v := (.int .i64 (kwrap .i64 (Int.tdiv x7 10)))) rfl rfl (v_quo (by decide) (oo rfl rfl) (oo rfl rfl)) (W.q1 (.int .i64 (kwrap .i64 (Int.tdiv x7 10))) rfl ?_))))))
 refine .nil ?_
 exact ⟨k6, Nat.lt_succ_self _, ⟨kwrap .i64 (Int.tdiv x7 10), (x37 ++ x8), _, h41, O30, (GM.le.trans s14 s31), rfl, rfl⟩⟩
def g_law_RatIntegers (K : Nat) (p0 : ByteArray) : Option Bool := ((g_law_ratFact K ).bind fun x1 => (if (!x1) = true then some false else ((g_rat_Integer K p0).bind fun x15 => ((g_R_RatError K p0).bind fun x26 => (Option.bind ((if (x26 == 0) = true then ((g_law_long K 100 [p0]).bind fun x47 => some (!x47)) else some false)) (tu1 fun x60 => (bindS ((if x60 = true then ((g_R_RatFloor K p0).bind fun x75 => (if (!(sEq x75 p0)) = true then some (.inr 3) else (Option.bind (((g_R_RatCmp K p0 (⟨#[57, 50, 50, 51, 51, 55, 50, 48, 51, 54, 56, 53, 52, 55, 55, 53, 56, 48, 55]⟩ : ByteArray)).bind fun x92 => (if (decide (x92 > 0)) = true then some true else ((g_R_RatCmp K p0 (⟨#[45, 57, 50, 50, 51, 51, 55, 50, 48, 51, 54, 56, 53, 52, 55, 55, 53, 56, 48, 56]⟩ : ByteArray)).bind fun x107 => some (decide (x107 < 0)))))) (tu1 fun x118 => (if x118 = true then some (.inr 4) else some (.inr x26)))))) else (if (x26 == 0) = true then (Option.bind ((if (x15.2 == 3) = true then some true else some (x15.2 == 4))) (tu1 fun x141 => some (.inl x141))) else some (.inr x26)))) (tu1 fun a211 => some a211) (tu1 fun x153 => (if (x153 != 0) = true then (Option.bind ((if (x15.2 == x153) = true then some (x15.1 == 0) else some false)) (tu1 fun x172 => some x172)) else (Option.bind ((if (x15.2 == 0) = true then ((g_R_RatInt K K x15.1).bind fun x189 => some (sEq x189 p0)) else some false)) (tu1 fun x201 => some x201)))))))))))
set_option maxHeartbeats 4000000 in
theorem g_law_RatIntegers_ok (K : Nat) {G : GM} {H : AH} {L : List Pc} (p0 : ByteArray) (O : Ow G H (L)) (r : Bool) (h : g_law_RatIntegers K p0 = some r) :
    CR Tryz.prog 4 [(.string p0)] G H (L) (fun v G' _ => v = .bool r) := by
 unfold g_law_RatIntegers at h
 refine CR.of (calls_of_AW (n := 62) (fn := Tryz.f4) (R := fun v H' => ∃ G', Ow G' H' (L) ∧ G.le G' ∧ v = .bool r) (by kernel_rfl) rfl rfl ?_)
 refine .seq (.region (W.q1 (.bool false) rfl (.nil (.seq (.seq (.region ?_))))))
 obtain ⟨x1, i2, h3⟩ := bd_inv h
 refine W.lo rfl rfl (Lo.callP (ps := []) (ps' := []) rfl (fn := Tryz.f5) (by kernel_rfl) rfl mn O (fun L' O' => g_law_ratFact_ok K  O' _ i2)) ?_
 rintro v10 H11 ⟨G4, O5, s6, sm9, rfl⟩
 replace O5 : Ow G4 H11 (L) := O5
 refine W.pure (v := (.bool (!x1))) rfl rfl (bool_not (a := x1) (oo rfl rfl)) (.nil (.cond (b := (!x1)) rfl rfl (fun g12 => ?_) (fun g12 => ?_)))
 ·have h13 := pos_inv g12 h3
  refine .seq (.region (W.q1 (.bool false) rfl (.nil (.ret ?_))))
  obtain rfl := Option.some.inj h13
  refine ret1R (P := Tryz.prog) (fn := Tryz.f4) (n := 62) (R := fun v H' => ∃ G', Ow G' H' (L) ∧ G.le G' ∧ v = .bool false) (v1 := (.bool false)) (by rfl) (rr_tmp (by rfl) (by exact rfl)) ?_
  exact ⟨_, O5, s6, rfl⟩
 have h14 := neg_b g12 h3
 refine .skip (.seq (.region (W.q2 (.string p0) rfl ?_)))
 obtain ⟨x15, i16, h17⟩ := bd_inv h14
 refine W.lo rfl rfl (Lo.callP (ps := []) (ps' := []) rfl (fn := Tryz.f13) (by kernel_rfl) rfl (mc rfl mn) O5 (fun L' O' => g_rat_Integer_ok K p0 O' _ i16)) ?_
 rintro v24 H25 ⟨G18, O19, s20, sm23, rfl⟩
 replace O19 : Ow G18 H25 (L) := O19
 refine W.q2 (.tuple #[(.int .i64 x15.1), (.int .i64 x15.2)]) rfl (W.pure (v := (.int .i64 x15.1)) rfl rfl (v_extract (oo rfl rfl) rfl) (W.pure (v := (.int .i64 x15.2)) rfl rfl (v_extract (oo rfl rfl) rfl) (W.q1 (.int .i64 x15.1) rfl (W.q1 (.int .i64 x15.2) rfl (.nil (.seq ?_))))))
 refine .region (W.q2 (.string p0) rfl ?_)
 obtain ⟨x26, i27, h28⟩ := bd_inv h17
 refine W.lo rfl rfl (Lo.callP (ps := []) (ps' := []) rfl (fn := Tryz.f8) (by kernel_rfl) rfl (mc rfl mn) O19 (fun L' O' => g_R_RatError_ok K p0 O' _ i27)) ?_
 rintro v35 H36 ⟨G29, O30, s31, sm34, rfl⟩
 replace O30 : Ow G29 H36 (L) := O30
 refine W.q1 (.int .i64 x26) rfl (.nil (.seq (.seq ?_)))
 obtain ⟨q37, h38, h39⟩ := bd_inv h28
 refine AW.midT (fun σ' H' => ∃ (y1 : Bool) (G' : GM), y1 = q37 ∧ Ow G' H' (L) ∧ GM.le G29 G' ∧ σ' 22 = .bool y1) ?_ ?_
 ·refine .region (W.q2 (.int .i64 x26) rfl (W.q3 (.bool (x26 == 0)) rfl rfl (W.q2 (.bool (x26 == 0)) rfl (W.splitAt (t := 17) (b := (x26 == 0)) rfl (fun g40 gv41 => ?_) (fun g40 gv41 => ?_)))))
  rotate_left
  ·have h59 := neg_b g40 h38
   refine W.q6 rfl gv41 (W.q6 rfl gv41 (W.q6 rfl gv41 (W.q6 rfl gv41 (W.q5 (.bool false) gv41 rfl (.nil ?_)))))
   obtain rfl := Option.some.inj h59
   exact ⟨false, _, rfl, O30, (GM.le.refl _), rfl⟩
  have h42 := pos_inv g40 h38
  refine W.q2 (hg := gk rfl rfl gv41 rfl) (.string p0) rfl (W.lo (gk rfl rfl gv41 rfl) rfl (Lo.buildSlice (r := rS) (vs := [(.string p0)]) (xs := [p0]) el56 ze9 sz9 (by kernel_rfl) rfl (qc rfl qn) rfl (.cons rfl .nil) O30) ?_)
  rintro v45 H46 ⟨O43, sm44⟩
  obtain ⟨x47, i48, h49⟩ := bd_inv h42
  refine W.lo (gk rfl rfl gv41 rfl) rfl (Lo.callB (j := 0) rfl rfl (fn := Tryz.f11) (by kernel_rfl) rfl (mc rfl (mc rfl mn)) O43 (fun G' L' hG O' hB => g_law_long_ok K 100 v45 [p0] hB O' _ i48)) ?_
  rintro v56 H57 ⟨G50, O51, s52, sm55, rfl⟩
  replace O51 : Ow G50 H57 (eSl v45 9 rS [p0] :: L) := O51
  refine W.pure (v := (.bool (!x47))) (gk rfl rfl gv41 rfl) rfl (bool_not (a := x47) (oo rfl rfl)) (W.q4 (.bool (!x47)) gv41 rfl (.nil ?_))
  have O58 : Ow G50 H57 (L) := O51.drop 0
  obtain rfl := Option.some.inj h49
  exact ⟨(!x47), _, rfl, O58, s52, rfl⟩
 rintro σ61 H62 fr63 ⟨x60, G64, rfl, O65, s66, t68⟩
 have h69 := tu1_inv h39
 obtain ⟨q70, h71, h72⟩ := bindS_inv h69
 refine AW.midT (fun σ' H' => ∃ (y1 : Int) (G' : GM), (.inr y1) = q70 ∧ Ow G' H' (L) ∧ GM.le G64 G' ∧ σ' 5 = .int .i64 y1) ?_ ?_
 rotate_left
 ·rintro σ154 H155 fr156 ⟨x153, G157, rfl, O158, s159, t161⟩
  have h162 := tu1_inv (outS_r h72)
  refine .seq (.seq (.region (W.q2 (.int .i64 x153) t161 (W.q3 (.bool (x153 != 0)) rfl rfl (.nil (.cond (b := (x153 != 0)) rfl rfl (fun g163 => ?_) (fun g163 => ?_)))))))
  ·have h164 := pos_inv g163 h162
   refine .seq ?_
   obtain ⟨q165, h166, h167⟩ := bd_inv h164
   refine AW.midT (fun σ' H' => ∃ (y1 : Bool) (G' : GM), y1 = q165 ∧ Ow G' H' (L) ∧ GM.le G157 G' ∧ σ' 2 = .bool y1) ?_ ?_
   rotate_left
   ·rintro σ173 H174 fr175 ⟨x172, G176, rfl, O177, s178, t180⟩
    have h181 := tu1_inv h167
    refine .ret ?_
    obtain rfl := Option.some.inj h181
    refine ret1R (P := Tryz.prog) (fn := Tryz.f4) (n := 62) (R := fun v H' => ∃ G', Ow G' H' (L) ∧ G.le G' ∧ v = .bool x172) (v1 := (.bool x172)) (by rfl) (rr_tmp (by rfl) (by exact t180)) ?_
    exact ⟨_, O177, (GM.le.trans s6 (GM.le.trans s20 (GM.le.trans s31 (GM.le.trans s66 (GM.le.trans s159 s178))))), rfl⟩
   refine .region (W.q2 (.int .i64 x15.2) ((fr156 4 rfl).trans ((fr63 4 rfl).trans rfl)) (W.q2 (.int .i64 x153) t161 (W.q3 (.bool (x15.2 == x153)) rfl rfl (W.q2 (.bool (x15.2 == x153)) rfl (W.splitAt (t := 50) (b := (x15.2 == x153)) rfl (fun g168 gv169 => ?_) (fun g168 gv169 => ?_))))))
   rotate_left
   ·have h171 := neg_b g168 h166
    refine W.q6 rfl gv169 (W.q6 rfl gv169 (W.q5 (.bool false) gv169 rfl (W.q1 (.bool false) rfl (.nil ?_))))
    obtain rfl := Option.some.inj h171
    exact ⟨false, _, rfl, O158, (GM.le.refl _), rfl⟩
   have h170 := pos_inv g168 h166
   refine W.q2 (hg := gk rfl rfl gv169 rfl) (.int .i64 x15.1) ((fr156 3 rfl).trans ((fr63 3 rfl).trans rfl)) (W.q3 (hg := gk rfl rfl gv169 rfl) (.bool (x15.1 == 0)) rfl rfl (W.q4 (.bool (x15.1 == 0)) gv169 rfl (W.q1 (.bool (x15.1 == 0)) rfl (.nil ?_))))
   obtain rfl := Option.some.inj h170
   exact ⟨(x15.1 == 0), _, rfl, O158, (GM.le.refl _), rfl⟩
  have h182 := neg_b g163 h162
  refine .skip (.seq ?_)
  obtain ⟨q183, h184, h185⟩ := bd_inv h182
  refine AW.midT (fun σ' H' => ∃ (y1 : Bool) (G' : GM), y1 = q183 ∧ Ow G' H' (L) ∧ GM.le G157 G' ∧ σ' 2 = .bool y1) ?_ ?_
  rotate_left
  ·rintro σ202 H203 fr204 ⟨x201, G205, rfl, O206, s207, t209⟩
   have h210 := tu1_inv h185
   refine .ret ?_
   obtain rfl := Option.some.inj h210
   refine ret1R (P := Tryz.prog) (fn := Tryz.f4) (n := 62) (R := fun v H' => ∃ G', Ow G' H' (L) ∧ G.le G' ∧ v = .bool x201) (v1 := (.bool x201)) (by rfl) (rr_tmp (by rfl) (by exact t209)) ?_
   exact ⟨_, O206, (GM.le.trans s6 (GM.le.trans s20 (GM.le.trans s31 (GM.le.trans s66 (GM.le.trans s159 s207))))), rfl⟩
  refine .region (W.q2 (.int .i64 x15.2) ((fr156 4 rfl).trans ((fr63 4 rfl).trans rfl)) (W.q3 (.bool (x15.2 == 0)) rfl rfl (W.q2 (.bool (x15.2 == 0)) rfl (W.splitAt (t := 56) (b := (x15.2 == 0)) rfl (fun g186 gv187 => ?_) (fun g186 gv187 => ?_)))))
  rotate_left
  ·have h200 := neg_b g186 h184
   refine W.q6 rfl gv187 (W.q6 rfl gv187 (W.q6 rfl gv187 (W.q6 rfl gv187 (W.q5 (.bool false) gv187 rfl (W.q1 (.bool false) rfl (.nil ?_))))))
   obtain rfl := Option.some.inj h200
   exact ⟨false, _, rfl, O158, (GM.le.refl _), rfl⟩
  have h188 := pos_inv g186 h184
  refine W.q2 (hg := gk rfl rfl gv187 rfl) (.int .i64 x15.1) ((fr156 3 rfl).trans ((fr63 3 rfl).trans rfl)) ?_
  obtain ⟨x189, i190, h191⟩ := bd_inv h188
  refine W.lo (gk rfl rfl gv187 rfl) rfl (Lo.callP (ps := []) (ps' := []) rfl (fn := Tryz.f15) (by kernel_rfl) rfl (mc rfl mn) O158 (fun L' O' => g_R_RatInt_ok K K x15.1 O' _ i190)) ?_
  rintro v198 H199 ⟨G192, O193, s194, sm197, rfl⟩
  replace O193 : Ow G192 H199 (L) := O193
  refine W.q2 (hg := gk rfl rfl gv187 rfl) (.string p0) ((fr156 0 rfl).trans ((fr63 0 rfl).trans rfl)) (W.pure (v := (.bool (sEq x189 p0))) (gk rfl rfl gv187 rfl) rfl (vs_eql (oo rfl rfl) (oo rfl rfl)) (W.q4 (.bool (sEq x189 p0)) gv187 rfl (W.q1 (.bool (sEq x189 p0)) rfl (.nil ?_))))
  obtain rfl := Option.some.inj h191
  exact ⟨sEq x189 p0, _, rfl, O193, s194, rfl⟩
 refine .cond (b := x60) rfl t68 (fun g73 => ?_) (fun g73 => ?_)
 rotate_left
 ·have h131 := neg_b g73 h71
  refine .seq (.region (W.q2 (.int .i64 x26) ((fr63 5 rfl).trans rfl) (W.q3 (.bool (x26 == 0)) rfl rfl (.nil (.cond (b := (x26 == 0)) rfl rfl (fun g132 => ?_) (fun g132 => ?_))))))
  rotate_left
  ·have h152 := neg_b g132 h131
   refine .skip ?_
   obtain rfl := Option.some.inj h152
   exact ⟨x26, _, rfl, O65, (GM.le.refl _), ((fr63 5 rfl).trans rfl)⟩
  have h133 := pos_inv g132 h131
  refine .seq ?_
  obtain ⟨q134, h135, h136⟩ := bd_inv h133
  refine AW.midT (fun σ' H' => ∃ (y1 : Bool) (G' : GM), y1 = q134 ∧ Ow G' H' (L) ∧ GM.le G64 G' ∧ σ' 2 = .bool y1) ?_ ?_
  rotate_left
  ·rintro σ142 H143 fr144 ⟨x141, G145, rfl, O146, s147, t149⟩
   have h150 := tu1_inv h136
   refine .ret ?_
   obtain rfl := Option.some.inj h150
   have h151 := tu1_inv (outS_l h72)
   obtain rfl := Option.some.inj h151
   refine ret1R (P := Tryz.prog) (fn := Tryz.f4) (n := 62) (R := fun v H' => ∃ G', Ow G' H' (L) ∧ G.le G' ∧ v = .bool x141) (v1 := (.bool x141)) (by rfl) (rr_tmp (by rfl) (by exact t149)) ?_
   exact ⟨_, O146, (GM.le.trans s6 (GM.le.trans s20 (GM.le.trans s31 (GM.le.trans s66 s147)))), rfl⟩
  refine .region (W.q2 (.int .i64 x15.2) ((fr63 4 rfl).trans rfl) (W.q3 (.bool (x15.2 == 3)) rfl rfl (W.q2 (.bool (x15.2 == 3)) rfl (W.splitAt (t := 41) (b := (x15.2 == 3)) rfl (fun g137 gv138 => ?_) (fun g137 gv138 => ?_)))))
  ·have h139 := pos_inv g137 h135
   refine W.q6 rfl gv138 (W.q6 rfl gv138 (W.q4 (.bool true) gv138 rfl (W.q1 (.bool true) rfl (.nil ?_))))
   obtain rfl := Option.some.inj h139
   exact ⟨true, _, rfl, O65, (GM.le.refl _), rfl⟩
  have h140 := neg_b g137 h135
  refine W.q2 (hg := gk rfl rfl gv138 rfl) (.int .i64 x15.2) ((fr63 4 rfl).trans rfl) (W.q3 (hg := gk rfl rfl gv138 rfl) (.bool (x15.2 == 4)) rfl rfl (W.q5 (.bool (x15.2 == 4)) gv138 rfl (W.q1 (.bool (x15.2 == 4)) rfl (.nil ?_))))
  obtain rfl := Option.some.inj h140
  exact ⟨(x15.2 == 4), _, rfl, O65, (GM.le.refl _), rfl⟩
 have h74 := pos_inv g73 h71
 refine .block (.seq (.region (W.q2 (.string p0) ((fr63 0 rfl).trans rfl) ?_)))
 obtain ⟨x75, i76, h77⟩ := bd_inv h74
 refine W.lo rfl rfl (Lo.callP (ps := []) (ps' := []) rfl (fn := Tryz.f14) (by kernel_rfl) rfl (mc rfl mn) O65 (fun L' O' => g_R_RatFloor_ok K p0 O' _ i76)) ?_
 rintro v84 H85 ⟨G78, O79, s80, sm83, rfl⟩
 replace O79 : Ow G78 H85 (L) := O79
 refine W.q2 (.string p0) ((fr63 0 rfl).trans rfl) (W.pure (v := (.bool (!(sEq x75 p0)))) rfl rfl (vs_neq (oo rfl rfl) (oo rfl rfl)) (W.q1 (.bool (!(sEq x75 p0))) rfl (.nil (.cond (b := (!(sEq x75 p0))) rfl rfl (fun g86 => ?_) (fun g86 => ?_)))))
 ·have h87 := pos_inv g86 h77
  refine .region (W.q1 (.int .i64 3) rfl (.nil ?_))
  obtain rfl := Option.some.inj h87
  exact ⟨3, _, rfl, O79, s80, rfl⟩
 have h88 := neg_b g86 h77
 refine .seq ?_
 obtain ⟨q89, h90, h91⟩ := bd_inv h88
 refine AW.midT (fun σ' H' => ∃ (y1 : Bool) (G' : GM), y1 = q89 ∧ Ow G' H' (L) ∧ GM.le G78 G' ∧ σ' 28 = .bool y1) ?_ ?_
 rotate_left
 ·rintro σ119 H120 fr121 ⟨x118, G122, rfl, O123, s124, t126⟩
  have h127 := tu1_inv h91
  refine .cond (b := x118) rfl t126 (fun g128 => ?_) (fun g128 => ?_)
  rotate_left
  ·have h130 := neg_b g128 h127
   refine .skip ?_
   obtain rfl := Option.some.inj h130
   exact ⟨x26, _, rfl, O123, (GM.le.trans s80 s124), ((fr121 5 rfl).trans ((fr63 5 rfl).trans rfl))⟩
  have h129 := pos_inv g128 h127
  refine .region (W.q1 (.int .i64 4) rfl (.nil ?_))
  obtain rfl := Option.some.inj h129
  exact ⟨4, _, rfl, O123, (GM.le.trans s80 s124), rfl⟩
 refine .region (W.q2 (.string p0) ((fr63 0 rfl).trans rfl) ?_)
 obtain ⟨x92, i93, h94⟩ := bd_inv h90
 refine W.lo rfl rfl (Lo.callP (ps := []) (ps' := []) rfl (fn := Tryz.f12) (by kernel_rfl) rfl (mc rfl (mc rfl mn)) O79 (fun L' O' => g_R_RatCmp_ok K p0 (⟨#[57, 50, 50, 51, 51, 55, 50, 48, 51, 54, 56, 53, 52, 55, 55, 53, 56, 48, 55]⟩ : ByteArray) O' _ i93)) ?_
 rintro v101 H102 ⟨G95, O96, s97, sm100, rfl⟩
 replace O96 : Ow G95 H102 (L) := O96
 refine W.q3 (.bool (decide (x92 > 0))) rfl rfl (W.q2 (.bool (decide (x92 > 0))) rfl (W.splitAt (t := 32) (b := decide (x92 > 0)) rfl (fun g103 gv104 => ?_) (fun g103 gv104 => ?_)))
 ·have h105 := pos_inv g103 h94
  refine W.q6 rfl gv104 (W.q6 rfl gv104 (W.q6 rfl gv104 (W.q4 (.bool true) gv104 rfl (W.q1 (.bool true) rfl (.nil ?_)))))
  obtain rfl := Option.some.inj h105
  exact ⟨true, _, rfl, O96, s97, rfl⟩
 have h106 := neg_b g103 h94
 refine W.q2 (hg := gk rfl rfl gv104 rfl) (.string p0) ((fr63 0 rfl).trans rfl) ?_
 obtain ⟨x107, i108, h109⟩ := bd_inv h106
 refine W.lo (gk rfl rfl gv104 rfl) rfl (Lo.callP (ps := []) (ps' := []) rfl (fn := Tryz.f12) (by kernel_rfl) rfl (mc rfl (mc rfl mn)) O96 (fun L' O' => g_R_RatCmp_ok K p0 (⟨#[45, 57, 50, 50, 51, 51, 55, 50, 48, 51, 54, 56, 53, 52, 55, 55, 53, 56, 48, 56]⟩ : ByteArray) O' _ i108)) ?_
 rintro v116 H117 ⟨G110, O111, s112, sm115, rfl⟩
 replace O111 : Ow G110 H117 (L) := O111
 refine W.q3 (hg := gk rfl rfl gv104 rfl) (.bool (decide (x107 < 0))) rfl rfl (W.q5 (.bool (decide (x107 < 0))) gv104 rfl (W.q1 (.bool (decide (x107 < 0))) rfl (.nil ?_)))
 obtain rfl := Option.some.inj h109
 exact ⟨decide (x107 < 0), _, rfl, O111, (GM.le.trans s97 s112), rfl⟩
end Go.Am.Tryz
/- Plain lemmas for typed functions: loops over lists, texts, whole numbers. -/
namespace Go.Am
open Go
set_option linter.unusedSimpArgs false
set_option linter.unusedVariables false

/-! ### Whole numbers -/
theorem kw {a : Int} (h1 : -9223372036854775808 ≤ a) (h2 : a ≤ 9223372036854775807) : kwrap .i64 a = a := kwrap_in (krange_i64 h1 h2)
theorem kw1 {i n : Nat} (h : i < n) (hn : n ≤ 4611686018427387904) : kwrap .i64 ((i : Int) + 1) = ((i + 1 : Nat) : Int) := by rw [kw (by omega) (by omega)]; omega
theorem idx_nat {α : Type} {xs : List α} {i : Nat} {x : α} (h : xs[i]? = some x) : idx xs (i : Int) = some x := by
  unfold idx
  rw [if_neg (by omega)]
  simpa using h
theorem lt_nat {i n : Nat} (h : i < n) : decide ((i : Int) < (n : Int)) = true := by simp; omega
theorem nlt_nat {i n : Nat} (h : n ≤ i) : decide ((i : Int) < (n : Int)) = false := by simp; omega

/-! ### Loops over a list that may end early -/
@[simp] theorem Sum.elim_ite {α β γ : Type} (f : α → γ) (g : β → γ) (c : Prop) [Decidable c] (x y : α ⊕ β) : Sum.elim f g (if c then x else y) = if c then Sum.elim f g x else Sum.elim f g y := by split <;> rfl
def runS {α S E : Type} (chk : α → S → E ⊕ S) : List α → S → E ⊕ S
  | [], s => .inr s
  | x :: xs, s => Sum.elim .inl (runS chk xs) (chk x s)
/-- A loop with a counter comes to what the list says. -/
theorem loop_sum {α S E : Type} (xs : List α) (l : Nat → S → Int → Option (E ⊕ S)) (chk : α → S → E ⊕ S) (I : S → Nat → Prop)
    (h : ∀ k s (i : Nat) x, xs[i]? = some x → I s i → l (k + 1) s i = Sum.elim (fun e => some (.inl e)) (fun s' => l k s' ((i + 1 : Nat) : Int)) (chk x s))
    (hI : ∀ s (i : Nat) x s', xs[i]? = some x → I s i → chk x s = .inr s' → I s' (i + 1))
    (h0 : ∀ k s (i : Nat), xs.length ≤ i → l (k + 1) s i = some (.inr s)) : ∀ d k s (i : Nat), xs.length - i = d → d < k → I s i → l k s i = some (runS chk (xs.drop i) s) := by
  intro d
  induction d with
  | zero =>
    intro k s i hd hk _
    obtain ⟨k, rfl⟩ : ∃ m, k = m + 1 := ⟨k - 1, by omega⟩
    rw [h0 k s i (by omega), List.drop_eq_nil_of_le (by omega)]; rfl
  | succ d ih =>
    intro k s i hd hk hi
    obtain ⟨k, rfl⟩ : ∃ m, k = m + 1 := ⟨k - 1, by omega⟩
    have hl : i < xs.length := by omega
    have hx : xs[i]? = some xs[i] := List.getElem?_eq_getElem hl
    rw [h k s i _ hx hi, List.drop_eq_getElem_cons hl, runS]
    cases hc : chk xs[i] s with
    | inl e => rfl
    | inr s' => exact ih k s' (i + 1) (by omega) (by omega) (hI s i _ s' hx hi hc)
theorem loop_sum0 {α S E : Type} (xs : List α) (l : Nat → S → Int → Option (E ⊕ S)) (chk : α → S → E ⊕ S) (I : S → Nat → Prop)
    (h : ∀ k s (i : Nat) x, xs[i]? = some x → I s i → l (k + 1) s i = Sum.elim (fun e => some (.inl e)) (fun s' => l k s' ((i + 1 : Nat) : Int)) (chk x s))
    (hI : ∀ s (i : Nat) x s', xs[i]? = some x → I s i → chk x s = .inr s' → I s' (i + 1))
    (h0 : ∀ k s (i : Nat), xs.length ≤ i → l (k + 1) s i = some (.inr s)) (k : Nat) (s : S) (hk : xs.length < k) (hi : I s 0) : l k s 0 = some (runS chk xs s) := by
  have := loop_sum xs l chk I h hI h0 xs.length k s 0 (by omega) hk hi
  simpa using this


/-! ### Texts -/
theorem sEq_iff {a b : ByteArray} : sEq a b = true ↔ a = b := by
  unfold sEq
  rw [beq_iff_eq, ByteArray.toList_eq, ByteArray.toList_eq]
  constructor
  · intro h
    cases a; cases b
    simp at h
    rw [h]
  · rintro rfl; rfl
theorem bytesOf_length (a : ByteArray) : (bytesOf a).length = a.size := by unfold bytesOf; rw [List.length_map, Array.length_toList]; rfl
theorem bidx_eq (a : ByteArray) (i : Int) : bidx a i = idx (bytesOf a) i := by
  unfold bidx idx
  by_cases h : 0 ≤ i
  · rw [if_pos h, if_neg (by omega)]
    unfold bytesOf
    rw [List.getElem?_map, Array.getElem?_toList]
    rfl
  · rw [if_neg h, if_pos (by omega)]
end Go.Am
/- Numbers: digits in a base, the least one first; decimal texts. Plain, no program. -/
namespace Go.Am
open Go
set_option linter.unusedSimpArgs false
set_option linter.unusedVariables false
/-! ### Digits, the least one first -/
def valB (B : Int) : List Int → Int
  | [] => 0
  | d :: l => d + B * valB B l
def DigB (B : Int) (l : List Int) : Prop := ∀ d ∈ l, 0 ≤ d ∧ d < B
theorem DigB.nil (B : Int) : DigB B [] := fun d h => by simp at h
theorem DigB.cons {B d : Int} {l : List Int} (h : DigB B (d :: l)) : (0 ≤ d ∧ d < B) ∧ DigB B l := ⟨h d (by simp), fun x hx => h x (by simp [hx])⟩
theorem DigB.app {B : Int} {l m : List Int} (h : DigB B l) (k : DigB B m) : DigB B (l ++ m) := fun d hd => by
  rcases List.mem_append.1 hd with hd | hd
  · exact h d hd
  · exact k d hd
theorem valB_app (B : Int) : ∀ (l m : List Int), valB B (l ++ m) = valB B l + B ^ l.length * valB B m
  | [], m => by simp [valB]
  | d :: l, m => by
    simp only [List.cons_append, valB, valB_app B l m, List.length_cons, Int.pow_succ]
    rw [Int.mul_add, ← Int.mul_assoc, Int.mul_comm B (B ^ l.length), Int.add_assoc]
theorem valB_nonneg {B : Int} (hB : 0 < B) : ∀ (l : List Int), DigB B l → 0 ≤ valB B l
  | [], _ => Int.le_refl _
  | d :: l, h => by
    have h1 := (h.cons).1
    have h2 := valB_nonneg hB l h.cons.2
    have := Int.mul_nonneg (Int.le_of_lt hB) h2
    simp only [valB]; omega
theorem valB_lt {B : Int} (hB : 0 < B) : ∀ (l : List Int), DigB B l → valB B l < B ^ l.length
  | [], _ => by simp [valB]
  | d :: l, h => by
    have h1 := (h.cons).1
    have h2 := valB_lt hB l h.cons.2
    have h3 : B * (valB B l + 1) ≤ B * B ^ l.length := Int.mul_le_mul_of_nonneg_left (by omega) (Int.le_of_lt hB)
    rw [Int.mul_add, Int.mul_one] at h3
    simp only [valB, List.length_cons, Int.pow_succ]
    rw [Int.mul_comm (B ^ l.length) B]
    omega
/-- Without a leading nought. -/
def CanB (B : Int) (l : List Int) : Prop := DigB B l ∧ l.getLast? ≠ some 0
theorem CanB.tail {B d : Int} {l : List Int} (h : CanB B (d :: l)) : CanB B l := by
  refine ⟨h.1.cons.2, fun e => h.2 ?_⟩
  cases l with
  | nil => simp at e
  | cons x l => rw [List.getLast?_cons_cons]; exact e
theorem valB_pos {B : Int} (hB : 1 < B) : ∀ (l : List Int), CanB B l → l ≠ [] → 0 < valB B l
  | [], _, h => absurd rfl h
  | d :: l, h, _ => by
    have h1 := h.1.cons.1
    cases l with
    | nil =>
      have : d ≠ 0 := fun e => h.2 (by simp [e])
      simp only [valB]; omega
    | cons x l =>
      have h2 := valB_pos hB (x :: l) h.tail (by simp)
      have h3 : B * 1 ≤ B * valB B (x :: l) := Int.mul_le_mul_of_nonneg_left (by omega) (by omega)
      simp only [valB] at h2 h3 ⊢; omega
theorem digit_eq {B d e x y : Int} (hd : 0 ≤ d ∧ d < B) (he : 0 ≤ e ∧ e < B) (h : d + B * x = e + B * y) : d = e ∧ x = y := by
  have h1 : x = y := by
    rcases Int.lt_trichotomy x y with h2 | h2 | h2
    · have : B * (x + 1) ≤ B * y := Int.mul_le_mul_of_nonneg_left (by omega) (by omega)
      rw [Int.mul_add, Int.mul_one] at this; omega
    · exact h2
    · have : B * (y + 1) ≤ B * x := Int.mul_le_mul_of_nonneg_left (by omega) (by omega)
      rw [Int.mul_add, Int.mul_one] at this; omega
  subst h1
  exact ⟨by omega, rfl⟩
/-- The digits of a number are given by it. -/
theorem can_eq {B : Int} (hB : 1 < B) : ∀ (l m : List Int), CanB B l → CanB B m → valB B l = valB B m → l = m
  | [], [], _, _, _ => rfl
  | [], e :: m, _, h2, h => by
    have := valB_pos hB (e :: m) h2 (by simp)
    rw [← h] at this; simp [valB] at this
  | d :: l, [], h1, _, h => by
    have := valB_pos hB (d :: l) h1 (by simp)
    rw [h] at this; simp [valB] at this
  | d :: l, e :: m, h1, h2, h => by
    obtain ⟨rfl, h3⟩ := digit_eq h1.1.cons.1 h2.1.cons.1 h
    rw [can_eq hB l m h1.tail h2.tail h3]
/-! ### Decimal texts -/
def digT (c : Int) : Bool := decide (48 ≤ c) && decide (c ≤ 57)
/-- The digits of a text, the least one first. -/
def digsT (s : ByteArray) : List Int := ((bytesOf s).map (· - 48)).reverse
def numT (s : ByteArray) : Int := valB 10 (digsT s)
/-- A text is a canonical number. -/
def CanT (s : ByteArray) : Prop := s.size ≠ 0 ∧ (bytesOf s).all digT = true ∧ ((bytesOf s).head? = some 48 → s.size = 1)
theorem bytesOf_inj {a b : ByteArray} (h : bytesOf a = bytesOf b) : a = b := by
  unfold bytesOf at h
  have h1 : a.data.toList = b.data.toList := by
    have : Function.Injective fun b : UInt8 => (b.toNat : Int) := fun x y h => by
      have : x.toNat = y.toNat := by have h' : (x.toNat : Int) = (y.toNat : Int) := h; omega
      exact UInt8.toNat_inj.1 this
    exact List.map_inj_right (fun x y h => this h) |>.1 h
  cases a; cases b
  congr 1
  exact Array.toList_inj.1 h1
theorem digsT_dig {s : ByteArray} (h : (bytesOf s).all digT = true) : DigB 10 (digsT s) := by
  intro d hd
  unfold digsT at hd
  rw [List.mem_reverse, List.mem_map] at hd
  obtain ⟨c, hc, rfl⟩ := hd
  have := List.all_eq_true.1 h c hc
  simp only [digT, Bool.and_eq_true, decide_eq_true_eq] at this
  omega
theorem digsT_len (s : ByteArray) : (digsT s).length = s.size := by
  unfold digsT
  rw [List.length_reverse, List.length_map, bytesOf_length]
theorem digsT_inj {a b : ByteArray} (h : digsT a = digsT b) : a = b := by
  unfold digsT at h
  have h1 := List.reverse_inj.1 h
  exact bytesOf_inj (List.map_inj_right (fun x y h => by omega) |>.1 h1)
theorem canT_nought {s : ByteArray} (h : CanT s) (h0 : (bytesOf s).head? = some 48) : digsT s = [0] := by
  have h1 := h.2.2 h0
  have hl := bytesOf_length s
  rw [h1] at hl
  match hb : bytesOf s, hl with
  | [c], _ => rw [hb] at h0; simp at h0; subst h0; simp [digsT, hb]
theorem canT_can {s : ByteArray} (h : CanT s) (h0 : (bytesOf s).head? ≠ some 48) : CanB 10 (digsT s) := by
  refine ⟨digsT_dig h.2.1, fun e => h0 ?_⟩
  unfold digsT at e
  rw [List.getLast?_reverse, List.head?_map] at e
  cases hb : (bytesOf s).head? with
  | none => rw [hb] at e; cases e
  | some c => rw [hb] at e; simp at e; congr 1; omega
/-- A number has one canonical text. -/
theorem numT_inj {a b : ByteArray} (ha : CanT a) (hb : CanT b) (h : numT a = numT b) : a = b := by
  have pos : ∀ s : ByteArray, CanT s → (bytesOf s).head? ≠ some 48 → 0 < numT s := fun s hs h0 => valB_pos (by omega) _ (canT_can hs h0) (fun e => by
    have := digsT_len s
    rw [e] at this
    exact hs.1 this.symm)
  by_cases h1 : (bytesOf a).head? = some 48 <;> by_cases h2 : (bytesOf b).head? = some 48
  · exact digsT_inj (by rw [canT_nought ha h1, canT_nought hb h2])
  · have := pos b hb h2
    unfold numT at h this
    rw [canT_nought ha h1] at h
    simp [valB] at h; omega
  · have := pos a ha h1
    unfold numT at h this
    rw [canT_nought hb h2] at h
    simp [valB] at h; omega
  · exact digsT_inj (can_eq (by omega) _ _ (canT_can ha h1) (canT_can hb h2) h)
/-! ### Parts of texts -/
theorem bytesOf_extract (a : ByteArray) (i j : Nat) : bytesOf (a.extract i j) = ((bytesOf a).drop i).take (j - i) := by
  unfold bytesOf
  rw [ByteArray.data_extract, Array.toList_extract]
  simp [List.extract, List.map_drop, List.map_take]
theorem bytesOf_append (a b : ByteArray) : bytesOf (a ++ b) = bytesOf a ++ bytesOf b := by
  unfold bytesOf
  rw [ByteArray.data_append, Array.toList_append, List.map_append]
theorem bytesOf_str (xs : List Int) (h : ∀ x ∈ xs, 0 ≤ x ∧ x ≤ 255) : bytesOf (strOfNums xs) = xs := by
  unfold bytesOf
  rw [strOfNums_data, List.map_map]
  conv => rhs; rw [← List.map_id xs]
  apply List.map_congr_left
  intro x hx
  have := h x hx
  show ((UInt8.ofNat x.toNat).toNat : Int) = x
  rw [UInt8.toNat_ofNat']
  omega
theorem ssl_tail {s : ByteArray} {c : Int} {l : List Int} (h : bytesOf s = c :: l) : ∃ t, ssl s 1 (s.size : Int) = some t ∧ bytesOf t = l ∧ t.size = l.length := by
  have hn := bytesOf_length s
  rw [h] at hn
  simp at hn
  refine ⟨s.extract 1 s.size, ?_, ?_, ?_⟩
  · unfold ssl
    rw [if_pos (by omega)]
    simp
  · rw [bytesOf_extract, h]
    simp
    exact List.take_of_length_le (by omega)
  · rw [← bytesOf_length, bytesOf_extract, h]
    simp
    omega
theorem numT_cons {s t : ByteArray} {c : Int} (h : bytesOf s = c :: bytesOf t) : numT s = numT t + 10 ^ t.size * (c - 48) := by
  unfold numT digsT
  rw [h, List.map_cons, List.reverse_cons, valB_app]
  simp [valB, bytesOf_length]
end Go.Am
/- Graphs: connected parts, their numbers, closure of a matrix, ways. Plain, no program. -/
namespace Go.Am
open Go
set_option linter.unusedVariables false
set_option linter.unusedSimpArgs false
def Edg (l : List (Int × Int)) (U : Nat → Bool) (a b : Nat) : Prop := ∃ k, k < l.length ∧ U k = true ∧ (l.getD k (0, 0) = ((a : Int), (b : Int)) ∨ l.getD k (0, 0) = ((b : Int), (a : Int)))
inductive Con (l : List (Int × Int)) (U : Nat → Bool) : Nat → Nat → Prop
  | refl (a : Nat) : Con l U a a
  | tail {a b c : Nat} : Con l U a b → Edg l U b c → Con l U a c
structure Outer (l : List (Int × Int)) (U : Nat → Bool) (n : Nat) (cs : List Int) (m s : Nat) : Prop where
  len : cs.length = n
  rng : ∀ i < n, -1 ≤ cs.getD i 0 ∧ cs.getD i 0 < m
  done : ∀ i < s, i < n → 0 ≤ cs.getD i 0
  cls : ∀ i j, i < n → j < n → 0 ≤ cs.getD i 0 → (cs.getD i 0 = cs.getD j 0 ↔ Con l U i j)
  last : 0 < m → ∃ j < s, j < n ∧ cs.getD j 0 = (m : Int) - 1
  rgs : ∀ i < n, 0 < cs.getD i 0 → ∃ j < i, cs.getD j 0 = cs.getD i 0 - 1
  few : m ≤ s
structure Mid (l : List (Int × Int)) (U : Nat → Bool) (n : Nat) (base : List Int) (m s : Nat) (cs : List Int) : Prop where
  len : cs.length = n
  own : ∀ i < n, (cs.getD i 0 = m ∧ base.getD i 0 = -1 ∧ Con l U s i) ∨ cs.getD i 0 = base.getD i 0
  start : cs.getD s 0 = m
theorem getD_set {cs : List Int} {i j : Nat} {v : Int} (hi : i < cs.length) : (cs.set i v).getD j 0 = if j = i then v else cs.getD j 0 := by
  rw [List.getD_eq_getElem?_getD, List.getElem?_set]
  by_cases h : i = j
  · subst h; simp [hi]
  · rw [if_neg h, if_neg (fun e => h e.symm), List.getD_eq_getElem?_getD]
theorem Edg.symm {l : List (Int × Int)} {U : Nat → Bool} {a b : Nat} (h : Edg l U a b) : Edg l U b a := by
  obtain ⟨k, h1, h2, h3⟩ := h
  exact ⟨k, h1, h2, h3.symm⟩
theorem Con.trans {l : List (Int × Int)} {U : Nat → Bool} {a b c : Nat} (h : Con l U a b) (k : Con l U b c) : Con l U a c := by
  induction k with
  | refl => exact h
  | tail _ e ih => exact .tail ih e
theorem Con.symm {l : List (Int × Int)} {U : Nat → Bool} {a b : Nat} (h : Con l U a b) : Con l U b a := by
  induction h with
  | refl => exact .refl _
  | tail _ e ih => exact (Con.tail (.refl _) e.symm).trans ih
structure EqvOn (M : Nat → Nat → Bool) (n : Nat) : Prop where
  refl : ∀ a < n, M a a = true
  symm : ∀ a b, a < n → b < n → M a b = true → M b a = true
  trans : ∀ a b c, a < n → b < n → c < n → M a b = true → M b c = true → M a c = true
structure NumOk (M : Nat → Nat → Bool) (cs : List Int) (m i : Nat) : Prop where
  len : cs.length = i
  rng : ∀ a < i, 0 ≤ cs.getD a 0 ∧ cs.getD a 0 < m
  cls : ∀ a b, a < i → b < i → (cs.getD a 0 = cs.getD b 0 ↔ M a b = true)
  last : 0 < m → ∃ a < i, cs.getD a 0 = (m : Int) - 1
  rgs : ∀ a < i, 0 < cs.getD a 0 → ∃ b < a, cs.getD b 0 = cs.getD a 0 - 1
  few : m ≤ i
structure WOk (l : List (Int × Int)) (U : Nat → Bool) (n : Nat) (M : Nat → Nat → Bool) (m : Nat) : Prop where
  sound : ∀ a b, a < n → b < n → M a b = true → Con l U a b
  refl : ∀ a < n, M a a = true
  edge : ∀ a b, a < n → b < n → Edg l U a b → M a b = true
  tr : ∀ c < m, ∀ a b, a < n → b < n → M a c = true → M c b = true → M a b = true
/-- There is a walk of exactly k used lines from v to 'to'. -/
def Wk (l : List (Int × Int)) (U : Nat → Bool) (to : Nat) : Nat → Nat → Prop
  | 0, v => v = to
  | k + 1, v => ∃ w, Edg l U v w ∧ Wk l U to k w
structure FarOk (l : List (Int × Int)) (U : Nat → Bool) (n to : Nat) (fs : List Int) (d : Nat) : Prop where
  len : fs.length = n
  rng : ∀ v < n, -1 ≤ fs.getD v 0
  fnd : ∀ v < n, ∀ k : Nat, fs.getD v 0 = k → k ≤ d ∧ Wk l U to k v ∧ ∀ j < k, ¬ Wk l U to j v
  nof : ∀ v < n, fs.getD v 0 = -1 → ∀ j ≤ d, ¬ Wk l U to j v
/-- In the midst of a round: 'fs' the distances at its start, 'gs' now. -/
structure Rnd (l : List (Int × Int)) (U : Nat → Bool) (n to : Nat) (fs gs : List Int) (d : Nat) : Prop where
  len : gs.length = n
  old : ∀ v < n, gs.getD v 0 = fs.getD v 0 ∨ (fs.getD v 0 = -1 ∧ gs.getD v 0 = (d : Int) + 1 ∧ Wk l U to (d + 1) v)
def neg (n : Nat) (fs : List Int) : Nat := ((List.range n).filter fun v => fs.getD v 0 == -1).length
/-! ### Loops -/
theorem loop_inv {S R : Type} (n : Nat) (l : Nat → S → Int → Option R) (I : S → Nat → Prop) (Q : R → Prop)
    (h : ∀ k s (i : Nat), i < n → I s i → (∃ r, l (k + 1) s (i : Int) = some r ∧ Q r) ∨ ∃ s', I s' (i + 1) ∧ l (k + 1) s (i : Int) = l k s' ((i + 1 : Nat) : Int))
    (h0 : ∀ k s (i : Nat), i = n → I s i → ∃ r, l (k + 1) s (i : Int) = some r ∧ Q r) : ∀ k s, n < k → I s 0 → ∃ r, l k s 0 = some r ∧ Q r := by
  have key : ∀ d k s (i : Nat), n - i = d → i ≤ n → d < k → I s i → ∃ r, l k s (i : Int) = some r ∧ Q r := by
    intro d
    induction d with
    | zero =>
      intro k s i hd hi hk hI
      obtain ⟨k, rfl⟩ : ∃ m, k = m + 1 := ⟨k - 1, by omega⟩
      exact h0 k s i (by omega) hI
    | succ d ih =>
      intro k s i hd hi hk hI
      obtain ⟨k, rfl⟩ : ∃ m, k = m + 1 := ⟨k - 1, by omega⟩
      rcases h k s i (by omega) hI with h1 | ⟨s', h1, h2⟩
      · exact h1
      · rw [h2]; exact ih k s' (i + 1) (by omega) (by omega) (by omega) h1
  intro k s hk hI
  exact key n k s 0 (by omega) (Nat.zero_le _) hk hI
theorem loop_wf {S R : Type} (l : Nat → S → Option R) (I : S → Prop) (mu : S → Nat) (Q : R → Prop)
    (h : ∀ k s, I s → (∃ r, l (k + 1) s = some r ∧ Q r) ∨ ∃ s', I s' ∧ mu s' < mu s ∧ l (k + 1) s = l k s') : ∀ k s, mu s < k → I s → ∃ r, l k s = some r ∧ Q r := by
  intro k
  induction k with
  | zero => intro s h1; omega
  | succ k ih =>
    intro s h1 hI
    rcases h k s hI with h2 | ⟨s', h2, h3, h4⟩
    · exact h2
    · rw [h4]; exact ih s' (by omega) h2
/-! ### Lines as rows of two numbers -/
def two (p : Int × Int) : List Int := [p.1, p.2]
theorem idx_getD {cs : List Int} {a : Nat} (h : a < cs.length) : idx cs (a : Int) = some (cs.getD a 0) := by
  apply idx_nat
  simp [h, List.getD_eq_getElem?_getD]
theorem w12 : kwrap .i64 (1 + 1) = 2 := by rw [kw (by omega) (by omega)]; rfl
/-! ### Ways, once more -/
end Go.Am
/- Plain lemmas: rules for typed functions over whole numbers; digits set in place; the guess of a digit of a quotient. -/
namespace Go.Am
open Go
set_option linter.unusedSimpArgs false
set_option linter.unusedVariables false
/-! ### Rules -/
theorem bsome {α β : Type} (a : α) (f : α → Option β) : Option.bind (some a) f = f a := (rfl)
theorem tu0a {β : Type} (g : Option β) (u : Unit) : tu0 g u = g := (rfl)
theorem tu1a {α β : Type} (g : α → Option β) (a : α) : tu1 g a = g a := (rfl)
theorem tu2a {α1 α2 β : Type} (g : α1 → α2 → Option β) (p : α1 × α2) : tu2 g p = g p.1 p.2 := (rfl)
theorem tu3a {α1 α2 α3 β : Type} (g : α1 → α2 → α3 → Option β) (p : α1 × α2 × α3) : tu3 g p = g p.1 p.2.1 p.2.2 := (rfl)
theorem tu4a {α1 α2 α3 α4 β : Type} (g : α1 → α2 → α3 → α4 → Option β) (p : α1 × α2 × α3 × α4) : tu4 g p = g p.1 p.2.1 p.2.2.1 p.2.2.2 := (rfl)
theorem tu5a {α1 α2 α3 α4 α5 β : Type} (g : α1 → α2 → α3 → α4 → α5 → Option β) (p : α1 × α2 × α3 × α4 × α5) : tu5 g p = g p.1 p.2.1 p.2.2.1 p.2.2.2.1 p.2.2.2.2 := (rfl)
theorem lta {α β : Type} (x : α) (f : α → Option β) : lt x f = f x := (rfl)
theorem bindSl {α β γ : Type} (a : α) (f : α → Option γ) (g : β → Option γ) : bindS (some (.inl a)) f g = f a := (rfl)
theorem bindSr {α β γ : Type} (b : β) (f : α → Option γ) (g : β → Option γ) : bindS (some (.inr b)) f g = g b := (rfl)
theorem outSl {α β γ : Type} (a : α) (f : α → Option γ) (g : β → Option γ) : outS (.inl a) f g = f a := (rfl)
theorem outSr {α β γ : Type} (b : β) (f : α → Option γ) (g : β → Option γ) : outS (.inr b) f g = g b := (rfl)
theorem beq_iff {α : Type} [BEq α] [LawfulBEq α] {a b : α} : ((a == b) = true) = (a = b) := propext beq_iff_eq
theorem bne_iff {a b : Int} : ((a != b) = true) = (a ≠ b) := by simp
theorem k64 {a : Int} (h1 : -9223372036854775808 ≤ a) (h2 : a ≤ 9223372036854775807) : kwrap .i64 a = a := kw h1 h2
theorem ku64 {a : Int} (h1 : 0 ≤ a) (h2 : a ≤ 18446744073709551615) : kwrap .u64 a = a := kwrap_in (by simp [krange]; omega)
theorem ku32 {a : Int} (h1 : 0 ≤ a) (h2 : a ≤ 4294967295) : kwrap .u32 a = a := kwrap_in (by simp [krange]; omega)
theorem ku8 {a : Int} (h1 : 0 ≤ a) (h2 : a ≤ 255) : kwrap .u8 a = a := kwrap_in (by simp [krange]; omega)
theorem i64w {a : Int} (h1 : -9223372036854775808 ≤ a) (h2 : a ≤ 9223372036854775807) : IntKind.wrap .i64 a = a := by rw [← kwrap_eq]; exact k64 h1 h2
theorem u64w {a : Int} (h1 : 0 ≤ a) (h2 : a ≤ 18446744073709551615) : IntKind.wrap .u64 a = a := by rw [← kwrap_eq]; exact ku64 h1 h2
theorem u32w {a : Int} (h1 : 0 ≤ a) (h2 : a ≤ 4294967295) : IntKind.wrap .u32 a = a := by rw [← kwrap_eq]; exact ku32 h1 h2
theorem u8w {a : Int} (h1 : 0 ≤ a) (h2 : a ≤ 255) : IntKind.wrap .u8 a = a := by rw [← kwrap_eq]; exact ku8 h1 h2
theorem idxI {xs : List Int} {j : Int} (h1 : 0 ≤ j) (h2 : j < (xs.length : Int)) : idx xs j = some (xs.getD j.toNat 0) := by
  unfold idx
  rw [if_neg (by omega), List.getD_eq_getElem?_getD, List.getElem?_eq_getElem (by omega)]
  rfl
theorem bidxI {s : ByteArray} {j : Int} (h1 : 0 ≤ j) (h2 : j < (s.size : Int)) : bidx s j = some ((bytesOf s).getD j.toNat 0) := by
  rw [bidx_eq]; exact idxI h1 (by rw [bytesOf_length]; exact h2)
theorem lslI {α : Type} {xs : List α} {l h : Int} (h1 : 0 ≤ l) (h2 : l ≤ h) (h3 : h ≤ (xs.length : Int)) : lsl xs l h = some ((xs.drop l.toNat).take (h.toNat - l.toNat)) := by unfold lsl; rw [if_pos ⟨h1, h2, h3⟩]
theorem sslI {s : ByteArray} {l h : Int} (h1 : 0 ≤ l) (h2 : l ≤ h) (h3 : h ≤ (s.size : Int)) : ssl s l h = some (s.extract l.toNat h.toNat) := by unfold ssl; rw [if_pos ⟨h1, h2, h3⟩]
theorem tdivI {a b : Int} (h : 0 ≤ a) : Int.tdiv a b = a / b := Int.tdiv_eq_ediv_of_nonneg h
theorem tmodI {a b : Int} (h : 0 ≤ a) : Int.tmod a b = a % b := Int.tmod_eq_emod_of_nonneg h
/-- A loop: it ends here with what is wanted, or one step keeps the invariant and comes nearer. -/
theorem loopW {S R : Type} (l : Nat → S → Option R) (I : S → Prop) (mu : S → Nat) (Q : R → Prop)
    (h : ∀ k s, I s → (∃ r, l (k + 1) s = some r ∧ Q r) ∨ ∃ s', l (k + 1) s = l k s' ∧ mu s' < mu s ∧ I s') {k : Nat} (s : S) (hk : mu s < k) (hI : I s) : ∃ r, l k s = some r ∧ Q r :=
  loop_wf l I mu Q (fun k s hs => (h k s hs).imp id fun ⟨s', a, b, c⟩ => ⟨s', c, b, a⟩) k s hk hI
/-! ### Digits set in place -/
theorem getD_dig {B : Int} (hB : 0 < B) {x : List Int} (h : DigB B x) (k : Nat) : 0 ≤ x.getD k 0 ∧ x.getD k 0 < B := by
  by_cases hk : k < x.length
  · rw [List.getD_eq_getElem?_getD, List.getElem?_eq_getElem hk]; exact h _ (List.getElem_mem hk)
  · rw [List.getD_eq_getElem?_getD, List.getElem?_eq_none (by omega)]; exact ⟨Int.le_refl _, hB⟩
theorem valB_set (B : Int) : ∀ (l : List Int) (p : Nat) (d : Int), p < l.length → valB B (l.set p d) = valB B l + B ^ p * (d - l.getD p 0)
  | [], p, d, h => by simp at h
  | x :: l, 0, d, _ => by simp [valB]; omega
  | x :: l, p + 1, d, h => by
    have := valB_set B l p d (by simpa using h)
    simp only [List.set_cons_succ, valB, this, List.getD_cons_succ, Int.pow_succ]
    grind
theorem DigB.set {B d : Int} {l : List Int} (h : DigB B l) (p : Nat) (hd : 0 ≤ d ∧ d < B) : DigB B (l.set p d) := fun x hx => by
  rcases List.mem_or_eq_of_mem_set hx with h1 | h1
  · exact h x h1
  · subst h1; exact hd
theorem DigB.take {B : Int} {l : List Int} (h : DigB B l) (k : Nat) : DigB B (l.take k) := fun x hx => h x (List.mem_of_mem_take hx)
theorem DigB.drop {B : Int} {l : List Int} (h : DigB B l) (k : Nat) : DigB B (l.drop k) := fun x hx => h x (List.mem_of_mem_drop hx)
theorem DigB.snoc {B d : Int} {l : List Int} (h : DigB B l) (hd : 0 ≤ d ∧ d < B) : DigB B (l ++ [d]) := h.app fun x hx => by simp at hx; omega
theorem valB_split (B : Int) (l : List Int) (k : Nat) (hk : k ≤ l.length) : valB B l = valB B (l.take k) + B ^ k * valB B (l.drop k) := by
  conv => lhs; rw [← List.take_append_drop k l]
  rw [valB_app, List.length_take, Nat.min_eq_left hk]
theorem valB_zeros (B : Int) (n : Nat) : valB B (List.replicate n 0) = 0 := by
  induction n with
  | zero => rfl
  | succ n ih => simp [List.replicate_succ, valB, ih]
theorem DigB.zeros {B : Int} (hB : 0 < B) (n : Nat) : DigB B (List.replicate n 0) := fun x hx => by
  rw [List.mem_replicate] at hx; omega
theorem valB_take (B : Int) (x : List Int) (k : Nat) : valB B (x.take (k + 1)) = valB B (x.take k) + B ^ k * x.getD k 0 := by
  by_cases h : k < x.length
  · have hx : x[k]? = some x[k] := List.getElem?_eq_getElem h
    rw [List.take_add_one, hx, valB_app, List.length_take, Nat.min_eq_left (by omega), List.getD_eq_getElem?_getD, hx]
    simp [valB]
  · rw [List.take_of_length_le (by omega), List.take_of_length_le (by omega), List.getD_eq_getElem?_getD, List.getElem?_eq_none (by omega)]
    simp
theorem valB_snoc (B : Int) (x : List Int) (d : Int) : valB B (x ++ [d]) = valB B x + B ^ x.length * d := by rw [valB_app]; simp [valB]
theorem last_split (l : List Int) (h : l ≠ []) : ∃ r d, l = r ++ [d] := by
  rcases List.eq_nil_or_concat l with rfl | ⟨r, d, rfl⟩
  · exact absurd rfl h
  · exact ⟨r, d, by simp⟩
theorem can_ge {B : Int} (hB : 1 < B) {l : List Int} (h : CanB B l) (h0 : l ≠ []) : B ^ (l.length - 1) ≤ valB B l := by
  obtain ⟨r, d, rfl⟩ := last_split l h0
  have hd : d ≠ 0 := fun e => h.2 (by simp [e])
  have hd2 := h.1 d (by simp)
  have hr := valB_nonneg (B := B) (by omega) r (fun x hx => h.1 x (by simp [hx]))
  have e : (r ++ [d]).length - 1 = r.length := by simp
  rw [valB_snoc, e]
  have h1 : B ^ r.length * 1 ≤ B ^ r.length * d := Int.mul_le_mul_of_nonneg_left (by omega) (Int.le_of_lt (Int.pow_pos (by omega)))
  omega
theorem ge_can {B : Int} (hB : 1 < B) {l : List Int} (h : DigB B l) (h0 : l ≠ []) (hv : B ^ (l.length - 1) ≤ valB B l) : CanB B l := by
  refine ⟨h, fun e => ?_⟩
  obtain ⟨r, d, rfl⟩ := last_split l h0
  have hd : d = 0 := by simpa using e
  have hr := valB_lt (B := B) (by omega) r (fun x hx => h x (by simp [hx]))
  have e : (r ++ [(0 : Int)]).length - 1 = r.length := by simp
  rw [valB_snoc, hd, e] at hv
  omega
theorem ipow_le {B : Int} (hB : 0 < B) {i j : Nat} (h : i ≤ j) : B ^ i ≤ B ^ j := by
  obtain ⟨m, rfl⟩ : ∃ m, j = i + m := ⟨j - i, by omega⟩
  rw [Int.pow_add]
  have p1 : 0 < B ^ m := Int.pow_pos hB
  have p2 : 0 < B ^ i := Int.pow_pos hB
  have := Int.mul_le_mul_of_nonneg_left (show 1 ≤ B ^ m by omega) (Int.le_of_lt p2)
  omega
/-- Fewer digits, a smaller number. -/
theorem can_len {B : Int} (hB : 1 < B) {l m : List Int} (h : DigB B l) (hm : CanB B m) (hl : l.length < m.length) : valB B l < valB B m := by
  have h1 := valB_lt (B := B) (by omega) l h
  have h2 := can_ge hB hm (by intro e; subst e; simp at hl)
  have h3 : B ^ l.length ≤ B ^ (m.length - 1) := by
    obtain ⟨j, hj⟩ : ∃ j, m.length - 1 = l.length + j := ⟨m.length - 1 - l.length, by omega⟩
    rw [hj, Int.pow_add]
    have p1 : 0 < B ^ j := Int.pow_pos (by omega)
    have p2 : 0 < B ^ l.length := Int.pow_pos (by omega)
    have := Int.mul_le_mul_of_nonneg_left (show 1 ≤ B ^ j by omega) (Int.le_of_lt p2)
    omega
  omega
/-- A number with as many digits at most. -/
theorem can_len_le {B : Int} (hB : 1 < B) {l m : List Int} (h : CanB B l) (hm : DigB B m) (hv : valB B l ≤ valB B m) : l.length ≤ m.length := by
  refine Nat.not_lt.1 fun hl => ?_
  have := can_len hB hm h hl
  omega
theorem mul_le {a b c : Int} (hc : 0 ≤ c) (h : a ≤ b) : c * a ≤ c * b := Int.mul_le_mul_of_nonneg_left h hc
theorem mul_nn {a b : Int} (ha : 0 ≤ a) (hb : 0 ≤ b) : 0 ≤ a * b := Int.mul_nonneg ha hb
/-! ### The guess of a digit of a quotient -/
/-- The leading digits of a divisor and of what is divided; q is the true digit. -/
structure Kn (B P v1 v2 vl top u3 ul q : Int) : Prop where
  B1 : 1 < B
  P0 : 0 < P
  v1p : 1 ≤ v1
  v2p : 0 ≤ v2
  v2b : v2 < B
  vlp : 0 ≤ vl
  vlb : vl < P
  tp : 0 ≤ top
  u3p : 0 ≤ u3
  u3b : u3 < B
  ulp : 0 ≤ ul
  ulb : ul < P
  q0 : 0 ≤ q
  qB : q < B
  lo : q * (P * (B * v1 + v2) + vl) ≤ P * (B * top + u3) + ul
  hi : P * (B * top + u3) + ul < (q + 1) * (P * (B * v1 + v2) + vl)
section
variable {B P v1 v2 vl top u3 ul q g r : Int}
theorem Kn.first (h : Kn B P v1 v2 vl top u3 ul q) : q ≤ top / v1 := by
  obtain ⟨B1, P0, v1p, v2p, v2b, vlp, vlb, tp, u3p, u3b, ulp, ulb, q0, qB, lo, hi⟩ := h
  rw [Int.le_ediv_iff_mul_le (by omega)]
  refine Int.le_of_lt_add_one (Int.not_le.1 fun hc => ?_)
  have a1 := mul_le (Int.le_of_lt (Int.mul_pos P0 (show 0 < B by omega))) hc
  have a2 := mul_nn (Int.le_of_lt P0) (mul_nn q0 v2p)
  have a3 := mul_nn q0 vlp
  have a4 := mul_le (Int.le_of_lt P0) (show u3 ≤ B - 1 by omega)
  grind
theorem Kn.down (h : Kn B P v1 v2 vl top u3 ul q) (hr : top = g * v1 + r) (hg : 0 ≤ g) (hc : g * v2 > r * B + u3) : q < g := by
  obtain ⟨B1, P0, v1p, v2p, v2b, vlp, vlb, tp, u3p, u3b, ulp, ulb, q0, qB, lo, hi⟩ := h
  refine Int.not_le.1 fun hq => ?_
  have hV : 0 ≤ P * (B * v1 + v2) + vl := by
    have := mul_nn (Int.le_of_lt P0) (show 0 ≤ B * v1 + v2 from by have := mul_nn (show 0 ≤ B by omega) (show 0 ≤ v1 by omega); omega)
    omega
  have a1 := mul_le hV hq
  have a2 := mul_le (Int.le_of_lt P0) (show r * B + u3 + 1 ≤ g * v2 by omega)
  have a3 := mul_nn hg vlp
  subst hr
  grind
theorem Kn.exitA (h : Kn B P v1 v2 vl top u3 ul q) (hr : top = g * v1 + r) (hg : 0 ≤ g) (hB : g < B) (hc : g * v2 ≤ r * B + u3) : g ≤ q + 1 := by
  obtain ⟨B1, P0, v1p, v2p, v2b, vlp, vlb, tp, u3p, u3b, ulp, ulb, q0, qB, lo, hi⟩ := h
  refine Int.not_lt.1 fun hq => ?_
  have hV : 0 ≤ P * (B * v1 + v2) + vl := by
    have := mul_nn (Int.le_of_lt P0) (show 0 ≤ B * v1 + v2 from by have := mul_nn (show 0 ≤ B by omega) (show 0 ≤ v1 by omega); omega)
    omega
  have a1 := mul_le hV (show q + 1 ≤ g - 1 by omega)
  have a2 := mul_le (Int.le_of_lt P0) hc
  have a3 := mul_le hg (show vl ≤ P - 1 by omega)
  have a4 := mul_le (Int.le_of_lt P0) (show g ≤ B - 1 by omega)
  have a5 := mul_le (Int.le_of_lt (Int.mul_pos P0 (show 0 < B by omega))) v1p
  have a6 := mul_nn (Int.le_of_lt P0) v2p
  subst hr
  grind
theorem Kn.exitB (h : Kn B P v1 v2 vl top u3 ul q) (hr : top = g * v1 + r) (hg : 0 ≤ g) (hB : g ≤ B) (hc : B ≤ r) : g ≤ q := by
  obtain ⟨B1, P0, v1p, v2p, v2b, vlp, vlb, tp, u3p, u3b, ulp, ulb, q0, qB, lo, hi⟩ := h
  refine Int.not_lt.1 fun hq => ?_
  have hV : 0 ≤ P * (B * v1 + v2) + vl := by
    have := mul_nn (Int.le_of_lt P0) (show 0 ≤ B * v1 + v2 from by have := mul_nn (show 0 ≤ B by omega) (show 0 ≤ v1 by omega); omega)
    omega
  have a1 := mul_le hV (show q + 1 ≤ g by omega)
  have hPg := mul_nn (Int.le_of_lt P0) hg
  have a2 := mul_le hPg (show v2 ≤ B - 1 by omega)
  have a3 := mul_le hg (show vl ≤ P - 1 by omega)
  have a4 := mul_le (Int.le_of_lt (Int.mul_pos P0 (show 0 < B by omega))) (show g ≤ r by omega)
  have a6 := mul_nn (Int.le_of_lt P0) u3p
  subst hr
  grind
end
end Go.Am
/- Plain law: the program's numbers: digits in the base 10^9. -/
namespace Go.Am.Tryz
open Go Go.Am Go.Proofs
set_option linter.unusedSimpArgs false
set_option linter.unusedVariables false
variable {K : Nat}
/-- A list of digits is a number of the program's. -/
def NumN (n : Int) (l : List Int) : Prop := CanB 1000000000 l ∧ valB 1000000000 l = n
theorem NumN.inj {n : Int} {l m : List Int} (h : NumN n l) (k : NumN n m) : l = m := can_eq (B := 1000000000) (by omega) l m h.1 k.1 (h.2.trans k.2.symm)
theorem NumN.nonneg {n : Int} {l : List Int} (h : NumN n l) : 0 ≤ n := by rw [← h.2]; exact valB_nonneg (by omega) l h.1.1
theorem NumN.nil : NumN 0 [] := ⟨⟨DigB.nil _, by simp⟩, rfl⟩
theorem NumN.pos {n : Int} {l : List Int} (h : NumN n l) (h0 : l ≠ []) : 0 < n := by rw [← h.2]; exact valB_pos (by omega) l h.1 h0
theorem NumN.nil_iff {n : Int} {l : List Int} (h : NumN n l) : l = [] ↔ n = 0 := by
  constructor
  · rintro rfl; exact h.2.symm
  · intro e; by_cases h0 : l = []
    · exact h0
    · have := h.pos h0; omega
theorem NumN.len0 {n : Int} {l : List Int} (h : NumN n l) : l.length = 0 ↔ n = 0 := by rw [← h.nil_iff, List.length_eq_zero_iff]
theorem NumN.one {n : Int} (h : 0 < n) (h2 : n < 1000000000) : NumN n [n] := ⟨⟨fun d hd => by simp at hd; omega, by simp; omega⟩, by simp [valB]⟩
theorem trim_loop {B : Int} : ∀ n k (l : List Int), l.length = n → n ≤ 8000000 → n < k → DigB B l → ∃ t, g_nat_N_trim_l0 K k l = some t ∧ CanB B t ∧ valB B t = valB B l ∧ t.length ≤ l.length := by
  intro n
  induction n with
  | zero =>
    intro k l hl _ hk hd
    obtain ⟨k, rfl⟩ : ∃ m, k = m + 1 := ⟨k - 1, by omega⟩
    have : l = [] := List.length_eq_zero_iff.1 hl
    subst this
    exact ⟨[], by rw [g_nat_N_trim_l0]; simp [tu1], ⟨hd, by simp⟩, rfl, Nat.le_refl _⟩
  | succ n ih =>
    intro k l hl hb hk hd
    obtain ⟨k, rfl⟩ : ∃ m, k = m + 1 := ⟨k - 1, by omega⟩
    obtain ⟨r, d, rfl⟩ : ∃ r d, l = r ++ [d] := last_split l (by intro e; subst e; simp at hl)
    have hr : r.length = n := by simpa using hl
    have e1 : kwrap .i64 (((r ++ [d]).length : Int) - 1) = (n : Int) := by rw [hl, kw (by omega) (by omega)]; omega
    have e2 : idx (r ++ [d]) (n : Int) = some d := idx_nat (by simp [← hr])
    have e3 : lsl (r ++ [d]) 0 (n : Int) = some r := by
      unfold lsl
      rw [if_pos (by rw [hl]; omega)]
      simp [← hr]
    have e4 : ((r ++ [d]).length : Int) > 0 := by rw [hl]; omega
    have dr : DigB B r := fun x hx => hd x (by simp [hx])
    rw [g_nat_N_trim_l0, e1, e2, e3, decide_eq_true e4]
    by_cases h0 : d = 0
    · obtain ⟨t, h1, h2, h3, h4⟩ := ih k r hr (by omega) (by omega) dr
      refine ⟨t, by simp [h0, tu1, h1], h2, ?_, by simp; omega⟩
      rw [h3, valB_app, h0]; simp [valB]
    · exact ⟨r ++ [d], by simp [h0, tu1], ⟨hd, by simpa using h0⟩, rfl, Nat.le_refl _⟩
theorem trim_ok {B : Int} {l : List Int} (hl : l.length ≤ 8000000) (hK : 2000000000 < K) (hd : DigB B l) : ∃ t, g_nat_N_trim K l = some t ∧ CanB B t ∧ valB B t = valB B l ∧ t.length ≤ l.length := by
  obtain ⟨t, h1, h2⟩ := trim_loop (K := K) l.length K l rfl hl (by omega) hd
  exact ⟨t, by unfold g_nat_N_trim; rw [h1]; rfl, h2⟩
theorem nadd_loop {x y : List Int} (hlen : y.length ≤ x.length) (hx : x.length ≤ 4000000) (hK : 2000000000 < K) (dx : DigB 1000000000 x) (dy : DigB 1000000000 y) :
    ∃ r : List Int × Int, g_nat_N_Add_l0 K x y K [] 0 0 = some r ∧ r.1.length = x.length ∧ DigB 1000000000 r.1 ∧ (0 ≤ r.2 ∧ r.2 ≤ 1) ∧ valB 1000000000 r.1 + 1000000000 ^ x.length * r.2 = valB 1000000000 x + valB 1000000000 y := by
  refine loopW (fun k (s : List Int × Int × Int) => g_nat_N_Add_l0 K x y k s.1 s.2.1 s.2.2) (fun s => ∃ i : Nat, s.2.2 = i ∧ i ≤ x.length ∧ s.1.length = i ∧ DigB 1000000000 s.1 ∧ (0 ≤ s.2.1 ∧ s.2.1 ≤ 1) ∧ valB 1000000000 s.1 + 1000000000 ^ i * s.2.1 = valB 1000000000 (x.take i) + valB 1000000000 (y.take i)) (fun s => x.length - s.1.length) _ ?_ (([], 0, 0) : List Int × Int × Int) (by simp; omega) ⟨0, rfl, by omega, rfl, DigB.nil _, ⟨by simp, by simp⟩, by simp [valB]⟩
  rintro k ⟨out, c, _⟩ ⟨i, rfl, h0, h1, h2, h3, h4⟩
  dsimp only at h1 h2 h3 h4 ⊢
  by_cases hi : i < x.length
  · right
    have ex := getD_dig (by omega) dx i
    have ey := getD_dig (by omega) dy i
    have tx := valB_take 1000000000 x i
    have ty := valB_take 1000000000 y i
    have hy : ¬ i < y.length → y.getD i 0 = 0 := fun h => by rw [List.getD_eq_getElem?_getD, List.getElem?_eq_none (by omega)]; rfl
    refine ⟨(out ++ [(x.getD i 0 + c + y.getD i 0) % 1000000000], (x.getD i 0 + c + y.getD i 0) / 1000000000, (i : Int) + 1), ?_, by simp; omega, i + 1, rfl, by omega, by simp [h1], h2.snoc (by omega), by dsimp only; omega, ?_⟩
    · rw [g_nat_N_Add_l0]
      by_cases h : i < y.length
      · simp (discharger := omega) only [decide_eq_true_eq, if_pos, if_neg, if_true, if_false, bsome, beq_iff, bne_iff, idxI, bidxI, sslI, lslI, k64, ku64, ku32, ku8, i64w, u64w, u32w, u8w, tdivI, tmodI, tu0a, tu1a, tu2a, tu3a, tu4a, tu5a, lta, bindSl, bindSr, outSl, outSr, Int.toNat_natCast, List.length_cons, List.length_nil, List.length_set, Int.toNat_zero, List.replicate_zero]
      · have e := hy h
        simp (discharger := omega) only [decide_eq_true_eq, if_pos, if_neg, if_true, if_false, bsome, beq_iff, bne_iff, idxI, bidxI, sslI, lslI, k64, ku64, ku32, ku8, i64w, u64w, u32w, u8w, tdivI, tmodI, tu0a, tu1a, tu2a, tu3a, tu4a, tu5a, lta, bindSl, bindSr, outSl, outSr, Int.toNat_natCast, List.length_cons, List.length_nil, List.length_set, Int.toNat_zero, List.replicate_zero, e, Int.add_zero]
    · have hm := Int.emod_add_mul_ediv (x.getD i 0 + c + y.getD i 0) 1000000000
      dsimp only
      rw [valB_snoc, h1, tx, ty, Int.pow_succ]
      grind
  · left
    refine ⟨(out, c), ?_, by dsimp only; omega, h2, h3, ?_⟩
    · rw [g_nat_N_Add_l0]; simp [hi]
    · have : i = x.length := by omega
      subst this
      rwa [List.take_of_length_le (Nat.le_refl _), List.take_of_length_le hlen] at h4
theorem nadd_fin {x y : List Int} {a b : Int} (hlen : y.length ≤ x.length) (hx : x.length ≤ 4000000) (hK : 2000000000 < K) (nx : NumN a x) (ny : NumN b y) :
    ∃ r : List Int × Int, g_nat_N_Add_l0 K x y K [] 0 0 = some r ∧ r.1.length = x.length ∧ NumN (a + b) (if r.2 > 0 then r.1 ++ [r.2] else r.1) := by
  obtain ⟨⟨r, c⟩, h1, h2, h3, h4, h5⟩ := nadd_loop hlen hx hK nx.1.1 ny.1.1
  dsimp only at h2 h3 h4 h5
  rw [nx.2, ny.2] at h5
  refine ⟨_, h1, h2, ?_⟩
  dsimp only
  by_cases hc : c > 0
  · rw [if_pos hc]
    have e : c = 1 := by omega
    subst e
    refine ⟨⟨h3.snoc (by omega), by simp⟩, ?_⟩
    rw [valB_snoc, h2]
    exact h5
  · rw [if_neg hc]
    have e : c = 0 := by omega
    subst e
    rw [Int.mul_zero, Int.add_zero] at h5
    refine ⟨?_, h5⟩
    by_cases h0 : r = []
    · subst h0; exact ⟨h3, by simp⟩
    · refine ge_can (by omega) h3 h0 ?_
      have h6 := can_ge (B := 1000000000) (by omega) nx.1 (by rintro rfl; exact h0 (List.length_eq_zero_iff.1 h2))
      have h7 := ny.nonneg
      rw [nx.2] at h6
      rw [h2, h5]
      omega
theorem nadd_ok {x y : List Int} {a b : Int} (hx : x.length ≤ 4000000) (hy : y.length ≤ 4000000) (hK : 2000000000 < K) (nx : NumN a x) (ny : NumN b y) : ∃ z, g_nat_N_Add K x y = some z ∧ NumN (a + b) z ∧ z.length ≤ max x.length y.length + 1 := by
  unfold g_nat_N_Add
  by_cases h : x.length < y.length
  · obtain ⟨⟨r, c⟩, h1, h2, h3⟩ := nadd_fin (K := K) (x := y) (y := x) (by omega) hy (by omega) ny nx
    dsimp only at h2 h3
    rw [Int.add_comm b a] at h3
    by_cases hc : c > 0
    · rw [if_pos hc] at h3
      exact ⟨r ++ [c], by simp (discharger := omega) only [decide_eq_true_eq, if_pos, if_neg, if_true, if_false, bsome, beq_iff, bne_iff, idxI, bidxI, sslI, lslI, k64, ku64, ku32, ku8, i64w, u64w, u32w, u8w, tdivI, tmodI, tu0a, tu1a, tu2a, tu3a, tu4a, tu5a, lta, bindSl, bindSr, outSl, outSr, Int.toNat_natCast, List.length_cons, List.length_nil, List.length_set, Int.toNat_zero, List.replicate_zero, h1], h3, by simp; omega⟩
    · rw [if_neg hc] at h3
      exact ⟨r, by simp (discharger := omega) only [decide_eq_true_eq, if_pos, if_neg, if_true, if_false, bsome, beq_iff, bne_iff, idxI, bidxI, sslI, lslI, k64, ku64, ku32, ku8, i64w, u64w, u32w, u8w, tdivI, tmodI, tu0a, tu1a, tu2a, tu3a, tu4a, tu5a, lta, bindSl, bindSr, outSl, outSr, Int.toNat_natCast, List.length_cons, List.length_nil, List.length_set, Int.toNat_zero, List.replicate_zero, h1], h3, by omega⟩
  · obtain ⟨⟨r, c⟩, h1, h2, h3⟩ := nadd_fin (K := K) (x := x) (y := y) (by omega) hx (by omega) nx ny
    dsimp only at h2 h3
    by_cases hc : c > 0
    · rw [if_pos hc] at h3
      exact ⟨r ++ [c], by simp (discharger := omega) only [decide_eq_true_eq, if_pos, if_neg, if_true, if_false, bsome, beq_iff, bne_iff, idxI, bidxI, sslI, lslI, k64, ku64, ku32, ku8, i64w, u64w, u32w, u8w, tdivI, tmodI, tu0a, tu1a, tu2a, tu3a, tu4a, tu5a, lta, bindSl, bindSr, outSl, outSr, Int.toNat_natCast, List.length_cons, List.length_nil, List.length_set, Int.toNat_zero, List.replicate_zero, h1], h3, by simp; omega⟩
    · rw [if_neg hc] at h3
      exact ⟨r, by simp (discharger := omega) only [decide_eq_true_eq, if_pos, if_neg, if_true, if_false, bsome, beq_iff, bne_iff, idxI, bidxI, sslI, lslI, k64, ku64, ku32, ku8, i64w, u64w, u32w, u8w, tdivI, tmodI, tu0a, tu1a, tu2a, tu3a, tu4a, tu5a, lta, bindSl, bindSr, outSl, outSr, Int.toNat_natCast, List.length_cons, List.length_nil, List.length_set, Int.toNat_zero, List.replicate_zero, h1], h3, by omega⟩
theorem ncmp_loop {x y : List Int} (hl : x.length = y.length) (hx : x.length ≤ 4000000) (hK : 2000000000 < K) (dx : DigB 1000000000 x) (dy : DigB 1000000000 y) :
    ∃ r : Int ⊕ Unit, g_nat_N_Cmp_l0 K x y K ((x.length : Int) - 1) = some r ∧ r = (if valB 1000000000 x < valB 1000000000 y then .inl (-1) else if valB 1000000000 x = valB 1000000000 y then .inr () else .inl 1) := by
  have hdrop : ∀ (l : List Int) j, valB 1000000000 (l.drop j) = l.getD j 0 + 1000000000 * valB 1000000000 (l.drop (j + 1)) := fun l j => by
    by_cases h : j < l.length
    · rw [List.drop_eq_getElem_cons h, List.getD_eq_getElem?_getD, List.getElem?_eq_getElem h]; rfl
    · rw [List.drop_eq_nil_of_le (by omega), List.drop_eq_nil_of_le (by omega), List.getD_eq_getElem?_getD, List.getElem?_eq_none (by omega)]; rfl
  refine loopW (fun k (s : Int) => g_nat_N_Cmp_l0 K x y k s) (fun s => ∃ j : Nat, s = (j : Int) - 1 ∧ j ≤ x.length ∧ valB 1000000000 (x.drop j) = valB 1000000000 (y.drop j)) (fun s => (s + 1).toNat) _ ?_ ((x.length : Int) - 1) (by omega) ⟨x.length, rfl, Nat.le_refl _, by rw [List.drop_eq_nil_of_le (Nat.le_refl _), List.drop_eq_nil_of_le (by omega)]⟩
  rintro k _ ⟨j, rfl, hj, he⟩
  by_cases h0 : j = 0
  · subst h0
    left
    rw [List.drop_zero, List.drop_zero] at he
    rw [g_nat_N_Cmp_l0]
    refine ⟨.inr (), by simp (discharger := omega) only [decide_eq_true_eq, if_pos, if_neg, if_true, if_false, bsome, beq_iff, bne_iff, idxI, bidxI, sslI, lslI, k64, ku64, ku32, ku8, i64w, u64w, u32w, u8w, tdivI, tmodI, tu0a, tu1a, tu2a, tu3a, tu4a, tu5a, lta, bindSl, bindSr, outSl, outSr, Int.toNat_natCast, List.length_cons, List.length_nil, List.length_set, Int.toNat_zero, List.replicate_zero], ?_⟩
    rw [if_neg (by omega), if_pos he]
  · obtain ⟨i, rfl⟩ : ∃ i, j = i + 1 := ⟨j - 1, by omega⟩
    have e1 : ((i + 1 : Nat) : Int) - 1 = i := by omega
    rw [e1]
    have ex := getD_dig (by omega) dx i
    have ey := getD_dig (by omega) dy i
    have sx := valB_split 1000000000 x i (by omega)
    have sy := valB_split 1000000000 y i (by omega)
    have ax := hdrop x i
    have ay := hdrop y i
    have bx := valB_lt (B := 1000000000) (by omega) _ (dx.take i)
    have by' := valB_lt (B := 1000000000) (by omega) _ (dy.take i)
    have cx := valB_nonneg (B := 1000000000) (by omega) _ (dx.take i)
    have cy := valB_nonneg (B := 1000000000) (by omega) _ (dy.take i)
    rw [List.length_take, Nat.min_eq_left (by omega)] at bx by'
    have p0 : 0 < (1000000000 : Int) ^ i := Int.pow_pos (by omega)
    rw [ax, he] at sx
    rw [ay] at sy
    by_cases h1 : x.getD i 0 < y.getD i 0
    · left
      refine ⟨.inl (-1), by rw [g_nat_N_Cmp_l0]; simp (discharger := omega) only [decide_eq_true_eq, if_pos, if_neg, if_true, if_false, bsome, beq_iff, bne_iff, idxI, bidxI, sslI, lslI, k64, ku64, ku32, ku8, i64w, u64w, u32w, u8w, tdivI, tmodI, tu0a, tu1a, tu2a, tu3a, tu4a, tu5a, lta, bindSl, bindSr, outSl, outSr, Int.toNat_natCast, List.length_cons, List.length_nil, List.length_set, Int.toNat_zero, List.replicate_zero], ?_⟩
      have := mul_le (Int.le_of_lt p0) (show x.getD i 0 + 1 ≤ y.getD i 0 by omega)
      rw [if_pos (by grind)]
    · by_cases h2 : x.getD i 0 > y.getD i 0
      · left
        refine ⟨.inl 1, by rw [g_nat_N_Cmp_l0]; simp (discharger := omega) only [decide_eq_true_eq, if_pos, if_neg, if_true, if_false, bsome, beq_iff, bne_iff, idxI, bidxI, sslI, lslI, k64, ku64, ku32, ku8, i64w, u64w, u32w, u8w, tdivI, tmodI, tu0a, tu1a, tu2a, tu3a, tu4a, tu5a, lta, bindSl, bindSr, outSl, outSr, Int.toNat_natCast, List.length_cons, List.length_nil, List.length_set, Int.toNat_zero, List.replicate_zero], ?_⟩
        have := mul_le (Int.le_of_lt p0) (show y.getD i 0 + 1 ≤ x.getD i 0 by omega)
        rw [if_neg (by grind), if_neg (by grind)]
      · right
        refine ⟨(i : Int) - 1, by rw [g_nat_N_Cmp_l0]; simp (discharger := omega) only [decide_eq_true_eq, if_pos, if_neg, if_true, if_false, bsome, beq_iff, bne_iff, idxI, bidxI, sslI, lslI, k64, ku64, ku32, ku8, i64w, u64w, u32w, u8w, tdivI, tmodI, tu0a, tu1a, tu2a, tu3a, tu4a, tu5a, lta, bindSl, bindSr, outSl, outSr, Int.toNat_natCast, List.length_cons, List.length_nil, List.length_set, Int.toNat_zero, List.replicate_zero], by omega, i, rfl, by omega, ?_⟩
        rw [ax, ay, he]
        omega
theorem ncmp_ok {x y : List Int} {a b : Int} (hx : x.length ≤ 4000000) (hy : y.length ≤ 4000000) (hK : 2000000000 < K) (nx : NumN a x) (ny : NumN b y) : g_nat_N_Cmp K x y = some (if a < b then -1 else if a = b then 0 else 1) := by
  unfold g_nat_N_Cmp
  by_cases h : x.length = y.length
  · obtain ⟨r, h1, h2⟩ := ncmp_loop (K := K) h hx hK nx.1.1 ny.1.1
    rw [nx.2, ny.2] at h2
    have e : ((x.length : Int) != (y.length : Int)) = false := by simp; omega
    rw [e]
    rw [k64 (by omega) (by omega), h1, h2]
    simp only [Bool.false_eq_true, if_false, bindS, Option.bind_some]
    by_cases c1 : a < b
    · simp [c1, tu1]
    · by_cases c2 : a = b
      · subst c2; simp [tu0]
      · simp [c1, c2, tu1]
  · have e : ((x.length : Int) != (y.length : Int)) = true := by simp; omega
    rw [e, if_pos rfl]
    by_cases h1 : x.length < y.length
    · have := can_len (B := 1000000000) (by omega) nx.1.1 ny.1 h1
      rw [nx.2, ny.2] at this
      simp (discharger := omega) only [decide_eq_true_eq, if_pos, if_neg, if_true, if_false, bsome, beq_iff, bne_iff, idxI, bidxI, sslI, lslI, k64, ku64, ku32, ku8, i64w, u64w, u32w, u8w, tdivI, tmodI, tu0a, tu1a, tu2a, tu3a, tu4a, tu5a, lta, bindSl, bindSr, outSl, outSr, Int.toNat_natCast, List.length_cons, List.length_nil, List.length_set, Int.toNat_zero, List.replicate_zero]
    · have := can_len (B := 1000000000) (by omega) ny.1.1 nx.1 (by omega)
      rw [nx.2, ny.2] at this
      simp (discharger := omega) only [decide_eq_true_eq, if_pos, if_neg, if_true, if_false, bsome, beq_iff, bne_iff, idxI, bidxI, sslI, lslI, k64, ku64, ku32, ku8, i64w, u64w, u32w, u8w, tdivI, tmodI, tu0a, tu1a, tu2a, tu3a, tu4a, tu5a, lta, bindSl, bindSr, outSl, outSr, Int.toNat_natCast, List.length_cons, List.length_nil, List.length_set, Int.toNat_zero, List.replicate_zero]
end Go.Am.Tryz
/- Plain law: products of the program's numbers; division by one digit. -/
namespace Go.Am.Tryz
open Go Go.Am Go.Proofs
set_option linter.unusedSimpArgs false
set_option linter.unusedVariables false
variable {K : Nat}
theorem dig_mul {a b : Int} (ha : 0 ≤ a ∧ a < 1000000000) (hb : 0 ≤ b ∧ b < 1000000000) : 0 ≤ a * b ∧ a * b ≤ 999999998000000001 := by
  refine ⟨Int.mul_nonneg ha.1 hb.1, ?_⟩
  have h1 := mul_le ha.1 (show b ≤ 999999999 by omega)
  omega
theorem nmul_in {y out : List Int} {u : Int} {i : Nat} (hl : i + y.length ≤ out.length) (ho : out.length ≤ 8000000) (hK : 2000000000 < K) (hu : 0 ≤ u ∧ u < 1000000000) (dy : DigB 1000000000 y) (d0 : DigB 1000000000 out) :
    ∃ r : List Int × Int, g_nat_N_Mul_l2 K y (i : Int) u K out 0 0 = some r ∧ r.1.length = out.length ∧ DigB 1000000000 r.1 ∧ (0 ≤ r.2 ∧ r.2 < 1000000000) ∧ (∀ j, i + y.length ≤ j → r.1.getD j 0 = out.getD j 0) ∧
      valB 1000000000 r.1 + 1000000000 ^ (i + y.length) * r.2 = valB 1000000000 out + 1000000000 ^ i * (u * valB 1000000000 y) := by
  refine loopW (fun k (s : List Int × Int × Int) => g_nat_N_Mul_l2 K y (i : Int) u k s.1 s.2.1 s.2.2) (fun s => ∃ q : Nat, s.2.2 = q ∧ q ≤ y.length ∧ s.1.length = out.length ∧ DigB 1000000000 s.1 ∧ (0 ≤ s.2.1 ∧ s.2.1 < 1000000000) ∧ (∀ j, i + q ≤ j → s.1.getD j 0 = out.getD j 0) ∧
      valB 1000000000 s.1 + 1000000000 ^ (i + q) * s.2.1 = valB 1000000000 out + 1000000000 ^ i * (u * valB 1000000000 (y.take q))) (fun s => (y.length - s.2.2 : Int).toNat) _ ?_ ((out, 0, 0) : List Int × Int × Int) (by simp; omega) ⟨0, rfl, by omega, rfl, d0, by simp, fun _ _ => rfl, by simp [valB]⟩
  rintro k ⟨o, c, _⟩ ⟨q, rfl, h0, h1, h2, h3, hz, h4⟩
  dsimp only at h1 h2 h3 h4 hz ⊢
  by_cases hq : q < y.length
  · right
    have ey := getD_dig (by omega) dy q
    have eo := getD_dig (by omega) h2 (i + q)
    have ty := valB_take 1000000000 y q
    have hm := dig_mul hu ey
    have hset := fun d => valB_set 1000000000 o (i + q) d (by omega)
    have hgs := fun d j => getD_set (cs := o) (i := i + q) (j := j) (v := d) (by omega)
    have e1 : ((i : Int) + (q : Int)) = ((i + q : Nat) : Int) := by omega
    generalize hw : u * y.getD q 0 = w at hm
    generalize ho : o.getD (i + q) 0 = z at eo hset
    have hdm := Int.emod_add_mul_ediv (w + z + c) 1000000000
    refine ⟨(o.set (i + q) ((w + z + c) % 1000000000), (w + z + c) / 1000000000, (q : Int) + 1), ?_, by dsimp only; omega, q + 1, rfl, by omega, by simp [h1], h2.set _ (by omega), by dsimp only; omega, fun j hj => by rw [hgs, if_neg (by omega)]; exact hz j (by omega), ?_⟩
    · rw [g_nat_N_Mul_l2]
      simp (discharger := omega) only [decide_eq_true_eq, if_pos, if_neg, if_true, if_false, bsome, beq_iff, bne_iff, idxI, bidxI, sslI, lslI, k64, ku64, ku32, ku8, i64w, u64w, u32w, u8w, tdivI, tmodI, tu0a, tu1a, tu2a, tu3a, tu4a, tu5a, lta, bindSl, bindSr, outSl, outSr, Int.toNat_natCast, List.length_cons, List.length_nil, List.length_set, Int.toNat_zero, List.replicate_zero, e1, hw, ho]
    · dsimp only
      rw [hset, ty]
      have e2 : (1000000000 : Int) ^ (i + (q + 1)) = 1000000000 ^ i * 1000000000 ^ q * 1000000000 := by rw [← Nat.add_assoc, Int.pow_succ, Int.pow_add]
      rw [e2]
      rw [Int.pow_add] at h4 ⊢
      subst hw
      generalize (u * y.getD q 0 + z + c) / 1000000000 = Q at *
      generalize (u * y.getD q 0 + z + c) % 1000000000 = R at *
      grind
  · left
    have : q = y.length := by omega
    subst this
    rw [List.take_of_length_le (Nat.le_refl _)] at h4
    exact ⟨(o, c), by rw [g_nat_N_Mul_l2]; simp (discharger := omega) only [decide_eq_true_eq, if_pos, if_neg, if_true, if_false, bsome, beq_iff, bne_iff, idxI, bidxI, sslI, lslI, k64, ku64, ku32, ku8, i64w, u64w, u32w, u8w, tdivI, tmodI, tu0a, tu1a, tu2a, tu3a, tu4a, tu5a, lta, bindSl, bindSr, outSl, outSr, Int.toNat_natCast, List.length_cons, List.length_nil, List.length_set, Int.toNat_zero, List.replicate_zero], h1, h2, h3, hz, h4⟩
theorem nmul_loop {x y : List Int} (hl : x.length + y.length ≤ 8000000) (hK : 2000000000 < K) (dx : DigB 1000000000 x) (dy : DigB 1000000000 y) :
    ∃ r : List Int, g_nat_N_Mul_l0 K x y K (List.replicate (x.length + y.length) 0) 0 = some r ∧ r.length = x.length + y.length ∧ DigB 1000000000 r ∧ valB 1000000000 r = valB 1000000000 x * valB 1000000000 y := by
  refine loopW (fun k (s : List Int × Int) => g_nat_N_Mul_l0 K x y k s.1 s.2) (fun s => ∃ i : Nat, s.2 = i ∧ i ≤ x.length ∧ s.1.length = x.length + y.length ∧ DigB 1000000000 s.1 ∧ (∀ j, i + y.length ≤ j → s.1.getD j 0 = 0) ∧ valB 1000000000 s.1 = valB 1000000000 (x.take i) * valB 1000000000 y) (fun s => (x.length - s.2 : Int).toNat) _ ?_ ((List.replicate (x.length + y.length) 0, 0) : List Int × Int) (by simp; omega) ⟨0, rfl, by omega, by simp, .zeros (by omega) _, fun j _ => by simp [List.getD_eq_getElem?_getD, List.getElem?_replicate]; split <;> rfl, by simp [valB, valB_zeros]⟩
  rintro k ⟨out, _⟩ ⟨i, rfl, h0, h1, h2, hz, h4⟩
  dsimp only at h1 h2 h4 hz ⊢
  by_cases hi : i < x.length
  · right
    have ex := getD_dig (by omega) dx i
    have tx := valB_take 1000000000 x i
    obtain ⟨⟨r, c⟩, r1, r2, r3, r4, r5, r6⟩ := nmul_in (K := K) (y := y) (out := out) (u := x.getD i 0) (i := i) (by omega) (by omega) hK ex dy h2
    dsimp only at r2 r3 r4 r5 r6
    have hz0 := r5 (i + y.length) (Nat.le_refl _)
    rw [hz _ (Nat.le_refl _)] at hz0
    have hset := valB_set 1000000000 r (i + y.length) c (by omega)
    have hgs := fun d j => getD_set (cs := r) (i := i + y.length) (j := j) (v := d) (by omega)
    have e1 : ((i : Int) + (y.length : Int)) = ((i + y.length : Nat) : Int) := by omega
    refine ⟨(r.set (i + y.length) c, (i : Int) + 1), ?_, by dsimp only; omega, i + 1, rfl, by omega, by simp [r2, h1], r3.set _ r4, fun j hj => by rw [hgs, if_neg (by omega), r5 j (by omega)]; exact hz j (by omega), ?_⟩
    · rw [g_nat_N_Mul_l0]
      simp (discharger := omega) only [decide_eq_true_eq, if_pos, if_neg, if_true, if_false, bsome, beq_iff, bne_iff, idxI, bidxI, sslI, lslI, k64, ku64, ku32, ku8, i64w, u64w, u32w, u8w, tdivI, tmodI, tu0a, tu1a, tu2a, tu3a, tu4a, tu5a, lta, bindSl, bindSr, outSl, outSr, Int.toNat_natCast, List.length_cons, List.length_nil, List.length_set, Int.toNat_zero, List.replicate_zero, r1, e1]
    · dsimp only
      rw [hset, hz0, tx]
      grind
  · left
    have : i = x.length := by omega
    subst this
    rw [List.take_of_length_le (Nat.le_refl _)] at h4
    exact ⟨out, by rw [g_nat_N_Mul_l0]; simp (discharger := omega) only [decide_eq_true_eq, if_pos, if_neg, if_true, if_false, bsome, beq_iff, bne_iff, idxI, bidxI, sslI, lslI, k64, ku64, ku32, ku8, i64w, u64w, u32w, u8w, tdivI, tmodI, tu0a, tu1a, tu2a, tu3a, tu4a, tu5a, lta, bindSl, bindSr, outSl, outSr, Int.toNat_natCast, List.length_cons, List.length_nil, List.length_set, Int.toNat_zero, List.replicate_zero], h1, h2, h4⟩
theorem nmul_ok {x y : List Int} {a b : Int} (hl : x.length + y.length ≤ 8000000) (hK : 2000000000 < K) (nx : NumN a x) (ny : NumN b y) : ∃ z, g_nat_N_Mul K x y = some z ∧ NumN (a * b) z ∧ z.length ≤ x.length + y.length := by
  obtain ⟨r, h1, h2, h3, h4⟩ := nmul_loop hl hK nx.1.1 ny.1.1
  rw [nx.2, ny.2] at h4
  obtain ⟨t, t1, t2, t3, t4⟩ := trim_ok (K := K) (B := 1000000000) (l := r) (by omega) hK h3
  refine ⟨t, ?_, ⟨t2, by rw [t3, h4]⟩, by omega⟩
  unfold g_nat_N_Mul
  have e1 : ((x.length : Int) + (y.length : Int)) = ((x.length + y.length : Nat) : Int) := by omega
  simp (discharger := omega) only [decide_eq_true_eq, if_pos, if_neg, if_true, if_false, bsome, beq_iff, bne_iff, idxI, bidxI, sslI, lslI, k64, ku64, ku32, ku8, i64w, u64w, u32w, u8w, tdivI, tmodI, tu0a, tu1a, tu2a, tu3a, tu4a, tu5a, lta, bindSl, bindSr, outSl, outSr, Int.toNat_natCast, List.length_cons, List.length_nil, List.length_set, Int.toNat_zero, List.replicate_zero, h1, t1, e1]
theorem drop_val (l : List Int) (j : Nat) : valB 1000000000 (l.drop j) = l.getD j 0 + 1000000000 * valB 1000000000 (l.drop (j + 1)) := by
  by_cases h : j < l.length
  · rw [List.drop_eq_getElem_cons h, List.getD_eq_getElem?_getD, List.getElem?_eq_getElem h]; rfl
  · rw [List.drop_eq_nil_of_le (by omega), List.drop_eq_nil_of_le (by omega), List.getD_eq_getElem?_getD, List.getElem?_eq_none (by omega)]; rfl
theorem nshort_loop {x : List Int} {d : Int} (hl : x.length ≤ 8000000) (hK : 2000000000 < K) (dx : DigB 1000000000 x) (hd : 1 ≤ d ∧ d ≤ 1000000000) :
    ∃ r : List Int × Int, g_nat_N_short_l0 K x d K (List.replicate x.length 0) 0 ((x.length : Int) - 1) = some r ∧ r.1.length = x.length ∧ DigB 1000000000 r.1 ∧ (0 ≤ r.2 ∧ r.2 < d) ∧ valB 1000000000 x = d * valB 1000000000 r.1 + r.2 := by
  refine loopW (fun k (s : List Int × Int × Int) => g_nat_N_short_l0 K x d k s.1 s.2.1 s.2.2) (fun s => ∃ j : Nat, s.2.2 = (j : Int) - 1 ∧ j ≤ x.length ∧ s.1.length = x.length ∧ DigB 1000000000 s.1 ∧ (0 ≤ s.2.1 ∧ s.2.1 < d) ∧ valB 1000000000 (x.drop j) = d * valB 1000000000 (s.1.drop j) + s.2.1) (fun s => (s.2.2 + 1).toNat) _ ?_ ((List.replicate x.length 0, 0, (x.length : Int) - 1) : List Int × Int × Int) (by dsimp only; omega) ⟨x.length, rfl, Nat.le_refl _, by simp, .zeros (by omega) _, by dsimp only; omega, by simp [valB]⟩
  rintro k ⟨out, c, _⟩ ⟨j, rfl, hj, h1, h2, h3, h4⟩
  dsimp only at h1 h2 h3 h4 ⊢
  by_cases h0 : j = 0
  · left
    subst h0
    rw [List.drop_zero, List.drop_zero] at h4
    exact ⟨(out, c), by rw [g_nat_N_short_l0]; simp (discharger := omega) only [decide_eq_true_eq, if_pos, if_neg, if_true, if_false, bsome, beq_iff, bne_iff, idxI, bidxI, sslI, lslI, k64, ku64, ku32, ku8, i64w, u64w, u32w, u8w, tdivI, tmodI, tu0a, tu1a, tu2a, tu3a, tu4a, tu5a, lta, bindSl, bindSr, outSl, outSr, Int.toNat_natCast, List.length_cons, List.length_nil, List.length_set, Int.toNat_zero, List.replicate_zero], h1, h2, h3, h4⟩
  · right
    obtain ⟨i, rfl⟩ : ∃ i, j = i + 1 := ⟨j - 1, by omega⟩
    have e1 : ((i + 1 : Nat) : Int) - 1 = i := by omega
    rw [e1]
    have ex := getD_dig (by omega) dx i
    have ax := drop_val x i
    generalize hu : x.getD i 0 = u at ex ax
    have hq0 : 0 ≤ (c * 1000000000 + u) / d := Int.ediv_nonneg (by omega) (by omega)
    have hqB : (c * 1000000000 + u) / d < 1000000000 := Int.ediv_lt_of_lt_mul (by omega) (by omega)
    have hr0 : 0 ≤ (c * 1000000000 + u) % d := Int.emod_nonneg _ (by omega)
    have hrd : (c * 1000000000 + u) % d < d := Int.emod_lt_of_pos _ (by omega)
    have hdm := Int.emod_add_mul_ediv (c * 1000000000 + u) d
    refine ⟨(out.set i ((c * 1000000000 + u) / d), (c * 1000000000 + u) % d, (i : Int) - 1), ?_, by dsimp only; omega, i, rfl, by omega, by simp [h1], h2.set _ ⟨hq0, hqB⟩, ⟨hr0, hrd⟩, ?_⟩
    · rw [g_nat_N_short_l0]
      have hd' : d ≠ 0 := by omega
      simp (discharger := omega) only [decide_eq_true_eq, if_pos, if_neg, if_true, if_false, bsome, beq_iff, bne_iff, idxI, bidxI, sslI, lslI, k64, ku64, ku32, ku8, i64w, u64w, u32w, u8w, tdivI, tmodI, tu0a, tu1a, tu2a, tu3a, tu4a, tu5a, lta, bindSl, bindSr, outSl, outSr, Int.toNat_natCast, List.length_cons, List.length_nil, List.length_set, Int.toNat_zero, List.replicate_zero, hu]
    · dsimp only
      rw [drop_val (out.set i _) i, List.drop_set_of_lt (by omega), getD_set (by omega), if_pos rfl, ax, h4]
      generalize (c * 1000000000 + u) / d = Q at *
      generalize (c * 1000000000 + u) % d = R at *
      grind
theorem digit_num {d : Int} (hd : 0 ≤ d ∧ d < 1000000000) (hK : 2000000000 < K) : ∃ z, g_nat_N_trim K [d] = some z ∧ NumN d z ∧ z.length ≤ 1 := by
  obtain ⟨t, t1, t2, t3, t4⟩ := trim_ok (K := K) (B := 1000000000) (l := [d]) (by simp) hK (fun x hx => by simp at hx; omega)
  exact ⟨t, t1, ⟨t2, by rw [t3]; simp [valB]⟩, by simpa using t4⟩
theorem div_mod_of {n d q r : Int} (hd : 0 < d) (h : n = d * q + r) (h0 : 0 ≤ r) (h1 : r < d) : q = n / d ∧ r = n % d := by
  have e1 : n / d = q := by
    rw [h, Int.add_comm, Int.add_mul_ediv_left _ _ (by omega), Int.ediv_eq_zero_of_lt h0 h1]; omega
  refine ⟨e1.symm, ?_⟩
  have := Int.emod_add_mul_ediv n d
  rw [e1] at this
  omega
theorem nshort_ok {x : List Int} {a d : Int} (hl : x.length ≤ 8000000) (hK : 2000000000 < K) (nx : NumN a x) (hd : 1 ≤ d ∧ d ≤ 1000000000) : ∃ q r, g_nat_N_short K x d = some (q, r) ∧ NumN (a / d) q ∧ NumN (a % d) r ∧ q.length ≤ x.length ∧ r.length ≤ 1 := by
  obtain ⟨⟨o, c⟩, h1, h2, h3, h4, h5⟩ := nshort_loop hl hK nx.1.1 hd
  dsimp only at h2 h3 h4 h5
  rw [nx.2] at h5
  obtain ⟨e1, e2⟩ := div_mod_of (by omega) h5 h4.1 h4.2
  obtain ⟨t, t1, t2, t3, t4⟩ := trim_ok (K := K) (B := 1000000000) (l := o) (by omega) hK h3
  obtain ⟨z, z1, z2, z3⟩ := digit_num (K := K) (d := c) (by omega) hK
  refine ⟨t, z, ?_, ⟨t2, by rw [t3, e1]⟩, by rw [← e2]; exact z2, by omega, z3⟩
  unfold g_nat_N_short
  simp (discharger := omega) only [decide_eq_true_eq, if_pos, if_neg, if_true, if_false, bsome, beq_iff, bne_iff, idxI, bidxI, sslI, lslI, k64, ku64, ku32, ku8, i64w, u64w, u32w, u8w, tdivI, tmodI, tu0a, tu1a, tu2a, tu3a, tu4a, tu5a, lta, bindSl, bindSr, outSl, outSr, Int.toNat_natCast, List.length_cons, List.length_nil, List.length_set, Int.toNat_zero, List.replicate_zero, h1, t1, z1]
end Go.Am.Tryz
/- Plain law: texts and the program's numbers: Read and Text. -/
namespace Go.Am.Tryz
open Go Go.Am Go.Proofs
set_option linter.unusedSimpArgs false
set_option linter.unusedVariables false
variable {K : Nat}
/-- The number of decimal digits given as bytes. -/
def numB (l : List Int) : Int := valB 10 ((l.map (· - 48)).reverse)
theorem numT_B (s : ByteArray) : numT s = numB (bytesOf s) := rfl
theorem numB_nil : numB [] = 0 := rfl
theorem numB_snoc (l : List Int) (c : Int) : numB (l ++ [c]) = numB l * 10 + (c - 48) := by
  unfold numB
  simp [valB]
  omega
theorem numB_app (l m : List Int) : numB (l ++ m) = numB m + 10 ^ m.length * numB l := by
  unfold numB
  rw [List.map_append, List.reverse_append, valB_app]
  simp
theorem numB_cons (c : Int) (l : List Int) : numB (c :: l) = numB l + 10 ^ l.length * (c - 48) := by
  have := numB_app [c] l
  simpa [numB, valB] using this
theorem numB_dig {l : List Int} (h : l.all digT = true) : DigB 10 ((l.map (· - 48)).reverse) := by
  intro d hd
  rw [List.mem_reverse, List.mem_map] at hd
  obtain ⟨c, hc, rfl⟩ := hd
  have := List.all_eq_true.1 h c hc
  simp only [digT, Bool.and_eq_true, decide_eq_true_eq] at this
  omega
theorem numB_nonneg {l : List Int} (h : l.all digT = true) : 0 ≤ numB l := valB_nonneg (by omega) _ (numB_dig h)
theorem numB_lt {l : List Int} (h : l.all digT = true) : numB l < 10 ^ l.length := by
  have := valB_lt (B := 10) (by omega) _ (numB_dig h)
  simpa [numB] using this
theorem digT_iff {c : Int} : digT c = true ↔ 48 ≤ c ∧ c ≤ 57 := by simp [digT]
theorem all_take {l : List Int} (h : l.all digT = true) (k : Nat) : (l.take k).all digT = true := List.all_eq_true.2 fun x hx => List.all_eq_true.1 h x (List.mem_of_mem_take hx)
theorem all_drop {l : List Int} (h : l.all digT = true) (k : Nat) : (l.drop k).all digT = true := List.all_eq_true.2 fun x hx => List.all_eq_true.1 h x (List.mem_of_mem_drop hx)
theorem take_snoc {l : List Int} {i : Nat} (h : i < l.length) : l.take (i + 1) = l.take i ++ [l.getD i 0] := by
  rw [List.take_add_one, List.getElem?_eq_getElem h, List.getD_eq_getElem?_getD, List.getElem?_eq_getElem h]; rfl
theorem getD_digT {l : List Int} (h : l.all digT = true) {i : Nat} (hi : i < l.length) : 48 ≤ l.getD i 0 ∧ l.getD i 0 ≤ 57 := by
  rw [List.getD_eq_getElem?_getD, List.getElem?_eq_getElem hi]
  exact digT_iff.1 (List.all_eq_true.1 h _ (List.getElem_mem hi))
theorem read_part {t : ByteArray} (ht : t.size ≤ 9) (hK : 2000000000 < K) (hd : (bytesOf t).all digT = true) : g_nat_Read_l2 K t K 0 0 = some (numT t) := by
  suffices h : ∃ r, g_nat_Read_l2 K t K 0 0 = some r ∧ r = numT t by obtain ⟨r, h1, rfl⟩ := h; exact h1
  have hn := bytesOf_length t
  refine loopW (fun k (s : Int × Int) => g_nat_Read_l2 K t k s.1 s.2) (fun s => ∃ i : Nat, s.2 = i ∧ i ≤ t.size ∧ s.1 = numB ((bytesOf t).take i)) (fun s => (t.size - s.2 : Int).toNat) _ ?_ ((0, 0) : Int × Int) (by simp; omega) ⟨0, rfl, by omega, by simp [numB_nil]⟩
  rintro k ⟨_, _⟩ ⟨i, rfl, h0, rfl⟩
  dsimp only
  by_cases hi : i < t.size
  · right
    have b1 := numB_nonneg (all_take hd i)
    have b2 := numB_lt (all_take hd i)
    have b3 : (10 : Int) ^ (List.take i (bytesOf t)).length ≤ 10 ^ 8 := by
      rw [List.length_take, hn, Nat.min_eq_left (by omega)]
      exact ipow_le (by omega) (by omega)
    have hc := getD_digT hd (i := i) (by omega)
    have hs := take_snoc (l := bytesOf t) (i := i) (by omega)
    have b4 : (10 : Int) ^ 8 = 100000000 := by decide
    refine ⟨(numB ((bytesOf t).take (i + 1)), (i : Int) + 1), ?_, by dsimp only; omega, i + 1, rfl, by omega, rfl⟩
    rw [g_nat_Read_l2, hs, numB_snoc]
    generalize numB ((bytesOf t).take i) = d at *
    rw [hn]
    have hi' : (i : Int) < ((bytesOf t).length : Int) := by omega
    simp (discharger := omega) only [decide_eq_true_eq, if_pos, if_neg, if_true, if_false, bsome, beq_iff, bne_iff, idxI, bidxI, sslI, lslI, k64, ku64, ku32, ku8, i64w, u64w, u32w, u8w, tdivI, tmodI, tu0a, tu1a, tu2a, tu3a, tu4a, tu5a, lta, bindSl, bindSr, outSl, outSr, Int.toNat_natCast, List.length_cons, List.length_nil, List.length_set, Int.toNat_zero, List.replicate_zero]
  · left
    have : i = t.size := by omega
    subst this
    refine ⟨numB ((bytesOf t).take t.size), by rw [g_nat_Read_l2, hn]; simp (discharger := omega) only [decide_eq_true_eq, if_pos, if_neg, if_true, if_false, bsome, beq_iff, bne_iff, idxI, bidxI, sslI, lslI, k64, ku64, ku32, ku8, i64w, u64w, u32w, u8w, tdivI, tmodI, tu0a, tu1a, tu2a, tu3a, tu4a, tu5a, lta, bindSl, bindSr, outSl, outSr, Int.toNat_natCast, List.length_cons, List.length_nil, List.length_set, Int.toNat_zero, List.replicate_zero], ?_⟩
    rw [List.take_of_length_le (by omega)]
    rfl
theorem read_loop {s : ByteArray} (hs : s.size ≤ 8000000) (hK : 2000000000 < K) (hd : (bytesOf s).all digT = true) :
    ∃ r : List Int, g_nat_Read_l0 K s K [] (s.size : Int) = some r ∧ 9 * r.length < s.size + 9 ∧ DigB 1000000000 r ∧ valB 1000000000 r = numT s := by
  have hn := bytesOf_length s
  refine loopW (fun k (q : List Int × Int) => g_nat_Read_l0 K s k q.1 q.2) (fun q => q.2 = (s.size : Int) - 9 * q.1.length ∧ 9 * q.1.length < s.size + 9 ∧ DigB 1000000000 q.1 ∧ valB 1000000000 q.1 + 1000000000 ^ q.1.length * numB ((bytesOf s).take q.2.toNat) = numT s) (fun q => (q.2 + 9).toNat) _ ?_ (([], (s.size : Int)) : List Int × Int) (by dsimp only; omega) ⟨by simp, by simp, .nil _, by simp [valB]; rw [List.take_of_length_le (by omega)]; rfl⟩
  rintro k ⟨out, e⟩ ⟨h1, h2, h3, h4⟩
  dsimp only at h1 h2 h3 h4 ⊢
  by_cases he : e > 0
  · right
    obtain ⟨lo, hlo, hm⟩ : ∃ lo : Nat, imax 0 (kwrap .i64 (e - 9)) = lo ∧ ((lo : Int) = e - 9 ∨ ((lo = 0) ∧ e < 9)) := by
      rw [k64 (by omega) (by omega)]
      unfold imax
      by_cases h9 : e - 9 > 0
      · exact ⟨(e - 9).toNat, by rw [if_pos h9]; omega, .inl (by omega)⟩
      · exact ⟨0, by rw [if_neg h9]; rfl, by omega⟩
    have hb : bytesOf (s.extract lo e.toNat) = ((bytesOf s).drop lo).take (e.toNat - lo) := bytesOf_extract _ _ _
    have hsz : (s.extract lo e.toNat).size = e.toNat - lo := by rw [← bytesOf_length, hb, List.length_take, List.length_drop]; omega
    have hdp : (bytesOf (s.extract lo e.toNat)).all digT = true := by rw [hb]; exact all_take (all_drop hd _) _
    have hp := read_part (K := K) (t := s.extract lo e.toNat) (by omega) hK hdp
    have hv0 := numB_nonneg hdp
    have hv1 := numB_lt hdp
    have hsplit : (bytesOf s).take e.toNat = (bytesOf s).take lo ++ bytesOf (s.extract lo e.toNat) := by
      rw [hb, show e.toNat = lo + (e.toNat - lo) by omega, List.take_add]; simp
    have hlen : (bytesOf (s.extract lo e.toNat)).length = e.toNat - lo := by rw [bytesOf_length]; exact hsz
    have hBv : numB (bytesOf (s.extract lo e.toNat)) < 1000000000 := by
      have : (10 : Int) ^ (bytesOf (s.extract lo e.toNat)).length ≤ 10 ^ 9 := ipow_le (by omega) (by omega)
      have e9 : (10 : Int) ^ 9 = 1000000000 := by decide
      omega
    refine ⟨(out ++ [numT (s.extract lo e.toNat)], e - 9), ?_, by dsimp only; omega, by simp; omega, by simp; omega, h3.snoc ⟨hv0, hBv⟩, ?_⟩
    · rw [g_nat_Read_l0, hlo]
      simp (discharger := omega) only [decide_eq_true_eq, if_pos, if_neg, if_true, if_false, bsome, beq_iff, bne_iff, idxI, bidxI, sslI, lslI, k64, ku64, ku32, ku8, i64w, u64w, u32w, u8w, tdivI, tmodI, tu0a, tu1a, tu2a, tu3a, tu4a, tu5a, lta, bindSl, bindSr, outSl, outSr, Int.toNat_natCast, List.length_cons, List.length_nil, List.length_set, Int.toNat_zero, List.replicate_zero, hp]
    · dsimp only
      rw [valB_snoc, List.length_append, List.length_singleton, Int.pow_succ, numT_B]
      rw [hsplit, numB_app, hlen] at h4
      rcases hm with hm | ⟨hm, h9⟩
      · have e9 : e.toNat - lo = 9 := by omega
        have e10 : (10 : Int) ^ 9 = 1000000000 := by decide
        have el : (e - 9).toNat = lo := by omega
        rw [e9, e10] at h4
        rw [el]
        grind
      · subst hm
        have el : (e - 9).toNat = 0 := by omega
        rw [el, List.take_zero, numB_nil] at *
        grind
  · left
    have el : e.toNat = 0 := by omega
    rw [el, List.take_zero, numB_nil] at h4
    exact ⟨out, by rw [g_nat_Read_l0]; simp (discharger := omega) only [decide_eq_true_eq, if_pos, if_neg, if_true, if_false, bsome, beq_iff, bne_iff, idxI, bidxI, sslI, lslI, k64, ku64, ku32, ku8, i64w, u64w, u32w, u8w, tdivI, tmodI, tu0a, tu1a, tu2a, tu3a, tu4a, tu5a, lta, bindSl, bindSr, outSl, outSr, Int.toNat_natCast, List.length_cons, List.length_nil, List.length_set, Int.toNat_zero, List.replicate_zero], h2, h3, by omega⟩
theorem read_ok {s : ByteArray} (hs : s.size ≤ 8000000) (hK : 2000000000 < K) (hd : (bytesOf s).all digT = true) : ∃ z, g_nat_Read K s = some z ∧ NumN (numT s) z ∧ 9 * z.length < s.size + 9 := by
  obtain ⟨r, h1, h2, h3, h4⟩ := read_loop hs hK hd
  obtain ⟨t, t1, t2, t3, t4⟩ := trim_ok (K := K) (B := 1000000000) (l := r) (by omega) hK h3
  exact ⟨t, by unfold g_nat_Read; simp (discharger := omega) only [decide_eq_true_eq, if_pos, if_neg, if_true, if_false, bsome, beq_iff, bne_iff, idxI, bidxI, sslI, lslI, k64, ku64, ku32, ku8, i64w, u64w, u32w, u8w, tdivI, tmodI, tu0a, tu1a, tu2a, tu3a, tu4a, tu5a, lta, bindSl, bindSr, outSl, outSr, Int.toNat_natCast, List.length_cons, List.length_nil, List.length_set, Int.toNat_zero, List.replicate_zero, h1, t1], ⟨t2, by rw [t3, h4]⟩, by omega⟩
end Go.Am.Tryz
/- Plain law: the reference's texts of digits. -/
namespace Go.Am.Tryz
open Go Go.Am Go.Proofs
set_option linter.unusedSimpArgs false
set_option linter.unusedVariables false
variable {K : Nat}
theorem head_bidx {s : ByteArray} {c : Int} {l : List Int} (h : bytesOf s = c :: l) : bidx s 0 = some c := by rw [bidx_eq, h]; rfl
theorem strip_loop : ∀ n k (s : ByteArray), s.size = n → n < k → 0 < n → (bytesOf s).all digT = true → ∃ t, g_R_strip_l0 K k s = some t ∧ CanT t ∧ numT t = numT s := by
  intro n
  induction n with
  | zero => intro k s _ _ h; omega
  | succ n ih =>
    intro k s hs hk _ hd
    obtain ⟨k, rfl⟩ : ∃ m, k = m + 1 := ⟨k - 1, by omega⟩
    have hn := bytesOf_length s
    cases hb : bytesOf s with
    | nil => rw [hb] at hn; simp at hn; omega
    | cons c l =>
      rw [g_R_strip_l0, head_bidx hb]
      by_cases h1 : (s.size : Int) > 1
      · by_cases h2 : c = 48
        · obtain ⟨t, h3, h4, h5⟩ := ssl_tail hb
          have hl : l.length = n := by rw [hb] at hn; simp at hn; omega
          obtain ⟨r, h6, h7, h8⟩ := ih k t (by omega) (by omega) (by omega) (by rw [h4]; rw [hb] at hd; simp only [List.all_cons, Bool.and_eq_true] at hd; exact hd.2)
          refine ⟨r, ?_, h7, ?_⟩
          · simp [h1, h2, h3, h6, tu1]
          · rw [h8, numT_cons (s := s) (t := t) (c := c) (by rw [hb, h4]), h2]; simp
        · refine ⟨s, by simp [h1, h2, tu1], ⟨by omega, hd, fun e => ?_⟩, rfl⟩
          rw [hb] at e; simp at e; exact absurd e h2
      · exact ⟨s, by simp [h1, tu1], ⟨by omega, hd, fun e => by omega⟩, rfl⟩
theorem strip_ref {s : ByteArray} (hs : s.size ≤ 1048576) (h0 : 0 < s.size) (hK : s.size < K) (hd : (bytesOf s).all digT = true) : ∃ t, g_R_strip K s = some t ∧ CanT t ∧ numT t = numT s := by
  obtain ⟨t, h1, h2⟩ := strip_loop (K := K) s.size K s rfl hK h0 hd
  exact ⟨t, by unfold g_R_strip; rw [h1]; rfl, h2⟩
theorem digit_ref {s : ByteArray} (hs : s.size ≤ 1048576) (hd : (bytesOf s).all digT = true) (k : Nat) (hk : k ≤ 1048577) : g_R_digit K s k = some ((digsT s).getD k 0) := by
  have hn := bytesOf_length s
  unfold g_R_digit
  by_cases h : k < s.size
  · have h' : ((k : Int) < (s.size : Int)) := by omega
    have hi : s.size - 1 - k < (bytesOf s).length := by omega
    have e1 : kwrap .i64 (kwrap .i64 ((s.size : Int) - 1) - (k : Int)) = ((s.size - 1 - k : Nat) : Int) := by
      rw [kw (a := (s.size : Int) - 1) (by omega) (by omega), kw (by omega) (by omega)]; omega
    have hx : (bytesOf s)[s.size - 1 - k]? = some (bytesOf s)[s.size - 1 - k] := List.getElem?_eq_getElem hi
    have hc := List.all_eq_true.1 hd _ (List.getElem_mem hi)
    simp only [digT, Bool.and_eq_true, decide_eq_true_eq] at hc
    rw [decide_eq_true h', if_pos rfl, e1, bidx_eq, idx_nat hx]
    have hg : (digsT s).getD k 0 = (bytesOf s)[s.size - 1 - k] - 48 := by
      unfold digsT
      rw [List.getD_eq_getElem?_getD, List.getElem?_reverse (by simp; omega), List.length_map, hn, List.getElem?_map, hx]
      rfl
    rw [hg]
    generalize (bytesOf s)[s.size - 1 - k] = c at hc
    have e2 : kwrap .u8 (c - 48) = c - 48 := kwrap_in (by simp [krange]; omega)
    have e3 : IntKind.wrap .i64 (c - 48) = c - 48 := by rw [← kwrap_eq]; exact kw (by omega) (by omega)
    simp [e2, e3]
  · have h' : ¬ ((k : Int) < (s.size : Int)) := by omega
    rw [decide_eq_false h', if_neg (by simp)]
    congr 1
    rw [List.getD_eq_getElem?_getD, List.getElem?_eq_none (by rw [digsT_len]; omega)]
    rfl
theorem u8_in {x : Int} (h : 0 ≤ x) (h' : x ≤ 255) : kwrap .u8 x = x := kwrap_in (by simp [krange]; omega)
theorem text_loop {l : List Int} (hl : l.length ≤ 1048577) (hK : l.length < K) (hd : DigB 10 l) : g_R_text_l0 K l K (List.replicate l.length 0) 0 = some (l.map (48 + ·)).reverse := by
  suffices h : ∃ r, g_R_text_l0 K l K (List.replicate l.length 0) 0 = some r ∧ r = (l.map (48 + ·)).reverse by
    obtain ⟨r, h1, rfl⟩ := h; exact h1
  refine loop_inv (S := List Int) l.length (fun k s i => g_R_text_l0 K l k s i) (fun b i => b.length = l.length ∧ ∀ j < l.length, b.getD j 0 = if l.length - 1 - j < i then 48 + l.getD (l.length - 1 - j) 0 else 0) _ ?_ ?_ K _ hK ⟨by simp, fun j hj => by simp [List.getD_eq_getElem?_getD, hj]⟩
  · rintro k b i hi ⟨hb, hj⟩
    right
    have hp : l.length - 1 - i < b.length := by omega
    have e1 : kwrap .i64 (kwrap .i64 ((l.length : Int) - 1) - (i : Int)) = ((l.length - 1 - i : Nat) : Int) := by
      rw [kw (a := (l.length : Int) - 1) (by omega) (by omega), kw (by omega) (by omega)]; omega
    have hx := hd (l.getD i 0) (by rw [List.getD_eq_getElem?_getD, List.getElem?_eq_getElem hi]; simp)
    have e2 : IntKind.wrap .u8 (kwrap .i64 (48 + l.getD i 0)) = 48 + l.getD i 0 := by
      rw [kw (a := 48 + l.getD i 0) (by omega) (by omega), ← kwrap_eq]; exact u8_in (by omega) (by omega)
    refine ⟨b.set (l.length - 1 - i) (48 + l.getD i 0), ⟨by simp [hb], fun j hjl => ?_⟩, ?_⟩
    · have hg : (b.set (l.length - 1 - i) (48 + l.getD i 0)).getD j 0 = if j = l.length - 1 - i then 48 + l.getD i 0 else b.getD j 0 := getD_set hp
      rw [hg, hj j hjl]
      by_cases e : j = l.length - 1 - i
      · have e3 : l.length - 1 - j = i := by omega
        rw [if_pos e, e3, if_pos (Nat.lt_succ_self i)]
      · rw [if_neg e]
        by_cases e3 : l.length - 1 - j < i
        · rw [if_pos e3, if_pos (by omega)]
        · rw [if_neg e3, if_neg (by omega)]
    · show g_R_text_l0 K l (k + 1) b i = _
      rw [g_R_text_l0, lt_nat hi, if_pos rfl, idx_getD hi]
      simp only [Option.bind_some, e1, idx_getD hp, e2, Int.toNat_natCast, kw1 hi (by omega)]
  · rintro k b i rfl ⟨hb, hj⟩
    refine ⟨b, ?_, ?_⟩
    · show g_R_text_l0 K l (k + 1) b l.length = _
      rw [g_R_text_l0, nlt_nat (Nat.le_refl _)]; simp
    · apply List.ext_getElem (by simp [hb])
      intro j h1 h2
      have h3 := hj j (by omega)
      rw [if_pos (by omega), List.getD_eq_getElem?_getD, List.getElem?_eq_getElem h1, List.getD_eq_getElem?_getD, List.getElem?_eq_getElem (show l.length - 1 - j < l.length by omega)] at h3
      simp at h3
      simp [h3]
/-- The text of digits. -/
theorem text_ref {l : List Int} (hl : l.length ≤ 1048575) (h0 : l ≠ []) (hK : l.length + 1 < K) (hd : DigB 10 l) : ∃ t, g_R_text K l = some t ∧ CanT t ∧ numT t = valB 10 l := by
  have hlen : 0 < l.length := by cases l with | nil => exact absurd rfl h0 | cons _ _ => simp
  have hrange : ∀ x ∈ (l.map (48 + ·)).reverse, 0 ≤ x ∧ x ≤ 255 := fun x hx => by
    rw [List.mem_reverse, List.mem_map] at hx
    obtain ⟨d, h1, rfl⟩ := hx
    have := hd d h1
    omega
  have hb := bytesOf_str _ hrange
  have hz : bytesOf ((⟨#[48]⟩ : ByteArray) ++ strOfNums (l.map (48 + ·)).reverse) = 48 :: (l.map (48 + ·)).reverse := by
    rw [bytesOf_append, hb]; rfl
  have hsz : ((⟨#[48]⟩ : ByteArray) ++ strOfNums (l.map (48 + ·)).reverse).size = l.length + 1 := by
    rw [← bytesOf_length, hz]; simp
  have hdg : (bytesOf ((⟨#[48]⟩ : ByteArray) ++ strOfNums (l.map (48 + ·)).reverse)).all digT = true := by
    rw [hz, List.all_eq_true]
    intro x hx
    rcases List.mem_cons.1 hx with rfl | hx
    · rfl
    · rw [List.mem_reverse, List.mem_map] at hx
      obtain ⟨d, h1, rfl⟩ := hx
      have := hd d h1
      simp [digT]; omega
  obtain ⟨t, h1, h2, h3⟩ := strip_ref (K := K) (s := (⟨#[48]⟩ : ByteArray) ++ strOfNums (l.map (48 + ·)).reverse) (by omega) (by omega) (by omega) hdg
  refine ⟨t, ?_, h2, ?_⟩
  · unfold g_R_text
    rw [if_pos (by omega), Int.toNat_natCast, text_loop (by omega) (by omega) hd]
    have e1 : (⟨#[48]⟩ : ByteArray).size = 1 := rfl
    simp only [Option.bind_some, tu1, List.length_reverse, List.length_map, strOfNums_size, e1]
    rw [if_pos hlen, if_pos (by omega), h1]
    rfl
  · rw [h3]
    unfold numT digsT
    rw [hz, List.map_cons, List.reverse_cons, valB_app, List.map_reverse, List.reverse_reverse, List.map_map]
    have : l.map ((fun x => x - 48) ∘ (fun x => 48 + x)) = l := by
      conv => rhs; rw [← List.map_id l]
      apply List.map_congr_left
      intro x _
      show 48 + x - 48 = x
      omega
    rw [this]
    simp [valB]
end Go.Am.Tryz
/- Plain law: the reference's sum and difference of texts. -/
namespace Go.Am.Tryz
open Go Go.Am Go.Proofs
set_option linter.unusedSimpArgs false
set_option linter.unusedVariables false
variable {K : Nat}
theorem take_val (B : Int) (x : List Int) (k : Nat) : valB B (x.take (k + 1)) = valB B (x.take k) + B ^ k * x.getD k 0 := by
  by_cases h : k < x.length
  · have hx : x[k]? = some x[k] := List.getElem?_eq_getElem h
    rw [List.take_add_one, hx, valB_app, List.length_take, Nat.min_eq_left (by omega), List.getD_eq_getElem?_getD, hx]
    simp [valB]
  · rw [List.take_of_length_le (by omega), List.take_of_length_le (by omega), List.getD_eq_getElem?_getD, List.getElem?_eq_none (by omega)]
    simp
theorem dig_at {B : Int} (hB : 0 < B) {x : List Int} (h : DigB B x) (k : Nat) : 0 ≤ x.getD k 0 ∧ x.getD k 0 < B := by
  by_cases hk : k < x.length
  · rw [List.getD_eq_getElem?_getD, List.getElem?_eq_getElem hk]
    exact h _ (List.getElem_mem hk)
  · rw [List.getD_eq_getElem?_getD, List.getElem?_eq_none (by omega)]
    simp [hB]
theorem pow_mono {i j : Nat} (h : i ≤ j) : (10 : Int) ^ i ≤ 10 ^ j := by
  have h1 : (10 : Nat) ^ i ≤ 10 ^ j := Nat.pow_le_pow_right (by omega) h
  have h2 : ((10 ^ i : Nat) : Int) ≤ ((10 ^ j : Nat) : Int) := by omega
  simpa using h2
theorem pow_pos10 (i : Nat) : 0 < (10 : Int) ^ i := by
  have h1 : 0 < (10 : Nat) ^ i := Nat.pow_pos (by omega)
  have h2 : (0 : Int) < ((10 ^ i : Nat) : Int) := by omega
  simpa using h2
theorem add_ref {a b : ByteArray} (ha : a.size ≤ 1000000) (hb : b.size ≤ 1000000) (h0 : 0 < a.size) (hK : 1048580 < K) (da : (bytesOf a).all digT = true) (db : (bytesOf b).all digT = true) : ∃ t, g_R_NatAdd K a b = some t ∧ CanT t ∧ numT t = numT a + numT b := by
  have dx := digsT_dig da
  have dy := digsT_dig db
  have lx := digsT_len a
  have ly := digsT_len b
  have vx := valB_lt (B := 10) (by omega) _ dx
  have vy := valB_lt (B := 10) (by omega) _ dy
  have key : ∃ r, g_R_NatAdd_l0 K a b K [] 0 0 = some r ∧ r ≠ [] ∧ r.length ≤ 1048575 ∧ DigB 10 r ∧ valB 10 r = numT a + numT b := by
    refine loop_inv (S := List Int × Int) (max a.size b.size + 1) (fun k s i => g_R_NatAdd_l0 K a b k s.1 s.2 i) (fun s i => s.1.length = i ∧ DigB 10 s.1 ∧ (0 ≤ s.2 ∧ s.2 ≤ 1) ∧ valB 10 s.1 + 10 ^ i * s.2 = valB 10 ((digsT a).take i) + valB 10 ((digsT b).take i)) _ ?_ ?_ K ([], 0) (by omega) ⟨rfl, DigB.nil 10, ⟨by omega, by omega⟩, by simp [valB]⟩
    · rintro k ⟨out, c⟩ i hi ⟨h1, h2, h3, h4⟩
      simp only at h1 h2 h3 h4
      have hcond : (if (decide ((i : Int) < (a.size : Int))) = true then some true else (if (decide ((i : Int) < (b.size : Int))) = true then some true else some (decide (c > 0)))) = some (decide ((i < a.size ∨ i < b.size) ∨ c > 0)) := by
        by_cases e1 : i < a.size
        · simp [e1]
        · by_cases e2 : i < b.size
          · simp [e1, e2]
          · simp [e1, e2]
      show (∃ r, g_R_NatAdd_l0 K a b (k + 1) out c i = some r ∧ _) ∨ _
      rw [g_R_NatAdd_l0, hcond]
      simp only [Option.bind_some, tu1]
      by_cases hc : (i < a.size ∨ i < b.size) ∨ c > 0
      · right
        have ex := dig_at (by omega) dx i
        have ey := dig_at (by omega) dy i
        rw [decide_eq_true hc, if_pos rfl, digit_ref (by omega) da i (by omega), digit_ref (by omega) db i (by omega)]
        have tx := take_val 10 (digsT a) i
        have ty := take_val 10 (digsT b) i
        generalize (digsT a).getD i 0 = x at ex tx
        generalize (digsT b).getD i 0 = y at ey ty
        have e1 : kwrap .i64 (x + y) = x + y := kw (by omega) (by omega)
        have e2 : kwrap .i64 (x + y + c) = x + y + c := kw (by omega) (by omega)
        have e3 : Int.tmod (x + y + c) 10 = (x + y + c) % 10 := Int.tmod_eq_emod_of_nonneg (by omega)
        have e4 : Int.tdiv (x + y + c) 10 = (x + y + c) / 10 := Int.tdiv_eq_ediv_of_nonneg (by omega)
        have e5 : kwrap .i64 ((x + y + c) / 10) = (x + y + c) / 10 := kw (by omega) (by omega)
        refine ⟨(out ++ [(x + y + c) % 10], (x + y + c) / 10), ⟨by simp [h1], h2.app (fun d hd => by simp at hd; omega), ⟨by omega, by omega⟩, ?_⟩, ?_⟩
        · have hm := Int.emod_add_mul_ediv (x + y + c) 10
          generalize hq : (x + y + c) / 10 = q at hm
          generalize hr : (x + y + c) % 10 = r at hm
          simp only
          rw [valB_app, h1, tx, ty, Int.pow_succ]
          simp only [valB, Int.mul_zero, Int.add_zero]
          generalize valB 10 ((digsT a).take i) = A at h4
          generalize valB 10 ((digsT b).take i) = B at h4
          generalize valB 10 out = C at h4
          generalize (10 : Int) ^ i = p at h4
          have e6 : p * (r + 10 * q) = p * (x + y + c) := by rw [hm]
          rw [Int.mul_add, Int.mul_add, Int.mul_add, ← Int.mul_assoc] at e6
          omega
        · simp only [Option.bind_some, e1, e2, e3, e4, e5, lt, List.length_cons, List.length_nil, kw1 hi (by omega)]
          rw [if_pos (by omega)]
      · left
        rw [decide_eq_false hc]
        refine ⟨out, by simp, ?_, by omega, h2, ?_⟩
        · intro e; rw [e] at h1; simp at h1; omega
        · rw [List.take_of_length_le (by omega), List.take_of_length_le (by omega)] at h4
          have : c = 0 := by omega
          rw [this] at h4
          unfold numT
          omega
    · rintro k ⟨out, c⟩ i rfl ⟨h1, h2, h3, h4⟩
      simp only at h1 h2 h3 h4
      rw [List.take_of_length_le (by omega), List.take_of_length_le (by omega)] at h4
      have p1 : (10 : Int) ^ (digsT a).length ≤ 10 ^ (max a.size b.size) := pow_mono (by omega)
      have p2 : (10 : Int) ^ (digsT b).length ≤ 10 ^ (max a.size b.size) := pow_mono (by omega)
      have p3 := valB_nonneg (B := 10) (by omega) _ h2
      have p4 := pow_pos10 (max a.size b.size)
      have hc0 : c = 0 := by
        by_cases e : c = 0
        · exact e
        · have e1 : c = 1 := by omega
          rw [e1, Int.mul_one, Int.pow_succ] at h4
          omega
      subst hc0
      have hcond : (if (decide (((max a.size b.size + 1 : Nat) : Int) < (a.size : Int))) = true then some true else (if (decide (((max a.size b.size + 1 : Nat) : Int) < (b.size : Int))) = true then some true else some (decide ((0 : Int) > 0)))) = some false := by
        rw [decide_eq_false (by omega), decide_eq_false (by omega)]; rfl
      refine ⟨out, ?_, ?_, by omega, h2, by unfold numT; omega⟩
      · show g_R_NatAdd_l0 K a b (k + 1) out 0 _ = _
        rw [g_R_NatAdd_l0, hcond]; rfl
      · intro e; rw [e] at h1; simp at h1
  obtain ⟨r, h1, h2, h3, h4, h5⟩ := key
  obtain ⟨t, h6, h7, h8⟩ := text_ref (K := K) h3 h2 (by omega) h4
  refine ⟨t, ?_, h7, by rw [h8, h5]⟩
  unfold g_R_NatAdd
  rw [h1]
  simp only [Option.bind_some, tu1, h6]
theorem sub_ref {a b : ByteArray} (ha : a.size ≤ 1000000) (hb : b.size ≤ a.size) (h0 : 0 < a.size) (hK : 1048580 < K) (da : (bytesOf a).all digT = true) (db : (bytesOf b).all digT = true) (hle : numT b ≤ numT a) : ∃ t, g_R_NatSub K a b = some t ∧ CanT t ∧ numT t = numT a - numT b := by
  have dx := digsT_dig da
  have dy := digsT_dig db
  have lx := digsT_len a
  have ly := digsT_len b
  have key : ∃ r, g_R_NatSub_l0 K a b K [] 0 0 = some r ∧ r ≠ [] ∧ r.length ≤ 1048575 ∧ DigB 10 r ∧ valB 10 r = numT a - numT b := by
    refine loop_inv (S := List Int × Int) a.size (fun k s i => g_R_NatSub_l0 K a b k s.1 s.2 i) (fun s i => s.1.length = i ∧ DigB 10 s.1 ∧ (0 ≤ s.2 ∧ s.2 ≤ 1) ∧ valB 10 s.1 + valB 10 ((digsT b).take i) = valB 10 ((digsT a).take i) + 10 ^ i * s.2) _ ?_ ?_ K ([], 0) (by omega) ⟨rfl, DigB.nil 10, ⟨by omega, by omega⟩, by simp [valB]⟩
    · rintro k ⟨out, c⟩ i hi ⟨h1, h2, h3, h4⟩
      simp only at h1 h2 h3 h4
      right
      have ex := dig_at (by omega) dx i
      have ey := dig_at (by omega) dy i
      show ∃ s', _ ∧ g_R_NatSub_l0 K a b (k + 1) out c i = _
      rw [g_R_NatSub_l0, lt_nat hi, if_pos rfl, digit_ref (by omega) da i (by omega), digit_ref (by omega) db i (by omega)]
      have tx := take_val 10 (digsT a) i
      have ty := take_val 10 (digsT b) i
      generalize (digsT a).getD i 0 = x at ex tx
      generalize (digsT b).getD i 0 = y at ey ty
      have e1 : kwrap .i64 (x - y) = x - y := kw (by omega) (by omega)
      have e2 : kwrap .i64 (x - y - c) = x - y - c := kw (by omega) (by omega)
      have e3 : kwrap .i64 (x - y - c + 10) = x - y - c + 10 := kw (by omega) (by omega)
      simp only [Option.bind_some, e1, e2, e3, lt, tu2, List.length_cons, List.length_nil, kw1 hi (by omega)]
      have h9 : out.length + (0 + 1) ≤ 16777216 := by omega
      by_cases hn : x - y - c < 0
      · refine ⟨(out ++ [x - y - c + 10], 1), ⟨by simp [h1], h2.app (fun d hd => by simp at hd; omega), ⟨by omega, by omega⟩, ?_⟩, ?_⟩
        · simp only
          rw [valB_app, h1, tx, ty, Int.pow_succ]
          simp only [valB, Int.mul_zero, Int.add_zero, Int.mul_one]
          generalize valB 10 ((digsT a).take i) = A at h4
          generalize valB 10 ((digsT b).take i) = B at h4
          generalize valB 10 out = C at h4
          generalize (10 : Int) ^ i = p at h4
          rw [Int.mul_add, Int.mul_sub, Int.mul_sub]
          omega
        · rw [decide_eq_true hn]
          simp only [if_true, Option.bind_some, if_pos h9, tu2]
      · refine ⟨(out ++ [x - y - c], 0), ⟨by simp [h1], h2.app (fun d hd => by simp at hd; omega), ⟨by omega, by omega⟩, ?_⟩, ?_⟩
        · simp only
          rw [valB_app, h1, tx, ty, Int.pow_succ]
          simp only [valB, Int.mul_zero, Int.add_zero]
          generalize valB 10 ((digsT a).take i) = A at h4
          generalize valB 10 ((digsT b).take i) = B at h4
          generalize valB 10 out = C at h4
          generalize (10 : Int) ^ i = p at h4
          rw [Int.mul_sub, Int.mul_sub]
          omega
        · rw [decide_eq_false hn]
          simp only [Bool.false_eq_true, if_false, Option.bind_some, if_pos h9, tu2]
    · rintro k ⟨out, c⟩ i rfl ⟨h1, h2, h3, h4⟩
      simp only at h1 h2 h3 h4
      rw [List.take_of_length_le (by omega), List.take_of_length_le (by omega)] at h4
      have p3 := valB_lt (B := 10) (by omega) _ h2
      rw [h1] at p3
      have hle' : valB 10 (digsT b) ≤ valB 10 (digsT a) := hle
      have hc0 : c = 0 := by
        by_cases e : c = 0
        · exact e
        · have e1 : c = 1 := by omega
          rw [e1, Int.mul_one] at h4
          omega
      subst hc0
      refine ⟨out, ?_, ?_, by omega, h2, by unfold numT; omega⟩
      · show g_R_NatSub_l0 K a b (k + 1) out 0 _ = _
        rw [g_R_NatSub_l0, nlt_nat (Nat.le_refl _)]; simp
      · intro e; rw [e] at h1; simp at h1; omega
  obtain ⟨r, h1, h2, h3, h4, h5⟩ := key
  obtain ⟨t, h6, h7, h8⟩ := text_ref (K := K) h3 h2 (by omega) h4
  refine ⟨t, ?_, h7, by rw [h8, h5]⟩
  unfold g_R_NatSub
  rw [h1]
  simp only [Option.bind_some, tu1, h6]
end Go.Am.Tryz
/- Plain law: the reference's comparison, product, quotient and divisor of texts. -/
namespace Go.Am.Tryz
open Go Go.Am Go.Proofs
set_option linter.unusedSimpArgs false
set_option linter.unusedVariables false
variable {K : Nat}
/-! ### Canonical texts -/
theorem numT_nonneg {s : ByteArray} (h : (bytesOf s).all digT = true) : 0 ≤ numT s := numB_nonneg h
theorem numT_lt {s : ByteArray} (h : (bytesOf s).all digT = true) : numT s < 10 ^ s.size := by
  have := numB_lt h
  rwa [bytesOf_length] at this
/-- A canonical text of two or more digits is not small. -/
theorem canT_ge {s : ByteArray} (h : CanT s) (h2 : 2 ≤ s.size) : (10 : Int) ^ (s.size - 1) ≤ numT s := by
  have hh : (bytesOf s).head? ≠ some 48 := fun e => by have := h.2.2 e; omega
  have h3 := can_ge (B := 10) (by omega) (canT_can h hh) (by intro e; have := digsT_len s; rw [e] at this; simp at this; omega)
  rwa [digsT_len] at h3
theorem canT_small {a b : ByteArray} (ha : (bytesOf a).all digT = true) (hb : CanT b) (h0 : a.size ≠ 0) (h : a.size < b.size) : numT a < numT b := by
  have h1 := numT_lt ha
  have h2 := canT_ge hb (by omega)
  have h3 : (10 : Int) ^ a.size ≤ 10 ^ (b.size - 1) := ipow_le (by omega) (by omega)
  omega
theorem canT_size {a b : ByteArray} (ha : CanT a) (hb : CanT b) (h : numT b ≤ numT a) : b.size ≤ a.size := by
  refine Nat.not_lt.1 fun hl => ?_
  have := canT_small ha.2.1 hb ha.1 hl
  omega
theorem canT_zero : CanT ⟨#[48]⟩ := ⟨by decide, rfl, fun _ => rfl⟩
theorem numT_zero : numT ⟨#[48]⟩ = 0 := rfl
theorem canT_one : CanT ⟨#[49]⟩ := ⟨by decide, rfl, fun h => by simp [bytesOf] at h⟩
theorem numT_one : numT ⟨#[49]⟩ = 1 := rfl
theorem canT_eq0 {s : ByteArray} (h : CanT s) : numT s = 0 ↔ s = ⟨#[48]⟩ := ⟨fun e => numT_inj h canT_zero (by rw [e, numT_zero]), fun e => by rw [e, numT_zero]⟩
theorem bytesLess_num : ∀ (x y : List UInt8), x.length = y.length → (x.map fun b => (b.toNat : Int)).all digT = true → (y.map fun b => (b.toNat : Int)).all digT = true → (Op.bytesLess x y = true ↔ numB (x.map fun b => (b.toNat : Int)) < numB (y.map fun b => (b.toNat : Int)))
  | [], [], _, _, _ => by simp [Op.bytesLess]
  | [], _ :: _, h, _, _ => by simp at h
  | _ :: _, [], h, _, _ => by simp at h
  | a :: x, b :: y, h, hx, hy => by
    simp only [List.map_cons, List.all_cons, Bool.and_eq_true] at hx hy
    simp only [List.length_cons, Nat.add_right_cancel_iff] at h
    have ih := bytesLess_num x y h hx.2 hy.2
    have dx := digT_iff.1 hx.1
    have dy := digT_iff.1 hy.1
    simp only [Op.bytesLess, List.map_cons, numB_cons, List.length_map, h]
    have lx0 := numB_nonneg hx.2
    have lx1 := numB_lt hx.2
    have ly0 := numB_nonneg hy.2
    have ly1 := numB_lt hy.2
    rw [List.length_map] at lx1 ly1
    rw [h] at lx1
    generalize numB (x.map fun b => (b.toNat : Int)) = X at *
    generalize numB (y.map fun b => (b.toNat : Int)) = Y at *
    have p0 : (0 : Int) < 10 ^ y.length := Int.pow_pos (by omega)
    generalize (10 : Int) ^ y.length = P at *
    rw [Bool.or_eq_true, Bool.and_eq_true, ih, decide_eq_true_eq, beq_iff_eq, UInt8.lt_iff_toNat_lt]
    rcases Nat.lt_trichotomy a.toNat b.toNat with h1 | h1 | h1
    · have := mul_le (Int.le_of_lt p0) (show ((a.toNat : Int) - 48) + 1 ≤ (b.toNat : Int) - 48 by omega)
      rw [Int.mul_add, Int.mul_one] at this
      exact ⟨fun _ => by omega, fun _ => .inl h1⟩
    · have e : a = b := UInt8.toNat_inj.1 h1
      subst e
      exact ⟨fun h => by rcases h with h | h <;> omega, fun h => .inr ⟨rfl, by omega⟩⟩
    · have := mul_le (Int.le_of_lt p0) (show ((b.toNat : Int) - 48) + 1 ≤ (a.toNat : Int) - 48 by omega)
      rw [Int.mul_add, Int.mul_one] at this
      refine ⟨fun h => ?_, fun h => by omega⟩
      rcases h with h | ⟨h, _⟩
      · omega
      · subst h; omega
theorem sLt_num {a b : ByteArray} (h : a.size = b.size) (ha : (bytesOf a).all digT = true) (hb : (bytesOf b).all digT = true) : sLt a b = decide (numT a < numT b) := by
  have := bytesLess_num a.data.toList b.data.toList (by simpa using h) ha hb
  unfold sLt
  rw [ByteArray.toList_eq, ByteArray.toList_eq]
  by_cases c : numT a < numT b
  · rw [decide_eq_true c]; exact this.2 c
  · rw [decide_eq_false c]
    cases e : Op.bytesLess a.data.toList b.data.toList with
    | false => rfl
    | true => exact absurd (this.1 e) c
theorem cmp_ref {a b : ByteArray} (ha : CanT a) (hb : CanT b) : g_R_NatCmp K a b = some (if numT a < numT b then -1 else if numT a = numT b then 0 else 1) := by
  unfold g_R_NatCmp
  by_cases h1 : a.size < b.size
  · have := canT_small ha.2.1 hb ha.1 h1
    simp (discharger := omega) only [decide_eq_true_eq, if_pos, if_neg, if_true, if_false, bsome, beq_iff, bne_iff, idxI, bidxI, sslI, lslI, k64, ku64, ku32, ku8, i64w, u64w, u32w, u8w, tdivI, tmodI, tu0a, tu1a, tu2a, tu3a, tu4a, tu5a, lta, bindSl, bindSr, outSl, outSr, Int.toNat_natCast, List.length_cons, List.length_nil, List.length_set, Int.toNat_zero, List.replicate_zero]
  · by_cases h2 : a.size > b.size
    · have := canT_small hb.2.1 ha hb.1 h2
      simp (discharger := omega) only [decide_eq_true_eq, if_pos, if_neg, if_true, if_false, bsome, beq_iff, bne_iff, idxI, bidxI, sslI, lslI, k64, ku64, ku32, ku8, i64w, u64w, u32w, u8w, tdivI, tmodI, tu0a, tu1a, tu2a, tu3a, tu4a, tu5a, lta, bindSl, bindSr, outSl, outSr, Int.toNat_natCast, List.length_cons, List.length_nil, List.length_set, Int.toNat_zero, List.replicate_zero]
    · have he : a.size = b.size := by omega
      rw [if_neg (by simp; omega), if_neg (by simp; omega), sLt_num he ha.2.1 hb.2.1]
      by_cases c : numT a < numT b
      · simp (discharger := omega) only [decide_eq_true_eq, if_pos, if_neg, if_true, if_false, bsome, beq_iff, bne_iff, idxI, bidxI, sslI, lslI, k64, ku64, ku32, ku8, i64w, u64w, u32w, u8w, tdivI, tmodI, tu0a, tu1a, tu2a, tu3a, tu4a, tu5a, lta, bindSl, bindSr, outSl, outSr, Int.toNat_natCast, List.length_cons, List.length_nil, List.length_set, Int.toNat_zero, List.replicate_zero]
      · by_cases d : numT a = numT b
        · have : a = b := numT_inj ha hb d
          subst this
          have e : sEq a a = true := sEq_iff.2 rfl
          simp [e]
        · have e : sEq a b = false := by
            cases e : sEq a b with
            | false => rfl
            | true => rw [sEq_iff] at e; subst e; exact absurd rfl d
          simp [e, c, d]
/-! ### Products -/
theorem rmul_in {b : ByteArray} {out : List Int} {u : Int} {i : Nat} (hb : b.size ≤ 1000000) (hl : i + b.size < out.length) (ho : out.length ≤ 8000000) (hK : 2000000000 < K) (hu : 0 ≤ u ∧ u ≤ 9) (db : (bytesOf b).all digT = true) (d0 : DigB 10 out) :
    ∃ r : List Int, g_R_NatMul_l2 K b (i : Int) u K out 0 = some r ∧ r.length = out.length ∧ (∀ j, 0 ≤ r.getD j 0 ∧ r.getD j 0 ≤ 90) ∧ valB 10 r = valB 10 out + 10 ^ i * (u * numT b) := by
  have dx := digsT_dig db
  have lx := digsT_len b
  refine loopW (fun k (s : List Int × Int) => g_R_NatMul_l2 K b (i : Int) u k s.1 s.2) (fun s => ∃ q : Nat, s.2 = q ∧ q ≤ b.size ∧ s.1.length = out.length ∧ (∀ j, 0 ≤ s.1.getD j 0 ∧ s.1.getD j 0 ≤ 90) ∧ (∀ j, i + q ≤ j → s.1.getD j 0 ≤ 9) ∧ valB 10 s.1 = valB 10 out + 10 ^ i * (u * valB 10 ((digsT b).take q))) (fun s => (b.size - s.2 : Int).toNat) _ ?_ ((out, 0) : List Int × Int) (by simp; omega) ⟨0, rfl, by omega, rfl, fun j => by have := getD_dig (by omega) d0 j; dsimp only; omega, fun j _ => by have := getD_dig (by omega) d0 j; dsimp only; omega, by simp [valB]⟩
  rintro k ⟨o, _⟩ ⟨q, rfl, h0, h1, h2, h3, h4⟩
  dsimp only at h1 h2 h3 h4 ⊢
  by_cases hq : q < b.size
  · right
    have ey := getD_dig (by omega) dx q
    have eo := h2 (i + q)
    have eo9 := h3 (i + q) (Nat.le_refl _)
    have ty := valB_take 10 (digsT b) q
    have hdg := digit_ref (K := K) (s := b) (by omega) db q (by omega)
    have hm : 0 ≤ u * (digsT b).getD q 0 ∧ u * (digsT b).getD q 0 ≤ 81 := by
      have := mul_le hu.1 (show (digsT b).getD q 0 ≤ 9 by omega)
      exact ⟨mul_nn hu.1 ey.1, by omega⟩
    have hset := fun d => valB_set 10 o (i + q) d (by omega)
    have hgs := fun d j => getD_set (cs := o) (i := i + q) (j := j) (v := d) (by omega)
    have e1 : ((i : Int) + (q : Int)) = ((i + q : Nat) : Int) := by omega
    generalize hw : u * (digsT b).getD q 0 = w at hm
    generalize ho : o.getD (i + q) 0 = z at eo eo9 hset
    refine ⟨(o.set (i + q) (z + w), (q : Int) + 1), ?_, by dsimp only; omega, q + 1, rfl, by omega, by simp [h1], fun j => ?_, fun j hj => ?_, ?_⟩
    · rw [g_R_NatMul_l2, hdg]
      simp (discharger := omega) only [decide_eq_true_eq, if_pos, if_neg, if_true, if_false, bsome, beq_iff, bne_iff, idxI, bidxI, sslI, lslI, k64, ku64, ku32, ku8, i64w, u64w, u32w, u8w, tdivI, tmodI, tu0a, tu1a, tu2a, tu3a, tu4a, tu5a, lta, bindSl, bindSr, outSl, outSr, Int.toNat_natCast, List.length_cons, List.length_nil, List.length_set, Int.toNat_zero, List.replicate_zero, e1, hw, ho]
    · dsimp only; rw [hgs]; split
      · omega
      · exact h2 j
    · dsimp only; rw [hgs, if_neg (by omega)]; exact h3 j (by omega)
    · dsimp only
      rw [hset, h4, ty, ← hw, Int.pow_add]
      grind
  · left
    have : q = b.size := by omega
    subst this
    rw [List.take_of_length_le (by omega)] at h4
    exact ⟨o, by rw [g_R_NatMul_l2]; simp (discharger := omega) only [decide_eq_true_eq, if_pos, if_neg, if_true, if_false, bsome, beq_iff, bne_iff, idxI, bidxI, sslI, lslI, k64, ku64, ku32, ku8, i64w, u64w, u32w, u8w, tdivI, tmodI, tu0a, tu1a, tu2a, tu3a, tu4a, tu5a, lta, bindSl, bindSr, outSl, outSr, Int.toNat_natCast, List.length_cons, List.length_nil, List.length_set, Int.toNat_zero, List.replicate_zero], h1, h2, h4⟩
theorem rmul_carry {c v : List Int} (hv : v.length + 1 = c.length) (hl : c.length ≤ 8000000) (hK : 2000000000 < K) (hc : ∀ j, 0 ≤ c.getD j 0 ∧ c.getD j 0 ≤ 90) :
    ∃ r : List Int, g_R_NatMul_l4 K v K c 0 = some r ∧ r.length = c.length ∧ (∀ j, 0 ≤ r.getD j 0) ∧ (∀ j < v.length, r.getD j 0 ≤ 9) ∧ valB 10 r = valB 10 c := by
  refine loopW (fun k (s : List Int × Int) => g_R_NatMul_l4 K v k s.1 s.2) (fun s => ∃ i : Nat, s.2 = i ∧ i ≤ v.length ∧ s.1.length = c.length ∧ (∀ j, 0 ≤ s.1.getD j 0 ∧ s.1.getD j 0 ≤ 100) ∧ (∀ j, i < j → s.1.getD j 0 ≤ 90) ∧ (∀ j < i, s.1.getD j 0 ≤ 9) ∧ valB 10 s.1 = valB 10 c) (fun s => (v.length - s.2 : Int).toNat) _ ?_ ((c, 0) : List Int × Int) (by simp; omega) ⟨0, rfl, by omega, rfl, fun j => by have := hc j; dsimp only; omega, fun j _ => by have := hc j; dsimp only; omega, fun j hj => by omega, rfl⟩
  rintro k ⟨o, _⟩ ⟨i, rfl, h0, h1, h2, h3, h4, h5⟩
  dsimp only at h1 h2 h3 h4 h5 ⊢
  by_cases hi : i < v.length
  · right
    have e1 : ((i : Int) + 1).toNat = i + 1 := by omega
    have b1 := h2 i
    have b2 := h2 (i + 1)
    have b3 := h3 (i + 1) (by omega)
    by_cases h9 : o.getD i 0 > 9
    · generalize hz : o.getD i 0 = z at *
      generalize hz1 : o.getD (i + 1) 0 = z1 at *
      have hdm := Int.emod_add_mul_ediv z 10
      have hset := fun d => valB_set 10 o (i + 1) d (by omega)
      have hset2 := fun d e => valB_set 10 (o.set (i + 1) d) i e (by simp; omega)
      have hgs := fun d j => getD_set (cs := o) (i := i + 1) (j := j) (v := d) (by omega)
      have hgs2 := fun d e j => getD_set (cs := o.set (i + 1) d) (i := i) (j := j) (v := e) (by simp; omega)
      have hgi := fun d => hgs d i
      simp only [show ¬ i = i + 1 by omega, if_false, hz] at hgi
      have hsi : ∀ d, idx (o.set (i + 1) d) (i : Int) = some z := fun d => by rw [idxI (by omega) (by simp; omega), Int.toNat_natCast, hgi]
      refine ⟨((o.set (i + 1) (z1 + z / 10)).set i (z % 10), (i : Int) + 1), ?_, by dsimp only; omega, i + 1, rfl, by omega, by simp [h1], fun j => ?_, fun j hj => ?_, fun j hj => ?_, ?_⟩
      · rw [g_R_NatMul_l4]
        simp (discharger := omega) only [decide_eq_true_eq, if_pos, if_neg, if_true, if_false, bsome, beq_iff, bne_iff, idxI, bidxI, sslI, lslI, k64, ku64, ku32, ku8, i64w, u64w, u32w, u8w, tdivI, tmodI, tu0a, tu1a, tu2a, tu3a, tu4a, tu5a, lta, bindSl, bindSr, outSl, outSr, Int.toNat_natCast, List.length_cons, List.length_nil, List.length_set, Int.toNat_zero, List.replicate_zero, e1, hz, hz1, hsi]
      · dsimp only; rw [hgs2, hgs]
        have := h2 j
        split
        · omega
        · split <;> omega
      · dsimp only; rw [hgs2, hgs, if_neg (by omega), if_neg (by omega)]; exact h3 j (by omega)
      · dsimp only; rw [hgs2]
        split
        · omega
        · rw [hgs, if_neg (by omega)]; exact h4 j (by omega)
      · dsimp only
        rw [hset2, hset, hgi, hz1, h5, Int.pow_succ]
        grind
    · refine ⟨(o, (i : Int) + 1), ?_, by dsimp only; omega, i + 1, rfl, by omega, h1, h2, fun j hj => h3 j (by omega), fun j hj => ?_, h5⟩
      · have e : decide (o.getD i 0 > 9) = false := decide_eq_false h9
        rw [g_R_NatMul_l4]
        simp (discharger := omega) only [decide_eq_true_eq, if_pos, if_neg, if_true, if_false, bsome, beq_iff, bne_iff, idxI, bidxI, sslI, lslI, k64, ku64, ku32, ku8, i64w, u64w, u32w, u8w, tdivI, tmodI, tu0a, tu1a, tu2a, tu3a, tu4a, tu5a, lta, bindSl, bindSr, outSl, outSr, Int.toNat_natCast, List.length_cons, List.length_nil, List.length_set, Int.toNat_zero, List.replicate_zero, e, Bool.false_eq_true]
      · by_cases hj2 : j = i
        · subst hj2; dsimp only; omega
        · exact h4 j (by omega)
  · left
    have : i = v.length := by omega
    subst this
    exact ⟨o, by rw [g_R_NatMul_l4]; simp (discharger := omega) only [decide_eq_true_eq, if_pos, if_neg, if_true, if_false, bsome, beq_iff, bne_iff, idxI, bidxI, sslI, lslI, k64, ku64, ku32, ku8, i64w, u64w, u32w, u8w, tdivI, tmodI, tu0a, tu1a, tu2a, tu3a, tu4a, tu5a, lta, bindSl, bindSr, outSl, outSr, Int.toNat_natCast, List.length_cons, List.length_nil, List.length_set, Int.toNat_zero, List.replicate_zero], h1, fun j => (h2 j).1, h4, h5⟩
theorem kr1 {A B p q X : Int} : A * B + p * (q * B) = (A + p * q) * B := by grind
theorem rmul_loop {a b : ByteArray} (ha : a.size ≤ 500000) (hb : b.size ≤ 500000) (hK : 2000000000 < K) (da : (bytesOf a).all digT = true) (db : (bytesOf b).all digT = true) :
    ∃ r : List Int, g_R_NatMul_l0 K a b K (List.replicate (a.size + b.size + 1) 0) 0 = some r ∧ r.length = a.size + b.size + 1 ∧ DigB 10 r ∧ valB 10 r = numT a * numT b := by
  have dx := digsT_dig da
  have lx := digsT_len a
  refine loopW (fun k (s : List Int × Int) => g_R_NatMul_l0 K a b k s.1 s.2) (fun s => ∃ i : Nat, s.2 = i ∧ i ≤ a.size ∧ s.1.length = a.size + b.size + 1 ∧ DigB 10 s.1 ∧ valB 10 s.1 = valB 10 ((digsT a).take i) * numT b) (fun s => (a.size - s.2 : Int).toNat) _ ?_ ((List.replicate (a.size + b.size + 1) 0, 0) : List Int × Int) (by simp; omega) ⟨0, rfl, by omega, by simp, .zeros (by omega) _, by simp [valB, valB_zeros]⟩
  rintro k ⟨o, _⟩ ⟨i, rfl, h0, h1, h2, h4⟩
  dsimp only at h1 h2 h4 ⊢
  by_cases hi : i < a.size
  · right
    have ex := getD_dig (by omega) dx i
    have tx := valB_take 10 (digsT a) i
    have hdg := digit_ref (K := K) (s := a) (by omega) da i (by omega)
    obtain ⟨c, c1, c2, c3, c4⟩ := rmul_in (K := K) (b := b) (out := o) (u := (digsT a).getD i 0) (i := i) (by omega) (by omega) (by omega) hK ⟨ex.1, by omega⟩ db h2
    obtain ⟨v, hv⟩ : ∃ v, lsl c 0 ((c.length : Int) - 1) = some v := ⟨_, lslI (by omega) (by omega) (by omega)⟩
    have hvl : v.length + 1 = c.length := by
      rw [lslI (by omega) (by omega) (by omega)] at hv
      cases hv
      rw [List.length_take, List.length_drop]
      omega
    obtain ⟨r, r1, r2, r3, r4, r5⟩ := rmul_carry (K := K) (c := c) (v := v) hvl (by omega) hK c3
    have hval : valB 10 r = valB 10 ((digsT a).take (i + 1)) * numT b := by
      rw [r5, c4, h4, tx, kr1 (X := 0)]
    -- no digit is left over
    have htop : r.getD v.length 0 = 0 := by
      have s1 := valB_split 10 r v.length (by omega)
      have dlow : DigB 10 (r.take v.length) := fun d hd => by
        obtain ⟨j, hj, rfl⟩ := List.mem_iff_getElem.1 hd
        rw [List.length_take] at hj
        have q1 := r3 j
        have q2 := r4 j (by omega)
        rw [List.getElem_take]
        rw [List.getD_eq_getElem?_getD, List.getElem?_eq_getElem (by omega)] at q1 q2
        simp at q1 q2
        omega
      have s2 := valB_nonneg (B := 10) (by omega) _ dlow
      have s3 : r.drop v.length = [r.getD v.length 0] := by
        rw [List.drop_eq_getElem_cons (by omega), List.drop_eq_nil_of_le (by omega), List.getD_eq_getElem?_getD, List.getElem?_eq_getElem (by omega)]; rfl
      rw [s3] at s1
      simp only [valB, Int.mul_zero, Int.add_zero] at s1
      have t1 := valB_lt (B := 10) (by omega) _ (dx.take (i + 1))
      have t2 := numT_lt db
      have t3 := numT_nonneg db
      have t4 := valB_nonneg (B := 10) (by omega) _ (dx.take (i + 1))
      have t5 : (10 : Int) ^ ((digsT a).take (i + 1)).length ≤ 10 ^ a.size := ipow_le (by omega) (by rw [List.length_take]; omega)
      have t6 : valB 10 r < 10 ^ v.length := by
        rw [hval, show v.length = a.size + b.size by omega, Int.pow_add]
        have p0 : (0 : Int) < 10 ^ b.size := Int.pow_pos (by omega)
        have m1 := mul_le t4 (show numT b ≤ 10 ^ b.size by omega)
        have m2 := Int.mul_lt_mul_of_pos_right (show valB 10 ((digsT a).take (i + 1)) < 10 ^ a.size by omega) p0
        omega
      refine Int.le_antisymm (Int.not_lt.1 fun hlt => ?_) (r3 _)
      have p0 : (0 : Int) < 10 ^ v.length := Int.pow_pos (by omega)
      have := mul_le (Int.le_of_lt p0) (show 1 ≤ r.getD v.length 0 by omega)
      omega
    have dr : DigB 10 r := fun d hd => by
      obtain ⟨j, hj, rfl⟩ := List.mem_iff_getElem.1 hd
      have q1 := r3 j
      have q2 : r.getD j 0 ≤ 9 := by
        by_cases hjv : j < v.length
        · exact r4 j hjv
        · have : j = v.length := by omega
          subst this; omega
      rw [List.getD_eq_getElem?_getD, List.getElem?_eq_getElem hj] at q1 q2
      simp at q1 q2
      omega
    refine ⟨(r, (i : Int) + 1), ?_, by dsimp only; omega, i + 1, rfl, by omega, by dsimp only; omega, dr, hval⟩
    have hcl : (c.length : Int) - 1 = c.length - 1 := rfl
    rw [g_R_NatMul_l0, hdg, if_pos (decide_eq_true (by omega)), bsome, c1, bsome, tu1a, k64 (by omega) (by omega), hv, bsome, r1, bsome, tu1a, k64 (by omega) (by omega)]
  · left
    have : i = a.size := by omega
    subst this
    rw [List.take_of_length_le (by omega)] at h4
    exact ⟨o, by rw [g_R_NatMul_l0]; simp (discharger := omega) only [decide_eq_true_eq, if_pos, if_neg, if_true, if_false, bsome, beq_iff, bne_iff, idxI, bidxI, sslI, lslI, k64, ku64, ku32, ku8, i64w, u64w, u32w, u8w, tdivI, tmodI, tu0a, tu1a, tu2a, tu3a, tu4a, tu5a, lta, bindSl, bindSr, outSl, outSr, Int.toNat_natCast, List.length_cons, List.length_nil, List.length_set, Int.toNat_zero, List.replicate_zero], h1, h2, h4⟩
theorem mul_ref {a b : ByteArray} (ha : a.size ≤ 500000) (hb : b.size ≤ 500000) (hK : 2000000000 < K) (da : (bytesOf a).all digT = true) (db : (bytesOf b).all digT = true) : ∃ t, g_R_NatMul K a b = some t ∧ CanT t ∧ numT t = numT a * numT b := by
  obtain ⟨r, h1, h2, h3, h4⟩ := rmul_loop ha hb hK da db
  obtain ⟨t, t1, t2, t3⟩ := text_ref (K := K) (l := r) (by omega) (by intro e; rw [e] at h2; simp at h2) (by omega) h3
  refine ⟨t, ?_, t2, by rw [t3, h4]⟩
  unfold g_R_NatMul
  have e1 : ((a.size : Int) + (b.size : Int) + 1) = ((a.size + b.size + 1 : Nat) : Int) := by omega
  simp (discharger := omega) only [decide_eq_true_eq, if_pos, if_neg, if_true, if_false, bsome, beq_iff, bne_iff, idxI, bidxI, sslI, lslI, k64, ku64, ku32, ku8, i64w, u64w, u32w, u8w, tdivI, tmodI, tu0a, tu1a, tu2a, tu3a, tu4a, tu5a, lta, bindSl, bindSr, outSl, outSr, Int.toNat_natCast, List.length_cons, List.length_nil, List.length_set, Int.toNat_zero, List.replicate_zero, e1, h1, t1]
end Go.Am.Tryz
/- Plain law: long division of the program's numbers. -/
namespace Go.Am.Tryz
open Go Go.Am Go.Proofs
set_option linter.unusedSimpArgs false
set_option linter.unusedVariables false
variable {K : Nat}
theorem mid_val (u : List Int) (i n : Nat) (h : i + n ≤ u.length) : valB 1000000000 u = valB 1000000000 (u.take i) + 1000000000 ^ i * (valB 1000000000 ((u.drop i).take n) + 1000000000 ^ n * valB 1000000000 (u.drop (i + n))) := by
  have h1 := valB_split 1000000000 u i (by omega)
  have h2 := valB_split 1000000000 (u.drop i) n (by rw [List.length_drop]; omega)
  rw [h1, h2, List.drop_drop]
theorem getD_ge {l : List Int} {i : Nat} (h : l.length ≤ i) : l.getD i 0 = 0 := by rw [List.getD_eq_getElem?_getD, List.getElem?_eq_none h]; rfl
theorem minus_ok {u v : List Int} {k : Nat} {q : Int} (hk : k + v.length + 1 ≤ u.length) (hl : u.length ≤ 8000000) (hK : 2000000000 < K) (hq : 0 ≤ q ∧ q < 1000000000) (du : DigB 1000000000 u) (dv : DigB 1000000000 v) :
    ∃ (b : Int) (u' : List Int), g_nat_N_minus K u v k q = some (decide (b > 0), u') ∧ (b = 0 ∨ b = 1) ∧ u'.length = u.length ∧ DigB 1000000000 u' ∧ u'.take k = u.take k ∧ u'.drop (k + (v.length + 1)) = u.drop (k + (v.length + 1)) ∧
      valB 1000000000 u' = valB 1000000000 u - 1000000000 ^ k * (q * valB 1000000000 v) + 1000000000 ^ (k + (v.length + 1)) * b := by
  have key : ∃ r : List Int × Int, g_nat_N_minus_l0 K v k q K u 0 0 0 = some r ∧ (r.2 = 0 ∨ r.2 = 1) ∧ r.1.length = u.length ∧ DigB 1000000000 r.1 ∧ r.1.take k = u.take k ∧ r.1.drop (k + (v.length + 1)) = u.drop (k + (v.length + 1)) ∧
      valB 1000000000 r.1 = valB 1000000000 u - 1000000000 ^ k * (q * valB 1000000000 v) + 1000000000 ^ (k + (v.length + 1)) * r.2 := by
    refine loopW (fun m (s : List Int × Int × Int × Int) => g_nat_N_minus_l0 K v k q m s.1 s.2.1 s.2.2.1 s.2.2.2) (fun s => ∃ i : Nat, s.2.2.2 = i ∧ i ≤ v.length + 1 ∧ s.1.length = u.length ∧ DigB 1000000000 s.1 ∧ (s.2.1 = 0 ∨ s.2.1 = 1) ∧ (0 ≤ s.2.2.1 ∧ s.2.2.1 < 1000000000) ∧ (i = v.length + 1 → s.2.2.1 = 0) ∧ s.1.take k = u.take k ∧ s.1.drop (k + (v.length + 1)) = u.drop (k + (v.length + 1)) ∧
      valB 1000000000 s.1 = valB 1000000000 u - 1000000000 ^ k * (q * valB 1000000000 (v.take i)) + 1000000000 ^ (k + i) * (s.2.1 + s.2.2.1)) (fun s => (v.length + 1 - s.2.2.2 : Int).toNat) _ ?_ ((u, 0, 0, 0) : List Int × Int × Int × Int) (by simp; omega) ⟨0, rfl, by omega, rfl, du, .inl rfl, by simp, by simp, rfl, rfl, by simp [valB]⟩
    rintro m ⟨o, b, c, _⟩ ⟨i, rfl, h0, h1, h2, h3, h4, h5, h6, h7, h8⟩
    dsimp only at h1 h2 h3 h4 h5 h6 h7 h8 ⊢
    by_cases hi : i < v.length + 1
    · right
      have ev := getD_dig (by omega) dv i
      have eo := getD_dig (by omega) h2 (k + i)
      have hm := dig_mul hq ev
      have tv := valB_take 1000000000 v i
      have e1 : ((k : Int) + (i : Int)) = ((k + i : Nat) : Int) := by omega
      have e2 : (1000000000 : Int) ^ (k + (i + 1)) = 1000000000 ^ k * 1000000000 ^ i * 1000000000 := by rw [← Nat.add_assoc, Int.pow_succ, Int.pow_add]
      have hset := fun d => valB_set 1000000000 o (k + i) d (by omega)
      have hz : ¬ i < v.length → q * v.getD i 0 = 0 := fun h => by rw [getD_ge (by omega)]; simp
      generalize hw : q * v.getD i 0 = w at hm hz
      generalize ho : o.getD (k + i) 0 = z at eo hset
      have hdm := Int.emod_add_mul_ediv (c + w) 1000000000
      have htk : ∀ d, (o.set (k + i) d).take k = u.take k := fun d => by rw [List.take_set_of_le (by omega), h6]
      have hdr : ∀ d, (o.set (k + i) d).drop (k + (v.length + 1)) = u.drop (k + (v.length + 1)) := fun d => by rw [List.drop_set_of_lt (by omega), h7]
      have hc0 : i + 1 = v.length + 1 → (c + w) / 1000000000 = 0 := fun h => by rw [hz (by omega)]; omega
      have hb2 : 0 ≤ b ∧ b ≤ 1 := by rcases h3 with rfl | rfl <;> omega
      by_cases hn : z - (c + w) % 1000000000 - b < 0
      · refine ⟨(o.set (k + i) (z - (c + w) % 1000000000 - b + 1000000000), 1, (c + w) / 1000000000, (i : Int) + 1), ?_, by dsimp only; omega, i + 1, rfl, by omega, by simp [h1], h2.set _ (by omega), .inr rfl, by dsimp only; omega, hc0, htk _, hdr _, ?_⟩
        · rw [g_nat_N_minus_l0]
          by_cases h : i < v.length
          · simp (discharger := omega) only [decide_eq_true_eq, if_pos, if_neg, if_true, if_false, bsome, beq_iff, bne_iff, idxI, bidxI, sslI, lslI, k64, ku64, ku32, ku8, i64w, u64w, u32w, u8w, tdivI, tmodI, tu0a, tu1a, tu2a, tu3a, tu4a, tu5a, lta, bindSl, bindSr, outSl, outSr, Int.toNat_natCast, List.length_cons, List.length_nil, List.length_set, Int.toNat_zero, List.replicate_zero, e1, hw, ho]
          · have e := hz h
            subst e
            simp only [Int.add_zero] at hn ⊢
            simp (discharger := omega) only [decide_eq_true_eq, if_pos, if_neg, if_true, if_false, bsome, beq_iff, bne_iff, idxI, bidxI, sslI, lslI, k64, ku64, ku32, ku8, i64w, u64w, u32w, u8w, tdivI, tmodI, tu0a, tu1a, tu2a, tu3a, tu4a, tu5a, lta, bindSl, bindSr, outSl, outSr, Int.toNat_natCast, List.length_cons, List.length_nil, List.length_set, Int.toNat_zero, List.replicate_zero, e1, ho]
        · dsimp only
          rw [hset, tv, e2]
          rw [Int.pow_add] at h8 ⊢
          subst hw
          generalize (c + q * v.getD i 0) / 1000000000 = Q at *
          generalize (c + q * v.getD i 0) % 1000000000 = R at *
          grind
      · refine ⟨(o.set (k + i) (z - (c + w) % 1000000000 - b), 0, (c + w) / 1000000000, (i : Int) + 1), ?_, by dsimp only; omega, i + 1, rfl, by omega, by simp [h1], h2.set _ (by omega), .inl rfl, by dsimp only; omega, hc0, htk _, hdr _, ?_⟩
        · rw [g_nat_N_minus_l0]
          by_cases h : i < v.length
          · simp (discharger := omega) only [decide_eq_true_eq, if_pos, if_neg, if_true, if_false, bsome, beq_iff, bne_iff, idxI, bidxI, sslI, lslI, k64, ku64, ku32, ku8, i64w, u64w, u32w, u8w, tdivI, tmodI, tu0a, tu1a, tu2a, tu3a, tu4a, tu5a, lta, bindSl, bindSr, outSl, outSr, Int.toNat_natCast, List.length_cons, List.length_nil, List.length_set, Int.toNat_zero, List.replicate_zero, e1, hw, ho]
          · have e := hz h
            subst e
            simp only [Int.add_zero] at hn ⊢
            simp (discharger := omega) only [decide_eq_true_eq, if_pos, if_neg, if_true, if_false, bsome, beq_iff, bne_iff, idxI, bidxI, sslI, lslI, k64, ku64, ku32, ku8, i64w, u64w, u32w, u8w, tdivI, tmodI, tu0a, tu1a, tu2a, tu3a, tu4a, tu5a, lta, bindSl, bindSr, outSl, outSr, Int.toNat_natCast, List.length_cons, List.length_nil, List.length_set, Int.toNat_zero, List.replicate_zero, e1, ho]
        · dsimp only
          rw [hset, tv, e2]
          rw [Int.pow_add] at h8 ⊢
          subst hw
          generalize (c + q * v.getD i 0) / 1000000000 = Q at *
          generalize (c + q * v.getD i 0) % 1000000000 = R at *
          grind
    · left
      have : i = v.length + 1 := by omega
      subst this
      have hc := h5 rfl
      subst hc
      rw [List.take_of_length_le (by omega), Int.add_zero] at h8
      exact ⟨(o, b), by rw [g_nat_N_minus_l0]; simp (discharger := omega) only [decide_eq_true_eq, if_pos, if_neg, if_true, if_false, bsome, beq_iff, bne_iff, idxI, bidxI, sslI, lslI, k64, ku64, ku32, ku8, i64w, u64w, u32w, u8w, tdivI, tmodI, tu0a, tu1a, tu2a, tu3a, tu4a, tu5a, lta, bindSl, bindSr, outSl, outSr, Int.toNat_natCast, List.length_cons, List.length_nil, List.length_set, Int.toNat_zero, List.replicate_zero], h3, h1, h2, h6, h7, h8⟩
  obtain ⟨⟨u', b⟩, h1, h2⟩ := key
  exact ⟨b, u', by unfold g_nat_N_minus; rw [h1]; rfl, h2⟩
theorem plus_ok {u v : List Int} {k : Nat} (hk : k + v.length + 1 ≤ u.length) (hl : u.length ≤ 8000000) (hK : 2000000000 < K) (du : DigB 1000000000 u) (dv : DigB 1000000000 v) :
    ∃ (u' : List Int) (b : Int), g_nat_N_plus K u v k = some u' ∧ (b = 0 ∨ b = 1) ∧ u'.length = u.length ∧ DigB 1000000000 u' ∧ u'.take k = u.take k ∧ u'.drop (k + (v.length + 1)) = u.drop (k + (v.length + 1)) ∧
      valB 1000000000 u' + 1000000000 ^ (k + (v.length + 1)) * b = valB 1000000000 u + 1000000000 ^ k * valB 1000000000 v := by
  have key : ∃ r : List Int, g_nat_N_plus_l0 K v k K u 0 0 = some r ∧ ∃ b : Int, (b = 0 ∨ b = 1) ∧ r.length = u.length ∧ DigB 1000000000 r ∧ r.take k = u.take k ∧ r.drop (k + (v.length + 1)) = u.drop (k + (v.length + 1)) ∧
      valB 1000000000 r + 1000000000 ^ (k + (v.length + 1)) * b = valB 1000000000 u + 1000000000 ^ k * valB 1000000000 v := by
    refine loopW (fun m (s : List Int × Int × Int) => g_nat_N_plus_l0 K v k m s.1 s.2.1 s.2.2) (fun s => ∃ i : Nat, s.2.2 = i ∧ i ≤ v.length + 1 ∧ s.1.length = u.length ∧ DigB 1000000000 s.1 ∧ (s.2.1 = 0 ∨ s.2.1 = 1) ∧ s.1.take k = u.take k ∧ s.1.drop (k + (v.length + 1)) = u.drop (k + (v.length + 1)) ∧
      valB 1000000000 s.1 + 1000000000 ^ (k + i) * s.2.1 = valB 1000000000 u + 1000000000 ^ k * valB 1000000000 (v.take i)) (fun s => (v.length + 1 - s.2.2 : Int).toNat) _ ?_ ((u, 0, 0) : List Int × Int × Int) (by simp; omega) ⟨0, rfl, by omega, rfl, du, .inl rfl, rfl, rfl, by simp [valB]⟩
    rintro m ⟨o, b, _⟩ ⟨i, rfl, h0, h1, h2, h3, h6, h7, h8⟩
    dsimp only at h1 h2 h3 h6 h7 h8 ⊢
    by_cases hi : i < v.length + 1
    · right
      have ev := getD_dig (by omega) dv i
      have eo := getD_dig (by omega) h2 (k + i)
      have tv := valB_take 1000000000 v i
      have e1 : ((k : Int) + (i : Int)) = ((k + i : Nat) : Int) := by omega
      have e2 : (1000000000 : Int) ^ (k + (i + 1)) = 1000000000 ^ k * 1000000000 ^ i * 1000000000 := by rw [← Nat.add_assoc, Int.pow_succ, Int.pow_add]
      have hset := fun d => valB_set 1000000000 o (k + i) d (by omega)
      have hz : ¬ i < v.length → v.getD i 0 = 0 := fun h => getD_ge (by omega)
      generalize hw : v.getD i 0 = w at ev hz tv
      generalize ho : o.getD (k + i) 0 = z at eo hset
      have hdm := Int.emod_add_mul_ediv (z + b + w) 1000000000
      have htk : ∀ d, (o.set (k + i) d).take k = u.take k := fun d => by rw [List.take_set_of_le (by omega), h6]
      have hdr : ∀ d, (o.set (k + i) d).drop (k + (v.length + 1)) = u.drop (k + (v.length + 1)) := fun d => by rw [List.drop_set_of_lt (by omega), h7]
      have hb2 : 0 ≤ b ∧ b ≤ 1 := by rcases h3 with rfl | rfl <;> omega
      refine ⟨(o.set (k + i) ((z + b + w) % 1000000000), (z + b + w) / 1000000000, (i : Int) + 1), ?_, by dsimp only; omega, i + 1, rfl, by omega, by simp [h1], h2.set _ (by omega), by dsimp only; omega, htk _, hdr _, ?_⟩
      · rw [g_nat_N_plus_l0]
        by_cases h : i < v.length
        · simp (discharger := omega) only [decide_eq_true_eq, if_pos, if_neg, if_true, if_false, bsome, beq_iff, bne_iff, idxI, bidxI, sslI, lslI, k64, ku64, ku32, ku8, i64w, u64w, u32w, u8w, tdivI, tmodI, tu0a, tu1a, tu2a, tu3a, tu4a, tu5a, lta, bindSl, bindSr, outSl, outSr, Int.toNat_natCast, List.length_cons, List.length_nil, List.length_set, Int.toNat_zero, List.replicate_zero, e1, hw, ho]
        · have e := hz h
          subst e
          simp only [Int.add_zero] at hdm ⊢
          simp (discharger := omega) only [decide_eq_true_eq, if_pos, if_neg, if_true, if_false, bsome, beq_iff, bne_iff, idxI, bidxI, sslI, lslI, k64, ku64, ku32, ku8, i64w, u64w, u32w, u8w, tdivI, tmodI, tu0a, tu1a, tu2a, tu3a, tu4a, tu5a, lta, bindSl, bindSr, outSl, outSr, Int.toNat_natCast, List.length_cons, List.length_nil, List.length_set, Int.toNat_zero, List.replicate_zero, e1, ho]
      · dsimp only
        rw [hset, tv, e2]
        rw [Int.pow_add] at h8
        generalize (z + b + w) / 1000000000 = Q at *
        generalize (z + b + w) % 1000000000 = R at *
        grind
    · left
      have : i = v.length + 1 := by omega
      subst this
      rw [List.take_of_length_le (by omega)] at h8
      exact ⟨o, by rw [g_nat_N_plus_l0]; simp (discharger := omega) only [decide_eq_true_eq, if_pos, if_neg, if_true, if_false, bsome, beq_iff, bne_iff, idxI, bidxI, sslI, lslI, k64, ku64, ku32, ku8, i64w, u64w, u32w, u8w, tdivI, tmodI, tu0a, tu1a, tu2a, tu3a, tu4a, tu5a, lta, bindSl, bindSr, outSl, outSr, Int.toNat_natCast, List.length_cons, List.length_nil, List.length_set, Int.toNat_zero, List.replicate_zero], b, h3, h1, h2, h6, h7, h8⟩
  obtain ⟨u', h1, b, h2⟩ := key
  exact ⟨u', b, by unfold g_nat_N_plus; rw [h1]; rfl, h2⟩
theorem guess_ok {u v : List Int} {k : Nat} {P vl top ul q g r : Int} (hn : 2 ≤ v.length) (hk : k + v.length + 1 ≤ u.length) (hl : u.length ≤ 8000000) (hK : 2000000000 < K)
    (h : Kn 1000000000 P (v.getD (v.length - 1) 0) (v.getD (v.length - 2) 0) vl top (u.getD (k + v.length - 2) 0) ul q) (hv : v.getD (v.length - 1) 0 < 1000000000) (ht : top < 1000000000 * v.getD (v.length - 1) 0 + 1000000000) (hr : top = g * v.getD (v.length - 1) 0 + r) (hg : q ≤ g) (hg2 : g < 2000000000) (hr0 : 0 ≤ r ∧ r < 1000000000) :
    ∃ g', g_nat_N_Div_l4 K v u k K g r = some g' ∧ q ≤ g' ∧ g' ≤ q + 1 ∧ g' < 1000000000 := by
  generalize hv1 : v.getD (v.length - 1) 0 = v1 at *
  generalize hv2 : v.getD (v.length - 2) 0 = v2 at *
  generalize hu3 : u.getD (k + v.length - 2) 0 = u3 at *
  have a1 := h.v1p
  have a2 := h.v2p
  have a3 := h.v2b
  have a4 := h.u3p
  have a5 := h.u3b
  have a6 := h.q0
  have a7 := h.qB
  refine loopW (fun m (s : Int × Int) => g_nat_N_Div_l4 K v u k m s.1 s.2) (fun s => top = s.1 * v1 + s.2 ∧ q ≤ s.1 ∧ s.1 < 2000000000 ∧ 0 ≤ s.2 ∧ s.2 < 1000000000) (fun s => (1000000000 - s.2).toNat) _ ?_ ((g, r) : Int × Int) ?_ ⟨hr, hg, hg2, hr0.1, hr0.2⟩
  · rintro m ⟨g, r⟩ ⟨b1, b2, b3, b4, b5⟩
    dsimp only at b1 b2 b3 b4 b5 ⊢
    have f1 : idx v (kwrap .i64 ((v.length : Int) - 1)) = some v1 := by
      rw [k64 (by omega) (by omega), idxI (by omega) (by omega), ← hv1]; congr 2; omega
    have f2 : idx v (kwrap .i64 ((v.length : Int) - 2)) = some v2 := by
      rw [k64 (by omega) (by omega), idxI (by omega) (by omega), ← hv2]; congr 2; omega
    have f3 : idx u (kwrap .i64 (kwrap .i64 ((k : Int) + (v.length : Int)) - 2)) = some u3 := by
      rw [k64 (a := (k : Int) + (v.length : Int)) (by omega) (by omega), k64 (by omega) (by omega), idxI (by omega) (by omega), ← hu3]; congr 2; omega
    have m1 : 0 ≤ g * v2 := mul_nn (by omega) a2
    have m2 := mul_le (show 0 ≤ g by omega) (show v2 ≤ 999999999 by omega)
    rw [g_nat_N_Div_l4, f1, f2]
    generalize hw : g * v2 = w at m1 m2
    by_cases c : g ≥ 1000000000 ∨ w > r * 1000000000 + u3
    · have hqg : q < g := by
        rcases c with c | c
        · omega
        · exact h.down b1 (by omega) (by omega)
      have hc : (if (decide (g ≥ 1000000000)) = true then some true else ((some v2).bind fun x235 => (lt (kwrap .i64 ((kwrap .i64 ((k : Int) + (v.length : Int))) - 2)) fun x239 => ((idx u x239).bind fun x242 => (lt (kwrap .u64 ((kwrap .u64 (r * 1000000000)) + (IntKind.wrap .u64 x242))) fun x246 => (lt (decide ((kwrap .u64 (g * (IntKind.wrap .u64 x235))) > x246)) fun x249 => some x249)))))) = some true := by
        by_cases c1 : g ≥ 1000000000
        · rw [decide_eq_true c1]; rfl
        · rw [decide_eq_false c1]
          simp only [bsome, lta, Bool.false_eq_true, if_false, f3]
          rw [u64w (a := v2) (by omega) (by omega), hw, u64w (a := u3) (by omega) (by omega), ku64 (a := w) (by omega) (by omega), ku64 (a := r * 1000000000) (by omega) (by omega), ku64 (a := r * 1000000000 + u3) (by omega) (by omega), decide_eq_true (by omega)]
      rw [hc]
      by_cases c2 : r + v1 ≥ 1000000000
      · left
        have hgB : g ≤ 1000000000 := by
          refine Int.not_lt.1 fun hlt => ?_
          have := mul_le (show 0 ≤ v1 by omega) (show 1000000001 ≤ g by omega)
          rw [Int.mul_comm v1 g] at this
          omega
        have hx := h.exitB (g := g - 1) (r := r + v1) (by rw [Int.sub_mul]; omega) (by omega) (by omega) c2
        refine ⟨g - 1, ?_, by omega, by omega, by omega⟩
        simp (discharger := omega) only [decide_eq_true_eq, if_pos, if_neg, if_true, if_false, bsome, beq_iff, bne_iff, idxI, bidxI, sslI, lslI, k64, ku64, ku32, ku8, i64w, u64w, u32w, u8w, tdivI, tmodI, tu0a, tu1a, tu2a, tu3a, tu4a, tu5a, lta, bindSl, bindSr, outSl, outSr, Int.toNat_natCast, List.length_cons, List.length_nil, List.length_set, Int.toNat_zero, List.replicate_zero]
      · right
        refine ⟨(g - 1, r + v1), ?_, by dsimp only; omega, by dsimp only; rw [Int.sub_mul]; omega, by dsimp only; omega, by dsimp only; omega, by dsimp only; omega, by dsimp only; omega⟩
        have e : decide (r + v1 ≥ 1000000000) = false := decide_eq_false c2
        simp (discharger := omega) only [decide_eq_true_eq, if_pos, if_neg, if_true, if_false, bsome, beq_iff, bne_iff, idxI, bidxI, sslI, lslI, k64, ku64, ku32, ku8, i64w, u64w, u32w, u8w, tdivI, tmodI, tu0a, tu1a, tu2a, tu3a, tu4a, tu5a, lta, bindSl, bindSr, outSl, outSr, Int.toNat_natCast, List.length_cons, List.length_nil, List.length_set, Int.toNat_zero, List.replicate_zero, e, Bool.false_eq_true]
    · left
      have c1 : ¬ g ≥ 1000000000 := fun x => c (.inl x)
      have c3 : ¬ w > r * 1000000000 + u3 := fun x => c (.inr x)
      have hx := h.exitA b1 (by omega) (by omega) (by omega)
      refine ⟨g, ?_, b2, hx, by omega⟩
      rw [decide_eq_false c1]
      simp only [bsome, lta, Bool.false_eq_true, if_false, f3]
      rw [u64w (a := v2) (by omega) (by omega), hw, u64w (a := u3) (by omega) (by omega), ku64 (a := w) (by omega) (by omega), ku64 (a := r * 1000000000) (by omega) (by omega), ku64 (a := r * 1000000000 + u3) (by omega) (by omega), decide_eq_false c3]
      simp only [bsome, tu1a, Bool.false_eq_true, if_false]
  · dsimp only; omega
end Go.Am.Tryz
