/- Typed functions with the same answers as the program's, and the walks that show it. -/
import Derived.Test.YtlmgdnhnpkgheaaDoorG2Z12
namespace Go.Am.Tryd
open Go Go.Am Go.Proofs
set_option linter.unusedVariables false
set_option linter.unusedSimpArgs false
set_option maxRecDepth 10000

def g_nat_Of_l0 (K : Nat) : Nat → List Int → Int → Option (List Int)
  | 0, _, _ => none
  | k + 1, x6, x7 => (if (decide (x7 > 0)) = true then (if List.length x6 + List.length [IntKind.wrap .u32 (Int.tmod x7 1000000000)] ≤ 16777216 then g_nat_Of_l0 K k (x6 ++ [IntKind.wrap .u32 (Int.tmod x7 1000000000)]) (kwrap .i64 (Int.tdiv x7 1000000000)) else none) else some x6)
def g_nat_Of (K : Nat) (p0 : Int) : Option (List Int) := (Option.bind (g_nat_Of_l0 K K [] p0) (tu1 fun x33 => some x33))
set_option maxHeartbeats 4000000 in
theorem g_nat_Of_ok (K : Nat) {G : GM} {H : AH} {L : List Pc} (p0 : Int) (O : Ow G H (L)) (r : List Int) (h : g_nat_Of K p0 = some r) :
    CRF Tryd.prog 71 [(.int .i64 p0)] G H (fun w0 => (eSl w0 108 (rI .u32) r :: L)) (fun w0 v G' => w0 = v) := by
 unfold g_nat_Of at h
 refine CRF.of (calls_of_AW (n := 15) (fn := Tryd.f71) (R := fun v H' => ∃ w0 G', Ow G' H' (eSl w0 108 (rI .u32) r :: L) ∧ G.le G' ∧ w0 = v) (by kernel_rfl) rfl rfl ?_)
 refine .seq (.region (W.q1 (.slice none 0 0) rfl (.nil (.seq (.region (W.q1 (.slice none 0 0) rfl ?_))))))
 refine .nil (.seq ?_)
 obtain ⟨q1, h2, h3⟩ := bd_inv h
 refine AW.midT (fun σ' H' => ∃ (y1 : List Int) (G' : GM), y1 = q1 ∧ Ow G' H' (eSl (σ' 3) 108 (rI .u32) y1 :: L) ∧ GM.le G G') ?_ ?_
 rotate_left
 ·rintro σ34 H35 fr36 ⟨x33, G37, rfl, O38, s39⟩
  have h41 := tu1_inv h3
  refine .seq (.region (W.q2 (σ34 3) rfl (W.q1 (σ34 3) rfl (.nil (.ret ?_)))))
  obtain rfl := Option.some.inj h41
  refine ret1R (P := Tryd.prog) (fn := Tryd.f71) (n := 15) (R := fun v H' => ∃ w0 G', Ow G' H' (eSl w0 108 (rI .u32) x33 :: L) ∧ G.le G' ∧ w0 = v) (v1 := (σ34 3)) (by rfl) (rr_tmp (by rfl) (by exact rfl)) ?_
  exact ⟨(σ34 3), _, O38, s39, rfl⟩
 refine .block ?_
 have O4 := O.nilSl 108 (rI .u32)
 refine AW.loop (α := Nat) (fun k' σ' H' => ∃ (y1 : List Int) (y2 : Int) (G' : GM), g_nat_Of_l0 K k' y1 y2 = some q1 ∧ Ow G' H' (eSl (σ' 3) 108 (rI .u32) y1 :: L) ∧ GM.le G G' ∧ σ' 0 = .int .i64 y2) (fun k' => k') K ⟨[], p0, _, h2, O4, (GM.le.refl _), rfl⟩ ?_
 rintro k5
 rintro σ8 H9 fr10 ⟨x6, x7, G11, h14, O12, s13, t15⟩
 rcases k5 with _ | k5
 ·exact none_absurd h14
 rw [g_nat_Of_l0] at h14
 refine .seq (.seq (.region (W.q2 (.int .i64 x7) t15 (W.q3 (.bool (decide (x7 > 0))) rfl rfl (.nil (.cond (b := decide (x7 > 0)) rfl rfl (fun g16 => ?_) (fun g16 => ?_)))))))
 rotate_left
 ·have h32 := neg_b g16 h14
  refine .exit ?_
  obtain rfl := Option.some.inj h32
  exact ⟨x6, _, rfl, O12, s13⟩
 have h17 := pos_inv g16 h14
 refine .skip (.block (.seq (.region (W.q2 (σ8 3) rfl (W.q2 (.int .i64 x7) t15 (W.pure (v := (.int .i64 (Int.tmod x7 1000000000))) rfl rfl (v_rem (by decide) (oo rfl rfl) (oo rfl rfl)) ?_))))))
 refine W.pure (v := (.int .u32 (IntKind.wrap .u32 (Int.tmod x7 1000000000)))) rfl rfl (v_conv in3 in108 (oo rfl rfl)) (W.lo rfl rfl (Lo.buildSlice (r := (rI .u32)) (vs := [(.int .u32 (IntKind.wrap .u32 (Int.tmod x7 1000000000)))]) (xs := [IntKind.wrap .u32 (Int.tmod x7 1000000000)]) el64 ze108 sz108 (by kernel_rfl) rfl (qc rfl qn) rfl (.cons rfl .nil) O12) ?_)
 rintro v20 H21 ⟨O18, sm19⟩
 obtain ⟨es23, e24, e25⟩ := src_own (j := 0) rfl O18
 obtain ⟨g26, h27⟩ := gd_inv h17
 refine W.lo rfl rfl (Lo.append (j := 1) (v := (σ8 3)) rfl rfl el64 ni64 ze108 sz108 by108 (by decide) (by decide) rfl e24 e25 g26 O18) ?_
 rintro v29 H30 ⟨O22, sm28⟩
 replace O22 : Ow G11 H30 (eSl v20 108 (rI .u32) [IntKind.wrap .u32 (Int.tmod x7 1000000000)] :: eSl v29 108 (rI .u32) (x6 ++ [IntKind.wrap .u32 (Int.tmod x7 1000000000)]) :: L) := O22
 refine W.q1 v29 rfl (.nil (.region (W.q2 (.int .i64 x7) t15 (W.pure (v := (.int .i64 (kwrap .i64 (Int.tdiv x7 1000000000)))) rfl rfl (v_quo (by decide) (oo rfl rfl) (oo rfl rfl)) (W.q1 (.int .i64 (kwrap .i64 (Int.tdiv x7 1000000000))) rfl (.nil ?_))))))
 have O31 : Ow G11 H30 (eSl v29 108 (rI .u32) (x6 ++ [IntKind.wrap .u32 (Int.tmod x7 1000000000)]) :: L) := O22.drop 0
 exact ⟨k5, Nat.lt_succ_self _, ⟨(x6 ++ [IntKind.wrap .u32 (Int.tmod x7 1000000000)]), kwrap .i64 (Int.tdiv x7 1000000000), _, h27, O31, s13, rfl⟩⟩
def g_nat_N_Digits (K : Nat) (p0 : List Int) : Option Int := ((g_nat_N_Text K p0).bind fun x1 => some (x1.size : Int))
set_option maxHeartbeats 4000000 in
theorem g_nat_N_Digits_ok (K : Nat) {G : GM} {H : AH} {L : List Pc} (v0 : Value) (p0 : List Int) (hp0 : (rSl (rI .u32)).rep G [v0] p0) (O : Ow G H (L)) (r : Int) (h : g_nat_N_Digits K p0 = some r) :
    CR Tryd.prog 72 [v0] G H (L) (fun v G' _ => v = .int .i64 r) := by
 unfold g_nat_N_Digits at h
 refine CR.of (calls_of_AW (n := 6) (fn := Tryd.f72) (R := fun v H' => ∃ G', Ow G' H' (L) ∧ G.le G' ∧ v = .int .i64 r) (by kernel_rfl) rfl rfl ?_)
 refine .seq (.region (W.q1 (.int .i64 0) rfl (.nil (.seq (.region (W.q2 v0 rfl ?_))))))
 obtain ⟨x1, i2, h3⟩ := bd_inv h
 refine W.lo rfl rfl (Lo.callP (ps := []) (ps' := []) rfl (fn := Tryd.f67) (by kernel_rfl) rfl (mc rfl mn) O (fun L' O' => g_nat_N_Text_ok K v0 p0 hp0 O' _ i2)) ?_
 rintro v10 H11 ⟨G4, O5, s6, sm9, rfl⟩
 replace O5 : Ow G4 H11 (L) := O5
 refine W.pure (v := (.int .i64 (x1.size : Int))) rfl rfl (len_str (oo rfl rfl) un9) (W.q1 (.int .i64 (x1.size : Int)) rfl (.nil (.ret ?_)))
 obtain rfl := Option.some.inj h3
 refine ret1R (P := Tryd.prog) (fn := Tryd.f72) (n := 6) (R := fun v H' => ∃ G', Ow G' H' (L) ∧ G.le G' ∧ v = .int .i64 (x1.size : Int)) (v1 := (.int .i64 (x1.size : Int))) (by rfl) (rr_tmp (by rfl) (by exact rfl)) ?_
 exact ⟨_, O5, s6, rfl⟩
def g_internal_stringslite_HasPrefix (K : Nat) (p0 : ByteArray) (p1 : ByteArray) : Option Bool := (Option.bind ((if (decide ((p0.size : Int) ≥ (p1.size : Int))) = true then ((ssl p0 0 (p1.size : Int)).bind fun x7 => some (sEq x7 p1)) else some false)) (tu1 fun x11 => some x11))
set_option maxHeartbeats 4000000 in
theorem g_internal_stringslite_HasPrefix_ok (K : Nat) {G : GM} {H : AH} {L : List Pc} (p0 : ByteArray) (p1 : ByteArray) (O : Ow G H (L)) (r : Bool) (h : g_internal_stringslite_HasPrefix K p0 p1 = some r) :
    CR Tryd.prog 124 [(.string p0), (.string p1)] G H (L) (fun v G' _ => v = .bool r) := by
 unfold g_internal_stringslite_HasPrefix at h
 refine CR.of (calls_of_AW (n := 18) (fn := Tryd.f124) (R := fun v H' => ∃ G', Ow G' H' (L) ∧ G.le G' ∧ v = .bool r) (by kernel_rfl) rfl rfl ?_)
 refine .seq (.region (W.q1 (.bool false) rfl (.nil (.seq ?_))))
 obtain ⟨q1, h2, h3⟩ := bd_inv h
 refine AW.midT (fun σ' H' => ∃ (y1 : Bool) (G' : GM), y1 = q1 ∧ Ow G' H' (L) ∧ GM.le G G' ∧ σ' 4 = .bool y1) ?_ ?_
 rotate_left
 ·rintro σ12 H13 fr14 ⟨x11, G15, rfl, O16, s17, t19⟩
  have h20 := tu1_inv h3
  refine .ret ?_
  obtain rfl := Option.some.inj h20
  refine ret1R (P := Tryd.prog) (fn := Tryd.f124) (n := 18) (R := fun v H' => ∃ G', Ow G' H' (L) ∧ G.le G' ∧ v = .bool x11) (v1 := (.bool x11)) (by rfl) (rr_tmp (by rfl) (by exact t19)) ?_
  exact ⟨_, O16, s17, rfl⟩
 refine .region (W.q2 (.string p0) rfl (W.pure (v := (.int .i64 (p0.size : Int))) rfl rfl (len_str (oo rfl rfl) un9) (W.q2 (.string p1) rfl (W.pure (v := (.int .i64 (p1.size : Int))) rfl rfl (len_str (oo rfl rfl) un9) (W.q3 (.bool (decide ((p0.size : Int) ≥ (p1.size : Int)))) rfl rfl (W.q2 (.bool (decide ((p0.size : Int) ≥ (p1.size : Int)))) rfl ?_))))))
 refine W.splitAt (t := 10) (b := decide ((p0.size : Int) ≥ (p1.size : Int))) rfl (fun g4 gv5 => ?_) (fun g4 gv5 => ?_)
 rotate_left
 ·have h10 := neg_b g4 h2
  refine W.q6 rfl gv5 (W.q6 rfl gv5 (W.q6 rfl gv5 (W.q6 rfl gv5 (W.q6 rfl gv5 (W.q6 rfl gv5 (W.q5 (.bool false) gv5 rfl ?_))))))
  refine W.q1 (.bool false) rfl (.nil ?_)
  obtain rfl := Option.some.inj h10
  exact ⟨false, _, rfl, O, (GM.le.refl _), rfl⟩
 have h6 := pos_inv g4 h2
 refine W.q2 (hg := gk rfl rfl gv5 rfl) (.string p0) rfl (W.q2 (hg := gk rfl rfl gv5 rfl) (.string p1) rfl (W.pure (v := (.int .i64 (p1.size : Int))) (gk rfl rfl gv5 rfl) rfl (len_str (oo rfl rfl) un9) ?_))
 obtain ⟨x7, i8, h9⟩ := bd_inv h6
 refine W.pure (v := (.string x7)) (gk rfl rfl gv5 rfl) rfl (v_sslH un9 (oo rfl rfl) (oo rfl rfl) i8) (W.q2 (hg := gk rfl rfl gv5 rfl) (.string p1) rfl (W.pure (v := (.bool (sEq x7 p1))) (gk rfl rfl gv5 rfl) rfl (vs_eql (oo rfl rfl) (oo rfl rfl)) (W.q4 (.bool (sEq x7 p1)) gv5 rfl (W.q1 (.bool (sEq x7 p1)) rfl (.nil ?_)))))
 obtain rfl := Option.some.inj h9
 exact ⟨sEq x7 p1, _, rfl, O, (GM.le.refl _), rfl⟩
def g_slices_IndexFunc_api_Errno_api_Errno_l0 (K : Nat) (p0 : List Int) (p1 : Int → Option Bool) : Nat → Int → Option (Int ⊕ Unit)
  | 0, _ => none
  | k + 1, x5 => (if (decide (x5 < (List.length p0 : Int))) = true then ((idx p0 x5).bind fun x16 => ((p1 x16).bind fun x20 => (if x20 = true then some (.inl x5) else g_slices_IndexFunc_api_Errno_api_Errno_l0 K p0 p1 k (kwrap .i64 (x5 + 1))))) else some (.inr ()))
def g_slices_IndexFunc_api_Errno_api_Errno (K : Nat) (p0 : List Int) (p1 : Int → Option Bool) : Option Int := (bindS (g_slices_IndexFunc_api_Errno_api_Errno_l0 K p0 p1 K 0) (tu1 fun a42 => some a42) (tu0 (some (-1))))
set_option maxHeartbeats 4000000 in
theorem g_slices_IndexFunc_api_Errno_api_Errno_ok (K : Nat) {G : GM} {H : AH} {L : List Pc} (v0 : Value) (p0 : List Int) (hp0 : (rSl (rI .i64)).rep G [v0] p0) (v1 : Value) (p1 : Int → Option Bool) (hp1 : FnOk Tryd.prog G v1 (fun _ vs (x : (Int)) => vs = [.int .i64 x]) (fun _ v (rr : (Bool)) => v = .bool rr) p1) (O : Ow G H (L)) (r : Int) (h : g_slices_IndexFunc_api_Errno_api_Errno K p0 p1 = some r) :
    CR Tryd.prog 119 [v0, v1] G H (L) (fun v G' _ => v = .int .i64 r) := by
 unfold g_slices_IndexFunc_api_Errno_api_Errno at h
 refine CR.of (calls_of_AW (n := 19) (fn := Tryd.f119) (R := fun v H' => ∃ G', Ow G' H' (L) ∧ G.le G' ∧ v = .int .i64 r) (by kernel_rfl) rfl rfl ?_)
 refine .seq (.region (W.q1 (.int .i64 0) rfl (.nil (.seq (.seq (.region ?_))))))
 refine W.q2 v0 rfl (W.pure (v := (.int .i64 (List.length p0 : Int))) rfl rfl (len_sl (oo rfl rfl) (sl_len hp0) (elemT_inv el70)) (W.q2 (.int .i64 0) rfl (.nil ?_)))
 obtain ⟨q1, h2, h3⟩ := bindS_inv h
 refine AW.midT (fun σ' H' => ∃  (G' : GM), (.inr ()) = q1 ∧ Ow G' H' (L) ∧ GM.le G G') ?_ ?_
 rotate_left
 ·rintro σ34 H35 fr36 ⟨G37, rfl, O38, s39⟩
  have h41 := tu0_inv (outS_r h3)
  refine .seq (.region (W.q1 (.int .i64 (-1)) rfl (.nil (.ret ?_))))
  obtain rfl := Option.some.inj h41
  refine ret1R (P := Tryd.prog) (fn := Tryd.f119) (n := 19) (R := fun v H' => ∃ G', Ow G' H' (L) ∧ G.le G' ∧ v = .int .i64 (-1)) (v1 := (.int .i64 (-1))) (by rfl) (rr_tmp (by rfl) (by exact rfl)) ?_
  exact ⟨_, O38, s39, rfl⟩
 refine .block (AW.loop (α := Nat) (fun k' σ' H' => ∃ (y1 : Int) (G' : GM), g_slices_IndexFunc_api_Errno_api_Errno_l0 K p0 p1 k' y1 = some q1 ∧ Ow G' H' (L) ∧ GM.le G G' ∧ σ' 8 = .int .i64 y1) (fun k' => k') K ⟨0, _, h2, O, (GM.le.refl _), rfl⟩ ?_)
 rintro k4
 rintro σ6 H7 fr8 ⟨x5, G9, h12, O10, s11, t13⟩
 rcases k4 with _ | k4
 ·exact none_absurd h12
 rw [g_slices_IndexFunc_api_Errno_api_Errno_l0] at h12
 refine .seq (.region (W.q3 (.bool (decide (x5 < (List.length p0 : Int)))) t13 ((fr8 7 rfl).trans rfl) (.nil (.seq (.cond (b := decide (x5 < (List.length p0 : Int))) rfl rfl (fun g14 => ?_) (fun g14 => ?_))))))
 rotate_left
 ·have h33 := neg_b g14 h12
  refine .exit ?_
  obtain rfl := Option.some.inj h33
  exact ⟨_, rfl, O10, s11⟩
 have h15 := pos_inv g14 h12
 refine .skip (.seq (.block (.seq (.region (W.q2 (.int .i64 x5) t13 (W.q1 (.int .i64 x5) rfl ?_))))))
 refine .nil (.seq (.region (W.q2 v1 ((fr8 1 rfl).trans rfl) (W.q2 v0 ((fr8 0 rfl).trans rfl) (W.q2 (.int .i64 x5) rfl ?_)))))
 obtain ⟨x16, i17, h18⟩ := bd_inv h15
 have j19 := idx_inv i17
 refine W.pure (v := (selem v0 (Int.toNat x5 * 1))) rfl rfl (v_idx el70 sz23 (oo rfl rfl) (oo rfl rfl) (sl_len (RT.mono _ s11 hp0)) j19.1 j19.2.1) (W.load1 (v := (.int .i64 x16)) (r := []) rfl rfl ag23 (pt_px rfl (At.int (At.le (At.le (sl_idx hp0 j19.2.2) s11 s11) (GM.le.refl _) O10.fro))) ?_)
 obtain ⟨x20, i21, h22⟩ := bd_inv h18
 refine W.lo rfl rfl (Lo.callF (x0 := x16) rfl rfl (FnOk.le hp1 s11) (mc rfl mn) rfl i21 O10) ?_
 rintro v27 H28 ⟨G23, O24, s25, sm26, rfl⟩
 refine .nil (.cond (b := x20) rfl rfl (fun g29 => ?_) (fun g29 => ?_))
 rotate_left
 ·have h32 := neg_b g29 h22
  refine .skip (.region (W.q3 (.int .i64 (kwrap .i64 (x5 + 1))) t13 rfl (W.q2 (.int .i64 (kwrap .i64 (x5 + 1))) rfl (.nil ?_))))
  exact ⟨k4, Nat.lt_succ_self _, ⟨kwrap .i64 (x5 + 1), _, h32, O24, (GM.le.trans s11 s25), rfl⟩⟩
 have h30 := pos_inv g29 h22
 refine .seq (.region (W.q2 (.int .i64 x5) rfl (W.q1 (.int .i64 x5) rfl (.nil (.ret ?_)))))
 obtain rfl := Option.some.inj h30
 have h31 := tu1_inv (outS_l h3)
 obtain rfl := Option.some.inj h31
 refine ret1R (P := Tryd.prog) (fn := Tryd.f119) (n := 19) (R := fun v H' => ∃ G', Ow G' H' (L) ∧ G.le G' ∧ v = .int .i64 x5) (v1 := (.int .i64 x5)) (by rfl) (rr_tmp (by rfl) (by exact rfl)) ?_
 exact ⟨_, O24, (GM.le.trans s11 s25), rfl⟩
def g_slices_ContainsFunc_api_Errno_api_Errno (K : Nat) (p0 : List Int) (p1 : Int → Option Bool) : Option Bool := ((g_slices_IndexFunc_api_Errno_api_Errno K p0 p1).bind fun x1 => some (decide (x1 ≥ 0)))
set_option maxHeartbeats 4000000 in
theorem g_slices_ContainsFunc_api_Errno_api_Errno_ok (K : Nat) {G : GM} {H : AH} {L : List Pc} (v0 : Value) (p0 : List Int) (hp0 : (rSl (rI .i64)).rep G [v0] p0) (v1 : Value) (p1 : Int → Option Bool) (hp1 : FnOk Tryd.prog G v1 (fun _ vs (x : (Int)) => vs = [.int .i64 x]) (fun _ v (rr : (Bool)) => v = .bool rr) p1) (O : Ow G H (L)) (r : Bool) (h : g_slices_ContainsFunc_api_Errno_api_Errno K p0 p1 = some r) :
    CR Tryd.prog 100 [v0, v1] G H (L) (fun v G' _ => v = .bool r) := by
 unfold g_slices_ContainsFunc_api_Errno_api_Errno at h
 refine CR.of (calls_of_AW (n := 9) (fn := Tryd.f100) (R := fun v H' => ∃ G', Ow G' H' (L) ∧ G.le G' ∧ v = .bool r) (by kernel_rfl) rfl rfl ?_)
 refine .seq (.region (W.q1 (.bool false) rfl (.nil (.seq (.region (W.q2 v0 rfl ?_))))))
 refine W.q2 v1 rfl ?_
 obtain ⟨x1, i2, h3⟩ := bd_inv h
 refine W.lo rfl rfl (Lo.callP (ps := []) (ps' := []) rfl (fn := Tryd.f119) (by kernel_rfl) rfl (mc rfl (mc rfl mn)) O (fun L' O' => g_slices_IndexFunc_api_Errno_api_Errno_ok K v0 p0 hp0 v1 p1 hp1 O' _ i2)) ?_
 rintro v10 H11 ⟨G4, O5, s6, sm9, rfl⟩
 replace O5 : Ow G4 H11 (L) := O5
 refine W.q3 (.bool (decide (x1 ≥ 0))) rfl rfl (W.q1 (.bool (decide (x1 ≥ 0))) rfl (.nil (.ret ?_)))
 obtain rfl := Option.some.inj h3
 refine ret1R (P := Tryd.prog) (fn := Tryd.f100) (n := 9) (R := fun v H' => ∃ G', Ow G' H' (L) ∧ G.le G' ∧ v = .bool (decide (x1 ≥ 0))) (v1 := (.bool (decide (x1 ≥ 0)))) (by rfl) (rr_tmp (by rfl) (by exact rfl)) ?_
 exact ⟨_, O5, s6, rfl⟩
def g_law_fine_1 (K : Nat) (p0 : Int) : Option Bool := some (p0 != 0)
set_option maxHeartbeats 4000000 in
theorem g_law_fine_1_ok (K : Nat) {G : GM} {H : AH} {L : List Pc} (p0 : Int) (O : Ow G H (L)) (r : Bool) (h : g_law_fine_1 K p0 = some r) :
    CR Tryd.prog 101 [(.int .i64 p0)] G H (L) (fun v G' _ => v = .bool r) := by
 unfold g_law_fine_1 at h
 refine CR.of (calls_of_AW (n := 5) (fn := Tryd.f101) (R := fun v H' => ∃ G', Ow G' H' (L) ∧ G.le G' ∧ v = .bool r) (by kernel_rfl) rfl rfl ?_)
 refine .seq (.region (W.q1 (.bool false) rfl (.nil (.seq (.region (W.q2 (.int .i64 p0) rfl ?_))))))
 refine W.q3 (.bool (p0 != 0)) rfl rfl (W.q1 (.bool (p0 != 0)) rfl (.nil (.ret ?_)))
 obtain rfl := Option.some.inj h
 refine ret1R (P := Tryd.prog) (fn := Tryd.f101) (n := 5) (R := fun v H' => ∃ G', Ow G' H' (L) ∧ G.le G' ∧ v = .bool (p0 != 0)) (v1 := (.bool (p0 != 0))) (by rfl) (rr_tmp (by rfl) (by exact rfl)) ?_
 exact ⟨_, O, (GM.le.refl _), rfl⟩
def g_law_fine (K : Nat) (p0 : List Int) : Option Bool := ((g_slices_ContainsFunc_api_Errno_api_Errno K p0 (fun x => g_law_fine_1 K x)).bind fun x1 => some (!x1))
set_option maxHeartbeats 4000000 in
theorem g_law_fine_ok (K : Nat) {G : GM} {H : AH} {L : List Pc} (v0 : Value) (p0 : List Int) (hp0 : (rSl (rI .i64)).rep G [v0] p0) (O : Ow G H (L)) (r : Bool) (h : g_law_fine K p0 = some r) :
    CR Tryd.prog 55 [v0] G H (L) (fun v G' _ => v = .bool r) := by
 unfold g_law_fine at h
 refine CR.of (calls_of_AW (n := 6) (fn := Tryd.f55) (R := fun v H' => ∃ G', Ow G' H' (L) ∧ G.le G' ∧ v = .bool r) (by kernel_rfl) rfl rfl ?_)
 refine .seq (.region (W.q1 (.bool false) rfl (.nil (.seq (.region (W.q2 v0 rfl ?_))))))
 obtain ⟨x1, i2, h3⟩ := bd_inv h
 refine W.lo rfl rfl (Lo.callP (ps := []) (ps' := []) rfl (fn := Tryd.f100) (by kernel_rfl) rfl (mc rfl (mc rfl mn)) O (fun L' O' => g_slices_ContainsFunc_api_Errno_api_Errno_ok K v0 p0 hp0 (.func (.func 101) #[] #[]) (fun x => g_law_fine_1 K x) ⟨101, _, _, Tryd.f101, rfl, by kernel_rfl, rfl, fun G1 H L vs x r hG O hA hF => by obtain rfl := hA; exact g_law_fine_1_ok K x O _ hF⟩ O' _ i2)) ?_
 rintro v10 H11 ⟨G4, O5, s6, sm9, rfl⟩
 replace O5 : Ow G4 H11 (L) := O5
 refine W.pure (v := (.bool (!x1))) rfl rfl (bool_not (a := x1) (oo rfl rfl)) (W.q1 (.bool (!x1)) rfl (.nil (.ret ?_)))
 obtain rfl := Option.some.inj h3
 refine ret1R (P := Tryd.prog) (fn := Tryd.f55) (n := 6) (R := fun v H' => ∃ G', Ow G' H' (L) ∧ G.le G' ∧ v = .bool (!x1)) (v1 := (.bool (!x1))) (by rfl) (rr_tmp (by rfl) (by exact rfl)) ?_
 exact ⟨_, O5, s6, rfl⟩
def g_R_NatError_l0 (K : Nat) (p0 : ByteArray) : Nat → Int → Option (Int ⊕ Unit)
  | 0, _ => none
  | k + 1, x8 => (if (decide (x8 < (p0.size : Int))) = true then (Option.bind (((bidx p0 x8).bind fun x22 => (if (decide (x22 < 48)) = true then some true else ((bidx p0 x8).bind fun x29 => some (decide (x29 > 57)))))) (tu1 fun x32 => (if x32 = true then some (.inl 5) else g_R_NatError_l0 K p0 k (kwrap .i64 (x8 + 1))))) else some (.inr ()))
def g_R_NatError (K : Nat) (p0 : ByteArray) : Option Int := (if ((p0.size : Int) == 0) = true then some 5 else (bindS (g_R_NatError_l0 K p0 K 0) (tu1 fun a81 => some a81) (tu0 (Option.bind ((if (decide ((p0.size : Int) > 1)) = true then ((bidx p0 0).bind fun x61 => some (x61 == 48)) else some false)) (tu1 fun x65 => (if x65 = true then some 5 else (if (decide ((p0.size : Int) > 2000)) = true then some 2 else some 0)))))))
set_option maxHeartbeats 4000000 in
theorem g_R_NatError_ok (K : Nat) {G : GM} {H : AH} {L : List Pc} (p0 : ByteArray) (O : Ow G H (L)) (r : Int) (h : g_R_NatError K p0 = some r) :
    CR Tryd.prog 15 [(.string p0)] G H (L) (fun v G' _ => v = .int .i64 r) := by
 unfold g_R_NatError at h
 refine CR.of (calls_of_AW (n := 34) (fn := Tryd.f15) (R := fun v H' => ∃ G', Ow G' H' (L) ∧ G.le G' ∧ v = .int .i64 r) (by kernel_rfl) rfl rfl ?_)
 refine .seq (.region (W.q1 (.int .i64 0) rfl (.nil (.seq (.seq (.region ?_))))))
 refine W.q2 (.string p0) rfl (W.pure (v := (.int .i64 (p0.size : Int))) rfl rfl (len_str (oo rfl rfl) un9) (W.q3 (.bool ((p0.size : Int) == 0)) rfl rfl (.nil (.cond (b := ((p0.size : Int) == 0)) rfl rfl (fun g1 => ?_) (fun g1 => ?_)))))
 ·have h2 := pos_inv g1 h
  refine .seq (.region (W.q1 (.int .i64 5) rfl (.nil (.ret ?_))))
  obtain rfl := Option.some.inj h2
  refine ret1R (P := Tryd.prog) (fn := Tryd.f15) (n := 34) (R := fun v H' => ∃ G', Ow G' H' (L) ∧ G.le G' ∧ v = .int .i64 5) (v1 := (.int .i64 5)) (by rfl) (rr_tmp (by rfl) (by exact rfl)) ?_
  exact ⟨_, O, (GM.le.refl _), rfl⟩
 have h3 := neg_b g1 h
 refine .skip (.seq (.seq (.region (W.q1 (.int .i64 0) rfl (.nil ?_)))))
 obtain ⟨q4, h5, h6⟩ := bindS_inv h3
 refine AW.midT (fun σ' H' => ∃  (G' : GM), (.inr ()) = q4 ∧ Ow G' H' (L) ∧ GM.le G G') ?_ ?_
 rotate_left
 ·rintro σ47 H48 fr49 ⟨G50, rfl, O51, s52⟩
  have h54 := tu0_inv (outS_r h6)
  refine .seq (.seq ?_)
  obtain ⟨q55, h56, h57⟩ := bd_inv h54
  refine AW.midT (fun σ' H' => ∃ (y1 : Bool) (G' : GM), y1 = q55 ∧ Ow G' H' (L) ∧ GM.le G50 G' ∧ σ' 30 = .bool y1) ?_ ?_
  ·refine .region (W.q2 (.string p0) ((fr49 0 rfl).trans rfl) (W.pure (v := (.int .i64 (p0.size : Int))) rfl rfl (len_str (oo rfl rfl) un9) (W.q3 (.bool (decide ((p0.size : Int) > 1))) rfl rfl (W.q2 (.bool (decide ((p0.size : Int) > 1))) rfl (W.splitAt (t := 26) (b := decide ((p0.size : Int) > 1)) rfl (fun g58 gv59 => ?_) (fun g58 gv59 => ?_))))))
   rotate_left
   ·have h64 := neg_b g58 h56
    refine W.q6 rfl gv59 (W.q6 rfl gv59 (W.q6 rfl gv59 (W.q5 (.bool false) gv59 rfl (.nil ?_))))
    obtain rfl := Option.some.inj h64
    exact ⟨false, _, rfl, O51, (GM.le.refl _), rfl⟩
   have h60 := pos_inv g58 h56
   refine W.q2 (hg := gk rfl rfl gv59 rfl) (.string p0) ((fr49 0 rfl).trans rfl) ?_
   obtain ⟨x61, i62, h63⟩ := bd_inv h60
   refine W.pure (v := (.int .u8 x61)) (gk rfl rfl gv59 rfl) rfl (v_sidx un9 (oo rfl rfl) (oo rfl rfl) i62) (W.q3 (hg := gk rfl rfl gv59 rfl) (.bool (x61 == 48)) rfl rfl (W.q4 (.bool (x61 == 48)) gv59 rfl (.nil ?_)))
   obtain rfl := Option.some.inj h63
   exact ⟨(x61 == 48), _, rfl, O51, (GM.le.refl _), rfl⟩
  rintro σ66 H67 fr68 ⟨x65, G69, rfl, O70, s71, t73⟩
  have h74 := tu1_inv h57
  refine .cond (b := x65) rfl t73 (fun g75 => ?_) (fun g75 => ?_)
  ·have h76 := pos_inv g75 h74
   refine .seq (.region (W.q1 (.int .i64 5) rfl (.nil (.ret ?_))))
   obtain rfl := Option.some.inj h76
   refine ret1R (P := Tryd.prog) (fn := Tryd.f15) (n := 34) (R := fun v H' => ∃ G', Ow G' H' (L) ∧ G.le G' ∧ v = .int .i64 5) (v1 := (.int .i64 5)) (by rfl) (rr_tmp (by rfl) (by exact rfl)) ?_
   exact ⟨_, O70, (GM.le.trans s52 s71), rfl⟩
  have h77 := neg_b g75 h74
  refine .skip (.seq (.seq (.region (W.q2 (.string p0) ((fr68 0 rfl).trans ((fr49 0 rfl).trans rfl)) (W.pure (v := (.int .i64 (p0.size : Int))) rfl rfl (len_str (oo rfl rfl) un9) (W.q3 (.bool (decide ((p0.size : Int) > 2000))) rfl rfl ?_))))))
  refine .nil (.cond (b := decide ((p0.size : Int) > 2000)) rfl rfl (fun g78 => ?_) (fun g78 => ?_))
  ·have h79 := pos_inv g78 h77
   refine .seq (.region (W.q1 (.int .i64 2) rfl (.nil (.ret ?_))))
   obtain rfl := Option.some.inj h79
   refine ret1R (P := Tryd.prog) (fn := Tryd.f15) (n := 34) (R := fun v H' => ∃ G', Ow G' H' (L) ∧ G.le G' ∧ v = .int .i64 2) (v1 := (.int .i64 2)) (by rfl) (rr_tmp (by rfl) (by exact rfl)) ?_
   exact ⟨_, O70, (GM.le.trans s52 s71), rfl⟩
  have h80 := neg_b g78 h77
  refine .skip (.seq (.region (W.q1 (.int .i64 0) rfl (.nil (.ret ?_)))))
  obtain rfl := Option.some.inj h80
  refine ret1R (P := Tryd.prog) (fn := Tryd.f15) (n := 34) (R := fun v H' => ∃ G', Ow G' H' (L) ∧ G.le G' ∧ v = .int .i64 0) (v1 := (.int .i64 0)) (by rfl) (rr_tmp (by rfl) (by exact rfl)) ?_
  exact ⟨_, O70, (GM.le.trans s52 s71), rfl⟩
 refine .block (AW.loop (α := Nat) (fun k' σ' H' => ∃ (y1 : Int) (G' : GM), g_R_NatError_l0 K p0 k' y1 = some q4 ∧ Ow G' H' (L) ∧ GM.le G G' ∧ σ' 3 = .int .i64 y1) (fun k' => k') K ⟨0, _, h5, O, (GM.le.refl _), rfl⟩ ?_)
 rintro k7
 rintro σ9 H10 fr11 ⟨x8, G12, h15, O13, s14, t16⟩
 rcases k7 with _ | k7
 ·exact none_absurd h15
 rw [g_R_NatError_l0] at h15
 refine .seq (.seq (.region (W.q2 (.int .i64 x8) t16 (W.q2 (.string p0) ((fr11 0 rfl).trans rfl) (W.pure (v := (.int .i64 (p0.size : Int))) rfl rfl (len_str (oo rfl rfl) un9) (W.q3 (.bool (decide (x8 < (p0.size : Int)))) rfl rfl ?_))))))
 refine .nil (.cond (b := decide (x8 < (p0.size : Int))) rfl rfl (fun g17 => ?_) (fun g17 => ?_))
 rotate_left
 ·have h46 := neg_b g17 h15
  refine .exit ?_
  obtain rfl := Option.some.inj h46
  exact ⟨_, rfl, O13, s14⟩
 have h18 := pos_inv g17 h15
 refine .skip (.seq (.block (.seq ?_)))
 obtain ⟨q19, h20, h21⟩ := bd_inv h18
 refine AW.midT (fun σ' H' => ∃ (y1 : Bool) (G' : GM), y1 = q19 ∧ Ow G' H' (L) ∧ GM.le G12 G' ∧ σ' 22 = .bool y1) ?_ ?_
 rotate_left
 ·rintro σ33 H34 fr35 ⟨x32, G36, rfl, O37, s38, t40⟩
  have h41 := tu1_inv h21
  refine .cond (b := x32) rfl t40 (fun g42 => ?_) (fun g42 => ?_)
  rotate_left
  ·have h45 := neg_b g42 h41
   refine .skip (.region (W.q2 (.int .i64 x8) ((fr35 3 rfl).trans t16) (W.q3 (.int .i64 (kwrap .i64 (x8 + 1))) rfl rfl (W.q1 (.int .i64 (kwrap .i64 (x8 + 1))) rfl (.nil ?_)))))
   exact ⟨k7, Nat.lt_succ_self _, ⟨kwrap .i64 (x8 + 1), _, h45, O37, (GM.le.trans s14 s38), rfl⟩⟩
  have h43 := pos_inv g42 h41
  refine .seq (.region (W.q1 (.int .i64 5) rfl (.nil (.ret ?_))))
  obtain rfl := Option.some.inj h43
  have h44 := tu1_inv (outS_l h6)
  obtain rfl := Option.some.inj h44
  refine ret1R (P := Tryd.prog) (fn := Tryd.f15) (n := 34) (R := fun v H' => ∃ G', Ow G' H' (L) ∧ G.le G' ∧ v = .int .i64 5) (v1 := (.int .i64 5)) (by rfl) (rr_tmp (by rfl) (by exact rfl)) ?_
  exact ⟨_, O37, (GM.le.trans s14 s38), rfl⟩
 refine .region (W.q2 (.string p0) ((fr11 0 rfl).trans rfl) (W.q2 (.int .i64 x8) t16 ?_))
 obtain ⟨x22, i23, h24⟩ := bd_inv h20
 refine W.pure (v := (.int .u8 x22)) rfl rfl (v_sidx un9 (oo rfl rfl) (oo rfl rfl) i23) (W.q3 (.bool (decide (x22 < 48))) rfl rfl (W.q2 (.bool (decide (x22 < 48))) rfl (W.splitAt (t := 17) (b := decide (x22 < 48)) rfl (fun g25 gv26 => ?_) (fun g25 gv26 => ?_))))
 ·have h27 := pos_inv g25 h24
  refine W.q6 rfl gv26 (W.q6 rfl gv26 (W.q6 rfl gv26 (W.q6 rfl gv26 (W.q4 (.bool true) gv26 rfl (.nil ?_)))))
  obtain rfl := Option.some.inj h27
  exact ⟨true, _, rfl, O13, (GM.le.refl _), rfl⟩
 have h28 := neg_b g25 h24
 refine W.q2 (hg := gk rfl rfl gv26 rfl) (.string p0) ((fr11 0 rfl).trans rfl) (W.q2 (hg := gk rfl rfl gv26 rfl) (.int .i64 x8) t16 ?_)
 obtain ⟨x29, i30, h31⟩ := bd_inv h28
 refine W.pure (v := (.int .u8 x29)) (gk rfl rfl gv26 rfl) rfl (v_sidx un9 (oo rfl rfl) (oo rfl rfl) i30) (W.q3 (hg := gk rfl rfl gv26 rfl) (.bool (decide (x29 > 57))) rfl rfl (W.q5 (.bool (decide (x29 > 57))) gv26 rfl (.nil ?_)))
 obtain rfl := Option.some.inj h31
 exact ⟨decide (x29 > 57), _, rfl, O13, (GM.le.refl _), rfl⟩
def g_R_digit (K : Nat) (p0 : ByteArray) (p1 : Int) : Option Int := (if (decide (p1 < (p0.size : Int))) = true then ((bidx p0 (kwrap .i64 ((kwrap .i64 ((p0.size : Int) - 1)) - p1))).bind fun x3 => some (IntKind.wrap .i64 (kwrap .u8 (x3 - 48)))) else some 0)
set_option maxHeartbeats 4000000 in
theorem g_R_digit_ok (K : Nat) {G : GM} {H : AH} {L : List Pc} (p0 : ByteArray) (p1 : Int) (O : Ow G H (L)) (r : Int) (h : g_R_digit K p0 p1 = some r) :
    CR Tryd.prog 61 [(.string p0), (.int .i64 p1)] G H (L) (fun v G' _ => v = .int .i64 r) := by
 unfold g_R_digit at h
 refine CR.of (calls_of_AW (n := 18) (fn := Tryd.f61) (R := fun v H' => ∃ G', Ow G' H' (L) ∧ G.le G' ∧ v = .int .i64 r) (by kernel_rfl) rfl rfl ?_)
 refine .seq (.region (W.q1 (.int .i64 0) rfl (.nil (.seq (.seq (.region ?_))))))
 refine W.q2 (.int .i64 p1) rfl (W.q2 (.string p0) rfl (W.pure (v := (.int .i64 (p0.size : Int))) rfl rfl (len_str (oo rfl rfl) un9) (W.q3 (.bool (decide (p1 < (p0.size : Int)))) rfl rfl (.nil (.cond (b := decide (p1 < (p0.size : Int))) rfl rfl (fun g1 => ?_) (fun g1 => ?_))))))
 rotate_left
 ·have h6 := neg_b g1 h
  refine .skip (.seq (.region (W.q1 (.int .i64 0) rfl (.nil (.ret ?_)))))
  obtain rfl := Option.some.inj h6
  refine ret1R (P := Tryd.prog) (fn := Tryd.f61) (n := 18) (R := fun v H' => ∃ G', Ow G' H' (L) ∧ G.le G' ∧ v = .int .i64 0) (v1 := (.int .i64 0)) (by rfl) (rr_tmp (by rfl) (by exact rfl)) ?_
  exact ⟨_, O, (GM.le.refl _), rfl⟩
 have h2 := pos_inv g1 h
 refine .seq (.region (W.q2 (.string p0) rfl (W.q2 (.string p0) rfl (W.pure (v := (.int .i64 (p0.size : Int))) rfl rfl (len_str (oo rfl rfl) un9) (W.q3 (.int .i64 (kwrap .i64 ((p0.size : Int) - 1))) rfl rfl (W.q2 (.int .i64 p1) rfl ?_))))))
 refine W.q3 (.int .i64 (kwrap .i64 ((kwrap .i64 ((p0.size : Int) - 1)) - p1))) rfl rfl ?_
 obtain ⟨x3, i4, h5⟩ := bd_inv h2
 refine W.pure (v := (.int .u8 x3)) rfl rfl (v_sidx un9 (oo rfl rfl) (oo rfl rfl) i4) (W.q3 (.int .u8 (kwrap .u8 (x3 - 48))) rfl rfl (W.pure (v := (.int .i64 (IntKind.wrap .i64 (kwrap .u8 (x3 - 48))))) rfl rfl (v_conv in5 in3 (oo rfl rfl)) (W.q1 (.int .i64 (IntKind.wrap .i64 (kwrap .u8 (x3 - 48)))) rfl (.nil (.ret ?_)))))
 obtain rfl := Option.some.inj h5
 refine ret1R (P := Tryd.prog) (fn := Tryd.f61) (n := 18) (R := fun v H' => ∃ G', Ow G' H' (L) ∧ G.le G' ∧ v = .int .i64 (IntKind.wrap .i64 (kwrap .u8 (x3 - 48)))) (v1 := (.int .i64 (IntKind.wrap .i64 (kwrap .u8 (x3 - 48))))) (by rfl) (rr_tmp (by rfl) (by exact rfl)) ?_
 exact ⟨_, O, (GM.le.refl _), rfl⟩
def g_R_strip_l0 (K : Nat) : Nat → ByteArray → Option (ByteArray)
  | 0, _ => none
  | k + 1, x5 => (Option.bind ((if (decide ((x5.size : Int) > 1)) = true then ((bidx x5 0).bind fun x20 => some (x20 == 48)) else some false)) (tu1 fun x24 => (if x24 = true then ((ssl x5 1 (x5.size : Int)).bind fun x36 => g_R_strip_l0 K k x36) else some x5)))
def g_R_strip (K : Nat) (p0 : ByteArray) : Option ByteArray := (Option.bind (g_R_strip_l0 K K p0) (tu1 fun x40 => some x40))
set_option maxHeartbeats 4000000 in
theorem g_R_strip_ok (K : Nat) {G : GM} {H : AH} {L : List Pc} (p0 : ByteArray) (O : Ow G H (L)) (r : ByteArray) (h : g_R_strip K p0 = some r) :
    CR Tryd.prog 69 [(.string p0)] G H (L) (fun v G' _ => v = .string r) := by
 unfold g_R_strip at h
 refine CR.of (calls_of_AW (n := 14) (fn := Tryd.f69) (R := fun v H' => ∃ G', Ow G' H' (L) ∧ G.le G' ∧ v = .string r) (by kernel_rfl) rfl rfl ?_)
 refine .seq (.region (W.q1 (.string (⟨#[]⟩ : ByteArray)) rfl (.nil (.seq ?_))))
 obtain ⟨q1, h2, h3⟩ := bd_inv h
 refine AW.midT (fun σ' H' => ∃ (y1 : ByteArray) (G' : GM), y1 = q1 ∧ Ow G' H' (L) ∧ GM.le G G' ∧ σ' 0 = .string y1) ?_ ?_
 rotate_left
 ·rintro σ41 H42 fr43 ⟨x40, G44, rfl, O45, s46, t48⟩
  have h49 := tu1_inv h3
  refine .seq (.region (W.q2 (.string x40) t48 (W.q1 (.string x40) rfl (.nil (.ret ?_)))))
  obtain rfl := Option.some.inj h49
  refine ret1R (P := Tryd.prog) (fn := Tryd.f69) (n := 14) (R := fun v H' => ∃ G', Ow G' H' (L) ∧ G.le G' ∧ v = .string x40) (v1 := (.string x40)) (by rfl) (rr_tmp (by rfl) (by exact rfl)) ?_
  exact ⟨_, O45, s46, rfl⟩
 refine .block (AW.loop (α := Nat) (fun k' σ' H' => ∃ (y1 : ByteArray) (G' : GM), g_R_strip_l0 K k' y1 = some q1 ∧ Ow G' H' (L) ∧ GM.le G G' ∧ σ' 0 = .string y1) (fun k' => k') K ⟨p0, _, h2, O, (GM.le.refl _), rfl⟩ ?_)
 rintro k4
 rintro σ6 H7 fr8 ⟨x5, G9, h12, O10, s11, t13⟩
 rcases k4 with _ | k4
 ·exact none_absurd h12
 rw [g_R_strip_l0] at h12
 refine .seq (.seq ?_)
 obtain ⟨q14, h15, h16⟩ := bd_inv h12
 refine AW.midT (fun σ' H' => ∃ (y1 : Bool) (G' : GM), y1 = q14 ∧ Ow G' H' (L) ∧ GM.le G9 G' ∧ σ' 10 = .bool y1) ?_ ?_
 rotate_left
 ·rintro σ25 H26 fr27 ⟨x24, G28, rfl, O29, s30, t32⟩
  have h33 := tu1_inv h16
  refine .cond (b := x24) rfl t32 (fun g34 => ?_) (fun g34 => ?_)
  rotate_left
  ·have h39 := neg_b g34 h33
   refine .exit ?_
   obtain rfl := Option.some.inj h39
   exact ⟨x5, _, rfl, O29, (GM.le.trans s11 s30), ((fr27 0 rfl).trans t13)⟩
  have h35 := pos_inv g34 h33
  refine .skip (.block (.region (W.q2 (.string x5) ((fr27 0 rfl).trans t13) ?_)))
  obtain ⟨x36, i37, h38⟩ := bd_inv h35
  refine W.pure (v := (.string x36)) rfl rfl (v_sslL un9 (oo rfl rfl) (oo rfl rfl) i37) (W.q1 (.string x36) rfl (.nil ?_))
  exact ⟨k4, Nat.lt_succ_self _, ⟨x36, _, h38, O29, (GM.le.trans s11 s30), rfl⟩⟩
 refine .region (W.q2 (.string x5) t13 (W.pure (v := (.int .i64 (x5.size : Int))) rfl rfl (len_str (oo rfl rfl) un9) (W.q3 (.bool (decide ((x5.size : Int) > 1))) rfl rfl (W.q2 (.bool (decide ((x5.size : Int) > 1))) rfl (W.splitAt (t := 6) (b := decide ((x5.size : Int) > 1)) rfl (fun g17 gv18 => ?_) (fun g17 gv18 => ?_))))))
 rotate_left
 ·have h23 := neg_b g17 h15
  refine W.q6 rfl gv18 (W.q6 rfl gv18 (W.q6 rfl gv18 (W.q5 (.bool false) gv18 rfl (.nil ?_))))
  obtain rfl := Option.some.inj h23
  exact ⟨false, _, rfl, O10, (GM.le.refl _), rfl⟩
 have h19 := pos_inv g17 h15
 refine W.q2 (hg := gk rfl rfl gv18 rfl) (.string x5) t13 ?_
 obtain ⟨x20, i21, h22⟩ := bd_inv h19
 refine W.pure (v := (.int .u8 x20)) (gk rfl rfl gv18 rfl) rfl (v_sidx un9 (oo rfl rfl) (oo rfl rfl) i21) (W.q3 (hg := gk rfl rfl gv18 rfl) (.bool (x20 == 48)) rfl rfl (W.q4 (.bool (x20 == 48)) gv18 rfl (.nil ?_)))
 obtain rfl := Option.some.inj h22
 exact ⟨(x20 == 48), _, rfl, O10, (GM.le.refl _), rfl⟩
def g_R_text_l0 (K : Nat) (p0 : List Int) : Nat → List Int → Int → Option (List Int)
  | 0, _, _ => none
  | k + 1, x11, x12 => (if (decide (x12 < (List.length p0 : Int))) = true then ((idx p0 x12).bind fun x23 => ((idx x11 (kwrap .i64 ((kwrap .i64 ((List.length p0 : Int) - 1)) - x12))).bind fun x27 => g_R_text_l0 K p0 k (List.set x11 (Int.toNat (kwrap .i64 ((kwrap .i64 ((List.length p0 : Int) - 1)) - x12))) (IntKind.wrap .u8 (kwrap .i64 ((48 : Int) + x23)))) (kwrap .i64 (x12 + 1)))) else some x11)
def g_R_text (K : Nat) (p0 : List Int) : Option ByteArray := (if 0 ≤ (List.length p0 : Int) ∧ (List.length p0 : Int) ≤ (List.length p0 : Int) ∧ (List.length p0 : Int) ≤ 16777216 then (Option.bind (g_R_text_l0 K p0 K (List.replicate (Int.toNat (List.length p0 : Int)) 0) 0) (tu1 fun x36 => (if 0 < List.length x36 then (if ((⟨#[48]⟩ : ByteArray)).size + ((strOfNums x36)).size ≤ 4611686018427387904 then ((g_R_strip K ((⟨#[48]⟩ : ByteArray) ++ (strOfNums x36))).bind fun x52 => some x52) else none) else none))) else none)
set_option maxHeartbeats 4000000 in
theorem g_R_text_ok (K : Nat) {G : GM} {H : AH} {L : List Pc} (v0 : Value) (p0 : List Int) (hp0 : (rSl (rI .i64)).rep G [v0] p0) (O : Ow G H (L)) (r : ByteArray) (h : g_R_text K p0 = some r) :
    CR Tryd.prog 62 [v0] G H (L) (fun v G' _ => v = .string r) := by
 unfold g_R_text at h
 refine CR.of (calls_of_AW (n := 31) (fn := Tryd.f62) (R := fun v H' => ∃ G', Ow G' H' (L) ∧ G.le G' ∧ v = .string r) (by kernel_rfl) rfl rfl ?_)
 refine .seq (.region (W.q1 (.string (⟨#[]⟩ : ByteArray)) rfl (.nil (.seq (.region (W.q2 v0 rfl ?_))))))
 refine W.pure (v := (.int .i64 (List.length p0 : Int))) rfl rfl (len_sl (oo rfl rfl) (sl_len hp0) (elemT_inv el71)) ?_
 obtain ⟨g2, h3⟩ := gd_inv h
 refine W.lo rfl rfl (Lo.makeSlice (r := (rI .u8)) (x0 := 0) (a := (List.length p0 : Int)) (c := (List.length p0 : Int)) rfl el62 ze5 sz5 (by kernel_rfl) rfl by5 (by decide) rfl rfl g2 (zI .u8) O) ?_
 rintro v5 H6 ⟨O1, sm4⟩
 refine W.q1 v5 rfl (.nil (.seq (.seq (.region (W.q2 v0 rfl (W.pure (v := (.int .i64 (List.length p0 : Int))) rfl rfl (len_sl (oo rfl rfl) (sl_len hp0) (elemT_inv el71)) ?_))))))
 refine W.q2 (.int .i64 0) rfl (.nil ?_)
 obtain ⟨q7, h8, h9⟩ := bd_inv h3
 refine AW.midT (fun σ' H' => ∃ (y1 : List Int) (G' : GM), y1 = q7 ∧ Ow G' H' (eSl v5 5 (rI .u8) y1 :: L) ∧ GM.le G G') ?_ ?_
 rotate_left
 ·rintro σ37 H38 fr39 ⟨x36, G40, rfl, O41, s42⟩
  have h44 := tu1_inv h9
  refine .seq (.region (W.q2 v5 ((fr39 3 rfl).trans rfl) ?_))
  obtain ⟨es45, e46, e47⟩ := src_own (j := 0) rfl O41
  obtain ⟨g48, h49⟩ := gd_inv h44
  refine W.bytesStr rfl rfl el62 in5 un9 e46 e47 g48 ?_
  obtain ⟨g50, h51⟩ := gd_inv h49
  refine W.pure (v := (.string ((⟨#[48]⟩ : ByteArray) ++ (strOfNums x36)))) rfl rfl (vs_add g50 (oo rfl rfl) (oo rfl rfl)) ?_
  obtain ⟨x52, i53, h54⟩ := bd_inv h51
  refine W.lo rfl rfl (Lo.callP (ps := []) (ps' := []) rfl (fn := Tryd.f69) (by kernel_rfl) rfl (mc rfl mn) O41 (fun L' O' => g_R_strip_ok K ((⟨#[48]⟩ : ByteArray) ++ (strOfNums x36)) O' _ i53)) ?_
  rintro v61 H62 ⟨G55, O56, s57, sm60, rfl⟩
  replace O56 : Ow G55 H62 (eSl v5 5 (rI .u8) x36 :: L) := O56
  refine W.q1 (.string x52) rfl (.nil (.ret ?_))
  have O63 : Ow G55 H62 (L) := O56.drop 0
  obtain rfl := Option.some.inj h54
  refine ret1R (P := Tryd.prog) (fn := Tryd.f62) (n := 31) (R := fun v H' => ∃ G', Ow G' H' (L) ∧ G.le G' ∧ v = .string x52) (v1 := (.string x52)) (by rfl) (rr_tmp (by rfl) (by exact rfl)) ?_
  exact ⟨_, O63, (GM.le.trans s42 s57), rfl⟩
 refine .block (AW.loop (α := Nat) (fun k' σ' H' => ∃ (y1 : List Int) (y2 : Int) (G' : GM), g_R_text_l0 K p0 k' y1 y2 = some q7 ∧ Ow G' H' (eSl v5 5 (rI .u8) y1 :: L) ∧ GM.le G G' ∧ σ' 11 = .int .i64 y2) (fun k' => k') K ⟨(List.replicate (Int.toNat (List.length p0 : Int)) 0), 0, _, h8, O1, (GM.le.refl _), rfl⟩ ?_)
 rintro k10
 rintro σ13 H14 fr15 ⟨x11, x12, G16, h19, O17, s18, t20⟩
 rcases k10 with _ | k10
 ·exact none_absurd h19
 rw [g_R_text_l0] at h19
 refine .seq (.region (W.q3 (.bool (decide (x12 < (List.length p0 : Int)))) t20 ((fr15 10 rfl).trans rfl) (.nil (.seq (.cond (b := decide (x12 < (List.length p0 : Int))) rfl rfl (fun g21 => ?_) (fun g21 => ?_))))))
 rotate_left
 ·have h35 := neg_b g21 h19
  refine .exit ?_
  obtain rfl := Option.some.inj h35
  exact ⟨x11, _, rfl, O17, s18⟩
 have h22 := pos_inv g21 h19
 refine .skip (.seq (.block (.seq (.region (W.q2 (.int .i64 x12) t20 ?_)))))
 obtain ⟨x23, i24, h25⟩ := bd_inv h22
 have j26 := idx_inv i24
 refine W.pure (v := (selem v0 (Int.toNat x12 * 1))) rfl rfl (v_idx el71 sz3 (oo rfl ((fr15 9 rfl).trans rfl)) (oo rfl t20) (sl_len (RT.mono _ s18 hp0)) j26.1 j26.2.1) (W.load1 (v := (.int .i64 x23)) (r := []) rfl rfl ag3 (pt_px rfl (At.int (At.le (At.le (sl_idx hp0 j26.2.2) s18 s18) (GM.le.refl _) O17.fro))) (W.q1 (.int .i64 x12) rfl (W.q1 (.int .i64 x23) rfl (.nil (.region (W.q2 v5 ((fr15 3 rfl).trans rfl) ?_))))))
 refine W.q2 v0 ((fr15 0 rfl).trans rfl) (W.pure (v := (.int .i64 (List.length p0 : Int))) rfl rfl (len_sl (oo rfl rfl) (sl_len (RT.mono _ s18 hp0)) (elemT_inv el71)) (W.q3 (.int .i64 (kwrap .i64 ((List.length p0 : Int) - 1))) rfl rfl (W.q2 (.int .i64 x12) rfl (W.q3 (.int .i64 (kwrap .i64 ((kwrap .i64 ((List.length p0 : Int) - 1)) - x12))) rfl rfl (W.q2 (.int .i64 x23) rfl (W.q3 (.int .i64 (kwrap .i64 ((48 : Int) + x23))) rfl rfl ?_))))))
 refine W.pure (v := (.int .u8 (IntKind.wrap .u8 (kwrap .i64 ((48 : Int) + x23))))) rfl rfl (v_conv in3 in5 (oo rfl rfl)) ?_
 obtain ⟨x27, i28, h29⟩ := bd_inv h25
 have j30 := idx_inv i28
 refine W.pure (v := (selem v5 (Int.toNat (kwrap .i64 ((kwrap .i64 ((List.length p0 : Int) - 1)) - x12)) * 1))) rfl rfl (v_idx el62 sz5 (oo rfl rfl) (oo rfl rfl) (O17.slLen (j := 0) rfl) j30.1 j30.2.1) (W.lo rfl rfl (Lo.storeSl0 (j := 0) (y0 := IntKind.wrap .u8 (kwrap .i64 ((48 : Int) + x23))) (v := (.int .u8 (IntKind.wrap .u8 (kwrap .i64 ((48 : Int) + x23))))) rfl j30.2.2  rfl sz5 rfl rfl rfl O17) ?_)
 rintro v33 H34 ⟨O31, sm32⟩
 replace O31 : Ow G16 H34 (eSl v5 5 (rI .u8) (List.set x11 (Int.toNat (kwrap .i64 ((kwrap .i64 ((List.length p0 : Int) - 1)) - x12))) (IntKind.wrap .u8 (kwrap .i64 ((48 : Int) + x23)))) :: L) := O31
 refine .nil (.region (W.q3 (.int .i64 (kwrap .i64 (x12 + 1))) t20 rfl (W.q2 (.int .i64 (kwrap .i64 (x12 + 1))) rfl (.nil ?_))))
 exact ⟨k10, Nat.lt_succ_self _, ⟨(List.set x11 (Int.toNat (kwrap .i64 ((kwrap .i64 ((List.length p0 : Int) - 1)) - x12))) (IntKind.wrap .u8 (kwrap .i64 ((48 : Int) + x23)))), kwrap .i64 (x12 + 1), _, h29, O31, s18, rfl⟩⟩
def g_R_NatAdd_l0 (K : Nat) (p0 : ByteArray) (p1 : ByteArray) : Nat → List Int → Int → Int → Option (List Int)
  | 0, _, _, _ => none
  | k + 1, x6, x7, x8 => (Option.bind ((if (decide (x8 < (p0.size : Int))) = true then some true else (if (decide (x8 < (p1.size : Int))) = true then some true else some (decide (x7 > 0))))) (tu1 fun x29 => (if x29 = true then ((g_R_digit K p0 x8).bind fun x41 => ((g_R_digit K p1 x8).bind fun x52 => (if List.length x6 + List.length [Int.tmod (kwrap .i64 ((kwrap .i64 (x41 + x52)) + x7)) 10] ≤ 16777216 then (lt (kwrap .i64 (Int.tdiv (kwrap .i64 ((kwrap .i64 (x41 + x52)) + x7)) 10)) fun x76 => g_R_NatAdd_l0 K p0 p1 k (x6 ++ [Int.tmod (kwrap .i64 ((kwrap .i64 (x41 + x52)) + x7)) 10]) x76 (kwrap .i64 (x8 + 1))) else none))) else some x6)))
def g_R_NatAdd (K : Nat) (p0 : ByteArray) (p1 : ByteArray) : Option ByteArray := (Option.bind (g_R_NatAdd_l0 K p0 p1 K [] 0 0) (tu1 fun x81 => ((g_R_text K x81).bind fun x90 => some x90)))
set_option maxHeartbeats 4000000 in
theorem g_R_NatAdd_ok (K : Nat) {G : GM} {H : AH} {L : List Pc} (p0 : ByteArray) (p1 : ByteArray) (O : Ow G H (L)) (r : ByteArray) (h : g_R_NatAdd K p0 p1 = some r) :
    CR Tryd.prog 20 [(.string p0), (.string p1)] G H (L) (fun v G' _ => v = .string r) := by
 unfold g_R_NatAdd at h
 refine CR.of (calls_of_AW (n := 43) (fn := Tryd.f20) (R := fun v H' => ∃ G', Ow G' H' (L) ∧ G.le G' ∧ v = .string r) (by kernel_rfl) rfl rfl ?_)
 refine .seq (.region (W.q1 (.string (⟨#[]⟩ : ByteArray)) rfl (.nil (.seq (.region (W.q1 (.slice none 0 0) rfl ?_))))))
 refine .nil (.seq (.region (W.q1 (.int .i64 0) rfl (.nil (.seq (.seq ?_))))))
 refine .region (W.q1 (.int .i64 0) rfl (.nil ?_))
 obtain ⟨q1, h2, h3⟩ := bd_inv h
 refine AW.midT (fun σ' H' => ∃ (y1 : List Int) (G' : GM), y1 = q1 ∧ Ow G' H' (eSl (σ' 5) 3 (rI .i64) y1 :: L) ∧ GM.le G G') ?_ ?_
 rotate_left
 ·rintro σ82 H83 fr84 ⟨x81, G85, rfl, O86, s87⟩
  have h89 := tu1_inv h3
  refine .seq (.region (W.q2 (σ82 5) rfl ?_))
  obtain ⟨x90, i91, h92⟩ := bd_inv h89
  refine W.lo rfl rfl (Lo.callB (j := 0) rfl rfl (fn := Tryd.f62) (by kernel_rfl) rfl (mc rfl mn) O86 (fun G' L' hG O' hB => g_R_text_ok K (σ82 5) x81 hB O' _ i91)) ?_
  rintro v99 H100 ⟨G93, O94, s95, sm98, rfl⟩
  replace O94 : Ow G93 H100 (eSl (σ82 5) 3 (rI .i64) x81 :: L) := O94
  refine W.q1 (.string x90) rfl (.nil (.ret ?_))
  have O101 : Ow G93 H100 (L) := O94.drop 0
  obtain rfl := Option.some.inj h92
  refine ret1R (P := Tryd.prog) (fn := Tryd.f20) (n := 43) (R := fun v H' => ∃ G', Ow G' H' (L) ∧ G.le G' ∧ v = .string x90) (v1 := (.string x90)) (by rfl) (rr_tmp (by rfl) (by exact rfl)) ?_
  exact ⟨_, O101, (GM.le.trans s87 s95), rfl⟩
 refine .block ?_
 have O4 := O.nilSl 3 (rI .i64)
 refine AW.loop (α := Nat) (fun k' σ' H' => ∃ (y1 : List Int) (y2 : Int) (y3 : Int) (G' : GM), g_R_NatAdd_l0 K p0 p1 k' y1 y2 y3 = some q1 ∧ Ow G' H' (eSl (σ' 5) 3 (rI .i64) y1 :: L) ∧ GM.le G G' ∧ σ' 6 = .int .i64 y2 ∧ σ' 7 = .int .i64 y3) (fun k' => k') K ⟨[], 0, 0, _, h2, O4, (GM.le.refl _), rfl, rfl⟩ ?_
 rintro k5
 rintro σ9 H10 fr11 ⟨x6, x7, x8, G12, h15, O13, s14, t16, t17⟩
 rcases k5 with _ | k5
 ·exact none_absurd h15
 rw [g_R_NatAdd_l0] at h15
 refine .seq (.seq ?_)
 obtain ⟨q18, h19, h20⟩ := bd_inv h15
 refine AW.midT (fun σ' H' => ∃ (y1 : Bool) (G' : GM), y1 = q18 ∧ Ow G' H' (eSl (σ9 5) 3 (rI .i64) x6 :: L) ∧ GM.le G12 G' ∧ σ' 22 = .bool y1) ?_ ?_
 ·refine .region (W.q2 (.int .i64 x8) t17 (W.q2 (.string p0) ((fr11 0 rfl).trans rfl) (W.pure (v := (.int .i64 (p0.size : Int))) rfl rfl (len_str (oo rfl rfl) un9) (W.q3 (.bool (decide (x8 < (p0.size : Int)))) rfl rfl (W.q2 (.bool (decide (x8 < (p0.size : Int)))) rfl (W.splitAt (t := 13) (b := decide (x8 < (p0.size : Int))) rfl (fun g21 gv22 => ?_) (fun g21 gv22 => ?_)))))))
  ·have h23 := pos_inv g21 h19
   refine W.q6 rfl gv22 (W.q6 rfl gv22 (W.q6 rfl gv22 (W.q6 rfl gv22 (W.q4 (.bool true) gv22 rfl (W.q2 (.bool true) rfl (W.q6 rfl rfl ?_))))))
   refine W.q6 rfl rfl (W.q4 (.bool true) rfl rfl (.nil ?_))
   obtain rfl := Option.some.inj h23
   exact ⟨true, _, rfl, O13, (GM.le.refl _), rfl⟩
  have h24 := neg_b g21 h19
  refine W.q2 (hg := gk rfl rfl gv22 rfl) (.int .i64 x8) t17 (W.q2 (hg := gk rfl rfl gv22 rfl) (.string p1) ((fr11 1 rfl).trans rfl) (W.pure (v := (.int .i64 (p1.size : Int))) (gk rfl rfl gv22 rfl) rfl (len_str (oo rfl rfl) un9) (W.q3 (hg := gk rfl rfl gv22 rfl) (.bool (decide (x8 < (p1.size : Int)))) rfl rfl (W.q5 (.bool (decide (x8 < (p1.size : Int)))) gv22 rfl (W.q2 (.bool (decide (x8 < (p1.size : Int)))) rfl (W.splitAt (t := 19) (b := decide (x8 < (p1.size : Int))) rfl (fun g25 gv26 => ?_) (fun g25 gv26 => ?_)))))))
  ·have h27 := pos_inv g25 h24
   refine W.q6 rfl gv26 (W.q6 rfl gv26 (W.q4 (.bool true) gv26 rfl (.nil ?_)))
   obtain rfl := Option.some.inj h27
   exact ⟨true, _, rfl, O13, (GM.le.refl _), rfl⟩
  have h28 := neg_b g25 h24
  refine W.q2 (hg := gk rfl rfl gv26 rfl) (.int .i64 x7) t16 (W.q3 (hg := gk rfl rfl gv26 rfl) (.bool (decide (x7 > 0))) rfl rfl (W.q5 (.bool (decide (x7 > 0))) gv26 rfl (.nil ?_)))
  obtain rfl := Option.some.inj h28
  exact ⟨decide (x7 > 0), _, rfl, O13, (GM.le.refl _), rfl⟩
 rintro σ30 H31 fr32 ⟨x29, G33, rfl, O34, s35, t37⟩
 have h38 := tu1_inv h20
 refine .cond (b := x29) rfl t37 (fun g39 => ?_) (fun g39 => ?_)
 rotate_left
 ·have h80 := neg_b g39 h38
  refine .exit ?_
  obtain rfl := Option.some.inj h80
  exact ⟨x6, _, rfl, (Ow.reval (j := 0) O34 rfl ((fr32 5 rfl).trans rfl)), (GM.le.trans s14 s35)⟩
 have h40 := pos_inv g39 h38
 refine .skip (.seq (.block (.seq (.region (W.q2 (.string p0) ((fr32 0 rfl).trans ((fr11 0 rfl).trans rfl)) (W.q2 (.int .i64 x8) ((fr32 7 rfl).trans t17) ?_))))))
 obtain ⟨x41, i42, h43⟩ := bd_inv h40
 refine W.lo rfl rfl (Lo.callP (ps := []) (ps' := []) rfl (fn := Tryd.f61) (by kernel_rfl) rfl (mc rfl (mc rfl mn)) O34 (fun L' O' => g_R_digit_ok K p0 x8 O' _ i42)) ?_
 rintro v50 H51 ⟨G44, O45, s46, sm49, rfl⟩
 replace O45 : Ow G44 H51 (eSl (σ9 5) 3 (rI .i64) x6 :: L) := O45
 refine W.q2 (.string p1) ((fr32 1 rfl).trans ((fr11 1 rfl).trans rfl)) (W.q2 (.int .i64 x8) ((fr32 7 rfl).trans t17) ?_)
 obtain ⟨x52, i53, h54⟩ := bd_inv h43
 refine W.lo rfl rfl (Lo.callP (ps := []) (ps' := []) rfl (fn := Tryd.f61) (by kernel_rfl) rfl (mc rfl (mc rfl mn)) O45 (fun L' O' => g_R_digit_ok K p1 x8 O' _ i53)) ?_
 rintro v61 H62 ⟨G55, O56, s57, sm60, rfl⟩
 replace O56 : Ow G55 H62 (eSl (σ9 5) 3 (rI .i64) x6 :: L) := O56
 refine W.q3 (.int .i64 (kwrap .i64 (x41 + x52))) rfl rfl (W.q2 (.int .i64 x7) ((fr32 6 rfl).trans t16) (W.q3 (.int .i64 (kwrap .i64 ((kwrap .i64 (x41 + x52)) + x7))) rfl rfl (W.q1 (.int .i64 (kwrap .i64 ((kwrap .i64 (x41 + x52)) + x7))) rfl (.nil (.seq (.region ?_))))))
 refine W.q2 (σ9 5) ((fr32 5 rfl).trans rfl) (W.q2 (.int .i64 (kwrap .i64 ((kwrap .i64 (x41 + x52)) + x7))) rfl (W.pure (v := (.int .i64 (Int.tmod (kwrap .i64 ((kwrap .i64 (x41 + x52)) + x7)) 10))) rfl rfl (v_rem (by decide) (oo rfl rfl) (oo rfl rfl)) (W.lo rfl rfl (Lo.buildSlice (r := (rI .i64)) (vs := [(.int .i64 (Int.tmod (kwrap .i64 ((kwrap .i64 (x41 + x52)) + x7)) 10))]) (xs := [Int.tmod (kwrap .i64 ((kwrap .i64 (x41 + x52)) + x7)) 10]) el71 ze3 sz3 (by kernel_rfl) rfl (qc rfl qn) rfl (.cons rfl .nil) O56) ?_)))
 rintro v65 H66 ⟨O63, sm64⟩
 obtain ⟨es68, e69, e70⟩ := src_own (j := 0) rfl O63
 obtain ⟨g71, h72⟩ := gd_inv h54
 refine W.lo rfl rfl (Lo.append (j := 1) (v := (σ9 5)) rfl rfl el71 ni71 ze3 sz3 by3 (by decide) (by decide) rfl e69 e70 g71 O63) ?_
 rintro v74 H75 ⟨O67, sm73⟩
 replace O67 : Ow G55 H75 (eSl v65 3 (rI .i64) [Int.tmod (kwrap .i64 ((kwrap .i64 (x41 + x52)) + x7)) 10] :: eSl v74 3 (rI .i64) (x6 ++ [Int.tmod (kwrap .i64 ((kwrap .i64 (x41 + x52)) + x7)) 10]) :: L) := O67
 refine W.q1 v74 rfl (.nil (.region (W.q2 (.int .i64 (kwrap .i64 ((kwrap .i64 (x41 + x52)) + x7))) rfl (W.pure (v := (.int .i64 (kwrap .i64 (Int.tdiv (kwrap .i64 ((kwrap .i64 (x41 + x52)) + x7)) 10)))) rfl rfl (v_quo (by decide) (oo rfl rfl) (oo rfl rfl)) ?_))))
 obtain ⟨x76, e77, h78⟩ := lt_inv h72
 refine W.q1 (.int .i64 x76) (congrArg (Value.int .i64) e77) (.nil (.region (W.q2 (.int .i64 x8) ((fr32 7 rfl).trans t17) (W.q3 (.int .i64 (kwrap .i64 (x8 + 1))) rfl rfl (W.q1 (.int .i64 (kwrap .i64 (x8 + 1))) rfl (.nil ?_))))))
 have O79 : Ow G55 H75 (eSl v74 3 (rI .i64) (x6 ++ [Int.tmod (kwrap .i64 ((kwrap .i64 (x41 + x52)) + x7)) 10]) :: L) := O67.drop 0
 exact ⟨k5, Nat.lt_succ_self _, ⟨(x6 ++ [Int.tmod (kwrap .i64 ((kwrap .i64 (x41 + x52)) + x7)) 10]), x76, kwrap .i64 (x8 + 1), _, h78, O79, (GM.le.trans s14 (GM.le.trans s35 (GM.le.trans s46 s57))), rfl, rfl⟩⟩
def g_R_NatCmp (K : Nat) (p0 : ByteArray) (p1 : ByteArray) : Option Int := (if (decide ((p0.size : Int) < (p1.size : Int))) = true then some (-1) else (if (decide ((p0.size : Int) > (p1.size : Int))) = true then some 1 else (if (sLt p0 p1) = true then some (-1) else (if (!(sLt p0 p1 || sEq p0 p1)) = true then some 1 else some 0))))
set_option maxHeartbeats 4000000 in
theorem g_R_NatCmp_ok (K : Nat) {G : GM} {H : AH} {L : List Pc} (p0 : ByteArray) (p1 : ByteArray) (O : Ow G H (L)) (r : Int) (h : g_R_NatCmp K p0 p1 = some r) :
    CR Tryd.prog 21 [(.string p0), (.string p1)] G H (L) (fun v G' _ => v = .int .i64 r) := by
 unfold g_R_NatCmp at h
 refine CR.of (calls_of_AW (n := 25) (fn := Tryd.f21) (R := fun v H' => ∃ G', Ow G' H' (L) ∧ G.le G' ∧ v = .int .i64 r) (by kernel_rfl) rfl rfl ?_)
 refine .seq (.region (W.q1 (.int .i64 0) rfl (.nil (.seq (.block (.seq ?_))))))
 refine .region (W.q2 (.string p0) rfl (W.pure (v := (.int .i64 (p0.size : Int))) rfl rfl (len_str (oo rfl rfl) un9) (W.q2 (.string p1) rfl (W.pure (v := (.int .i64 (p1.size : Int))) rfl rfl (len_str (oo rfl rfl) un9) (W.q3 (.bool (decide ((p0.size : Int) < (p1.size : Int)))) rfl rfl (W.q1 (.bool (decide ((p0.size : Int) < (p1.size : Int)))) rfl ?_))))))
 refine .nil (.cond (b := decide ((p0.size : Int) < (p1.size : Int))) rfl rfl (fun g1 => ?_) (fun g1 => ?_))
 ·have h2 := pos_inv g1 h
  refine .seq (.region (W.q1 (.int .i64 (-1)) rfl (.nil (.ret ?_))))
  obtain rfl := Option.some.inj h2
  refine ret1R (P := Tryd.prog) (fn := Tryd.f21) (n := 25) (R := fun v H' => ∃ G', Ow G' H' (L) ∧ G.le G' ∧ v = .int .i64 (-1)) (v1 := (.int .i64 (-1))) (by rfl) (rr_tmp (by rfl) (by exact rfl)) ?_
  exact ⟨_, O, (GM.le.refl _), rfl⟩
 have h3 := neg_b g1 h
 refine .seq (.region (W.q2 (.string p0) rfl (W.pure (v := (.int .i64 (p0.size : Int))) rfl rfl (len_str (oo rfl rfl) un9) (W.q2 (.string p1) rfl (W.pure (v := (.int .i64 (p1.size : Int))) rfl rfl (len_str (oo rfl rfl) un9) (W.q3 (.bool (decide ((p0.size : Int) > (p1.size : Int)))) rfl rfl ?_))))))
 refine W.q1 (.bool (decide ((p0.size : Int) > (p1.size : Int)))) rfl (.nil (.cond (b := decide ((p0.size : Int) > (p1.size : Int))) rfl rfl (fun g4 => ?_) (fun g4 => ?_)))
 ·have h5 := pos_inv g4 h3
  refine .seq (.region (W.q1 (.int .i64 1) rfl (.nil (.ret ?_))))
  obtain rfl := Option.some.inj h5
  refine ret1R (P := Tryd.prog) (fn := Tryd.f21) (n := 25) (R := fun v H' => ∃ G', Ow G' H' (L) ∧ G.le G' ∧ v = .int .i64 1) (v1 := (.int .i64 1)) (by rfl) (rr_tmp (by rfl) (by exact rfl)) ?_
  exact ⟨_, O, (GM.le.refl _), rfl⟩
 have h6 := neg_b g4 h3
 refine .seq (.region (W.q2 (.string p0) rfl (W.q2 (.string p1) rfl (W.pure (v := (.bool (sLt p0 p1))) rfl rfl (vs_lss (oo rfl rfl) (oo rfl rfl)) (W.q1 (.bool (sLt p0 p1)) rfl (.nil ?_))))))
 refine .cond (b := sLt p0 p1) rfl rfl (fun g7 => ?_) (fun g7 => ?_)
 ·have h8 := pos_inv g7 h6
  refine .seq (.region (W.q1 (.int .i64 (-1)) rfl (.nil (.ret ?_))))
  obtain rfl := Option.some.inj h8
  refine ret1R (P := Tryd.prog) (fn := Tryd.f21) (n := 25) (R := fun v H' => ∃ G', Ow G' H' (L) ∧ G.le G' ∧ v = .int .i64 (-1)) (v1 := (.int .i64 (-1))) (by rfl) (rr_tmp (by rfl) (by exact rfl)) ?_
  exact ⟨_, O, (GM.le.refl _), rfl⟩
 have h9 := neg_b g7 h6
 refine .seq (.region (W.q2 (.string p0) rfl (W.q2 (.string p1) rfl (W.pure (v := (.bool (!(sLt p0 p1 || sEq p0 p1)))) rfl rfl (vs_gtr (oo rfl rfl) (oo rfl rfl)) (W.q1 (.bool (!(sLt p0 p1 || sEq p0 p1))) rfl (.nil ?_))))))
 refine .cond (b := (!(sLt p0 p1 || sEq p0 p1))) rfl rfl (fun g10 => ?_) (fun g10 => ?_)
 ·have h11 := pos_inv g10 h9
  refine .seq (.region (W.q1 (.int .i64 1) rfl (.nil (.ret ?_))))
  obtain rfl := Option.some.inj h11
  refine ret1R (P := Tryd.prog) (fn := Tryd.f21) (n := 25) (R := fun v H' => ∃ G', Ow G' H' (L) ∧ G.le G' ∧ v = .int .i64 1) (v1 := (.int .i64 1)) (by rfl) (rr_tmp (by rfl) (by exact rfl)) ?_
  exact ⟨_, O, (GM.le.refl _), rfl⟩
 have h12 := neg_b g10 h9
 refine .skip (.seq (.region (W.q1 (.int .i64 0) rfl (.nil (.ret ?_)))))
 obtain rfl := Option.some.inj h12
 refine ret1R (P := Tryd.prog) (fn := Tryd.f21) (n := 25) (R := fun v H' => ∃ G', Ow G' H' (L) ∧ G.le G' ∧ v = .int .i64 0) (v1 := (.int .i64 0)) (by rfl) (rr_tmp (by rfl) (by exact rfl)) ?_
 exact ⟨_, O, (GM.le.refl _), rfl⟩
def g_R_NatSub_l0 (K : Nat) (p0 : ByteArray) (p1 : ByteArray) : Nat → List Int → Int → Int → Option (List Int)
  | 0, _, _, _ => none
  | k + 1, x6, x7, x8 => (if (decide (x8 < (p0.size : Int))) = true then ((g_R_digit K p0 x8).bind fun x20 => ((g_R_digit K p1 x8).bind fun x31 => (Option.bind ((if (decide ((kwrap .i64 ((kwrap .i64 (x20 - x31)) - x7)) < 0)) = true then (lt (kwrap .i64 ((kwrap .i64 ((kwrap .i64 (x20 - x31)) - x7)) + 10)) fun x47 => some (1, x47)) else some (0, kwrap .i64 ((kwrap .i64 (x20 - x31)) - x7)))) (tu2 fun x51 x52 => (if List.length x6 + List.length [x52] ≤ 16777216 then g_R_NatSub_l0 K p0 p1 k (x6 ++ [x52]) x51 (kwrap .i64 (x8 + 1)) else none))))) else some x6)
def g_R_NatSub (K : Nat) (p0 : ByteArray) (p1 : ByteArray) : Option ByteArray := (Option.bind (g_R_NatSub_l0 K p0 p1 K [] 0 0) (tu1 fun x78 => ((g_R_text K x78).bind fun x87 => some x87)))
set_option maxHeartbeats 4000000 in
theorem g_R_NatSub_ok (K : Nat) {G : GM} {H : AH} {L : List Pc} (p0 : ByteArray) (p1 : ByteArray) (O : Ow G H (L)) (r : ByteArray) (h : g_R_NatSub K p0 p1 = some r) :
    CR Tryd.prog 22 [(.string p0), (.string p1)] G H (L) (fun v G' _ => v = .string r) := by
 unfold g_R_NatSub at h
 refine CR.of (calls_of_AW (n := 34) (fn := Tryd.f22) (R := fun v H' => ∃ G', Ow G' H' (L) ∧ G.le G' ∧ v = .string r) (by kernel_rfl) rfl rfl ?_)
 refine .seq (.region (W.q1 (.string (⟨#[]⟩ : ByteArray)) rfl (.nil (.seq (.region (W.q1 (.slice none 0 0) rfl ?_))))))
 refine .nil (.seq (.region (W.q1 (.int .i64 0) rfl (.nil (.seq (.seq ?_))))))
 refine .region (W.q2 (.string p0) rfl (W.pure (v := (.int .i64 (p0.size : Int))) rfl rfl (len_str (oo rfl rfl) un9) (W.q2 (.int .i64 0) rfl (.nil ?_))))
 obtain ⟨q1, h2, h3⟩ := bd_inv h
 refine AW.midT (fun σ' H' => ∃ (y1 : List Int) (G' : GM), y1 = q1 ∧ Ow G' H' (eSl (σ' 5) 3 (rI .i64) y1 :: L) ∧ GM.le G G') ?_ ?_
 rotate_left
 ·rintro σ79 H80 fr81 ⟨x78, G82, rfl, O83, s84⟩
  have h86 := tu1_inv h3
  refine .seq (.region (W.q2 (σ79 5) rfl ?_))
  obtain ⟨x87, i88, h89⟩ := bd_inv h86
  refine W.lo rfl rfl (Lo.callB (j := 0) rfl rfl (fn := Tryd.f62) (by kernel_rfl) rfl (mc rfl mn) O83 (fun G' L' hG O' hB => g_R_text_ok K (σ79 5) x78 hB O' _ i88)) ?_
  rintro v96 H97 ⟨G90, O91, s92, sm95, rfl⟩
  replace O91 : Ow G90 H97 (eSl (σ79 5) 3 (rI .i64) x78 :: L) := O91
  refine W.q1 (.string x87) rfl (.nil (.ret ?_))
  have O98 : Ow G90 H97 (L) := O91.drop 0
  obtain rfl := Option.some.inj h89
  refine ret1R (P := Tryd.prog) (fn := Tryd.f22) (n := 34) (R := fun v H' => ∃ G', Ow G' H' (L) ∧ G.le G' ∧ v = .string x87) (v1 := (.string x87)) (by rfl) (rr_tmp (by rfl) (by exact rfl)) ?_
  exact ⟨_, O98, (GM.le.trans s84 s92), rfl⟩
 refine .block ?_
 have O4 := O.nilSl 3 (rI .i64)
 refine AW.loop (α := Nat) (fun k' σ' H' => ∃ (y1 : List Int) (y2 : Int) (y3 : Int) (G' : GM), g_R_NatSub_l0 K p0 p1 k' y1 y2 y3 = some q1 ∧ Ow G' H' (eSl (σ' 5) 3 (rI .i64) y1 :: L) ∧ GM.le G G' ∧ σ' 6 = .int .i64 y2 ∧ σ' 11 = .int .i64 y3) (fun k' => k') K ⟨[], 0, 0, _, h2, O4, (GM.le.refl _), rfl, rfl⟩ ?_
 rintro k5
 rintro σ9 H10 fr11 ⟨x6, x7, x8, G12, h15, O13, s14, t16, t17⟩
 rcases k5 with _ | k5
 ·exact none_absurd h15
 rw [g_R_NatSub_l0] at h15
 refine .seq (.region (W.q3 (.bool (decide (x8 < (p0.size : Int)))) t17 ((fr11 10 rfl).trans rfl) (.nil (.seq (.cond (b := decide (x8 < (p0.size : Int))) rfl rfl (fun g18 => ?_) (fun g18 => ?_))))))
 rotate_left
 ·have h77 := neg_b g18 h15
  refine .exit ?_
  obtain rfl := Option.some.inj h77
  exact ⟨x6, _, rfl, O13, s14⟩
 have h19 := pos_inv g18 h15
 refine .skip (.seq (.block (.seq (.region (W.q2 (.int .i64 x8) t17 (W.q1 (.int .i64 x8) rfl ?_))))))
 refine .nil (.seq (.region (W.q2 (.string p0) ((fr11 0 rfl).trans rfl) (W.q2 (.int .i64 x8) rfl ?_))))
 obtain ⟨x20, i21, h22⟩ := bd_inv h19
 refine W.lo rfl rfl (Lo.callP (ps := []) (ps' := []) rfl (fn := Tryd.f61) (by kernel_rfl) rfl (mc rfl (mc rfl mn)) O13 (fun L' O' => g_R_digit_ok K p0 x8 O' _ i21)) ?_
 rintro v29 H30 ⟨G23, O24, s25, sm28, rfl⟩
 replace O24 : Ow G23 H30 (eSl (σ9 5) 3 (rI .i64) x6 :: L) := O24
 refine W.q2 (.string p1) ((fr11 1 rfl).trans rfl) (W.q2 (.int .i64 x8) rfl ?_)
 obtain ⟨x31, i32, h33⟩ := bd_inv h22
 refine W.lo rfl rfl (Lo.callP (ps := []) (ps' := []) rfl (fn := Tryd.f61) (by kernel_rfl) rfl (mc rfl (mc rfl mn)) O24 (fun L' O' => g_R_digit_ok K p1 x8 O' _ i32)) ?_
 rintro v40 H41 ⟨G34, O35, s36, sm39, rfl⟩
 replace O35 : Ow G34 H41 (eSl (σ9 5) 3 (rI .i64) x6 :: L) := O35
 refine W.q3 (.int .i64 (kwrap .i64 (x20 - x31))) rfl rfl (W.q2 (.int .i64 x7) t16 (W.q3 (.int .i64 (kwrap .i64 ((kwrap .i64 (x20 - x31)) - x7))) rfl rfl (W.q1 (.int .i64 (kwrap .i64 ((kwrap .i64 (x20 - x31)) - x7))) rfl (.nil (.seq (.region ?_))))))
 refine W.q1 (.int .i64 0) rfl (.nil (.seq (.seq (.region (W.q2 (.int .i64 (kwrap .i64 ((kwrap .i64 (x20 - x31)) - x7))) rfl (W.q3 (.bool (decide ((kwrap .i64 ((kwrap .i64 (x20 - x31)) - x7)) < 0))) rfl rfl ?_))))))
 refine .nil ?_
 obtain ⟨q42, h43, h44⟩ := bd_inv h33
 refine AW.midT (fun σ' H' => ∃ (y1 : Int) (y2 : Int) (G' : GM), (y1, y2) = q42 ∧ Ow G' H' (eSl (σ9 5) 3 (rI .i64) x6 :: L) ∧ GM.le G34 G' ∧ σ' 6 = .int .i64 y1 ∧ σ' 8 = .int .i64 y2) ?_ ?_
 ·refine .cond (b := decide ((kwrap .i64 ((kwrap .i64 (x20 - x31)) - x7)) < 0)) rfl rfl (fun g45 => ?_) (fun g45 => ?_)
  rotate_left
  ·have h50 := neg_b g45 h43
   refine .skip ?_
   obtain rfl := Option.some.inj h50
   exact ⟨0, kwrap .i64 ((kwrap .i64 (x20 - x31)) - x7), _, rfl, O35, (GM.le.refl _), rfl, rfl⟩
  have h46 := pos_inv g45 h43
  refine .region (W.q2 (.int .i64 (kwrap .i64 ((kwrap .i64 (x20 - x31)) - x7))) rfl (W.q3 (.int .i64 (kwrap .i64 ((kwrap .i64 ((kwrap .i64 (x20 - x31)) - x7)) + 10))) rfl rfl ?_))
  obtain ⟨x47, e48, h49⟩ := lt_inv h46
  refine W.q1 (.int .i64 x47) (congrArg (Value.int .i64) e48) (W.q1 (.int .i64 1) rfl (.nil ?_))
  obtain rfl := Option.some.inj h49
  exact ⟨1, x47, _, rfl, O35, (GM.le.refl _), rfl, rfl⟩
 rintro σ53 H54 fr55 ⟨x51, x52, G56, rfl, O57, s58, t60, t61⟩
 have h62 := tu2_inv h44
 refine .region (W.q2 (σ9 5) ((fr55 5 rfl).trans rfl) (W.q2 (.int .i64 x52) t61 (W.lo rfl rfl (Lo.buildSlice (r := (rI .i64)) (vs := [(.int .i64 x52)]) (xs := [x52]) el71 ze3 sz3 (by kernel_rfl) rfl (qc rfl qn) rfl (.cons rfl .nil) O57) ?_)))
 rintro v65 H66 ⟨O63, sm64⟩
 obtain ⟨es68, e69, e70⟩ := src_own (j := 0) rfl O63
 obtain ⟨g71, h72⟩ := gd_inv h62
 refine W.lo rfl rfl (Lo.append (j := 1) (v := (σ9 5)) rfl rfl el71 ni71 ze3 sz3 by3 (by decide) (by decide) rfl e69 e70 g71 O63) ?_
 rintro v74 H75 ⟨O67, sm73⟩
 replace O67 : Ow G56 H75 (eSl v65 3 (rI .i64) [x52] :: eSl v74 3 (rI .i64) (x6 ++ [x52]) :: L) := O67
 refine W.q1 v74 rfl (.nil (.region (W.q3 (.int .i64 (kwrap .i64 (x8 + 1))) ((fr55 11 rfl).trans t17) rfl (W.q2 (.int .i64 (kwrap .i64 (x8 + 1))) rfl (.nil ?_)))))
 have O76 : Ow G56 H75 (eSl v74 3 (rI .i64) (x6 ++ [x52]) :: L) := O67.drop 0
 exact ⟨k5, Nat.lt_succ_self _, ⟨(x6 ++ [x52]), x51, kwrap .i64 (x8 + 1), _, h72, O76, (GM.le.trans s14 (GM.le.trans s25 (GM.le.trans s36 s58))), t60, rfl⟩⟩
def g_R_NatMul_l2 (K : Nat) (p1 : ByteArray) (x15 : Int) (x26 : Int) : Nat → List Int → Int → Option (List Int)
  | 0, _, _ => none
  | k + 1, x41, x42 => (if (decide (x42 < (p1.size : Int))) = true then ((idx x41 (kwrap .i64 (x15 + x42))).bind fun x58 => ((g_R_digit K p1 x42).bind fun x62 => ((idx x41 (kwrap .i64 (x15 + x42))).bind fun x73 => g_R_NatMul_l2 K p1 x15 x26 k (List.set x41 (Int.toNat (kwrap .i64 (x15 + x42))) (kwrap .i64 (x58 + (kwrap .i64 (x26 * x62))))) (kwrap .i64 (x42 + 1))))) else some x41)
def g_R_NatMul_l4 (K : Nat) (x91 : List Int) : Nat → List Int → Int → Option (List Int)
  | 0, _, _ => none
  | k + 1, x102, x103 => (if (decide (x103 < (List.length x91 : Int))) = true then (Option.bind (((idx x102 x103).bind fun x117 => (if (decide (x117 > 9)) = true then ((idx x102 (kwrap .i64 (x103 + 1))).bind fun x128 => ((idx x102 x103).bind fun x132 => ((idx x102 (kwrap .i64 (x103 + 1))).bind fun x136 => ((idx (List.set x102 (Int.toNat (kwrap .i64 (x103 + 1))) (kwrap .i64 (x128 + (kwrap .i64 (Int.tdiv x132 10))))) x103).bind fun x144 => ((idx (List.set x102 (Int.toNat (kwrap .i64 (x103 + 1))) (kwrap .i64 (x128 + (kwrap .i64 (Int.tdiv x132 10))))) x103).bind fun x148 => some (List.set (List.set x102 (Int.toNat (kwrap .i64 (x103 + 1))) (kwrap .i64 (x128 + (kwrap .i64 (Int.tdiv x132 10))))) (Int.toNat x103) (Int.tmod x144 10))))))) else some x102))) (tu1 fun x157 => g_R_NatMul_l4 K x91 k x157 (kwrap .i64 (x103 + 1)))) else some x102)
def g_R_NatMul_l0 (K : Nat) (p0 : ByteArray) (p1 : ByteArray) : Nat → List Int → Int → Option (List Int)
  | 0, _, _ => none
  | k + 1, x14, x15 => (if (decide (x15 < (p0.size : Int))) = true then ((g_R_digit K p0 x15).bind fun x26 => (Option.bind (g_R_NatMul_l2 K p1 x15 x26 K x14 0) (tu1 fun x82 => ((lsl x82 0 (kwrap .i64 ((List.length x82 : Int) - 1))).bind fun x91 => (Option.bind (g_R_NatMul_l4 K x91 K x82 0) (tu1 fun x167 => g_R_NatMul_l0 K p0 p1 k x167 (kwrap .i64 (x15 + 1)))))))) else some x14)
def g_R_NatMul (K : Nat) (p0 : ByteArray) (p1 : ByteArray) : Option ByteArray := (lt (kwrap .i64 ((kwrap .i64 ((p0.size : Int) + (p1.size : Int))) + 1)) fun x1 => (if 0 ≤ x1 ∧ x1 ≤ x1 ∧ x1 ≤ 16777216 then (Option.bind (g_R_NatMul_l0 K p0 p1 K (List.replicate (Int.toNat x1) 0) 0) (tu1 fun x177 => ((g_R_text K x177).bind fun x186 => some x186))) else none))
set_option maxHeartbeats 4000000 in
theorem g_R_NatMul_ok (K : Nat) {G : GM} {H : AH} {L : List Pc} (p0 : ByteArray) (p1 : ByteArray) (O : Ow G H (L)) (r : ByteArray) (h : g_R_NatMul K p0 p1 = some r) :
    CR Tryd.prog 25 [(.string p0), (.string p1)] G H (L) (fun v G' _ => v = .string r) := by
 unfold g_R_NatMul at h
 refine CR.of (calls_of_AW (n := 80) (fn := Tryd.f25) (R := fun v H' => ∃ G', Ow G' H' (L) ∧ G.le G' ∧ v = .string r) (by kernel_rfl) rfl rfl ?_)
 refine .seq (.region (W.q1 (.string (⟨#[]⟩ : ByteArray)) rfl (.nil (.seq (.region (W.q2 (.string p0) rfl ?_))))))
 refine W.pure (v := (.int .i64 (p0.size : Int))) rfl rfl (len_str (oo rfl rfl) un9) (W.q2 (.string p1) rfl (W.pure (v := (.int .i64 (p1.size : Int))) rfl rfl (len_str (oo rfl rfl) un9) (W.q3 (.int .i64 (kwrap .i64 ((p0.size : Int) + (p1.size : Int)))) rfl rfl (W.q3 (.int .i64 (kwrap .i64 ((kwrap .i64 ((p0.size : Int) + (p1.size : Int))) + 1))) rfl rfl ?_))))
 obtain ⟨x1, e2, h3⟩ := lt_inv h
 obtain ⟨g5, h6⟩ := gd_inv h3
 refine W.lo rfl rfl (Lo.makeSlice (r := (rI .i64)) (x0 := 0) (a := x1) (c := x1) rfl el71 ze3 sz3 (by kernel_rfl) rfl by3 (by decide) (congrArg (Value.int .i64) e2) (congrArg (Value.int .i64) e2) g5 (zI .i64) O) ?_
 rintro v8 H9 ⟨O4, sm7⟩
 refine W.q1 v8 rfl (.nil (.seq (.seq (.region (W.q2 (.string p0) rfl (W.pure (v := (.int .i64 (p0.size : Int))) rfl rfl (len_str (oo rfl rfl) un9) ?_))))))
 refine W.q2 (.int .i64 0) rfl (.nil ?_)
 obtain ⟨q10, h11, h12⟩ := bd_inv h6
 refine AW.midT (fun σ' H' => ∃ (y1 : List Int) (G' : GM), y1 = q10 ∧ Ow G' H' (eSl v8 3 (rI .i64) y1 :: L) ∧ GM.le G G') ?_ ?_
 rotate_left
 ·rintro σ178 H179 fr180 ⟨x177, G181, rfl, O182, s183⟩
  have h185 := tu1_inv h12
  refine .seq (.region (W.q2 v8 ((fr180 5 rfl).trans rfl) ?_))
  obtain ⟨x186, i187, h188⟩ := bd_inv h185
  refine W.lo rfl rfl (Lo.callB (j := 0) rfl rfl (fn := Tryd.f62) (by kernel_rfl) rfl (mc rfl mn) O182 (fun G' L' hG O' hB => g_R_text_ok K v8 x177 hB O' _ i187)) ?_
  rintro v195 H196 ⟨G189, O190, s191, sm194, rfl⟩
  replace O190 : Ow G189 H196 (eSl v8 3 (rI .i64) x177 :: L) := O190
  refine W.q1 (.string x186) rfl (.nil (.ret ?_))
  have O197 : Ow G189 H196 (L) := O190.drop 0
  obtain rfl := Option.some.inj h188
  refine ret1R (P := Tryd.prog) (fn := Tryd.f25) (n := 80) (R := fun v H' => ∃ G', Ow G' H' (L) ∧ G.le G' ∧ v = .string x186) (v1 := (.string x186)) (by rfl) (rr_tmp (by rfl) (by exact rfl)) ?_
  exact ⟨_, O197, (GM.le.trans s183 s191), rfl⟩
 refine .block (AW.loop (α := Nat) (fun k' σ' H' => ∃ (y1 : List Int) (y2 : Int) (G' : GM), g_R_NatMul_l0 K p0 p1 k' y1 y2 = some q10 ∧ Ow G' H' (eSl v8 3 (rI .i64) y1 :: L) ∧ GM.le G G' ∧ σ' 19 = .int .i64 y2) (fun k' => k') K ⟨(List.replicate (Int.toNat x1) 0), 0, _, h11, O4, (GM.le.refl _), rfl⟩ ?_)
 rintro k13
 rintro σ16 H17 fr18 ⟨x14, x15, G19, h22, O20, s21, t23⟩
 rcases k13 with _ | k13
 ·exact none_absurd h22
 rw [g_R_NatMul_l0] at h22
 refine .seq (.region (W.q3 (.bool (decide (x15 < (p0.size : Int)))) t23 ((fr18 18 rfl).trans rfl) (.nil (.seq (.cond (b := decide (x15 < (p0.size : Int))) rfl rfl (fun g24 => ?_) (fun g24 => ?_))))))
 rotate_left
 ·have h176 := neg_b g24 h22
  refine .exit ?_
  obtain rfl := Option.some.inj h176
  exact ⟨x14, _, rfl, O20, s21⟩
 have h25 := pos_inv g24 h22
 refine .skip (.seq (.block (.seq (.region (W.q2 (.int .i64 x15) t23 (W.q1 (.int .i64 x15) rfl ?_))))))
 refine .nil (.seq (.region (W.q2 (.string p0) ((fr18 0 rfl).trans rfl) (W.q2 (.int .i64 x15) rfl ?_))))
 obtain ⟨x26, i27, h28⟩ := bd_inv h25
 refine W.lo rfl rfl (Lo.callP (ps := []) (ps' := []) rfl (fn := Tryd.f61) (by kernel_rfl) rfl (mc rfl (mc rfl mn)) O20 (fun L' O' => g_R_digit_ok K p0 x15 O' _ i27)) ?_
 rintro v35 H36 ⟨G29, O30, s31, sm34, rfl⟩
 replace O30 : Ow G29 H36 (eSl v8 3 (rI .i64) x14 :: L) := O30
 refine W.q1 (.int .i64 x26) rfl (.nil (.seq (.seq (.region (W.q2 (.string p1) ((fr18 1 rfl).trans rfl) (W.pure (v := (.int .i64 (p1.size : Int))) rfl rfl (len_str (oo rfl rfl) un9) ?_))))))
 refine W.q2 (.int .i64 0) rfl (.nil ?_)
 obtain ⟨q37, h38, h39⟩ := bd_inv h28
 refine AW.midT (fun σ' H' => ∃ (y1 : List Int) (G' : GM), y1 = q37 ∧ Ow G' H' (eSl v8 3 (rI .i64) y1 :: L) ∧ GM.le G29 G') ?_ ?_
 ·refine .block (AW.loop (α := Nat) (fun k' σ' H' => ∃ (y1 : List Int) (y2 : Int) (G' : GM), g_R_NatMul_l2 K p1 x15 x26 k' y1 y2 = some q37 ∧ Ow G' H' (eSl v8 3 (rI .i64) y1 :: L) ∧ GM.le G29 G' ∧ σ' 27 = .int .i64 y2) (fun k' => k') K ⟨x14, 0, _, h38, O30, (GM.le.refl _), rfl⟩ ?_)
  rintro k40
  rintro σ43 H44 fr45 ⟨x41, x42, G46, h49, O47, s48, t50⟩
  rcases k40 with _ | k40
  ·exact none_absurd h49
  rw [g_R_NatMul_l2] at h49
  refine .seq (.region (W.q3 (.bool (decide (x42 < (p1.size : Int)))) t50 ((fr45 26 rfl).trans rfl) (.nil (.seq (.cond (b := decide (x42 < (p1.size : Int))) rfl rfl (fun g51 => ?_) (fun g51 => ?_))))))
  rotate_left
  ·have h81 := neg_b g51 h49
   refine .exit ?_
   obtain rfl := Option.some.inj h81
   exact ⟨x41, _, rfl, O47, s48⟩
  have h52 := pos_inv g51 h49
  refine .skip (.seq (.block (.seq (.region (W.q2 (.int .i64 x42) t50 (W.q1 (.int .i64 x42) rfl ?_))))))
  refine .nil (.draw2 (M := [0, 0, 0, 6, 15, 31, 0, 0, 0, 384, 960, 2047, 4095, 8191]) mixed (by kernel_rfl) (by kernel_rfl) fun H53 N57 x54 F56 => ?_)
  have O55 := O47.ext x54
  refine D2.q2 v8 ((fr45 5 rfl).trans ((fr18 5 rfl).trans rfl)) (D2.q2 (.int .i64 x15) ((fr45 6 rfl).trans rfl) (D2.q2 (.int .i64 x42) rfl (D2.q3 (.int .i64 (kwrap .i64 (x15 + x42))) rfl rfl ?_)))
  obtain ⟨x58, i59, h60⟩ := bd_inv h52
  have j61 := idx_inv i59
  refine D2.pure (v := (selem v8 (Int.toNat (kwrap .i64 (x15 + x42)) * 1))) rfl rfl (v_idx el71 sz3 (oo rfl rfl) (oo rfl rfl) (O55.slLen (j := 0) rfl) j61.1 j61.2.1) (D2.load1' (v := (.int .i64 x58)) (r := []) rfl rfl ag3 (pt_px rfl (At.int (O55.atSl (j := 0) rfl j61.2.2))) fa_nil (D2.q2 (.int .i64 x26) ((fr45 7 rfl).trans rfl) (D2.q2 (.string p1) ((fr45 1 rfl).trans ((fr18 1 rfl).trans rfl)) (D2.q2 (.int .i64 x42) rfl ?_))))
  obtain ⟨x62, i63, h64⟩ := bd_inv h60
  refine D2.lo rfl rfl (Lo.callP (ps := []) (ps' := []) rfl (fn := Tryd.f61) (by kernel_rfl) rfl (mc rfl (mc rfl mn)) O55 (fun L' O' => g_R_digit_ok K p1 x42 O' _ i63)) ?_ fa_nil ?_ ?_
  ·rintro v71 H72 ⟨G65, O66, s67, sm70, rfl⟩; exact (faR1 (.inr (sm70 _ (Or.inr ⟨0, _, rfl, (O55.footSl (j := 0) rfl j61.2.2)⟩))) fa_nil)
  ·rintro v71 H72 ⟨G65, O66, s67, sm70, rfl⟩; exact fa_nil
  rintro v71 H72 ⟨G65, O66, s67, sm70, rfl⟩
  replace O66 : Ow G65 H72 (eSl v8 3 (rI .i64) x41 :: L) := O66
  refine D2.q3 (.int .i64 (kwrap .i64 (x26 * x62))) rfl rfl (D2.q3 (.int .i64 (kwrap .i64 (x58 + (kwrap .i64 (x26 * x62))))) rfl rfl ?_)
  obtain ⟨x73, i74, h75⟩ := bd_inv h64
  have j76 := idx_inv i74
  refine D2.pure (v := (selem v8 (Int.toNat (kwrap .i64 (x15 + x42)) * 1))) rfl rfl (v_idx el71 sz3 (oo rfl rfl) (oo rfl rfl) (O66.slLen (j := 0) rfl) j76.1 j76.2.1) (D2.lo rfl rfl (Lo.storeSl0 (j := 0) (y0 := kwrap .i64 (x58 + (kwrap .i64 (x26 * x62)))) (v := (.int .i64 (kwrap .i64 (x58 + (kwrap .i64 (x26 * x62)))))) rfl j76.2.2  rfl sz3 rfl rfl rfl O66) ?_ (faL_bit (by decide) fa_nil) ?_ ?_)
  ·rintro v79 H80 ⟨O77, sm78⟩; exact (faR1 (.inl (by decide)) fa_nil)
  ·rintro v79 H80 ⟨O77, sm78⟩; exact fa_nil
  rintro v79 H80 ⟨O77, sm78⟩
  replace O77 : Ow G65 H80 (eSl v8 3 (rI .i64) (List.set x41 (Int.toNat (kwrap .i64 (x15 + x42))) (kwrap .i64 (x58 + (kwrap .i64 (x26 * x62))))) :: L) := O77
  refine .nil (.region (W.q3 (.int .i64 (kwrap .i64 (x42 + 1))) t50 rfl (W.q2 (.int .i64 (kwrap .i64 (x42 + 1))) rfl (.nil ?_))))
  exact ⟨k40, Nat.lt_succ_self _, ⟨(List.set x41 (Int.toNat (kwrap .i64 (x15 + x42))) (kwrap .i64 (x58 + (kwrap .i64 (x26 * x62))))), kwrap .i64 (x42 + 1), _, h75, O77, (GM.le.trans s48 s67), rfl⟩⟩
 rintro σ83 H84 fr85 ⟨x82, G86, rfl, O87, s88⟩
 have h90 := tu1_inv h39
 refine .seq (.region (W.q2 v8 ((fr85 5 rfl).trans ((fr18 5 rfl).trans rfl)) (W.q2 v8 ((fr85 5 rfl).trans ((fr18 5 rfl).trans rfl)) (W.pure (v := (.int .i64 (List.length x82 : Int))) rfl rfl (len_sl (oo rfl rfl) (O87.slLen (j := 0) rfl) (elemT_inv el71)) (W.q3 (.int .i64 (kwrap .i64 ((List.length x82 : Int) - 1))) rfl rfl ?_)))))
 obtain ⟨x91, i92, h93⟩ := bd_inv h90
 obtain ⟨w94, e96, f97⟩ := O87.view (j := 0) rfl el71 sz3 i92
 refine W.pure (v := w94) rfl rfl (e96 (oo rfl rfl) (oo rfl rfl)) (W.pure (v := (.int .i64 (List.length x91 : Int))) rfl rfl (len_sl (oo rfl rfl) f97 (elemT_inv el71)) (W.q2 (.int .i64 0) rfl (.nil ?_)))
 obtain ⟨q98, h99, h100⟩ := bd_inv h93
 refine AW.midT (fun σ' H' => ∃ (y1 : List Int) (G' : GM), y1 = q98 ∧ Ow G' H' (eSl v8 3 (rI .i64) y1 :: L) ∧ GM.le G86 G') ?_ ?_
 rotate_left
 ·rintro σ168 H169 fr170 ⟨x167, G171, rfl, O172, s173⟩
  have h175 := tu1_inv h100
  refine .region (W.q3 (.int .i64 (kwrap .i64 (x15 + 1))) ((fr170 19 rfl).trans ((fr85 19 rfl).trans t23)) rfl (W.q2 (.int .i64 (kwrap .i64 (x15 + 1))) rfl (.nil ?_)))
  exact ⟨k13, Nat.lt_succ_self _, ⟨x167, kwrap .i64 (x15 + 1), _, h175, O172, (GM.le.trans s21 (GM.le.trans s31 (GM.le.trans s88 s173))), rfl⟩⟩
 refine .block (AW.loop (α := Nat) (fun k' σ' H' => ∃ (y1 : List Int) (y2 : Int) (G' : GM), g_R_NatMul_l4 K x91 k' y1 y2 = some q98 ∧ Ow G' H' (eSl v8 3 (rI .i64) y1 :: L) ∧ GM.le G86 G' ∧ σ' 50 = .int .i64 y2) (fun k' => k') K ⟨x82, 0, _, h99, O87, (GM.le.refl _), rfl⟩ ?_)
 rintro k101
 rintro σ104 H105 fr106 ⟨x102, x103, G107, h110, O108, s109, t111⟩
 rcases k101 with _ | k101
 ·exact none_absurd h110
 rw [g_R_NatMul_l4] at h110
 refine .seq (.region (W.q3 (.bool (decide (x103 < (List.length x91 : Int)))) t111 ((fr106 49 rfl).trans rfl) (.nil (.seq (.cond (b := decide (x103 < (List.length x91 : Int))) rfl rfl (fun g112 => ?_) (fun g112 => ?_))))))
 rotate_left
 ·have h166 := neg_b g112 h110
  refine .exit ?_
  obtain rfl := Option.some.inj h166
  exact ⟨x102, _, rfl, O108, s109⟩
 have h113 := pos_inv g112 h110
 refine .skip (.seq ?_)
 obtain ⟨q114, h115, h116⟩ := bd_inv h113
 refine AW.midT (fun σ' H' => ∃ (y1 : List Int) (G' : GM), y1 = q114 ∧ Ow G' H' (eSl v8 3 (rI .i64) y1 :: L) ∧ GM.le G107 G') ?_ ?_
 rotate_left
 ·rintro σ158 H159 fr160 ⟨x157, G161, rfl, O162, s163⟩
  have h165 := tu1_inv h116
  refine .region (W.q3 (.int .i64 (kwrap .i64 (x103 + 1))) ((fr160 50 rfl).trans t111) rfl (W.q2 (.int .i64 (kwrap .i64 (x103 + 1))) rfl (.nil ?_)))
  exact ⟨k101, Nat.lt_succ_self _, ⟨x157, kwrap .i64 (x103 + 1), _, h165, O162, (GM.le.trans s109 s163), rfl⟩⟩
 refine .block (.seq (.region (W.q2 (.int .i64 x103) t111 (W.q1 (.int .i64 x103) rfl (.nil (.seq ?_))))))
 refine .region (W.q2 v8 ((fr106 5 rfl).trans ((fr85 5 rfl).trans ((fr18 5 rfl).trans rfl))) (W.q2 (.int .i64 x103) rfl ?_))
 obtain ⟨x117, i118, h119⟩ := bd_inv h115
 have j120 := idx_inv i118
 refine W.pure (v := (selem v8 (Int.toNat x103 * 1))) rfl rfl (v_idx el71 sz3 (oo rfl rfl) (oo rfl rfl) (O108.slLen (j := 0) rfl) j120.1 j120.2.1) (W.load1 (v := (.int .i64 x117)) (r := []) rfl rfl ag3 (pt_px rfl (At.int (O108.atSl (j := 0) rfl j120.2.2))) (W.q3 (.bool (decide (x117 > 9))) rfl rfl (.nil (.cond (b := decide (x117 > 9)) rfl rfl (fun g121 => ?_) (fun g121 => ?_)))))
 rotate_left
 ·have h156 := neg_b g121 h119
  refine .skip ?_
  obtain rfl := Option.some.inj h156
  exact ⟨x102, _, rfl, O108, (GM.le.refl _)⟩
 have h122 := pos_inv g121 h119
 refine .seq (.draw2 (M := [0, 0, 2, 7, 15, 0, 0, 96, 224, 480, 1023, 2047, 4095]) mixed (by kernel_rfl) (by kernel_rfl) fun H123 N127 x124 F126 => ?_)
 have O125 := O108.ext x124
 refine D2.q2 v8 ((fr106 5 rfl).trans ((fr85 5 rfl).trans ((fr18 5 rfl).trans rfl))) (D2.q2 (.int .i64 x103) rfl (D2.q3 (.int .i64 (kwrap .i64 (x103 + 1))) rfl rfl ?_))
 obtain ⟨x128, i129, h130⟩ := bd_inv h122
 have j131 := idx_inv i129
 refine D2.pure (v := (selem v8 (Int.toNat (kwrap .i64 (x103 + 1)) * 1))) rfl rfl (v_idx el71 sz3 (oo rfl rfl) (oo rfl rfl) (O125.slLen (j := 0) rfl) j131.1 j131.2.1) (D2.load1' (v := (.int .i64 x128)) (r := []) rfl rfl ag3 (pt_px rfl (At.int (O125.atSl (j := 0) rfl j131.2.2))) fa_nil (D2.q2 v8 ((fr106 5 rfl).trans ((fr85 5 rfl).trans ((fr18 5 rfl).trans rfl))) (D2.q2 (.int .i64 x103) rfl ?_)))
 obtain ⟨x132, i133, h134⟩ := bd_inv h130
 have j135 := idx_inv i133
 refine D2.pure (v := (selem v8 (Int.toNat x103 * 1))) rfl rfl (v_idx el71 sz3 (oo rfl rfl) (oo rfl rfl) (O125.slLen (j := 0) rfl) j135.1 j135.2.1) (D2.load1' (v := (.int .i64 x132)) (r := []) rfl rfl ag3 (pt_px rfl (At.int (O125.atSl (j := 0) rfl j135.2.2))) fa_nil (D2.pure (v := (.int .i64 (kwrap .i64 (Int.tdiv x132 10)))) rfl rfl (v_quo (by decide) (oo rfl rfl) (oo rfl rfl)) (D2.q3 (.int .i64 (kwrap .i64 (x128 + (kwrap .i64 (Int.tdiv x132 10))))) rfl rfl ?_)))
 obtain ⟨x136, i137, h138⟩ := bd_inv h134
 have j139 := idx_inv i137
 refine D2.pure (v := (selem v8 (Int.toNat (kwrap .i64 (x103 + 1)) * 1))) rfl rfl (v_idx el71 sz3 (oo rfl rfl) (oo rfl rfl) (O125.slLen (j := 0) rfl) j139.1 j139.2.1) (D2.lo rfl rfl (Lo.storeSl0 (j := 0) (y0 := kwrap .i64 (x128 + (kwrap .i64 (Int.tdiv x132 10)))) (v := (.int .i64 (kwrap .i64 (x128 + (kwrap .i64 (Int.tdiv x132 10)))))) rfl j139.2.2  rfl sz3 rfl rfl rfl O125) ?_ fa_nil ?_ ?_)
 ·rintro v142 H143 ⟨O140, sm141⟩; exact (faR1 (.inl (by decide)) (faR1 (.inl (by decide)) fa_nil))
 ·rintro v142 H143 ⟨O140, sm141⟩; exact fa_nil
 rintro v142 H143 ⟨O140, sm141⟩
 replace O140 : Ow G107 H143 (eSl v8 3 (rI .i64) (List.set x102 (Int.toNat (kwrap .i64 (x103 + 1))) (kwrap .i64 (x128 + (kwrap .i64 (Int.tdiv x132 10))))) :: L) := O140
 refine .nil (.region (W.q2 v8 ((fr106 5 rfl).trans ((fr85 5 rfl).trans ((fr18 5 rfl).trans rfl))) (W.q2 (.int .i64 x103) rfl ?_)))
 obtain ⟨x144, i145, h146⟩ := bd_inv h138
 have j147 := idx_inv i145
 refine W.pure (v := (selem v8 (Int.toNat x103 * 1))) rfl rfl (v_idx el71 sz3 (oo rfl rfl) (oo rfl rfl) (O140.slLen (j := 0) rfl) j147.1 j147.2.1) (W.load1 (v := (.int .i64 x144)) (r := []) rfl rfl ag3 (pt_px rfl (At.int (O140.atSl (j := 0) rfl j147.2.2))) (W.pure (v := (.int .i64 (Int.tmod x144 10))) rfl rfl (v_rem (by decide) (oo rfl rfl) (oo rfl rfl)) ?_))
 obtain ⟨x148, i149, h150⟩ := bd_inv h146
 have j151 := idx_inv i149
 refine W.pure (v := (selem v8 (Int.toNat x103 * 1))) rfl rfl (v_idx el71 sz3 (oo rfl rfl) (oo rfl rfl) (O140.slLen (j := 0) rfl) j151.1 j151.2.1) (W.lo rfl rfl (Lo.storeSl0 (j := 0) (y0 := Int.tmod x144 10) (v := (.int .i64 (Int.tmod x144 10))) rfl j151.2.2  rfl sz3 rfl rfl rfl O140) ?_)
 rintro v154 H155 ⟨O152, sm153⟩
 replace O152 : Ow G107 H155 (eSl v8 3 (rI .i64) (List.set (List.set x102 (Int.toNat (kwrap .i64 (x103 + 1))) (kwrap .i64 (x128 + (kwrap .i64 (Int.tdiv x132 10))))) (Int.toNat x103) (Int.tmod x144 10)) :: L) := O152
 refine .nil ?_
 obtain rfl := Option.some.inj h150
 exact ⟨(List.set (List.set x102 (Int.toNat (kwrap .i64 (x103 + 1))) (kwrap .i64 (x128 + (kwrap .i64 (Int.tdiv x132 10))))) (Int.toNat x103) (Int.tmod x144 10)), _, rfl, O152, (GM.le.refl _)⟩
end Go.Am.Tryd
/- Typed functions with the same answers as the program's, and the walks that show it. -/
namespace Go.Am.Tryd
open Go Go.Am Go.Proofs
set_option linter.unusedVariables false
set_option linter.unusedSimpArgs false
set_option maxRecDepth 10000

def g_R_NatDiv_l2 (K : Nat) (p1 : ByteArray) : Nat → ByteArray → Int → Option (ByteArray × Int)
  | 0, _, _ => none
  | k + 1, x56, x57 => ((g_R_NatCmp K x56 p1).bind fun x67 => (if (decide (x67 ≥ 0)) = true then ((g_R_NatSub K x56 p1).bind fun x80 => g_R_NatDiv_l2 K p1 k x80 (kwrap .u8 (x57 + 1))) else some (x56, x57)))
def g_R_NatDiv_l0 (K : Nat) (p0 : ByteArray) (p1 : ByteArray) : Nat → ByteArray → ByteArray → Int → Option (ByteArray × ByteArray)
  | 0, _, _, _ => none
  | k + 1, x21, x22, x23 => (if (decide (x23 < (p0.size : Int))) = true then ((ssl p0 x23 (kwrap .i64 (x23 + 1))).bind fun x36 => (if (x22).size + (x36).size ≤ 4611686018427387904 then ((g_R_strip K (x22 ++ x36)).bind fun x41 => (Option.bind (g_R_NatDiv_l2 K p1 K x41 48) (tu2 fun x92 x93 => (if (x21).size + ((Utf8.encode x93)).size ≤ 4611686018427387904 then g_R_NatDiv_l0 K p0 p1 k (x21 ++ (Utf8.encode x93)) x92 (kwrap .i64 (x23 + 1)) else none)))) else none)) else some (x21, x22))
def g_R_NatDiv (K : Nat) (p0 : ByteArray) (p1 : ByteArray) : Option (ByteArray × ByteArray) := ((ssl p0 0 (imin (p0.size : Int) (kwrap .i64 ((p1.size : Int) - 1)))).bind fun x1 => (if ((⟨#[48]⟩ : ByteArray)).size + (x1).size ≤ 4611686018427387904 then ((g_R_strip K ((⟨#[48]⟩ : ByteArray) ++ x1)).bind fun x6 => (Option.bind (g_R_NatDiv_l0 K p0 p1 K (⟨#[48]⟩ : ByteArray) x6 (imin (p0.size : Int) (kwrap .i64 ((p1.size : Int) - 1)))) (tu2 fun x107 x108 => ((g_R_strip K x107).bind fun x119 => some (x119, x108))))) else none))
set_option maxHeartbeats 4000000 in
theorem g_R_NatDiv_ok (K : Nat) {G : GM} {H : AH} {L : List Pc} (p0 : ByteArray) (p1 : ByteArray) (O : Ow G H (L)) (r : ByteArray × ByteArray) (h : g_R_NatDiv K p0 p1 = some r) :
    CR Tryd.prog 29 [(.string p0), (.string p1)] G H (L) (fun v G' _ => v = .tuple #[.string r.1, .string r.2]) := by
 unfold g_R_NatDiv at h
 refine CR.of (calls_of_AW (n := 53) (fn := Tryd.f29) (R := fun v H' => ∃ G', Ow G' H' (L) ∧ G.le G' ∧ v = .tuple #[.string r.1, .string r.2]) (by kernel_rfl) rfl rfl ?_)
 refine .seq (.region (W.q1 (.string (⟨#[]⟩ : ByteArray)) rfl (W.q1 (.string (⟨#[]⟩ : ByteArray)) rfl (.nil (.seq (.region ?_))))))
 refine W.q2 (.string p0) rfl (W.pure (v := (.int .i64 (p0.size : Int))) rfl rfl (len_str (oo rfl rfl) un9) (W.q2 (.string p1) rfl (W.pure (v := (.int .i64 (p1.size : Int))) rfl rfl (len_str (oo rfl rfl) un9) (W.q3 (.int .i64 (kwrap .i64 ((p1.size : Int) - 1))) rfl rfl (W.pure (v := (.int .i64 (imin (p0.size : Int) (kwrap .i64 ((p1.size : Int) - 1))))) rfl rfl (v_min2 (oo rfl rfl) (oo rfl rfl)) (W.q1 (.int .i64 (imin (p0.size : Int) (kwrap .i64 ((p1.size : Int) - 1)))) rfl ?_))))))
 refine .nil (.seq (.region (W.q2 (.string p0) rfl (W.q2 (.int .i64 (imin (p0.size : Int) (kwrap .i64 ((p1.size : Int) - 1)))) rfl ?_))))
 obtain ⟨x1, i2, h3⟩ := bd_inv h
 refine W.pure (v := (.string x1)) rfl rfl (v_sslH un9 (oo rfl rfl) (oo rfl rfl) i2) ?_
 obtain ⟨g4, h5⟩ := gd_inv h3
 refine W.pure (v := (.string ((⟨#[48]⟩ : ByteArray) ++ x1))) rfl rfl (vs_add g4 (oo rfl rfl) (oo rfl rfl)) ?_
 obtain ⟨x6, i7, h8⟩ := bd_inv h5
 refine W.lo rfl rfl (Lo.callP (ps := []) (ps' := []) rfl (fn := Tryd.f69) (by kernel_rfl) rfl (mc rfl mn) O (fun L' O' => g_R_strip_ok K ((⟨#[48]⟩ : ByteArray) ++ x1) O' _ i7)) ?_
 rintro v15 H16 ⟨G9, O10, s11, sm14, rfl⟩
 replace O10 : Ow G9 H16 (L) := O10
 refine W.q1 (.string (⟨#[48]⟩ : ByteArray)) rfl (W.q1 (.string x6) rfl (.nil (.seq (.seq (.region (W.q2 (.int .i64 (imin (p0.size : Int) (kwrap .i64 ((p1.size : Int) - 1)))) rfl ?_))))))
 refine W.q1 (.int .i64 (imin (p0.size : Int) (kwrap .i64 ((p1.size : Int) - 1)))) rfl (.nil ?_)
 obtain ⟨q17, h18, h19⟩ := bd_inv h8
 refine AW.midT (fun σ' H' => ∃ (y1 : ByteArray) (y2 : ByteArray) (G' : GM), (y1, y2) = q17 ∧ Ow G' H' (L) ∧ GM.le G9 G' ∧ σ' 7 = .string y1 ∧ σ' 8 = .string y2) ?_ ?_
 rotate_left
 ·rintro σ109 H110 fr111 ⟨x107, x108, G112, rfl, O113, s114, t116, t117⟩
  have h118 := tu2_inv h19
  refine .seq (.region (W.q2 (.string x107) t116 ?_))
  obtain ⟨x119, i120, h121⟩ := bd_inv h118
  refine W.lo rfl rfl (Lo.callP (ps := []) (ps' := []) rfl (fn := Tryd.f69) (by kernel_rfl) rfl (mc rfl mn) O113 (fun L' O' => g_R_strip_ok K x107 O' _ i120)) ?_
  rintro v128 H129 ⟨G122, O123, s124, sm127, rfl⟩
  replace O123 : Ow G122 H129 (L) := O123
  refine W.q2 (.string x108) t117 (W.q1 (.string x119) rfl (W.q1 (.string x108) rfl (.nil (.ret ?_))))
  obtain rfl := Option.some.inj h121
  refine ret2R (P := Tryd.prog) (fn := Tryd.f29) (n := 53) (R := fun v H' => ∃ G', Ow G' H' (L) ∧ G.le G' ∧ v = .tuple #[.string (x119, x108).1, .string (x119, x108).2]) (v1 := (.string x119)) (v2 := (.string x108)) (by rfl) (rr_tmp (by rfl) (by exact rfl)) (rr_tmp (by rfl) (by exact rfl)) ?_
  exact ⟨_, O123, (GM.le.trans s11 (GM.le.trans s114 s124)), rfl⟩
 refine .block (AW.loop (α := Nat) (fun k' σ' H' => ∃ (y1 : ByteArray) (y2 : ByteArray) (y3 : Int) (G' : GM), g_R_NatDiv_l0 K p0 p1 k' y1 y2 y3 = some q17 ∧ Ow G' H' (L) ∧ GM.le G9 G' ∧ σ' 7 = .string y1 ∧ σ' 8 = .string y2 ∧ σ' 9 = .int .i64 y3) (fun k' => k') K ⟨(⟨#[48]⟩ : ByteArray), x6, imin (p0.size : Int) (kwrap .i64 ((p1.size : Int) - 1)), _, h18, O10, (GM.le.refl _), rfl, rfl, rfl⟩ ?_)
 rintro k20
 rintro σ24 H25 fr26 ⟨x21, x22, x23, G27, h30, O28, s29, t31, t32, t33⟩
 rcases k20 with _ | k20
 ·exact none_absurd h30
 rw [g_R_NatDiv_l0] at h30
 refine .seq (.seq (.region (W.q2 (.int .i64 x23) t33 (W.q2 (.string p0) ((fr26 0 rfl).trans rfl) (W.pure (v := (.int .i64 (p0.size : Int))) rfl rfl (len_str (oo rfl rfl) un9) (W.q3 (.bool (decide (x23 < (p0.size : Int)))) rfl rfl ?_))))))
 refine .nil (.cond (b := decide (x23 < (p0.size : Int))) rfl rfl (fun g34 => ?_) (fun g34 => ?_))
 rotate_left
 ·have h106 := neg_b g34 h30
  refine .exit ?_
  obtain rfl := Option.some.inj h106
  exact ⟨x21, x22, _, rfl, O28, s29, t31, t32⟩
 have h35 := pos_inv g34 h30
 refine .skip (.seq (.block (.seq (.region (W.q2 (.string x22) t32 (W.q2 (.string p0) ((fr26 0 rfl).trans rfl) ?_))))))
 refine W.q2 (.int .i64 x23) t33 (W.q2 (.int .i64 x23) t33 (W.q3 (.int .i64 (kwrap .i64 (x23 + 1))) rfl rfl ?_))
 obtain ⟨x36, i37, h38⟩ := bd_inv h35
 refine W.pure (v := (.string x36)) rfl rfl (v_sslLH un9 (oo rfl rfl) (oo rfl rfl) (oo rfl rfl) i37) ?_
 obtain ⟨g39, h40⟩ := gd_inv h38
 refine W.pure (v := (.string (x22 ++ x36))) rfl rfl (vs_add g39 (oo rfl rfl) (oo rfl rfl)) ?_
 obtain ⟨x41, i42, h43⟩ := bd_inv h40
 refine W.lo rfl rfl (Lo.callP (ps := []) (ps' := []) rfl (fn := Tryd.f69) (by kernel_rfl) rfl (mc rfl mn) O28 (fun L' O' => g_R_strip_ok K (x22 ++ x36) O' _ i42)) ?_
 rintro v50 H51 ⟨G44, O45, s46, sm49, rfl⟩
 replace O45 : Ow G44 H51 (L) := O45
 refine W.q1 (.string x41) rfl (.nil (.seq (.region (W.q1 (.int .u8 48) rfl (.nil (.seq ?_))))))
 obtain ⟨q52, h53, h54⟩ := bd_inv h43
 refine AW.midT (fun σ' H' => ∃ (y1 : ByteArray) (y2 : Int) (G' : GM), (y1, y2) = q52 ∧ Ow G' H' (L) ∧ GM.le G44 G' ∧ σ' 8 = .string y1 ∧ σ' 10 = .int .u8 y2) ?_ ?_
 rotate_left
 ·rintro σ94 H95 fr96 ⟨x92, x93, G97, rfl, O98, s99, t101, t102⟩
  have h103 := tu2_inv h54
  refine .region (W.q2 (.string x21) ((fr96 7 rfl).trans t31) (W.q2 (.int .u8 x93) t102 (W.pure (v := (.string (Utf8.encode x93))) rfl rfl (v_convIS in5 un9 (oo rfl rfl)) ?_)))
  obtain ⟨g104, h105⟩ := gd_inv h103
  refine W.pure (v := (.string (x21 ++ (Utf8.encode x93)))) rfl rfl (vs_add g104 (oo rfl rfl) (oo rfl rfl)) (W.q1 (.string (x21 ++ (Utf8.encode x93))) rfl (.nil (.region (W.q2 (.int .i64 x23) ((fr96 9 rfl).trans t33) (W.q3 (.int .i64 (kwrap .i64 (x23 + 1))) rfl rfl (W.q1 (.int .i64 (kwrap .i64 (x23 + 1))) rfl ?_))))))
  refine .nil ?_
  exact ⟨k20, Nat.lt_succ_self _, ⟨(x21 ++ (Utf8.encode x93)), x92, kwrap .i64 (x23 + 1), _, h105, O98, (GM.le.trans s29 (GM.le.trans s46 s99)), rfl, t101, rfl⟩⟩
 refine .block (AW.loop (α := Nat) (fun k' σ' H' => ∃ (y1 : ByteArray) (y2 : Int) (G' : GM), g_R_NatDiv_l2 K p1 k' y1 y2 = some q52 ∧ Ow G' H' (L) ∧ GM.le G44 G' ∧ σ' 8 = .string y1 ∧ σ' 10 = .int .u8 y2) (fun k' => k') K ⟨x41, 48, _, h53, O45, (GM.le.refl _), rfl, rfl⟩ ?_)
 rintro k55
 rintro σ58 H59 fr60 ⟨x56, x57, G61, h64, O62, s63, t65, t66⟩
 rcases k55 with _ | k55
 ·exact none_absurd h64
 rw [g_R_NatDiv_l2] at h64
 refine .seq (.seq (.region (W.q2 (.string x56) t65 (W.q2 (.string p1) ((fr60 1 rfl).trans ((fr26 1 rfl).trans rfl)) ?_))))
 obtain ⟨x67, i68, h69⟩ := bd_inv h64
 refine W.lo rfl rfl (Lo.callP (ps := []) (ps' := []) rfl (fn := Tryd.f21) (by kernel_rfl) rfl (mc rfl (mc rfl mn)) O62 (fun L' O' => g_R_NatCmp_ok K x56 p1 O' _ i68)) ?_
 rintro v76 H77 ⟨G70, O71, s72, sm75, rfl⟩
 replace O71 : Ow G70 H77 (L) := O71
 refine W.q3 (.bool (decide (x67 ≥ 0))) rfl rfl (.nil (.cond (b := decide (x67 ≥ 0)) rfl rfl (fun g78 => ?_) (fun g78 => ?_)))
 rotate_left
 ·have h91 := neg_b g78 h69
  refine .exit ?_
  obtain rfl := Option.some.inj h91
  exact ⟨x56, x57, _, rfl, O71, (GM.le.trans s63 s72), t65, t66⟩
 have h79 := pos_inv g78 h69
 refine .skip (.block (.seq (.region (W.q2 (.string x56) t65 (W.q2 (.string p1) ((fr60 1 rfl).trans ((fr26 1 rfl).trans rfl)) ?_)))))
 obtain ⟨x80, i81, h82⟩ := bd_inv h79
 refine W.lo rfl rfl (Lo.callP (ps := []) (ps' := []) rfl (fn := Tryd.f22) (by kernel_rfl) rfl (mc rfl (mc rfl mn)) O71 (fun L' O' => g_R_NatSub_ok K x56 p1 O' _ i81)) ?_
 rintro v89 H90 ⟨G83, O84, s85, sm88, rfl⟩
 replace O84 : Ow G83 H90 (L) := O84
 refine W.q1 (.string x80) rfl (.nil (.region (W.q2 (.int .u8 x57) t66 (W.q3 (.int .u8 (kwrap .u8 (x57 + 1))) rfl rfl (W.q1 (.int .u8 (kwrap .u8 (x57 + 1))) rfl (.nil ?_))))))
 exact ⟨k55, Nat.lt_succ_self _, ⟨x80, kwrap .u8 (x57 + 1), _, h82, O84, (GM.le.trans s63 (GM.le.trans s72 s85)), rfl, rfl⟩⟩
def g_R_NatGcd_l0 (K : Nat) : Nat → ByteArray → ByteArray → Option (ByteArray)
  | 0, _, _ => none
  | k + 1, x5, x6 => (if (!(sEq x6 (⟨#[48]⟩ : ByteArray))) = true then ((g_R_NatDiv K x5 x6).bind fun x18 => g_R_NatGcd_l0 K k x6 x18.2) else some x5)
def g_R_NatGcd (K : Nat) (p0 : ByteArray) (p1 : ByteArray) : Option ByteArray := (Option.bind (g_R_NatGcd_l0 K K p0 p1) (tu1 fun x30 => some x30))
set_option maxHeartbeats 4000000 in
theorem g_R_NatGcd_ok (K : Nat) {G : GM} {H : AH} {L : List Pc} (p0 : ByteArray) (p1 : ByteArray) (O : Ow G H (L)) (r : ByteArray) (h : g_R_NatGcd K p0 p1 = some r) :
    CR Tryd.prog 28 [(.string p0), (.string p1)] G H (L) (fun v G' _ => v = .string r) := by
 unfold g_R_NatGcd at h
 refine CR.of (calls_of_AW (n := 18) (fn := Tryd.f28) (R := fun v H' => ∃ G', Ow G' H' (L) ∧ G.le G' ∧ v = .string r) (by kernel_rfl) rfl rfl ?_)
 refine .seq (.region (W.q1 (.string (⟨#[]⟩ : ByteArray)) rfl (.nil (.seq ?_))))
 obtain ⟨q1, h2, h3⟩ := bd_inv h
 refine AW.midT (fun σ' H' => ∃ (y1 : ByteArray) (G' : GM), y1 = q1 ∧ Ow G' H' (L) ∧ GM.le G G' ∧ σ' 0 = .string y1) ?_ ?_
 rotate_left
 ·rintro σ31 H32 fr33 ⟨x30, G34, rfl, O35, s36, t38⟩
  have h39 := tu1_inv h3
  refine .seq (.region (W.q2 (.string x30) t38 (W.q1 (.string x30) rfl (.nil (.ret ?_)))))
  obtain rfl := Option.some.inj h39
  refine ret1R (P := Tryd.prog) (fn := Tryd.f28) (n := 18) (R := fun v H' => ∃ G', Ow G' H' (L) ∧ G.le G' ∧ v = .string x30) (v1 := (.string x30)) (by rfl) (rr_tmp (by rfl) (by exact rfl)) ?_
  exact ⟨_, O35, s36, rfl⟩
 refine .block (AW.loop (α := Nat) (fun k' σ' H' => ∃ (y1 : ByteArray) (y2 : ByteArray) (G' : GM), g_R_NatGcd_l0 K k' y1 y2 = some q1 ∧ Ow G' H' (L) ∧ GM.le G G' ∧ σ' 0 = .string y1 ∧ σ' 1 = .string y2) (fun k' => k') K ⟨p0, p1, _, h2, O, (GM.le.refl _), rfl, rfl⟩ ?_)
 rintro k4
 rintro σ7 H8 fr9 ⟨x5, x6, G10, h13, O11, s12, t14, t15⟩
 rcases k4 with _ | k4
 ·exact none_absurd h13
 rw [g_R_NatGcd_l0] at h13
 refine .seq (.seq (.region (W.q2 (.string x6) t15 (W.pure (v := (.bool (!(sEq x6 (⟨#[48]⟩ : ByteArray))))) rfl rfl (vs_neq (oo rfl rfl) (oo rfl rfl)) (.nil (.cond (b := (!(sEq x6 (⟨#[48]⟩ : ByteArray)))) rfl rfl (fun g16 => ?_) (fun g16 => ?_)))))))
 rotate_left
 ·have h29 := neg_b g16 h13
  refine .exit ?_
  obtain rfl := Option.some.inj h29
  exact ⟨x5, _, rfl, O11, s12, t14⟩
 have h17 := pos_inv g16 h13
 refine .skip (.block (.seq (.region (W.q2 (.string x5) t14 (W.q2 (.string x6) t15 ?_)))))
 obtain ⟨x18, i19, h20⟩ := bd_inv h17
 refine W.lo rfl rfl (Lo.callP (ps := []) (ps' := []) rfl (fn := Tryd.f29) (by kernel_rfl) rfl (mc rfl (mc rfl mn)) O11 (fun L' O' => g_R_NatDiv_ok K x5 x6 O' _ i19)) ?_
 rintro v27 H28 ⟨G21, O22, s23, sm26, rfl⟩
 replace O22 : Ow G21 H28 (L) := O22
 refine W.q2 (.tuple #[(.string x18.1), (.string x18.2)]) rfl (W.pure (v := (.string x18.1)) rfl rfl (v_extract (oo rfl rfl) rfl) (W.pure (v := (.string x18.2)) rfl rfl (v_extract (oo rfl rfl) rfl) (W.q1 (.string x18.1) rfl (W.q1 (.string x18.2) rfl (.nil (.region ?_))))))
 refine W.q2 (.string x6) t15 (W.q2 (.string x18.2) rfl (W.q1 (.string x6) rfl (W.q1 (.string x18.2) rfl (.nil ?_))))
 exact ⟨k4, Nat.lt_succ_self _, ⟨x6, x18.2, _, h20, O22, (GM.le.trans s12 s23), rfl, rfl⟩⟩
def g_rat_size (K : Nat) (p0 : Int) : Option (List Int) := (if (decide (p0 ≥ 0)) = true then ((g_nat_Of K p0).bind fun x3 => some x3) else ((g_nat_Of K (kwrap .i64 (-(kwrap .i64 (p0 + 1))))).bind fun x17 => ((g_nat_Of K 1).bind fun x30 => ((g_nat_N_Add K x17 x30).bind fun x51 => some x51))))
set_option maxHeartbeats 4000000 in
theorem g_rat_size_ok (K : Nat) {G : GM} {H : AH} {L : List Pc} (p0 : Int) (O : Ow G H (L)) (r : List Int) (h : g_rat_size K p0 = some r) :
    CRF Tryd.prog 83 [(.int .i64 p0)] G H (fun w0 => (eSl w0 108 (rI .u32) r :: L)) (fun w0 v G' => w0 = v) := by
 unfold g_rat_size at h
 refine CRF.of (calls_of_AW (n := 13) (fn := Tryd.f83) (R := fun v H' => ∃ w0 G', Ow G' H' (eSl w0 108 (rI .u32) r :: L) ∧ G.le G' ∧ w0 = v) (by kernel_rfl) rfl rfl ?_)
 refine .seq (.region (W.q1 (.slice none 0 0) rfl (.nil (.seq (.seq (.region ?_))))))
 refine W.q2 (.int .i64 p0) rfl (W.q3 (.bool (decide (p0 ≥ 0))) rfl rfl (.nil (.cond (b := decide (p0 ≥ 0)) rfl rfl (fun g1 => ?_) (fun g1 => ?_))))
 ·have h2 := pos_inv g1 h
  refine .seq (.region (W.q2 (.int .i64 p0) rfl ?_))
  obtain ⟨x3, i4, h5⟩ := bd_inv h2
  refine W.lo rfl rfl (Lo.callPF (ps := []) (pw := fun w => [eSl w 108 (rI .u32) x3]) rfl (fn := Tryd.f71) (by kernel_rfl) rfl (mc rfl mn) O (fun L' O' => g_nat_Of_ok K p0 O' _ i4)) ?_
  rintro v14 H15 ⟨w11, G6, O7, s8, sm13, rfl⟩
  replace O7 : Ow G6 H15 (eSl w11 108 (rI .u32) x3 :: L) := O7
  refine W.q1 w11 rfl (.nil (.ret ?_))
  obtain rfl := Option.some.inj h5
  refine ret1R (P := Tryd.prog) (fn := Tryd.f83) (n := 13) (R := fun v H' => ∃ w0 G', Ow G' H' (eSl w0 108 (rI .u32) x3 :: L) ∧ G.le G' ∧ w0 = v) (v1 := w11) (by rfl) (rr_tmp (by rfl) (by exact rfl)) ?_
  exact ⟨w11, _, O7, s8, rfl⟩
 have h16 := neg_b g1 h
 refine .skip (.seq (.region (W.q2 (.int .i64 p0) rfl (W.q3 (.int .i64 (kwrap .i64 (p0 + 1))) rfl rfl (W.pure (v := (.int .i64 (kwrap .i64 (-(kwrap .i64 (p0 + 1)))))) rfl rfl (v_neg (oo rfl rfl)) ?_)))))
 obtain ⟨x17, i18, h19⟩ := bd_inv h16
 refine W.lo rfl rfl (Lo.callPF (ps := []) (pw := fun w => [eSl w 108 (rI .u32) x17]) rfl (fn := Tryd.f71) (by kernel_rfl) rfl (mc rfl mn) O (fun L' O' => g_nat_Of_ok K (kwrap .i64 (-(kwrap .i64 (p0 + 1)))) O' _ i18)) ?_
 rintro v28 H29 ⟨w25, G20, O21, s22, sm27, rfl⟩
 replace O21 : Ow G20 H29 (eSl w25 108 (rI .u32) x17 :: L) := O21
 obtain ⟨x30, i31, h32⟩ := bd_inv h19
 refine W.lo rfl rfl (Lo.callPF (ps := []) (pw := fun w => [eSl w 108 (rI .u32) x30]) rfl (fn := Tryd.f71) (by kernel_rfl) rfl (mc rfl mn) O21 (fun L' O' => g_nat_Of_ok K 1 O' _ i31)) ?_
 rintro v41 H42 ⟨w38, G33, O34, s35, sm40, rfl⟩
 replace O34 : Ow G33 H42 (eSl w38 108 (rI .u32) x30 :: eSl w25 108 (rI .u32) x17 :: L) := O34
 obtain ⟨G43, O44, s45, f46⟩ := O34.frzSl (j := 1) rfl
 replace O44 : Ow G43 H42 (eSl w38 108 (rI .u32) x30 :: L) := O44
 obtain ⟨G47, O48, s49, f50⟩ := O44.frzSl (j := 0) rfl
 replace O48 : Ow G47 H42 (L) := O48
 obtain ⟨x51, i52, h53⟩ := bd_inv h32
 refine W.lo rfl rfl (Lo.callPF (ps := []) (pw := fun w => [eSl w 108 (rI .u32) x51]) rfl (fn := Tryd.f58) (by kernel_rfl) rfl (mc rfl (mc rfl mn)) O48 (fun L' O' => g_nat_N_Add_ok K w25 x17 (RT.mono _ s49 f46) w38 x30 f50 O' _ i52)) ?_
 rintro v62 H63 ⟨w59, G54, O55, s56, sm61, rfl⟩
 replace O55 : Ow G54 H63 (eSl w59 108 (rI .u32) x51 :: L) := O55
 refine W.q1 w59 rfl (.nil (.ret ?_))
 obtain rfl := Option.some.inj h53
 refine ret1R (P := Tryd.prog) (fn := Tryd.f83) (n := 13) (R := fun v H' => ∃ w0 G', Ow G' H' (eSl w0 108 (rI .u32) x51 :: L) ∧ G.le G' ∧ w0 = v) (v1 := w59) (by rfl) (rr_tmp (by rfl) (by exact rfl)) ?_
 exact ⟨w59, _, O55, (GM.le.trans s22 (GM.le.trans s35 (GM.le.trans s45 (GM.le.trans s49 s56)))), rfl⟩
structure Q where
  neg : Bool
  num : List Int
  den : List Int
  deriving DecidableEq, Inhabited
def T_Q : RT Q := rIso (rP rB (rP (rSl (rI .u32)) (rSl (rI .u32)))) (fun s : Q => (s.neg, s.num, s.den))
theorem z_Q (G : GM) : T_Q.rep G ([.bool false] ++ ([.slice none 0 0] ++ [.slice none 0 0])) ((Q.mk false ([] : List Int) ([] : List Int))) := ⟨_, _, rfl, zB G, ⟨_, _, rfl, zL G, (zL G)⟩⟩
theorem p_Q_neg : Proj T_Q 0 rB (fun x => x.neg) := by
  have h := (Proj.iso (rP rB (rP (rSl (rI .u32)) (rSl (rI .u32)))) (fun s : Q => (s.neg, s.num, s.den))).comp (Proj.fst _ _)
  exact h
theorem u_Q_neg : Put T_Q 0 rB (fun x y => { x with neg := y }) := by
  have h := Put.comp (Proj.iso (rP rB (rP (rSl (rI .u32)) (rSl (rI .u32)))) (fun s : Q => (s.neg, s.num, s.den))) (Put.iso (rP rB (rP (rSl (rI .u32)) (rSl (rI .u32)))) (fun s : Q => (s.neg, s.num, s.den)) (fun _ q => ⟨q.1, q.2.1, q.2.2⟩) (fun _ _ => rfl)) (Put.fst _ _)
  exact h
theorem p_Q_num : Proj T_Q 1 (rSl (rI .u32)) (fun x => x.num) := by
  have h := (Proj.iso (rP rB (rP (rSl (rI .u32)) (rSl (rI .u32)))) (fun s : Q => (s.neg, s.num, s.den))).comp ((Proj.snd _ _).comp (Proj.fst _ _))
  exact h
theorem u_Q_num : Put T_Q 1 (rSl (rI .u32)) (fun x y => { x with num := y }) := by
  have h := Put.comp (Proj.iso (rP rB (rP (rSl (rI .u32)) (rSl (rI .u32)))) (fun s : Q => (s.neg, s.num, s.den))) (Put.iso (rP rB (rP (rSl (rI .u32)) (rSl (rI .u32)))) (fun s : Q => (s.neg, s.num, s.den)) (fun _ q => ⟨q.1, q.2.1, q.2.2⟩) (fun _ _ => rfl)) (Put.comp (Proj.snd _ _) (Put.snd _ _) (Put.fst _ _))
  exact h
theorem p_Q_den : Proj T_Q 2 (rSl (rI .u32)) (fun x => x.den) := by
  have h := (Proj.iso (rP rB (rP (rSl (rI .u32)) (rSl (rI .u32)))) (fun s : Q => (s.neg, s.num, s.den))).comp ((Proj.snd _ _).comp ((Proj.snd _ _).comp (Proj.self _)))
  exact h
theorem u_Q_den : Put T_Q 2 (rSl (rI .u32)) (fun x y => { x with den := y }) := by
  have h := Put.comp (Proj.iso (rP rB (rP (rSl (rI .u32)) (rSl (rI .u32)))) (fun s : Q => (s.neg, s.num, s.den))) (Put.iso (rP rB (rP (rSl (rI .u32)) (rSl (rI .u32)))) (fun s : Q => (s.neg, s.num, s.den)) (fun _ q => ⟨q.1, q.2.1, q.2.2⟩) (fun _ _ => rfl)) (Put.comp (Proj.snd _ _) (Put.snd _ _) (Put.comp (Proj.snd _ _) (Put.snd _ _) (Put.self _)))
  exact h
theorem bd_Q_ {G : GM}   : ∃ cs : List Value, (∀ {s : List Value} {d : Tmp} {ty : TypeId} {pos : String} {af : Array Edge} {g : Option (Nat × Bool)} {ps : Array (Nat × Operand)}, opndP s ps.toList = some [] → apure Tryd.prog s ⟨some d, .build 91 ps, ty, pos, af, g⟩ = some (.agg (List.toArray cs))) ∧ T_Q.rep G cs (Q.mk false ([] : List Int) ([] : List Int)) := by
  refine ⟨_, fun {s d ty pos af g ps} hps => v_buildS pl91 ze91 zo91 hps ?_, z_Q G⟩
  rfl
theorem bd_Q_0_1_2 {G : GM} (v0 : Value) {x0 : Bool} (v1 : Value) {x1 : List Int} (v2 : Value) {x2 : List Int} (h0 : rB.rep G v0.cells.toList x0) (h1 : (rSl (rI .u32)).rep G v1.cells.toList x1) (h2 : (rSl (rI .u32)).rep G v2.cells.toList x2) : ∃ cs : List Value, (∀ {s : List Value} {d : Tmp} {ty : TypeId} {pos : String} {af : Array Edge} {g : Option (Nat × Bool)} {ps : Array (Nat × Operand)}, opndP s ps.toList = some [(0, v0), (1, v1), (2, v2)] → apure Tryd.prog s ⟨some d, .build 91 ps, ty, pos, af, g⟩ = some (.agg (List.toArray cs))) ∧ T_Q.rep G cs (Q.mk x0 x1 x2) := by
  have k0 := (u_Q_neg G _ _ _ _ (z_Q G) h0).1
  have k1 := (u_Q_num G _ _ _ _ (k0) h1).1
  have k2 := (u_Q_den G _ _ _ _ (k1) h2).1
  refine ⟨_, fun {s d ty pos af g ps} hps => v_buildS pl91 ze91 zo91 hps ?_, k2⟩
  refine (fill_cons' (off := 0) (sz := 1) (cs := _) rfl (RT.len _ h0) (Nat.le_trans (Nat.le_of_ble_eq_true (m := 3) rfl) (Nat.le_of_eq (RT.len _ (z_Q G)).symm))).trans ?_
  refine (fill_cons' (off := 1) (sz := 1) (cs := _) rfl (RT.len _ h1) (Nat.le_trans (Nat.le_of_ble_eq_true (m := 3) rfl) (Nat.le_of_eq (RT.len _ (k0)).symm))).trans ?_
  refine (fill_cons' (off := 2) (sz := 1) (cs := _) rfl (RT.len _ h2) (Nat.le_trans (Nat.le_of_ble_eq_true (m := 3) rfl) (Nat.le_of_eq (RT.len _ (k1)).symm))).trans ?_
  rfl
def g_rat_low (K : Nat) (p0 : Bool) (p1 : List Int) (p2 : List Int) : Option Q := (if ((List.length p1 : Int) == 0) = true then some (Q.mk false ([] : List Int) ([] : List Int)) else ((g_nat_N_Gcd K p1 p2).bind fun x20 => ((g_nat_Of K 1).bind fun x33 => ((g_nat_N_Cmp K x20 x33).bind fun x46 => (Option.bind ((if (decide (x46 > 0)) = true then ((g_nat_N_Div K p1 x20).bind fun x62 => ((g_nat_N_Div K p2 x20).bind fun x77 => some (x62.1, x77.1))) else some (p1, p2))) (tu2 fun x93 x94 => some (Q.mk p0 x93 x94)))))))
set_option maxHeartbeats 4000000 in
theorem g_rat_low_ok (K : Nat) {G : GM} {H : AH} {L : List Pc} (p0 : Bool) (v1 : Value) (p1 : List Int) (hp1 : (rSl (rI .u32)).rep G [v1] p1) (v2 : Value) (p2 : List Int) (hp2 : (rSl (rI .u32)).rep G [v2] p2) (O : Ow G H (L)) (r : Q) (h : g_rat_low K p0 p1 p2 = some r) :
    CR Tryd.prog 82 [(.bool p0), v1, v2] G H (L) (fun v G' _ => ∃ (w0 : List Value), v = .agg (List.toArray w0) ∧ T_Q.rep G' w0 r) := by
 unfold g_rat_low at h
 refine CR.of (calls_of_AW (n := 35) (fn := Tryd.f82) (R := fun v H' => ∃ G', Ow G' H' (L) ∧ G.le G' ∧ ∃ (w0 : List Value), v = .agg (List.toArray w0) ∧ T_Q.rep G' w0 r) (by kernel_rfl) rfl rfl ?_)
 refine .seq (.region (W.lo rfl rfl (Lo.alloc (r := T_Q) (x0 := (Q.mk false ([] : List Int) ([] : List Int))) ze91 (by kernel_rfl) z_Q O) ?_))
 rintro v4 H5 ⟨b2, rfl, O1, sm3⟩
 refine .nil (.seq (.seq (.region (W.q2 v1 rfl (W.pure (v := (.int .i64 (List.length p1 : Int))) rfl rfl (len_sl (oo rfl rfl) (sl_len hp1) (elemT_inv el64)) (W.q3 (.bool ((List.length p1 : Int) == 0)) rfl rfl ?_))))))
 refine .nil (.cond (b := ((List.length p1 : Int) == 0)) rfl rfl (fun g6 => ?_) (fun g6 => ?_))
 ·have h7 := pos_inv g6 h
  refine .seq (.region ?_)
  obtain ⟨c8, e10, f9⟩ := bd_Q_
  refine W.pure (v := .agg (List.toArray c8)) rfl rfl (e10 (opndP_oo rfl qn')) (W.lo rfl rfl (Lo.storeVar (j := 0) (s := T_Q) (y0 := (Q.mk false ([] : List Int) ([] : List Int))) (v := (.agg (List.toArray c8))) (o := 0) rfl ((Put.at (Put.self _) _ _)) rfl sz91 rfl (by omega) rfl f9 O1) ?_)
  rintro v13 H14 ⟨O11, sm12⟩
  replace O11 : Ow G H14 (eVar b2 91 T_Q (Q.mk false ([] : List Int) ([] : List Int)) :: L) := O11
  refine .nil (.ret ?_)
  obtain ⟨c15, p16, f17⟩ := (O11.atVar (j := 0) rfl)
  have O18 : Ow G H14 (L) := O11.drop 0
  obtain rfl := Option.some.inj h7
  refine ret1R (P := Tryd.prog) (fn := Tryd.f82) (n := 35) (R := fun v H' => ∃ G', Ow G' H' (L) ∧ G.le G' ∧ ∃ (w0 : List Value), v = .agg (List.toArray w0) ∧ T_Q.rep G' w0 (Q.mk false ([] : List Int) ([] : List Int))) (v1 := (.agg (List.toArray c15))) (by rfl) (rr_cellA (p := (.pointer (some ⟨b2, 0, none⟩))) (by rfl) ag91 sz91 (by exact rfl) p16 (RT.len _ f17)) ?_
  exact ⟨_, O18, (GM.le.refl _), c15, rfl, f17⟩
 have h19 := neg_b g6 h
 refine .skip (.seq (.seq (.region (W.q2 v1 rfl (W.q2 v2 rfl ?_)))))
 obtain ⟨x20, i21, h22⟩ := bd_inv h19
 refine W.lo rfl rfl (Lo.callP (ps := []) (ps' := []) rfl (fn := Tryd.f68) (by kernel_rfl) rfl (mc rfl (mc rfl mn)) O1 (fun L' O' => g_nat_N_Gcd_ok K v1 p1 hp1 v2 p2 hp2 O' _ i21)) ?_
 rintro v31 H32 ⟨G23, O24, s25, sm30, ⟨w27, rfl, f28⟩⟩
 replace O24 : Ow G23 H32 (eVar b2 91 T_Q (Q.mk false ([] : List Int) ([] : List Int)) :: L) := O24
 refine W.q1 w27 rfl (.nil (.seq (.region (W.q2 w27 rfl ?_))))
 obtain ⟨x33, i34, h35⟩ := bd_inv h22
 refine W.lo rfl rfl (Lo.callPF (ps := []) (pw := fun w => [eSl w 108 (rI .u32) x33]) rfl (fn := Tryd.f71) (by kernel_rfl) rfl (mc rfl mn) O24 (fun L' O' => g_nat_Of_ok K 1 O' _ i34)) ?_
 rintro v44 H45 ⟨w41, G36, O37, s38, sm43, rfl⟩
 replace O37 : Ow G36 H45 (eSl w41 108 (rI .u32) x33 :: eVar b2 91 T_Q (Q.mk false ([] : List Int) ([] : List Int)) :: L) := O37
 obtain ⟨x46, i47, h48⟩ := bd_inv h35
 refine W.lo rfl rfl (Lo.callB (j := 0) rfl rfl (fn := Tryd.f59) (by kernel_rfl) rfl (mc rfl (mc rfl mn)) O37 (fun G' L' hG O' hB => g_nat_N_Cmp_ok K w27 x20 (RT.mono _ hG (RT.mono _ s38 f28)) w41 x33 hB O' _ i47)) ?_
 rintro v55 H56 ⟨G49, O50, s51, sm54, rfl⟩
 replace O50 : Ow G49 H56 (eSl w41 108 (rI .u32) x33 :: eVar b2 91 T_Q (Q.mk false ([] : List Int) ([] : List Int)) :: L) := O50
 refine W.q3 (.bool (decide (x46 > 0))) rfl rfl (.nil ?_)
 obtain ⟨q57, h58, h59⟩ := bd_inv h48
 refine AW.midT (fun σ' H' => ∃ (y1 : List Int) (y2 : List Int) (G' : GM), (y1, y2) = q57 ∧ Ow G' H' (eSl w41 108 (rI .u32) x33 :: eVar b2 91 T_Q (Q.mk false ([] : List Int) ([] : List Int)) :: L) ∧ GM.le G49 G' ∧ (rSl (rI .u32)).rep G' [σ' 1] y1 ∧ (rSl (rI .u32)).rep G' [σ' 2] y2) ?_ ?_
 rotate_left
 ·rintro σ95 H96 fr97 ⟨x93, x94, G98, rfl, O99, s100, f102, f103⟩
  have h104 := tu2_inv h59
  refine .seq (.region (W.q2 (.bool p0) ((fr97 0 rfl).trans rfl) (W.q2 (σ95 1) rfl (W.q2 (σ95 2) rfl ?_))))
  obtain ⟨c105, e107, f106⟩ := bd_Q_0_1_2 ((.bool p0)) ((σ95 1)) ((σ95 2)) (rfl) ((sl_cells f102)) ((sl_cells f103))
  refine W.pure (v := .agg (List.toArray c105)) rfl rfl (e107 (opndP_oo rfl (qc' rfl (qc' rfl (qc' rfl qn'))))) (W.lo rfl rfl (Lo.storeVar (j := 1) (s := T_Q) (y0 := (Q.mk p0 x93 x94)) (v := (.agg (List.toArray c105))) (o := 0) rfl ((Put.at (Put.self _) _ _)) rfl sz91 ((fr97 6 rfl).trans rfl) (by omega) rfl f106 O99) ?_)
  rintro v110 H111 ⟨O108, sm109⟩
  replace O108 : Ow G98 H111 (eSl w41 108 (rI .u32) x33 :: eVar b2 91 T_Q (Q.mk p0 x93 x94) :: L) := O108
  refine .nil (.ret ?_)
  obtain ⟨c112, p113, f114⟩ := (O108.atVar (j := 1) rfl)
  have O115 : Ow G98 H111 (eVar b2 91 T_Q (Q.mk p0 x93 x94) :: L) := O108.drop 0
  have O116 : Ow G98 H111 (L) := O115.drop 0
  obtain rfl := Option.some.inj h104
  refine ret1R (P := Tryd.prog) (fn := Tryd.f82) (n := 35) (R := fun v H' => ∃ G', Ow G' H' (L) ∧ G.le G' ∧ ∃ (w0 : List Value), v = .agg (List.toArray w0) ∧ T_Q.rep G' w0 (Q.mk p0 x93 x94)) (v1 := (.agg (List.toArray c112))) (by rfl) (rr_cellA (p := (.pointer (some ⟨b2, 0, none⟩))) (by rfl) ag91 sz91 (by exact ((fr97 6 rfl).trans rfl)) p113 (RT.len _ f114)) ?_
  exact ⟨_, O116, (GM.le.trans s25 (GM.le.trans s38 (GM.le.trans s51 s100))), c112, rfl, f114⟩
 refine .cond (b := decide (x46 > 0)) rfl rfl (fun g60 => ?_) (fun g60 => ?_)
 rotate_left
 ·have h92 := neg_b g60 h58
  refine .skip ?_
  obtain rfl := Option.some.inj h92
  exact ⟨p1, p2, _, rfl, O50, (GM.le.refl _), (RT.mono _ (GM.le.trans s25 (GM.le.trans s38 s51)) hp1), (RT.mono _ (GM.le.trans s25 (GM.le.trans s38 s51)) hp2)⟩
 have h61 := pos_inv g60 h58
 refine .seq (.region (W.q2 v1 rfl (W.q2 w27 rfl ?_)))
 obtain ⟨x62, i63, h64⟩ := bd_inv h61
 refine W.lo rfl rfl (Lo.callP (ps := []) (ps' := []) rfl (fn := Tryd.f66) (by kernel_rfl) rfl (mc rfl (mc rfl mn)) O50 (fun L' O' => g_nat_N_Div_ok K v1 p1 (RT.mono _ (GM.le.trans s25 (GM.le.trans s38 s51)) hp1) w27 x20 (RT.mono _ (GM.le.trans s38 s51) f28) O' _ i63)) ?_
 rintro v75 H76 ⟨G65, O66, s67, sm74, ⟨w69, w71, rfl, f70, f72⟩⟩
 replace O66 : Ow G65 H76 (eSl w41 108 (rI .u32) x33 :: eVar b2 91 T_Q (Q.mk false ([] : List Int) ([] : List Int)) :: L) := O66
 refine W.q2 (.tuple #[w69, w71]) rfl (W.pure (v := w69) rfl rfl (v_extract (oo rfl rfl) rfl) (W.pure (v := w71) rfl rfl (v_extract (oo rfl rfl) rfl) (W.q1 w69 rfl (.nil (.region (W.q2 v2 rfl ?_))))))
 refine W.q2 w27 rfl ?_
 obtain ⟨x77, i78, h79⟩ := bd_inv h64
 refine W.lo rfl rfl (Lo.callP (ps := []) (ps' := []) rfl (fn := Tryd.f66) (by kernel_rfl) rfl (mc rfl (mc rfl mn)) O66 (fun L' O' => g_nat_N_Div_ok K v2 p2 (RT.mono _ (GM.le.trans s25 (GM.le.trans s38 (GM.le.trans s51 s67))) hp2) w27 x20 (RT.mono _ (GM.le.trans s38 (GM.le.trans s51 s67)) f28) O' _ i78)) ?_
 rintro v90 H91 ⟨G80, O81, s82, sm89, ⟨w84, w86, rfl, f85, f87⟩⟩
 replace O81 : Ow G80 H91 (eSl w41 108 (rI .u32) x33 :: eVar b2 91 T_Q (Q.mk false ([] : List Int) ([] : List Int)) :: L) := O81
 refine W.q2 (.tuple #[w84, w86]) rfl (W.pure (v := w84) rfl rfl (v_extract (oo rfl rfl) rfl) (W.pure (v := w86) rfl rfl (v_extract (oo rfl rfl) rfl) (W.q1 w84 rfl (.nil ?_))))
 obtain rfl := Option.some.inj h79
 exact ⟨x62.1, x77.1, _, rfl, O81, (GM.le.trans s67 s82), (RT.mono _ s82 f70), f85⟩
def g_rat_Fits (K : Nat) (p0 : Q) : Option Int := (Option.bind (((g_nat_N_Digits K p0.num).bind fun x12 => (if (decide (x12 > 2000)) = true then some true else ((g_nat_N_Digits K p0.den).bind fun x30 => some (decide (x30 > 2000)))))) (tu1 fun x41 => (if x41 = true then some 2 else some 0)))
set_option maxHeartbeats 4000000 in
theorem g_rat_Fits_ok (K : Nat) {G : GM} {H : AH} {L : List Pc} (v0 : List Value) (p0 : Q) (hp0 : T_Q.rep G v0 p0) (O : Ow G H (L)) (r : Int) (h : g_rat_Fits K p0 = some r) :
    CR Tryd.prog 94 [.agg (List.toArray v0)] G H (L) (fun v G' _ => v = .int .i64 r) := by
 unfold g_rat_Fits at h
 refine CR.of (calls_of_AW (n := 13) (fn := Tryd.f94) (R := fun v H' => ∃ G', Ow G' H' (L) ∧ G.le G' ∧ v = .int .i64 r) (by kernel_rfl) rfl rfl ?_)
 refine .seq (.region (W.lo rfl rfl (Lo.box (r := T_Q) (x0 := p0) (v := (.agg (List.toArray v0))) rfl rfl hp0 O) ?_))
 rintro v4 H5 ⟨b2, rfl, O1, sm3⟩
 refine W.q1 (.int .i64 0) rfl (.nil (.seq (.seq ?_)))
 obtain ⟨q6, h7, h8⟩ := bd_inv h
 refine AW.midT (fun σ' H' => ∃ (y1 : Bool) (G' : GM), y1 = q6 ∧ Ow G' H' (eVar b2 91 T_Q p0 :: L) ∧ GM.le G G' ∧ σ' 12 = .bool y1) ?_ ?_
 rotate_left
 ·rintro σ42 H43 fr44 ⟨x41, G45, rfl, O46, s47, t49⟩
  have h50 := tu1_inv h8
  refine .cond (b := x41) rfl t49 (fun g51 => ?_) (fun g51 => ?_)
  ·have h52 := pos_inv g51 h50
   refine .seq (.region (W.q1 (.int .i64 2) rfl (.nil (.ret ?_))))
   have O53 : Ow G45 H43 (L) := O46.drop 0
   obtain rfl := Option.some.inj h52
   refine ret1R (P := Tryd.prog) (fn := Tryd.f94) (n := 13) (R := fun v H' => ∃ G', Ow G' H' (L) ∧ G.le G' ∧ v = .int .i64 2) (v1 := (.int .i64 2)) (by rfl) (rr_tmp (by rfl) (by exact rfl)) ?_
   exact ⟨_, O53, s47, rfl⟩
  have h54 := neg_b g51 h50
  refine .skip (.seq (.region (W.q1 (.int .i64 0) rfl (.nil (.ret ?_)))))
  have O55 : Ow G45 H43 (L) := O46.drop 0
  obtain rfl := Option.some.inj h54
  refine ret1R (P := Tryd.prog) (fn := Tryd.f94) (n := 13) (R := fun v H' => ∃ G', Ow G' H' (L) ∧ G.le G' ∧ v = .int .i64 0) (v1 := (.int .i64 0)) (by rfl) (rr_tmp (by rfl) (by exact rfl)) ?_
  exact ⟨_, O55, s47, rfl⟩
 refine .region (W.pure (v := (padd (.pointer (some ⟨b2, 0, none⟩)) 1)) rfl rfl (v_fldA fl91_1 (oo rfl rfl) (O1.atVar (j := 0) rfl)) ?_)
 obtain ⟨w9, p10, f11⟩ := At.sl (At.proj (O1.atVar (j := 0) rfl) p_Q_num)
 refine W.load1 (v := w9) (r := []) rfl rfl ag64 (pt_px rfl p10) ?_
 obtain ⟨x12, i13, h14⟩ := bd_inv h7
 refine W.lo rfl rfl (Lo.callP (ps := []) (ps' := []) rfl (fn := Tryd.f72) (by kernel_rfl) rfl (mc rfl mn) O1 (fun L' O' => g_nat_N_Digits_ok K w9 p0.num f11 O' _ i13)) ?_
 rintro v21 H22 ⟨G15, O16, s17, sm20, rfl⟩
 replace O16 : Ow G15 H22 (eVar b2 91 T_Q p0 :: L) := O16
 refine W.q3 (.bool (decide (x12 > 2000))) rfl rfl (W.q2 (.bool (decide (x12 > 2000))) rfl (W.splitAt (t := 7) (b := decide (x12 > 2000)) rfl (fun g23 gv24 => ?_) (fun g23 gv24 => ?_)))
 ·have h25 := pos_inv g23 h14
  refine W.q6 rfl gv24 (W.q6 rfl gv24 (W.q6 rfl gv24 (W.q6 rfl gv24 (W.q4 (.bool true) gv24 rfl (.nil ?_)))))
  obtain rfl := Option.some.inj h25
  exact ⟨true, _, rfl, O16, s17, rfl⟩
 have h26 := neg_b g23 h14
 refine W.pure (v := (padd (.pointer (some ⟨b2, 0, none⟩)) 2)) (gk rfl rfl gv24 rfl) rfl (v_fldA fl91_2 (oo rfl rfl) (O16.atVar (j := 0) rfl)) ?_
 obtain ⟨w27, p28, f29⟩ := At.sl (At.proj (O16.atVar (j := 0) rfl) p_Q_den)
 refine W.load1 (v := w27) (r := []) (gk rfl rfl gv24 rfl) rfl ag64 (pt_px rfl p28) ?_
 obtain ⟨x30, i31, h32⟩ := bd_inv h26
 refine W.lo (gk rfl rfl gv24 rfl) rfl (Lo.callP (ps := []) (ps' := []) rfl (fn := Tryd.f72) (by kernel_rfl) rfl (mc rfl mn) O16 (fun L' O' => g_nat_N_Digits_ok K w27 p0.den f29 O' _ i31)) ?_
 rintro v39 H40 ⟨G33, O34, s35, sm38, rfl⟩
 replace O34 : Ow G33 H40 (eVar b2 91 T_Q p0 :: L) := O34
 refine W.q3 (hg := gk rfl rfl gv24 rfl) (.bool (decide (x30 > 2000))) rfl rfl (W.q5 (.bool (decide (x30 > 2000))) gv24 rfl (.nil ?_))
 obtain rfl := Option.some.inj h32
 exact ⟨decide (x30 > 2000), _, rfl, O34, (GM.le.trans s17 s35), rfl⟩
def g_rat_Q_whole (K : Nat) (p0 : Q) : Option (List Int) := (if ((List.length p0.den : Int) == 0) = true then ((g_nat_Of K 1).bind fun x11 => some x11) else some p0.den)
set_option maxHeartbeats 4000000 in
theorem g_rat_Q_whole_ok (K : Nat) {G : GM} {H : AH} {L : List Pc} (v0 : List Value) (p0 : Q) (hp0 : T_Q.rep G v0 p0) (O : Ow G H (L)) (r : List Int) (h : g_rat_Q_whole K p0 = some r) :
    CR Tryd.prog 110 [.agg (List.toArray v0)] G H (L) (fun v G' _ => ∃ (w0 : Value), w0 = v ∧ (rSl (rI .u32)).rep G' [w0] r) := by
 unfold g_rat_Q_whole at h
 refine CR.of (calls_of_AW (n := 10) (fn := Tryd.f110) (R := fun v H' => ∃ G', Ow G' H' (L) ∧ G.le G' ∧ ∃ (w0 : Value), w0 = v ∧ (rSl (rI .u32)).rep G' [w0] r) (by kernel_rfl) rfl rfl ?_)
 refine .seq (.region (W.lo rfl rfl (Lo.box (r := T_Q) (x0 := p0) (v := (.agg (List.toArray v0))) rfl rfl hp0 O) ?_))
 rintro v4 H5 ⟨b2, rfl, O1, sm3⟩
 refine W.q1 (.slice none 0 0) rfl (.nil (.seq (.seq (.region (W.pure (v := (padd (.pointer (some ⟨b2, 0, none⟩)) 2)) rfl rfl (v_fldA fl91_2 (oo rfl rfl) (O1.atVar (j := 0) rfl)) ?_)))))
 obtain ⟨w6, p7, f8⟩ := At.sl (At.proj (O1.atVar (j := 0) rfl) p_Q_den)
 refine W.load1 (v := w6) (r := []) rfl rfl ag64 (pt_px rfl p7) (W.pure (v := (.int .i64 (List.length p0.den : Int))) rfl rfl (len_sl (oo rfl rfl) (sl_len f8) (elemT_inv el64)) (W.q3 (.bool ((List.length p0.den : Int) == 0)) rfl rfl (.nil (.cond (b := ((List.length p0.den : Int) == 0)) rfl rfl (fun g9 => ?_) (fun g9 => ?_)))))
 rotate_left
 ·have h29 := neg_b g9 h
  refine .skip (.seq (.region (W.pure (v := (padd (.pointer (some ⟨b2, 0, none⟩)) 2)) rfl rfl (v_fldA fl91_2 (oo rfl rfl) (O1.atVar (j := 0) rfl)) ?_)))
  obtain ⟨w30, p31, f32⟩ := At.sl (At.proj (O1.atVar (j := 0) rfl) p_Q_den)
  refine W.load1 (v := w30) (r := []) rfl rfl ag64 (pt_px rfl p31) (W.q1 w30 rfl (.nil (.ret ?_)))
  have O33 : Ow G H5 (L) := O1.drop 0
  obtain rfl := Option.some.inj h29
  refine ret1R (P := Tryd.prog) (fn := Tryd.f110) (n := 10) (R := fun v H' => ∃ G', Ow G' H' (L) ∧ G.le G' ∧ ∃ (w0 : Value), w0 = v ∧ (rSl (rI .u32)).rep G' [w0] p0.den) (v1 := w30) (by rfl) (rr_tmp (by rfl) (by exact rfl)) ?_
  exact ⟨_, O33, (GM.le.refl _), w30, rfl, f32⟩
 have h10 := pos_inv g9 h
 refine .seq (.region ?_)
 obtain ⟨x11, i12, h13⟩ := bd_inv h10
 refine W.lo rfl rfl (Lo.callPF (ps := []) (pw := fun w => [eSl w 108 (rI .u32) x11]) rfl (fn := Tryd.f71) (by kernel_rfl) rfl (mc rfl mn) O1 (fun L' O' => g_nat_Of_ok K 1 O' _ i12)) ?_
 rintro v22 H23 ⟨w19, G14, O15, s16, sm21, rfl⟩
 replace O15 : Ow G14 H23 (eSl w19 108 (rI .u32) x11 :: eVar b2 91 T_Q p0 :: L) := O15
 refine W.q1 w19 rfl (.nil (.ret ?_))
 obtain ⟨G24, O25, s26, f27⟩ := O15.frzSl (j := 0) rfl
 replace O25 : Ow G24 H23 (eVar b2 91 T_Q p0 :: L) := O25
 have O28 : Ow G24 H23 (L) := O25.drop 0
 obtain rfl := Option.some.inj h13
 refine ret1R (P := Tryd.prog) (fn := Tryd.f110) (n := 10) (R := fun v H' => ∃ G', Ow G' H' (L) ∧ G.le G' ∧ ∃ (w0 : Value), w0 = v ∧ (rSl (rI .u32)).rep G' [w0] x11) (v1 := w19) (by rfl) (rr_tmp (by rfl) (by exact rfl)) ?_
 exact ⟨_, O28, (GM.le.trans s16 s26), w19, rfl, f27⟩
def g_rat_Q_Out (K : Nat) (p0 : Q) : Option ByteArray := (if ((List.length p0.num : Int) == 0) = true then some (⟨#[48]⟩ : ByteArray) else ((g_nat_N_Text K p0.num).bind fun x16 => (Option.bind ((if p0.neg = true then (if ((⟨#[45]⟩ : ByteArray)).size + (x16).size ≤ 4611686018427387904 then some ((⟨#[45]⟩ : ByteArray) ++ x16) else none) else some x16)) (tu1 fun x35 => ((g_rat_Q_whole K p0).bind fun x48 => ((g_nat_N_Text K x48).bind fun x61 => (Option.bind ((if (!(sEq x61 (⟨#[49]⟩ : ByteArray))) = true then (if ((⟨#[47]⟩ : ByteArray)).size + (x61).size ≤ 4611686018427387904 then (if (x35).size + (((⟨#[47]⟩ : ByteArray) ++ x61)).size ≤ 4611686018427387904 then some (x35 ++ ((⟨#[47]⟩ : ByteArray) ++ x61)) else none) else none) else some x35)) (tu1 fun x82 => some x82))))))))
set_option maxHeartbeats 4000000 in
theorem g_rat_Q_Out_ok (K : Nat) {G : GM} {H : AH} {L : List Pc} (v0 : List Value) (p0 : Q) (hp0 : T_Q.rep G v0 p0) (O : Ow G H (L)) (r : ByteArray) (h : g_rat_Q_Out K p0 = some r) :
    CR Tryd.prog 91 [.agg (List.toArray v0)] G H (L) (fun v G' _ => v = .string r) := by
 unfold g_rat_Q_Out at h
 refine CR.of (calls_of_AW (n := 26) (fn := Tryd.f91) (R := fun v H' => ∃ G', Ow G' H' (L) ∧ G.le G' ∧ v = .string r) (by kernel_rfl) rfl rfl ?_)
 refine .seq (.region (W.lo rfl rfl (Lo.box (r := T_Q) (x0 := p0) (v := (.agg (List.toArray v0))) rfl rfl hp0 O) ?_))
 rintro v4 H5 ⟨b2, rfl, O1, sm3⟩
 refine W.q1 (.string (⟨#[]⟩ : ByteArray)) rfl (.nil (.seq (.seq (.region (W.pure (v := (padd (.pointer (some ⟨b2, 0, none⟩)) 1)) rfl rfl (v_fldA fl91_1 (oo rfl rfl) (O1.atVar (j := 0) rfl)) ?_)))))
 obtain ⟨w6, p7, f8⟩ := At.sl (At.proj (O1.atVar (j := 0) rfl) p_Q_num)
 refine W.load1 (v := w6) (r := []) rfl rfl ag64 (pt_px rfl p7) (W.pure (v := (.int .i64 (List.length p0.num : Int))) rfl rfl (len_sl (oo rfl rfl) (sl_len f8) (elemT_inv el64)) (W.q3 (.bool ((List.length p0.num : Int) == 0)) rfl rfl (.nil (.cond (b := ((List.length p0.num : Int) == 0)) rfl rfl (fun g9 => ?_) (fun g9 => ?_)))))
 ·have h10 := pos_inv g9 h
  refine .seq (.region (W.q1 (.string (⟨#[48]⟩ : ByteArray)) rfl (.nil (.ret ?_))))
  have O11 : Ow G H5 (L) := O1.drop 0
  obtain rfl := Option.some.inj h10
  refine ret1R (P := Tryd.prog) (fn := Tryd.f91) (n := 26) (R := fun v H' => ∃ G', Ow G' H' (L) ∧ G.le G' ∧ v = .string (⟨#[48]⟩ : ByteArray)) (v1 := (.string (⟨#[48]⟩ : ByteArray))) (by rfl) (rr_tmp (by rfl) (by exact rfl)) ?_
  exact ⟨_, O11, (GM.le.refl _), rfl⟩
 have h12 := neg_b g9 h
 refine .skip (.seq (.region (W.pure (v := (padd (.pointer (some ⟨b2, 0, none⟩)) 1)) rfl rfl (v_fldA fl91_1 (oo rfl rfl) (O1.atVar (j := 0) rfl)) ?_)))
 obtain ⟨w13, p14, f15⟩ := At.sl (At.proj (O1.atVar (j := 0) rfl) p_Q_num)
 refine W.load1 (v := w13) (r := []) rfl rfl ag64 (pt_px rfl p14) ?_
 obtain ⟨x16, i17, h18⟩ := bd_inv h12
 refine W.lo rfl rfl (Lo.callP (ps := []) (ps' := []) rfl (fn := Tryd.f67) (by kernel_rfl) rfl (mc rfl mn) O1 (fun L' O' => g_nat_N_Text_ok K w13 p0.num f15 O' _ i17)) ?_
 rintro v25 H26 ⟨G19, O20, s21, sm24, rfl⟩
 replace O20 : Ow G19 H26 (eVar b2 91 T_Q p0 :: L) := O20
 refine W.q1 (.string x16) rfl (.nil (.seq (.seq (.region (W.pure (v := (padd (.pointer (some ⟨b2, 0, none⟩)) 0)) rfl rfl (v_fldA fl91_0 (oo rfl rfl) (O20.atVar (j := 0) rfl)) (W.load1 (v := (.bool p0.neg)) (r := []) rfl rfl ag4 (pt_px rfl (At.bool (At.proj (O20.atVar (j := 0) rfl) p_Q_neg))) ?_))))))
 refine .nil ?_
 obtain ⟨q27, h28, h29⟩ := bd_inv h18
 refine AW.midT (fun σ' H' => ∃ (y1 : ByteArray) (G' : GM), y1 = q27 ∧ Ow G' H' (eVar b2 91 T_Q p0 :: L) ∧ GM.le G19 G' ∧ σ' 3 = .string y1) ?_ ?_
 ·refine .cond (b := p0.neg) rfl rfl (fun g30 => ?_) (fun g30 => ?_)
  rotate_left
  ·have h34 := neg_b g30 h28
   refine .skip ?_
   obtain rfl := Option.some.inj h34
   exact ⟨x16, _, rfl, O20, (GM.le.refl _), rfl⟩
  have h31 := pos_inv g30 h28
  refine .region (W.q2 (.string x16) rfl ?_)
  obtain ⟨g32, h33⟩ := gd_inv h31
  refine W.pure (v := (.string ((⟨#[45]⟩ : ByteArray) ++ x16))) rfl rfl (vs_add g32 (oo rfl rfl) (oo rfl rfl)) (W.q1 (.string ((⟨#[45]⟩ : ByteArray) ++ x16)) rfl (.nil ?_))
  obtain rfl := Option.some.inj h33
  exact ⟨((⟨#[45]⟩ : ByteArray) ++ x16), _, rfl, O20, (GM.le.refl _), rfl⟩
 rintro σ36 H37 fr38 ⟨x35, G39, rfl, O40, s41, t43⟩
 have h44 := tu1_inv h29
 refine .seq (.seq (.region ?_))
 obtain ⟨c45, p46, f47⟩ := (O40.atVar (j := 0) rfl)
 refine W.loadA (cs := c45) rfl rfl ag91 sz91 (pt_px ((fr38 1 rfl).trans rfl) p46) (RT.len _ f47) ?_
 obtain ⟨x48, i49, h50⟩ := bd_inv h44
 refine W.lo rfl rfl (Lo.callP (ps := []) (ps' := []) rfl (fn := Tryd.f110) (by kernel_rfl) rfl (mc rfl mn) O40 (fun L' O' => g_rat_Q_whole_ok K c45 p0 f47 O' _ i49)) ?_
 rintro v59 H60 ⟨G51, O52, s53, sm58, ⟨w55, rfl, f56⟩⟩
 replace O52 : Ow G51 H60 (eVar b2 91 T_Q p0 :: L) := O52
 obtain ⟨x61, i62, h63⟩ := bd_inv h50
 refine W.lo rfl rfl (Lo.callP (ps := []) (ps' := []) rfl (fn := Tryd.f67) (by kernel_rfl) rfl (mc rfl mn) O52 (fun L' O' => g_nat_N_Text_ok K w55 x48 f56 O' _ i62)) ?_
 rintro v70 H71 ⟨G64, O65, s66, sm69, rfl⟩
 replace O65 : Ow G64 H71 (eVar b2 91 T_Q p0 :: L) := O65
 refine W.q1 (.string x61) rfl (.nil (.seq (.region (W.q2 (.string x61) rfl (W.pure (v := (.bool (!(sEq x61 (⟨#[49]⟩ : ByteArray))))) rfl rfl (vs_neq (oo rfl rfl) (oo rfl rfl)) (.nil ?_))))))
 obtain ⟨q72, h73, h74⟩ := bd_inv h63
 refine AW.midT (fun σ' H' => ∃ (y1 : ByteArray) (G' : GM), y1 = q72 ∧ Ow G' H' (eVar b2 91 T_Q p0 :: L) ∧ GM.le G64 G' ∧ σ' 3 = .string y1) ?_ ?_
 rotate_left
 ·rintro σ83 H84 fr85 ⟨x82, G86, rfl, O87, s88, t90⟩
  have h91 := tu1_inv h74
  refine .seq (.region (W.q2 (.string x82) t90 (W.q1 (.string x82) rfl (.nil (.ret ?_)))))
  have O92 : Ow G86 H84 (L) := O87.drop 0
  obtain rfl := Option.some.inj h91
  refine ret1R (P := Tryd.prog) (fn := Tryd.f91) (n := 26) (R := fun v H' => ∃ G', Ow G' H' (L) ∧ G.le G' ∧ v = .string x82) (v1 := (.string x82)) (by rfl) (rr_tmp (by rfl) (by exact rfl)) ?_
  exact ⟨_, O92, (GM.le.trans s21 (GM.le.trans s41 (GM.le.trans s53 (GM.le.trans s66 s88)))), rfl⟩
 refine .cond (b := (!(sEq x61 (⟨#[49]⟩ : ByteArray)))) rfl rfl (fun g75 => ?_) (fun g75 => ?_)
 rotate_left
 ·have h81 := neg_b g75 h73
  refine .skip ?_
  obtain rfl := Option.some.inj h81
  exact ⟨x35, _, rfl, O65, (GM.le.refl _), t43⟩
 have h76 := pos_inv g75 h73
 refine .region (W.q2 (.string x35) t43 (W.q2 (.string x61) rfl ?_))
 obtain ⟨g77, h78⟩ := gd_inv h76
 refine W.pure (v := (.string ((⟨#[47]⟩ : ByteArray) ++ x61))) rfl rfl (vs_add g77 (oo rfl rfl) (oo rfl rfl)) ?_
 obtain ⟨g79, h80⟩ := gd_inv h78
 refine W.pure (v := (.string (x35 ++ ((⟨#[47]⟩ : ByteArray) ++ x61)))) rfl rfl (vs_add g79 (oo rfl rfl) (oo rfl rfl)) (W.q1 (.string (x35 ++ ((⟨#[47]⟩ : ByteArray) ++ x61))) rfl (.nil ?_))
 obtain rfl := Option.some.inj h80
 exact ⟨(x35 ++ ((⟨#[47]⟩ : ByteArray) ++ x61)), _, rfl, O65, (GM.le.refl _), rfl⟩
def g_rat_told (K : Nat) (p0 : Q) : Option (ByteArray × Int) := ((g_rat_Fits K p0).bind fun x9 => (if (x9 != 0) = true then some ((⟨#[]⟩ : ByteArray), x9) else ((g_rat_Q_Out K p0).bind fun x27 => some (x27, 0))))
set_option maxHeartbeats 4000000 in
theorem g_rat_told_ok (K : Nat) {G : GM} {H : AH} {L : List Pc} (v0 : List Value) (p0 : Q) (hp0 : T_Q.rep G v0 p0) (O : Ow G H (L)) (r : ByteArray × Int) (h : g_rat_told K p0 = some r) :
    CR Tryd.prog 81 [.agg (List.toArray v0)] G H (L) (fun v G' _ => v = .tuple #[.string r.1, .int .i64 r.2]) := by
 unfold g_rat_told at h
 refine CR.of (calls_of_AW (n := 12) (fn := Tryd.f81) (R := fun v H' => ∃ G', Ow G' H' (L) ∧ G.le G' ∧ v = .tuple #[.string r.1, .int .i64 r.2]) (by kernel_rfl) rfl rfl ?_)
 refine .seq (.region (W.lo rfl rfl (Lo.box (r := T_Q) (x0 := p0) (v := (.agg (List.toArray v0))) rfl rfl hp0 O) ?_))
 rintro v4 H5 ⟨b2, rfl, O1, sm3⟩
 refine W.q1 (.string (⟨#[]⟩ : ByteArray)) rfl (W.q1 (.int .i64 0) rfl (.nil (.seq (.seq (.region ?_)))))
 obtain ⟨c6, p7, f8⟩ := (O1.atVar (j := 0) rfl)
 refine W.loadA (cs := c6) rfl rfl ag91 sz91 (pt_px rfl p7) (RT.len _ f8) ?_
 obtain ⟨x9, i10, h11⟩ := bd_inv h
 refine W.lo rfl rfl (Lo.callP (ps := []) (ps' := []) rfl (fn := Tryd.f94) (by kernel_rfl) rfl (mc rfl mn) O1 (fun L' O' => g_rat_Fits_ok K c6 p0 f8 O' _ i10)) ?_
 rintro v18 H19 ⟨G12, O13, s14, sm17, rfl⟩
 replace O13 : Ow G12 H19 (eVar b2 91 T_Q p0 :: L) := O13
 refine W.q1 (.int .i64 x9) rfl (.nil (.seq (.region (W.q2 (.int .i64 x9) rfl (W.q3 (.bool (x9 != 0)) rfl rfl (.nil ?_))))))
 refine .cond (b := (x9 != 0)) rfl rfl (fun g20 => ?_) (fun g20 => ?_)
 ·have h21 := pos_inv g20 h11
  refine .seq (.region (W.q2 (.int .i64 x9) rfl (W.q1 (.string (⟨#[]⟩ : ByteArray)) rfl (W.q1 (.int .i64 x9) rfl (.nil (.ret ?_))))))
  have O22 : Ow G12 H19 (L) := O13.drop 0
  obtain rfl := Option.some.inj h21
  refine ret2R (P := Tryd.prog) (fn := Tryd.f81) (n := 12) (R := fun v H' => ∃ G', Ow G' H' (L) ∧ G.le G' ∧ v = .tuple #[.string ((⟨#[]⟩ : ByteArray), x9).1, .int .i64 ((⟨#[]⟩ : ByteArray), x9).2]) (v1 := (.string (⟨#[]⟩ : ByteArray))) (v2 := (.int .i64 x9)) (by rfl) (rr_tmp (by rfl) (by exact rfl)) (rr_tmp (by rfl) (by exact rfl)) ?_
  exact ⟨_, O22, s14, rfl⟩
 have h23 := neg_b g20 h11
 refine .skip (.seq (.region ?_))
 obtain ⟨c24, p25, f26⟩ := (O13.atVar (j := 0) rfl)
 refine W.loadA (cs := c24) rfl rfl ag91 sz91 (pt_px rfl p25) (RT.len _ f26) ?_
 obtain ⟨x27, i28, h29⟩ := bd_inv h23
 refine W.lo rfl rfl (Lo.callP (ps := []) (ps' := []) rfl (fn := Tryd.f91) (by kernel_rfl) rfl (mc rfl mn) O13 (fun L' O' => g_rat_Q_Out_ok K c24 p0 f26 O' _ i28)) ?_
 rintro v36 H37 ⟨G30, O31, s32, sm35, rfl⟩
 replace O31 : Ow G30 H37 (eVar b2 91 T_Q p0 :: L) := O31
 refine W.q1 (.string x27) rfl (W.q1 (.int .i64 0) rfl (.nil (.ret ?_)))
 have O38 : Ow G30 H37 (L) := O31.drop 0
 obtain rfl := Option.some.inj h29
 refine ret2R (P := Tryd.prog) (fn := Tryd.f81) (n := 12) (R := fun v H' => ∃ G', Ow G' H' (L) ∧ G.le G' ∧ v = .tuple #[.string (x27, 0).1, .int .i64 (x27, 0).2]) (v1 := (.string x27)) (v2 := (.int .i64 0)) (by rfl) (rr_tmp (by rfl) (by exact rfl)) (rr_tmp (by rfl) (by exact rfl)) ?_
 exact ⟨_, O38, (GM.le.trans s14 s32), rfl⟩
def g_rat_Of (K : Nat) (p0 : Int) (p1 : Int) : Option (ByteArray × Int) := (if (p1 == 0) = true then some ((⟨#[]⟩ : ByteArray), 10) else ((g_rat_size K p0).bind fun x4 => ((g_rat_size K p1).bind fun x17 => ((g_rat_low K (!((decide (p0 < 0)) == (decide (p1 < 0)))) x4 x17).bind fun x38 => ((g_rat_told K x38).bind fun x51 => some (x51.1, x51.2))))))
set_option maxHeartbeats 4000000 in
theorem g_rat_Of_ok (K : Nat) {G : GM} {H : AH} {L : List Pc} (p0 : Int) (p1 : Int) (O : Ow G H (L)) (r : ByteArray × Int) (h : g_rat_Of K p0 p1 = some r) :
    CR Tryd.prog 36 [(.int .i64 p0), (.int .i64 p1)] G H (L) (fun v G' _ => v = .tuple #[.string r.1, .int .i64 r.2]) := by
 unfold g_rat_Of at h
 refine CR.of (calls_of_AW (n := 21) (fn := Tryd.f36) (R := fun v H' => ∃ G', Ow G' H' (L) ∧ G.le G' ∧ v = .tuple #[.string r.1, .int .i64 r.2]) (by kernel_rfl) rfl rfl ?_)
 refine .seq (.region (W.q1 (.string (⟨#[]⟩ : ByteArray)) rfl (W.q1 (.int .i64 0) rfl (.nil (.seq (.seq ?_))))))
 refine .region (W.q2 (.int .i64 p1) rfl (W.q3 (.bool (p1 == 0)) rfl rfl (.nil (.cond (b := (p1 == 0)) rfl rfl (fun g1 => ?_) (fun g1 => ?_)))))
 ·have h2 := pos_inv g1 h
  refine .seq (.region (W.q1 (.string (⟨#[]⟩ : ByteArray)) rfl (W.q1 (.int .i64 10) rfl (.nil (.ret ?_)))))
  obtain rfl := Option.some.inj h2
  refine ret2R (P := Tryd.prog) (fn := Tryd.f36) (n := 21) (R := fun v H' => ∃ G', Ow G' H' (L) ∧ G.le G' ∧ v = .tuple #[.string ((⟨#[]⟩ : ByteArray), 10).1, .int .i64 ((⟨#[]⟩ : ByteArray), 10).2]) (v1 := (.string (⟨#[]⟩ : ByteArray))) (v2 := (.int .i64 10)) (by rfl) (rr_tmp (by rfl) (by exact rfl)) (rr_tmp (by rfl) (by exact rfl)) ?_
  exact ⟨_, O, (GM.le.refl _), rfl⟩
 have h3 := neg_b g1 h
 refine .skip (.seq (.region (W.q2 (.int .i64 p0) rfl (W.q3 (.bool (decide (p0 < 0))) rfl rfl (W.q2 (.int .i64 p1) rfl (W.q3 (.bool (decide (p1 < 0))) rfl rfl ?_))))))
 refine W.pure (v := (.bool (!((decide (p0 < 0)) == (decide (p1 < 0)))))) rfl rfl (bool_neq (oo rfl rfl) (oo rfl rfl) un4) (W.q2 (.int .i64 p0) rfl ?_)
 obtain ⟨x4, i5, h6⟩ := bd_inv h3
 refine W.lo rfl rfl (Lo.callPF (ps := []) (pw := fun w => [eSl w 108 (rI .u32) x4]) rfl (fn := Tryd.f83) (by kernel_rfl) rfl (mc rfl mn) O (fun L' O' => g_rat_size_ok K p0 O' _ i5)) ?_
 rintro v15 H16 ⟨w12, G7, O8, s9, sm14, rfl⟩
 replace O8 : Ow G7 H16 (eSl w12 108 (rI .u32) x4 :: L) := O8
 refine W.q2 (.int .i64 p1) rfl ?_
 obtain ⟨x17, i18, h19⟩ := bd_inv h6
 refine W.lo rfl rfl (Lo.callPF (ps := []) (pw := fun w => [eSl w 108 (rI .u32) x17]) rfl (fn := Tryd.f83) (by kernel_rfl) rfl (mc rfl mn) O8 (fun L' O' => g_rat_size_ok K p1 O' _ i18)) ?_
 rintro v28 H29 ⟨w25, G20, O21, s22, sm27, rfl⟩
 replace O21 : Ow G20 H29 (eSl w25 108 (rI .u32) x17 :: eSl w12 108 (rI .u32) x4 :: L) := O21
 obtain ⟨G30, O31, s32, f33⟩ := O21.frzSl (j := 1) rfl
 replace O31 : Ow G30 H29 (eSl w25 108 (rI .u32) x17 :: L) := O31
 obtain ⟨G34, O35, s36, f37⟩ := O31.frzSl (j := 0) rfl
 replace O35 : Ow G34 H29 (L) := O35
 obtain ⟨x38, i39, h40⟩ := bd_inv h19
 refine W.lo rfl rfl (Lo.callP (ps := []) (ps' := []) rfl (fn := Tryd.f82) (by kernel_rfl) rfl (mc rfl (mc rfl (mc rfl mn))) O35 (fun L' O' => g_rat_low_ok K (!((decide (p0 < 0)) == (decide (p1 < 0)))) w12 x4 (RT.mono _ s36 f33) w25 x17 f37 O' _ i39)) ?_
 rintro v49 H50 ⟨G41, O42, s43, sm48, ⟨c45, rfl, f46⟩⟩
 replace O42 : Ow G41 H50 (L) := O42
 obtain ⟨x51, i52, h53⟩ := bd_inv h40
 refine W.lo rfl rfl (Lo.callP (ps := []) (ps' := []) rfl (fn := Tryd.f81) (by kernel_rfl) rfl (mc rfl mn) O42 (fun L' O' => g_rat_told_ok K c45 x38 f46 O' _ i52)) ?_
 rintro v60 H61 ⟨G54, O55, s56, sm59, rfl⟩
 replace O55 : Ow G54 H61 (L) := O55
 refine W.pure (v := (.string x51.1)) rfl rfl (v_extract (oo rfl rfl) rfl) (W.pure (v := (.int .i64 x51.2)) rfl rfl (v_extract (oo rfl rfl) rfl) (W.q1 (.string x51.1) rfl (W.q1 (.int .i64 x51.2) rfl (.nil (.ret ?_)))))
 obtain rfl := Option.some.inj h53
 refine ret2R (P := Tryd.prog) (fn := Tryd.f36) (n := 21) (R := fun v H' => ∃ G', Ow G' H' (L) ∧ G.le G' ∧ v = .tuple #[.string (x51.1, x51.2).1, .int .i64 (x51.1, x51.2).2]) (v1 := (.string x51.1)) (v2 := (.int .i64 x51.2)) (by rfl) (rr_tmp (by rfl) (by exact rfl)) (rr_tmp (by rfl) (by exact rfl)) ?_
 exact ⟨_, O55, (GM.le.trans s9 (GM.le.trans s22 (GM.le.trans s32 (GM.le.trans s36 (GM.le.trans s43 s56))))), rfl⟩
def g_internal_stringslite_CutPrefix (K : Nat) (p0 : ByteArray) (p1 : ByteArray) : Option (ByteArray × Bool) := ((g_internal_stringslite_HasPrefix K p0 p1).bind fun x1 => (if (!x1) = true then some (p0, false) else ((ssl p0 (p1.size : Int) (p0.size : Int)).bind fun x15 => some (x15, true))))
set_option maxHeartbeats 4000000 in
theorem g_internal_stringslite_CutPrefix_ok (K : Nat) {G : GM} {H : AH} {L : List Pc} (p0 : ByteArray) (p1 : ByteArray) (O : Ow G H (L)) (r : ByteArray × Bool) (h : g_internal_stringslite_CutPrefix K p0 p1 = some r) :
    CR Tryd.prog 111 [(.string p0), (.string p1)] G H (L) (fun v G' _ => v = .tuple #[.string r.1, .bool r.2]) := by
 unfold g_internal_stringslite_CutPrefix at h
 refine CR.of (calls_of_AW (n := 15) (fn := Tryd.f111) (R := fun v H' => ∃ G', Ow G' H' (L) ∧ G.le G' ∧ v = .tuple #[.string r.1, .bool r.2]) (by kernel_rfl) rfl rfl ?_)
 refine .seq (.region (W.q1 (.string (⟨#[]⟩ : ByteArray)) rfl (W.q1 (.bool false) rfl (.nil (.seq (.seq ?_))))))
 refine .region (W.q2 (.string p0) rfl (W.q2 (.string p1) rfl ?_))
 obtain ⟨x1, i2, h3⟩ := bd_inv h
 refine W.lo rfl rfl (Lo.callP (ps := []) (ps' := []) rfl (fn := Tryd.f124) (by kernel_rfl) rfl (mc rfl (mc rfl mn)) O (fun L' O' => g_internal_stringslite_HasPrefix_ok K p0 p1 O' _ i2)) ?_
 rintro v10 H11 ⟨G4, O5, s6, sm9, rfl⟩
 replace O5 : Ow G4 H11 (L) := O5
 refine W.pure (v := (.bool (!x1))) rfl rfl (bool_not (a := x1) (oo rfl rfl)) (.nil (.cond (b := (!x1)) rfl rfl (fun g12 => ?_) (fun g12 => ?_)))
 ·have h13 := pos_inv g12 h3
  refine .seq (.region (W.q2 (.string p0) rfl (W.q1 (.string p0) rfl (W.q1 (.bool false) rfl (.nil (.ret ?_))))))
  obtain rfl := Option.some.inj h13
  refine ret2R (P := Tryd.prog) (fn := Tryd.f111) (n := 15) (R := fun v H' => ∃ G', Ow G' H' (L) ∧ G.le G' ∧ v = .tuple #[.string (p0, false).1, .bool (p0, false).2]) (v1 := (.string p0)) (v2 := (.bool false)) (by rfl) (rr_tmp (by rfl) (by exact rfl)) (rr_tmp (by rfl) (by exact rfl)) ?_
  exact ⟨_, O5, s6, rfl⟩
 have h14 := neg_b g12 h3
 refine .skip (.seq (.region (W.q2 (.string p0) rfl (W.q2 (.string p1) rfl (W.pure (v := (.int .i64 (p1.size : Int))) rfl rfl (len_str (oo rfl rfl) un9) ?_)))))
 obtain ⟨x15, i16, h17⟩ := bd_inv h14
 refine W.pure (v := (.string x15)) rfl rfl (v_sslL un9 (oo rfl rfl) (oo rfl rfl) i16) (W.q1 (.string x15) rfl (W.q1 (.bool true) rfl (.nil (.ret ?_))))
 obtain rfl := Option.some.inj h17
 refine ret2R (P := Tryd.prog) (fn := Tryd.f111) (n := 15) (R := fun v H' => ∃ G', Ow G' H' (L) ∧ G.le G' ∧ v = .tuple #[.string (x15, true).1, .bool (x15, true).2]) (v1 := (.string x15)) (v2 := (.bool true)) (by rfl) (rr_tmp (by rfl) (by exact rfl)) (rr_tmp (by rfl) (by exact rfl)) ?_
 exact ⟨_, O5, s6, rfl⟩
def g_strings_CutPrefix (K : Nat) (p0 : ByteArray) (p1 : ByteArray) : Option (ByteArray × Bool) := ((g_internal_stringslite_CutPrefix K p0 p1).bind fun x1 => some (x1.1, x1.2))
set_option maxHeartbeats 4000000 in
theorem g_strings_CutPrefix_ok (K : Nat) {G : GM} {H : AH} {L : List Pc} (p0 : ByteArray) (p1 : ByteArray) (O : Ow G H (L)) (r : ByteArray × Bool) (h : g_strings_CutPrefix K p0 p1 = some r) :
    CR Tryd.prog 79 [(.string p0), (.string p1)] G H (L) (fun v G' _ => v = .tuple #[.string r.1, .bool r.2]) := by
 unfold g_strings_CutPrefix at h
 refine CR.of (calls_of_AW (n := 11) (fn := Tryd.f79) (R := fun v H' => ∃ G', Ow G' H' (L) ∧ G.le G' ∧ v = .tuple #[.string r.1, .bool r.2]) (by kernel_rfl) rfl rfl ?_)
 refine .seq (.region (W.q1 (.string (⟨#[]⟩ : ByteArray)) rfl (W.q1 (.bool false) rfl (.nil (.seq (.region ?_))))))
 refine W.q2 (.string p0) rfl (W.q2 (.string p1) rfl ?_)
 obtain ⟨x1, i2, h3⟩ := bd_inv h
 refine W.lo rfl rfl (Lo.callP (ps := []) (ps' := []) rfl (fn := Tryd.f111) (by kernel_rfl) rfl (mc rfl (mc rfl mn)) O (fun L' O' => g_internal_stringslite_CutPrefix_ok K p0 p1 O' _ i2)) ?_
 rintro v10 H11 ⟨G4, O5, s6, sm9, rfl⟩
 replace O5 : Ow G4 H11 (L) := O5
 refine W.pure (v := (.string x1.1)) rfl rfl (v_extract (oo rfl rfl) rfl) (W.pure (v := (.bool x1.2)) rfl rfl (v_extract (oo rfl rfl) rfl) (W.q1 (.string x1.1) rfl (W.q1 (.bool x1.2) rfl (.nil (.ret ?_)))))
 obtain rfl := Option.some.inj h3
 refine ret2R (P := Tryd.prog) (fn := Tryd.f79) (n := 11) (R := fun v H' => ∃ G', Ow G' H' (L) ∧ G.le G' ∧ v = .tuple #[.string (x1.1, x1.2).1, .bool (x1.1, x1.2).2]) (v1 := (.string x1.1)) (v2 := (.bool x1.2)) (by rfl) (rr_tmp (by rfl) (by exact rfl)) (rr_tmp (by rfl) (by exact rfl)) ?_
 exact ⟨_, O5, s6, rfl⟩
def g_internal_stringslite_Index (K : Nat) (p0 : ByteArray) (p1 : ByteArray) : Option Int := (Option.bind ((if ((p1.size : Int) == 0) = true then some true else some (sEq p1 p0))) (tu1 fun x8 => (if x8 = true then some 0 else (if ((p1.size : Int) == 1) = true then ((bidx p1 0).bind fun x23 => ((g_internal_stringslite_IndexByte K p0 x23).bind fun x26 => some x26)) else (if (decide ((p1.size : Int) ≥ (p0.size : Int))) = true then some (-1) else none)))))
set_option maxHeartbeats 4000000 in
theorem g_internal_stringslite_Index_ok (K : Nat) {G : GM} {H : AH} {L : List Pc} (p0 : ByteArray) (p1 : ByteArray) (O : Ow G H (L)) (r : Int) (h : g_internal_stringslite_Index K p0 p1 = some r) :
    CR Tryd.prog 125 [(.string p0), (.string p1)] G H (L) (fun v G' _ => v = .int .i64 r) := by
 unfold g_internal_stringslite_Index at h
 refine CR.of (calls_of_AW (n := 143) (fn := Tryd.f125) (R := fun v H' => ∃ G', Ow G' H' (L) ∧ G.le G' ∧ v = .int .i64 r) (by kernel_rfl) rfl rfl ?_)
 refine .seq (.region (W.q1 (.int .i64 0) rfl (.nil (.seq (.region (W.q2 (.string p1) rfl ?_))))))
 refine W.pure (v := (.int .i64 (p1.size : Int))) rfl rfl (len_str (oo rfl rfl) un9) (W.q1 (.int .i64 (p1.size : Int)) rfl (.nil (.seq (.block (.seq ?_)))))
 obtain ⟨q1, h2, h3⟩ := bd_inv h
 refine AW.midT (fun σ' H' => ∃ (y1 : Bool) (G' : GM), y1 = q1 ∧ Ow G' H' (L) ∧ GM.le G G' ∧ σ' 16 = .bool y1) ?_ ?_
 ·refine .region (W.q2 (.int .i64 (p1.size : Int)) rfl (W.q3 (.bool ((p1.size : Int) == 0)) rfl rfl (W.q2 (.bool ((p1.size : Int) == 0)) rfl (W.splitAt (t := 19) (b := ((p1.size : Int) == 0)) rfl (fun g4 gv5 => ?_) (fun g4 gv5 => ?_)))))
  ·have h6 := pos_inv g4 h2
   refine W.q6 rfl gv5 (W.q6 rfl gv5 (W.q6 rfl gv5 (W.q4 (.bool true) gv5 rfl (W.q1 (.bool true) rfl (.nil ?_)))))
   obtain rfl := Option.some.inj h6
   exact ⟨true, _, rfl, O, (GM.le.refl _), rfl⟩
  have h7 := neg_b g4 h2
  refine W.q2 (hg := gk rfl rfl gv5 rfl) (.string p1) rfl (W.q2 (hg := gk rfl rfl gv5 rfl) (.string p0) rfl (W.pure (v := (.bool (sEq p1 p0))) (gk rfl rfl gv5 rfl) rfl (vs_eql (oo rfl rfl) (oo rfl rfl)) (W.q5 (.bool (sEq p1 p0)) gv5 rfl (W.q1 (.bool (sEq p1 p0)) rfl (.nil ?_)))))
  obtain rfl := Option.some.inj h7
  exact ⟨sEq p1 p0, _, rfl, O, (GM.le.refl _), rfl⟩
 rintro σ9 H10 fr11 ⟨x8, G12, rfl, O13, s14, t16⟩
 have h17 := tu1_inv h3
 refine .cond (b := x8) rfl t16 (fun g18 => ?_) (fun g18 => ?_)
 ·have h19 := pos_inv g18 h17
  refine .seq (.region (W.q1 (.int .i64 0) rfl (.nil (.ret ?_))))
  obtain rfl := Option.some.inj h19
  refine ret1R (P := Tryd.prog) (fn := Tryd.f125) (n := 143) (R := fun v H' => ∃ G', Ow G' H' (L) ∧ G.le G' ∧ v = .int .i64 0) (v1 := (.int .i64 0)) (by rfl) (rr_tmp (by rfl) (by exact rfl)) ?_
  exact ⟨_, O13, s14, rfl⟩
 have h20 := neg_b g18 h17
 refine .seq (.region (W.q2 (.int .i64 (p1.size : Int)) ((fr11 5 rfl).trans rfl) (W.q3 (.bool ((p1.size : Int) == 1)) rfl rfl (W.q1 (.bool ((p1.size : Int) == 1)) rfl (.nil (.cond (b := ((p1.size : Int) == 1)) rfl rfl (fun g21 => ?_) (fun g21 => ?_)))))))
 ·have h22 := pos_inv g21 h20
  refine .seq (.region (W.q2 (.string p0) ((fr11 0 rfl).trans rfl) (W.q2 (.string p1) ((fr11 1 rfl).trans rfl) ?_)))
  obtain ⟨x23, i24, h25⟩ := bd_inv h22
  refine W.pure (v := (.int .u8 x23)) rfl rfl (v_sidx un9 (oo rfl rfl) (oo rfl rfl) i24) ?_
  obtain ⟨x26, i27, h28⟩ := bd_inv h25
  refine W.lo rfl rfl (Lo.callP (ps := []) (ps' := []) rfl (fn := Tryd.f133) (by kernel_rfl) rfl (mc rfl (mc rfl mn)) O13 (fun L' O' => g_internal_stringslite_IndexByte_ok K p0 x23 O' _ i27)) ?_
  rintro v35 H36 ⟨G29, O30, s31, sm34, rfl⟩
  replace O30 : Ow G29 H36 (L) := O30
  refine W.q1 (.int .i64 x26) rfl (.nil (.ret ?_))
  obtain rfl := Option.some.inj h28
  refine ret1R (P := Tryd.prog) (fn := Tryd.f125) (n := 143) (R := fun v H' => ∃ G', Ow G' H' (L) ∧ G.le G' ∧ v = .int .i64 x26) (v1 := (.int .i64 x26)) (by rfl) (rr_tmp (by rfl) (by exact rfl)) ?_
  exact ⟨_, O30, (GM.le.trans s14 s31), rfl⟩
 have h37 := neg_b g21 h20
 refine .seq (.region (W.q2 (.int .i64 (p1.size : Int)) ((fr11 5 rfl).trans rfl) (W.q2 (.string p0) ((fr11 0 rfl).trans rfl) (W.pure (v := (.int .i64 (p0.size : Int))) rfl rfl (len_str (oo rfl rfl) un9) (W.q3 (.bool (decide ((p1.size : Int) ≥ (p0.size : Int)))) rfl rfl (W.q1 (.bool (decide ((p1.size : Int) ≥ (p0.size : Int)))) rfl ?_))))))
 refine .nil (.cond (b := decide ((p1.size : Int) ≥ (p0.size : Int))) rfl rfl (fun g38 => ?_) (fun g38 => ?_))
 rotate_left
 ·have h40 := neg_b g38 h37
  refine .seq (.region (W.q2 (.int .i64 (p1.size : Int)) ((fr11 5 rfl).trans rfl) ?_))
  exact gap h40
 have h39 := pos_inv g38 h37
 refine .seq (.region (W.q1 (.int .i64 (-1)) rfl (.nil (.ret ?_))))
 obtain rfl := Option.some.inj h39
 refine ret1R (P := Tryd.prog) (fn := Tryd.f125) (n := 143) (R := fun v H' => ∃ G', Ow G' H' (L) ∧ G.le G' ∧ v = .int .i64 (-1)) (v1 := (.int .i64 (-1))) (by rfl) (rr_tmp (by rfl) (by exact rfl)) ?_
 exact ⟨_, O13, s14, rfl⟩
def g_internal_stringslite_Cut (K : Nat) (p0 : ByteArray) (p1 : ByteArray) : Option (ByteArray × ByteArray × Bool) := ((g_internal_stringslite_Index K p0 p1).bind fun x1 => (if (decide (x1 ≥ 0)) = true then ((ssl p0 0 x1).bind fun x19 => ((ssl p0 (kwrap .i64 (x1 + (p1.size : Int))) (p0.size : Int)).bind fun x22 => some (x19, x22, true))) else some (p0, (⟨#[]⟩ : ByteArray), false)))
set_option maxHeartbeats 4000000 in
theorem g_internal_stringslite_Cut_ok (K : Nat) {G : GM} {H : AH} {L : List Pc} (p0 : ByteArray) (p1 : ByteArray) (O : Ow G H (L)) (r : ByteArray × ByteArray × Bool) (h : g_internal_stringslite_Cut K p0 p1 = some r) :
    CR Tryd.prog 112 [(.string p0), (.string p1)] G H (L) (fun v G' _ => v = .tuple #[.string r.1, .string r.2.1, .bool r.2.2]) := by
 unfold g_internal_stringslite_Cut at h
 refine CR.of (calls_of_AW (n := 23) (fn := Tryd.f112) (R := fun v H' => ∃ G', Ow G' H' (L) ∧ G.le G' ∧ v = .tuple #[.string r.1, .string r.2.1, .bool r.2.2]) (by kernel_rfl) rfl rfl ?_)
 refine .seq (.region (W.q1 (.string (⟨#[]⟩ : ByteArray)) rfl (W.q1 (.string (⟨#[]⟩ : ByteArray)) rfl (W.q1 (.bool false) rfl (.nil (.seq ?_))))))
 refine .seq (.region (W.q2 (.string p0) rfl (W.q2 (.string p1) rfl ?_)))
 obtain ⟨x1, i2, h3⟩ := bd_inv h
 refine W.lo rfl rfl (Lo.callP (ps := []) (ps' := []) rfl (fn := Tryd.f125) (by kernel_rfl) rfl (mc rfl (mc rfl mn)) O (fun L' O' => g_internal_stringslite_Index_ok K p0 p1 O' _ i2)) ?_
 rintro v10 H11 ⟨G4, O5, s6, sm9, rfl⟩
 replace O5 : Ow G4 H11 (L) := O5
 refine W.q1 (.int .i64 x1) rfl (.nil (.seq (.region (W.q2 (.int .i64 x1) rfl (W.q3 (.bool (decide (x1 ≥ 0))) rfl rfl (.nil ?_))))))
 refine .cond (b := decide (x1 ≥ 0)) rfl rfl (fun g12 => ?_) (fun g12 => ?_)
 rotate_left
 ·have h25 := neg_b g12 h3
  refine .skip (.seq (.region (W.q2 (.string p0) rfl (W.q1 (.string p0) rfl (W.q1 (.string (⟨#[]⟩ : ByteArray)) rfl (W.q1 (.bool false) rfl ?_))))))
  refine .nil (.ret ?_)
  obtain rfl := Option.some.inj h25
  refine ret3R (P := Tryd.prog) (fn := Tryd.f112) (n := 23) (R := fun v H' => ∃ G', Ow G' H' (L) ∧ G.le G' ∧ v = .tuple #[.string (p0, (⟨#[]⟩ : ByteArray), false).1, .string (p0, (⟨#[]⟩ : ByteArray), false).2.1, .bool (p0, (⟨#[]⟩ : ByteArray), false).2.2]) (v1 := (.string p0)) (v2 := (.string (⟨#[]⟩ : ByteArray))) (v3 := (.bool false)) (by rfl) (rr_tmp (by rfl) (by exact rfl)) (rr_tmp (by rfl) (by exact rfl)) (rr_tmp (by rfl) (by exact rfl)) ?_
  exact ⟨_, O5, s6, rfl⟩
 have h13 := pos_inv g12 h3
 refine .seq (.draw2 (M := [0, 0, 3, 0, 0, 0, 32, 112, 248, 7, 1023, 2047]) mixed (by kernel_rfl) (by kernel_rfl) fun H14 N18 x15 F17 => ?_)
 have O16 := O5.ext x15
 refine D2.q2 (.string p0) rfl (D2.q2 (.int .i64 x1) rfl ?_)
 obtain ⟨x19, i20, h21⟩ := bd_inv h13
 refine D2.pure (v := (.string x19)) rfl rfl (v_sslH un9 (oo rfl rfl) (oo rfl rfl) i20) (D2.q2 (.string p0) rfl (D2.q2 (.int .i64 x1) rfl (D2.q2 (.string p1) rfl (D2.pure (v := (.int .i64 (p1.size : Int))) rfl rfl (len_str (oo rfl rfl) un9) (D2.q3 (.int .i64 (kwrap .i64 (x1 + (p1.size : Int)))) rfl rfl ?_)))))
 obtain ⟨x22, i23, h24⟩ := bd_inv h21
 refine D2.pure (v := (.string x22)) rfl rfl (v_sslL un9 (oo rfl rfl) (oo rfl rfl) i23) (D2.q1 (.string x19) rfl (D2.q1 (.string x22) rfl (D2.q1 (.bool true) rfl (.nil (.ret ?_)))))
 obtain rfl := Option.some.inj h24
 refine ret3R (P := Tryd.prog) (fn := Tryd.f112) (n := 23) (R := fun v H' => ∃ G', Ow G' H' (L) ∧ G.le G' ∧ v = .tuple #[.string (x19, x22, true).1, .string (x19, x22, true).2.1, .bool (x19, x22, true).2.2]) (v1 := (.string x19)) (v2 := (.string x22)) (v3 := (.bool true)) (by rfl) (rr_tmp (by rfl) (by exact rfl)) (rr_tmp (by rfl) (by exact rfl)) (rr_tmp (by rfl) (by exact rfl)) ?_
 exact ⟨_, O16, s6, rfl⟩
def g_strings_Cut (K : Nat) (p0 : ByteArray) (p1 : ByteArray) : Option (ByteArray × ByteArray × Bool) := ((g_internal_stringslite_Cut K p0 p1).bind fun x1 => some (x1.1, x1.2.1, x1.2.2))
set_option maxHeartbeats 4000000 in
theorem g_strings_Cut_ok (K : Nat) {G : GM} {H : AH} {L : List Pc} (p0 : ByteArray) (p1 : ByteArray) (O : Ow G H (L)) (r : ByteArray × ByteArray × Bool) (h : g_strings_Cut K p0 p1 = some r) :
    CR Tryd.prog 80 [(.string p0), (.string p1)] G H (L) (fun v G' _ => v = .tuple #[.string r.1, .string r.2.1, .bool r.2.2]) := by
 unfold g_strings_Cut at h
 refine CR.of (calls_of_AW (n := 13) (fn := Tryd.f80) (R := fun v H' => ∃ G', Ow G' H' (L) ∧ G.le G' ∧ v = .tuple #[.string r.1, .string r.2.1, .bool r.2.2]) (by kernel_rfl) rfl rfl ?_)
 refine .seq (.region (W.q1 (.string (⟨#[]⟩ : ByteArray)) rfl (W.q1 (.string (⟨#[]⟩ : ByteArray)) rfl (W.q1 (.bool false) rfl (.nil (.seq ?_))))))
 refine .region (W.q2 (.string p0) rfl (W.q2 (.string p1) rfl ?_))
 obtain ⟨x1, i2, h3⟩ := bd_inv h
 refine W.lo rfl rfl (Lo.callP (ps := []) (ps' := []) rfl (fn := Tryd.f112) (by kernel_rfl) rfl (mc rfl (mc rfl mn)) O (fun L' O' => g_internal_stringslite_Cut_ok K p0 p1 O' _ i2)) ?_
 rintro v10 H11 ⟨G4, O5, s6, sm9, rfl⟩
 replace O5 : Ow G4 H11 (L) := O5
 refine W.pure (v := (.string x1.1)) rfl rfl (v_extract (oo rfl rfl) rfl) (W.pure (v := (.string x1.2.1)) rfl rfl (v_extract (oo rfl rfl) rfl) (W.pure (v := (.bool x1.2.2)) rfl rfl (v_extract (oo rfl rfl) rfl) (W.q1 (.string x1.1) rfl (W.q1 (.string x1.2.1) rfl (W.q1 (.bool x1.2.2) rfl (.nil ?_))))))
 refine .ret ?_
 obtain rfl := Option.some.inj h3
 refine ret3R (P := Tryd.prog) (fn := Tryd.f80) (n := 13) (R := fun v H' => ∃ G', Ow G' H' (L) ∧ G.le G' ∧ v = .tuple #[.string (x1.1, x1.2.1, x1.2.2).1, .string (x1.1, x1.2.1, x1.2.2).2.1, .bool (x1.1, x1.2.1, x1.2.2).2.2]) (v1 := (.string x1.1)) (v2 := (.string x1.2.1)) (v3 := (.bool x1.2.2)) (by rfl) (rr_tmp (by rfl) (by exact rfl)) (rr_tmp (by rfl) (by exact rfl)) (rr_tmp (by rfl) (by exact rfl)) ?_
 exact ⟨_, O5, s6, rfl⟩
def g_rat_Check (K : Nat) (p0 : ByteArray) : Option Int := ((g_strings_CutPrefix K p0 (⟨#[45]⟩ : ByteArray)).bind fun x1 => ((g_strings_Cut K x1.1 (⟨#[47]⟩ : ByteArray)).bind fun x12 => ((g_nat_Check K x12.1).bind fun x23 => (Option.bind ((if x12.2.2 = true then ((g_nat_Check K x12.2.1).bind fun x39 => some x39) else some 0)) (tu1 fun x51 => (Option.bind ((if (x23 == 5) = true then some true else (if (x51 == 5) = true then some true else (if x1.2 = true then some (sEq x12.1 (⟨#[48]⟩ : ByteArray)) else some false)))) (tu1 fun x76 => (if x76 = true then some 5 else (Option.bind ((if (x23 != 0) = true then some true else some (x51 != 0))) (tu1 fun x96 => (if x96 = true then some 2 else (Option.bind ((if x12.2.2 = true then (if (sEq x12.2.1 (⟨#[48]⟩ : ByteArray)) = true then some true else (if (sEq x12.2.1 (⟨#[49]⟩ : ByteArray)) = true then some true else ((g_nat_Read K x12.1).bind fun x123 => ((g_nat_Read K x12.2.1).bind fun x136 => ((g_nat_N_Gcd K x123 x136).bind fun x157 => ((g_nat_Of K 1).bind fun x170 => ((g_nat_N_Cmp K x157 x170).bind fun x183 => some (x183 != 0)))))))) else some false)) (tu1 fun x196 => (if x196 = true then some 3 else some 0))))))))))))))
set_option maxHeartbeats 4000000 in
theorem g_rat_Check_ok (K : Nat) {G : GM} {H : AH} {L : List Pc} (p0 : ByteArray) (O : Ow G H (L)) (r : Int) (h : g_rat_Check K p0 = some r) :
    CR Tryd.prog 32 [(.string p0)] G H (L) (fun v G' _ => v = .int .i64 r) := by
 unfold g_rat_Check at h
 refine CR.of (calls_of_AW (n := 64) (fn := Tryd.f32) (R := fun v H' => ∃ G', Ow G' H' (L) ∧ G.le G' ∧ v = .int .i64 r) (by kernel_rfl) rfl rfl ?_)
 refine .seq (.region (W.q1 (.int .i64 0) rfl (.nil (.seq (.region (W.q2 (.string p0) rfl ?_))))))
 obtain ⟨x1, i2, h3⟩ := bd_inv h
 refine W.lo rfl rfl (Lo.callP (ps := []) (ps' := []) rfl (fn := Tryd.f79) (by kernel_rfl) rfl (mc rfl (mc rfl mn)) O (fun L' O' => g_strings_CutPrefix_ok K p0 (⟨#[45]⟩ : ByteArray) O' _ i2)) ?_
 rintro v10 H11 ⟨G4, O5, s6, sm9, rfl⟩
 replace O5 : Ow G4 H11 (L) := O5
 refine W.q2 (.tuple #[(.string x1.1), (.bool x1.2)]) rfl (W.pure (v := (.string x1.1)) rfl rfl (v_extract (oo rfl rfl) rfl) (W.pure (v := (.bool x1.2)) rfl rfl (v_extract (oo rfl rfl) rfl) (W.q1 (.string x1.1) rfl (W.q1 (.bool x1.2) rfl (.nil (.seq ?_))))))
 refine .region (W.q2 (.string x1.1) rfl ?_)
 obtain ⟨x12, i13, h14⟩ := bd_inv h3
 refine W.lo rfl rfl (Lo.callP (ps := []) (ps' := []) rfl (fn := Tryd.f80) (by kernel_rfl) rfl (mc rfl (mc rfl mn)) O5 (fun L' O' => g_strings_Cut_ok K x1.1 (⟨#[47]⟩ : ByteArray) O' _ i13)) ?_
 rintro v21 H22 ⟨G15, O16, s17, sm20, rfl⟩
 replace O16 : Ow G15 H22 (L) := O16
 refine W.q2 (.tuple #[(.string x12.1), (.string x12.2.1), (.bool x12.2.2)]) rfl (W.pure (v := (.string x12.1)) rfl rfl (v_extract (oo rfl rfl) rfl) (W.pure (v := (.string x12.2.1)) rfl rfl (v_extract (oo rfl rfl) rfl) (W.pure (v := (.bool x12.2.2)) rfl rfl (v_extract (oo rfl rfl) rfl) (W.q1 (.string x12.1) rfl (W.q1 (.string x12.2.1) rfl (W.q1 (.bool x12.2.2) rfl ?_))))))
 refine .nil (.seq (.region (W.q2 (.string x12.1) rfl ?_)))
 obtain ⟨x23, i24, h25⟩ := bd_inv h14
 refine W.lo rfl rfl (Lo.callP (ps := []) (ps' := []) rfl (fn := Tryd.f14) (by kernel_rfl) rfl (mc rfl mn) O16 (fun L' O' => g_nat_Check_ok K x12.1 O' _ i24)) ?_
 rintro v32 H33 ⟨G26, O27, s28, sm31, rfl⟩
 replace O27 : Ow G26 H33 (L) := O27
 refine W.q1 (.int .i64 x23) rfl (W.q1 (.int .i64 0) rfl (.nil (.seq (.seq (.region (W.q2 (.bool x12.2.2) rfl ?_))))))
 refine .nil ?_
 obtain ⟨q34, h35, h36⟩ := bd_inv h25
 refine AW.midT (fun σ' H' => ∃ (y1 : Int) (G' : GM), y1 = q34 ∧ Ow G' H' (L) ∧ GM.le G26 G' ∧ σ' 9 = .int .i64 y1) ?_ ?_
 ·refine .cond (b := x12.2.2) rfl rfl (fun g37 => ?_) (fun g37 => ?_)
  rotate_left
  ·have h50 := neg_b g37 h35
   refine .skip ?_
   obtain rfl := Option.some.inj h50
   exact ⟨0, _, rfl, O27, (GM.le.refl _), rfl⟩
  have h38 := pos_inv g37 h35
  refine .region (W.q2 (.string x12.2.1) rfl ?_)
  obtain ⟨x39, i40, h41⟩ := bd_inv h38
  refine W.lo rfl rfl (Lo.callP (ps := []) (ps' := []) rfl (fn := Tryd.f14) (by kernel_rfl) rfl (mc rfl mn) O27 (fun L' O' => g_nat_Check_ok K x12.2.1 O' _ i40)) ?_
  rintro v48 H49 ⟨G42, O43, s44, sm47, rfl⟩
  replace O43 : Ow G42 H49 (L) := O43
  refine W.q1 (.int .i64 x39) rfl (.nil ?_)
  obtain rfl := Option.some.inj h41
  exact ⟨x39, _, rfl, O43, s44, rfl⟩
 rintro σ52 H53 fr54 ⟨x51, G55, rfl, O56, s57, t59⟩
 have h60 := tu1_inv h36
 refine .seq (.seq ?_)
 obtain ⟨q61, h62, h63⟩ := bd_inv h60
 refine AW.midT (fun σ' H' => ∃ (y1 : Bool) (G' : GM), y1 = q61 ∧ Ow G' H' (L) ∧ GM.le G55 G' ∧ σ' 38 = .bool y1) ?_ ?_
 ·refine .region (W.q2 (.int .i64 x23) ((fr54 8 rfl).trans rfl) (W.q3 (.bool (x23 == 5)) rfl rfl (W.q2 (.bool (x23 == 5)) rfl (W.splitAt (t := 28) (b := (x23 == 5)) rfl (fun g64 gv65 => ?_) (fun g64 gv65 => ?_)))))
  ·have h66 := pos_inv g64 h62
   refine W.q6 rfl gv65 (W.q6 rfl gv65 (W.q4 (.bool true) gv65 rfl (W.q2 (.bool true) rfl (W.q6 rfl rfl (W.q6 rfl rfl (W.skipU rfl rfl rfl rfl ?_))))))
   refine W.skipU rfl rfl rfl rfl (W.q6 rfl rfl (W.q4 (.bool true) rfl rfl (.nil ?_)))
   obtain rfl := Option.some.inj h66
   exact ⟨true, _, rfl, O56, (GM.le.refl _), rfl⟩
  have h67 := neg_b g64 h62
  refine W.q2 (hg := gk rfl rfl gv65 rfl) (.int .i64 x51) t59 (W.q3 (hg := gk rfl rfl gv65 rfl) (.bool (x51 == 5)) rfl rfl (W.q5 (.bool (x51 == 5)) gv65 rfl (W.q2 (.bool (x51 == 5)) rfl (W.splitAt (t := 32) (b := (x51 == 5)) rfl (fun g68 gv69 => ?_) (fun g68 gv69 => ?_)))))
  ·have h70 := pos_inv g68 h67
   refine W.q6 rfl gv69 (W.q6 rfl gv69 (W.skipU rfl rfl rfl rfl (W.skipU rfl rfl rfl rfl (W.q6 rfl gv69 (W.q4 (.bool true) gv69 rfl (.nil ?_))))))
   obtain rfl := Option.some.inj h70
   exact ⟨true, _, rfl, O56, (GM.le.refl _), rfl⟩
  have h71 := neg_b g68 h67
  refine W.q2 (hg := gk rfl rfl gv69 rfl) (.bool x1.2) ((fr54 4 rfl).trans rfl) (W.q2 (hg := gk rfl rfl gv69 rfl) (.bool x1.2) rfl (W.splitAt (t := 34) (b := x1.2) rfl (fun g72 gv73 => ?_) (fun g72 gv73 => ?_)))
  rotate_left
  ·have h75 := neg_b g72 h71
   refine W.q6 rfl gv73 (W.q6 rfl gv73 (W.q5 (hg := gk rfl rfl gv69 rfl) (.bool false) gv73 rfl (W.q5 (.bool false) gv69 rfl (.nil ?_))))
   obtain rfl := Option.some.inj h75
   exact ⟨false, _, rfl, O56, (GM.le.refl _), rfl⟩
  have h74 := pos_inv g72 h71
  refine W.q2 (hg := gk rfl rfl gv73 rfl) (.string x12.1) ((fr54 5 rfl).trans rfl) (W.pure (v := (.bool (sEq x12.1 (⟨#[48]⟩ : ByteArray)))) (gk rfl rfl gv73 rfl) rfl (vs_eql (oo rfl rfl) (oo rfl rfl)) (W.q4 (hg := gk rfl rfl gv69 rfl) (.bool (sEq x12.1 (⟨#[48]⟩ : ByteArray))) gv73 rfl (W.q5 (.bool (sEq x12.1 (⟨#[48]⟩ : ByteArray))) gv69 rfl (.nil ?_))))
  obtain rfl := Option.some.inj h74
  exact ⟨sEq x12.1 (⟨#[48]⟩ : ByteArray), _, rfl, O56, (GM.le.refl _), rfl⟩
 rintro σ77 H78 fr79 ⟨x76, G80, rfl, O81, s82, t84⟩
 have h85 := tu1_inv h63
 refine .cond (b := x76) rfl t84 (fun g86 => ?_) (fun g86 => ?_)
 ·have h87 := pos_inv g86 h85
  refine .seq (.region (W.q1 (.int .i64 5) rfl (.nil (.ret ?_))))
  obtain rfl := Option.some.inj h87
  refine ret1R (P := Tryd.prog) (fn := Tryd.f32) (n := 64) (R := fun v H' => ∃ G', Ow G' H' (L) ∧ G.le G' ∧ v = .int .i64 5) (v1 := (.int .i64 5)) (by rfl) (rr_tmp (by rfl) (by exact rfl)) ?_
  exact ⟨_, O81, (GM.le.trans s6 (GM.le.trans s17 (GM.le.trans s28 (GM.le.trans s57 s82)))), rfl⟩
 have h88 := neg_b g86 h85
 refine .skip (.seq (.seq ?_))
 obtain ⟨q89, h90, h91⟩ := bd_inv h88
 refine AW.midT (fun σ' H' => ∃ (y1 : Bool) (G' : GM), y1 = q89 ∧ Ow G' H' (L) ∧ GM.le G80 G' ∧ σ' 44 = .bool y1) ?_ ?_
 ·refine .region (W.q2 (.int .i64 x23) ((fr79 8 rfl).trans ((fr54 8 rfl).trans rfl)) (W.q3 (.bool (x23 != 0)) rfl rfl (W.q2 (.bool (x23 != 0)) rfl (W.splitAt (t := 41) (b := (x23 != 0)) rfl (fun g92 gv93 => ?_) (fun g92 gv93 => ?_)))))
  ·have h94 := pos_inv g92 h90
   refine W.q6 rfl gv93 (W.q6 rfl gv93 (W.q4 (.bool true) gv93 rfl (.nil ?_)))
   obtain rfl := Option.some.inj h94
   exact ⟨true, _, rfl, O81, (GM.le.refl _), rfl⟩
  have h95 := neg_b g92 h90
  refine W.q2 (hg := gk rfl rfl gv93 rfl) (.int .i64 x51) ((fr79 9 rfl).trans t59) (W.q3 (hg := gk rfl rfl gv93 rfl) (.bool (x51 != 0)) rfl rfl (W.q5 (.bool (x51 != 0)) gv93 rfl (.nil ?_)))
  obtain rfl := Option.some.inj h95
  exact ⟨(x51 != 0), _, rfl, O81, (GM.le.refl _), rfl⟩
 rintro σ97 H98 fr99 ⟨x96, G100, rfl, O101, s102, t104⟩
 have h105 := tu1_inv h91
 refine .cond (b := x96) rfl t104 (fun g106 => ?_) (fun g106 => ?_)
 ·have h107 := pos_inv g106 h105
  refine .seq (.region (W.q1 (.int .i64 2) rfl (.nil (.ret ?_))))
  obtain rfl := Option.some.inj h107
  refine ret1R (P := Tryd.prog) (fn := Tryd.f32) (n := 64) (R := fun v H' => ∃ G', Ow G' H' (L) ∧ G.le G' ∧ v = .int .i64 2) (v1 := (.int .i64 2)) (by rfl) (rr_tmp (by rfl) (by exact rfl)) ?_
  exact ⟨_, O101, (GM.le.trans s6 (GM.le.trans s17 (GM.le.trans s28 (GM.le.trans s57 (GM.le.trans s82 s102))))), rfl⟩
 have h108 := neg_b g106 h105
 refine .skip (.seq (.seq ?_))
 obtain ⟨q109, h110, h111⟩ := bd_inv h108
 refine AW.midT (fun σ' H' => ∃ (y1 : Bool) (G' : GM), y1 = q109 ∧ Ow G' H' (L) ∧ GM.le G100 G' ∧ σ' 63 = .bool y1) ?_ ?_
 rotate_left
 ·rintro σ197 H198 fr199 ⟨x196, G200, rfl, O201, s202, t204⟩
  have h205 := tu1_inv h111
  refine .cond (b := x196) rfl t204 (fun g206 => ?_) (fun g206 => ?_)
  ·have h207 := pos_inv g206 h205
   refine .seq (.region (W.q1 (.int .i64 3) rfl (.nil (.ret ?_))))
   obtain rfl := Option.some.inj h207
   refine ret1R (P := Tryd.prog) (fn := Tryd.f32) (n := 64) (R := fun v H' => ∃ G', Ow G' H' (L) ∧ G.le G' ∧ v = .int .i64 3) (v1 := (.int .i64 3)) (by rfl) (rr_tmp (by rfl) (by exact rfl)) ?_
   exact ⟨_, O201, (GM.le.trans s6 (GM.le.trans s17 (GM.le.trans s28 (GM.le.trans s57 (GM.le.trans s82 (GM.le.trans s102 s202)))))), rfl⟩
  have h208 := neg_b g206 h205
  refine .skip (.seq (.region (W.q1 (.int .i64 0) rfl (.nil (.ret ?_)))))
  obtain rfl := Option.some.inj h208
  refine ret1R (P := Tryd.prog) (fn := Tryd.f32) (n := 64) (R := fun v H' => ∃ G', Ow G' H' (L) ∧ G.le G' ∧ v = .int .i64 0) (v1 := (.int .i64 0)) (by rfl) (rr_tmp (by rfl) (by exact rfl)) ?_
  exact ⟨_, O201, (GM.le.trans s6 (GM.le.trans s17 (GM.le.trans s28 (GM.le.trans s57 (GM.le.trans s82 (GM.le.trans s102 s202)))))), rfl⟩
 refine .region (W.q2 (.bool x12.2.2) ((fr99 7 rfl).trans ((fr79 7 rfl).trans ((fr54 7 rfl).trans rfl))) (W.q2 (.bool x12.2.2) rfl (W.splitAt (t := 46) (b := x12.2.2) rfl (fun g112 gv113 => ?_) (fun g112 gv113 => ?_))))
 rotate_left
 ·have h195 := neg_b g112 h110
  refine W.q6 rfl gv113 (W.q6 rfl gv113 (W.q6 rfl gv113 (W.skipU rfl rfl rfl rfl (W.skipU rfl rfl rfl rfl (W.q6 rfl gv113 (W.q6 rfl gv113 ?_))))))
  refine W.skipU rfl rfl rfl rfl (W.skipU rfl rfl rfl rfl (W.skipU rfl rfl rfl rfl (W.skipU rfl rfl rfl rfl (W.skipU rfl rfl rfl rfl (W.skipU rfl rfl rfl rfl (W.skipU rfl rfl rfl rfl ?_))))))
  refine W.skipU rfl rfl rfl rfl (W.q6 rfl gv113 (W.q5 (.bool false) gv113 rfl (.nil ?_)))
  obtain rfl := Option.some.inj h195
  exact ⟨false, _, rfl, O101, (GM.le.refl _), rfl⟩
 have h114 := pos_inv g112 h110
 refine W.q2 (hg := gk rfl rfl gv113 rfl) (.string x12.2.1) ((fr99 6 rfl).trans ((fr79 6 rfl).trans ((fr54 6 rfl).trans rfl))) (W.pure (v := (.bool (sEq x12.2.1 (⟨#[48]⟩ : ByteArray)))) (gk rfl rfl gv113 rfl) rfl (vs_eql (oo rfl rfl) (oo rfl rfl)) (W.q2 (hg := gk rfl rfl gv113 rfl) (.bool (sEq x12.2.1 (⟨#[48]⟩ : ByteArray))) rfl (W.splitAt (t := 49) (b := sEq x12.2.1 (⟨#[48]⟩ : ByteArray)) rfl (fun g115 gv116 => ?_) (fun g115 gv116 => ?_))))
 ·have h117 := pos_inv g115 h114
  refine W.q6 rfl gv116 (W.q6 rfl gv116 (W.q4 (hg := gk rfl rfl gv113 rfl) (.bool true) gv116 rfl (W.q2 (hg := gk rfl rfl gv113 rfl) (.bool true) rfl (W.q6 rfl rfl (W.q6 rfl rfl (W.q6 rfl rfl ?_))))))
  refine W.q6 rfl rfl (W.q6 rfl rfl (W.q6 rfl rfl (W.q6 rfl rfl (W.q6 rfl rfl (W.q4 (hg := gk rfl rfl gv113 rfl) (.bool true) rfl rfl (W.q4 (.bool true) gv113 rfl ?_))))))
  refine .nil ?_
  obtain rfl := Option.some.inj h117
  exact ⟨true, _, rfl, O101, (GM.le.refl _), rfl⟩
 have h118 := neg_b g115 h114
 refine W.q2 (hg := gk rfl rfl gv116 rfl) (.string x12.2.1) ((fr99 6 rfl).trans ((fr79 6 rfl).trans ((fr54 6 rfl).trans rfl))) (W.pure (v := (.bool (sEq x12.2.1 (⟨#[49]⟩ : ByteArray)))) (gk rfl rfl gv116 rfl) rfl (vs_eql (oo rfl rfl) (oo rfl rfl)) (W.q5 (hg := gk rfl rfl gv113 rfl) (.bool (sEq x12.2.1 (⟨#[49]⟩ : ByteArray))) gv116 rfl (W.q2 (hg := gk rfl rfl gv113 rfl) (.bool (sEq x12.2.1 (⟨#[49]⟩ : ByteArray))) rfl (W.splitAt (t := 53) (b := sEq x12.2.1 (⟨#[49]⟩ : ByteArray)) rfl (fun g119 gv120 => ?_) (fun g119 gv120 => ?_)))))
 ·have h121 := pos_inv g119 h118
  refine W.q6 rfl gv120 (W.q6 rfl gv120 (W.q6 rfl gv120 (W.q6 rfl gv120 (W.q6 rfl gv120 (W.q6 rfl gv120 (W.q6 rfl gv120 ?_))))))
  refine W.q6 rfl gv120 (W.q4 (hg := gk rfl rfl gv113 rfl) (.bool true) gv120 rfl (W.q4 (.bool true) gv113 rfl (.nil ?_)))
  obtain rfl := Option.some.inj h121
  exact ⟨true, _, rfl, O101, (GM.le.refl _), rfl⟩
 have h122 := neg_b g119 h118
 refine W.q2 (hg := gk rfl rfl gv120 rfl) (.string x12.1) ((fr99 5 rfl).trans ((fr79 5 rfl).trans ((fr54 5 rfl).trans rfl))) ?_
 obtain ⟨x123, i124, h125⟩ := bd_inv h122
 refine W.lo (gk rfl rfl gv120 rfl) rfl (Lo.callPF (ps := []) (pw := fun w => [eSl w 108 (rI .u32) x123]) rfl (fn := Tryd.f70) (by kernel_rfl) rfl (mc rfl mn) O101 (fun L' O' => g_nat_Read_ok K x12.1 O' _ i124)) ?_
 rintro v134 H135 ⟨w131, G126, O127, s128, sm133, rfl⟩
 replace O127 : Ow G126 H135 (eSl w131 108 (rI .u32) x123 :: L) := O127
 refine W.q2 (hg := gk rfl rfl gv120 rfl) (.string x12.2.1) ((fr99 6 rfl).trans ((fr79 6 rfl).trans ((fr54 6 rfl).trans rfl))) ?_
 obtain ⟨x136, i137, h138⟩ := bd_inv h125
 refine W.lo (gk rfl rfl gv120 rfl) rfl (Lo.callPF (ps := []) (pw := fun w => [eSl w 108 (rI .u32) x136]) rfl (fn := Tryd.f70) (by kernel_rfl) rfl (mc rfl mn) O127 (fun L' O' => g_nat_Read_ok K x12.2.1 O' _ i137)) ?_
 rintro v147 H148 ⟨w144, G139, O140, s141, sm146, rfl⟩
 replace O140 : Ow G139 H148 (eSl w144 108 (rI .u32) x136 :: eSl w131 108 (rI .u32) x123 :: L) := O140
 obtain ⟨G149, O150, s151, f152⟩ := O140.frzSl (j := 1) rfl
 replace O150 : Ow G149 H148 (eSl w144 108 (rI .u32) x136 :: L) := O150
 obtain ⟨G153, O154, s155, f156⟩ := O150.frzSl (j := 0) rfl
 replace O154 : Ow G153 H148 (L) := O154
 obtain ⟨x157, i158, h159⟩ := bd_inv h138
 refine W.lo (gk rfl rfl gv120 rfl) rfl (Lo.callP (ps := []) (ps' := []) rfl (fn := Tryd.f68) (by kernel_rfl) rfl (mc rfl (mc rfl mn)) O154 (fun L' O' => g_nat_N_Gcd_ok K w131 x123 (RT.mono _ s155 f152) w144 x136 f156 O' _ i158)) ?_
 rintro v168 H169 ⟨G160, O161, s162, sm167, ⟨w164, rfl, f165⟩⟩
 replace O161 : Ow G160 H169 (L) := O161
 obtain ⟨x170, i171, h172⟩ := bd_inv h159
 refine W.lo (gk rfl rfl gv120 rfl) rfl (Lo.callPF (ps := []) (pw := fun w => [eSl w 108 (rI .u32) x170]) rfl (fn := Tryd.f71) (by kernel_rfl) rfl (mc rfl mn) O161 (fun L' O' => g_nat_Of_ok K 1 O' _ i171)) ?_
 rintro v181 H182 ⟨w178, G173, O174, s175, sm180, rfl⟩
 replace O174 : Ow G173 H182 (eSl w178 108 (rI .u32) x170 :: L) := O174
 obtain ⟨x183, i184, h185⟩ := bd_inv h172
 refine W.lo (gk rfl rfl gv120 rfl) rfl (Lo.callB (j := 0) rfl rfl (fn := Tryd.f59) (by kernel_rfl) rfl (mc rfl (mc rfl mn)) O174 (fun G' L' hG O' hB => g_nat_N_Cmp_ok K w164 x157 (RT.mono _ hG (RT.mono _ s175 f165)) w178 x170 hB O' _ i184)) ?_
 rintro v192 H193 ⟨G186, O187, s188, sm191, rfl⟩
 replace O187 : Ow G186 H193 (eSl w178 108 (rI .u32) x170 :: L) := O187
 refine W.q3 (hg := gk rfl rfl gv120 rfl) (.bool (x183 != 0)) rfl rfl (W.q5 (hg := gk rfl rfl gv113 rfl) (.bool (x183 != 0)) gv120 rfl (W.q4 (.bool (x183 != 0)) gv113 rfl (.nil ?_)))
 have O194 : Ow G186 H193 (L) := O187.drop 0
 obtain rfl := Option.some.inj h185
 exact ⟨(x183 != 0), _, rfl, O194, (GM.le.trans s128 (GM.le.trans s141 (GM.le.trans s151 (GM.le.trans s155 (GM.le.trans s162 (GM.le.trans s175 s188)))))), rfl⟩
def g_rat_CheckAll_l0 (K : Nat) (p0 : List ByteArray) : Nat → Int → Option (Int ⊕ Unit)
  | 0, _ => none
  | k + 1, x5 => (if (decide (x5 < (List.length p0 : Int))) = true then ((idx p0 x5).bind fun x16 => ((g_rat_Check K x16).bind fun x20 => (if (x20 != 0) = true then some (.inl x20) else g_rat_CheckAll_l0 K p0 k (kwrap .i64 (x5 + 1))))) else some (.inr ()))
def g_rat_CheckAll (K : Nat) (p0 : List ByteArray) : Option Int := (bindS (g_rat_CheckAll_l0 K p0 K 0) (tu1 fun a44 => some a44) (tu0 (some 0)))
set_option maxHeartbeats 4000000 in
theorem g_rat_CheckAll_ok (K : Nat) {G : GM} {H : AH} {L : List Pc} (v0 : Value) (p0 : List ByteArray) (hp0 : (rSl rS).rep G [v0] p0) (O : Ow G H (L)) (r : Int) (h : g_rat_CheckAll K p0 = some r) :
    CR Tryd.prog 34 [v0] G H (L) (fun v G' _ => v = .int .i64 r) := by
 unfold g_rat_CheckAll at h
 refine CR.of (calls_of_AW (n := 18) (fn := Tryd.f34) (R := fun v H' => ∃ G', Ow G' H' (L) ∧ G.le G' ∧ v = .int .i64 r) (by kernel_rfl) rfl rfl ?_)
 refine .seq (.region (W.q1 (.int .i64 0) rfl (.nil (.seq (.seq (.region ?_))))))
 refine W.q2 v0 rfl (W.pure (v := (.int .i64 (List.length p0 : Int))) rfl rfl (len_sl (oo rfl rfl) (sl_len hp0) (elemT_inv el41)) (W.q2 (.int .i64 0) rfl (.nil ?_)))
 obtain ⟨q1, h2, h3⟩ := bindS_inv h
 refine AW.midT (fun σ' H' => ∃  (G' : GM), (.inr ()) = q1 ∧ Ow G' H' (L) ∧ GM.le G G') ?_ ?_
 rotate_left
 ·rintro σ36 H37 fr38 ⟨G39, rfl, O40, s41⟩
  have h43 := tu0_inv (outS_r h3)
  refine .seq (.region (W.q1 (.int .i64 0) rfl (.nil (.ret ?_))))
  obtain rfl := Option.some.inj h43
  refine ret1R (P := Tryd.prog) (fn := Tryd.f34) (n := 18) (R := fun v H' => ∃ G', Ow G' H' (L) ∧ G.le G' ∧ v = .int .i64 0) (v1 := (.int .i64 0)) (by rfl) (rr_tmp (by rfl) (by exact rfl)) ?_
  exact ⟨_, O40, s41, rfl⟩
 refine .block (AW.loop (α := Nat) (fun k' σ' H' => ∃ (y1 : Int) (G' : GM), g_rat_CheckAll_l0 K p0 k' y1 = some q1 ∧ Ow G' H' (L) ∧ GM.le G G' ∧ σ' 8 = .int .i64 y1) (fun k' => k') K ⟨0, _, h2, O, (GM.le.refl _), rfl⟩ ?_)
 rintro k4
 rintro σ6 H7 fr8 ⟨x5, G9, h12, O10, s11, t13⟩
 rcases k4 with _ | k4
 ·exact none_absurd h12
 rw [g_rat_CheckAll_l0] at h12
 refine .seq (.region (W.q3 (.bool (decide (x5 < (List.length p0 : Int)))) t13 ((fr8 7 rfl).trans rfl) (.nil (.seq (.cond (b := decide (x5 < (List.length p0 : Int))) rfl rfl (fun g14 => ?_) (fun g14 => ?_))))))
 rotate_left
 ·have h35 := neg_b g14 h12
  refine .exit ?_
  obtain rfl := Option.some.inj h35
  exact ⟨_, rfl, O10, s11⟩
 have h15 := pos_inv g14 h12
 refine .skip (.seq (.block (.seq (.region ?_))))
 obtain ⟨x16, i17, h18⟩ := bd_inv h15
 have j19 := idx_inv i17
 refine W.pure (v := (selem v0 (Int.toNat x5 * 1))) rfl rfl (v_idx el41 sz40 (oo rfl ((fr8 6 rfl).trans rfl)) (oo rfl t13) (sl_len (RT.mono _ s11 hp0)) j19.1 j19.2.1) (W.load1 (v := (.string x16)) (r := []) rfl rfl ag40 (pt_px rfl (At.str (At.le (At.le (sl_idx hp0 j19.2.2) s11 s11) (GM.le.refl _) O10.fro))) (W.q1 (.string x16) rfl (.nil (.seq (.region (W.q2 (.string x16) rfl ?_))))))
 obtain ⟨x20, i21, h22⟩ := bd_inv h18
 refine W.lo rfl rfl (Lo.callP (ps := []) (ps' := []) rfl (fn := Tryd.f32) (by kernel_rfl) rfl (mc rfl mn) O10 (fun L' O' => g_rat_Check_ok K x16 O' _ i21)) ?_
 rintro v29 H30 ⟨G23, O24, s25, sm28, rfl⟩
 replace O24 : Ow G23 H30 (L) := O24
 refine W.q1 (.int .i64 x20) rfl (.nil (.seq (.region (W.q2 (.int .i64 x20) rfl (W.q3 (.bool (x20 != 0)) rfl rfl (.nil ?_))))))
 refine .cond (b := (x20 != 0)) rfl rfl (fun g31 => ?_) (fun g31 => ?_)
 rotate_left
 ·have h34 := neg_b g31 h22
  refine .skip (.region (W.q3 (.int .i64 (kwrap .i64 (x5 + 1))) t13 rfl (W.q2 (.int .i64 (kwrap .i64 (x5 + 1))) rfl (.nil ?_))))
  exact ⟨k4, Nat.lt_succ_self _, ⟨kwrap .i64 (x5 + 1), _, h34, O24, (GM.le.trans s11 s25), rfl⟩⟩
 have h32 := pos_inv g31 h22
 refine .seq (.region (W.q2 (.int .i64 x20) rfl (W.q1 (.int .i64 x20) rfl (.nil (.ret ?_)))))
 obtain rfl := Option.some.inj h32
 have h33 := tu1_inv (outS_l h3)
 obtain rfl := Option.some.inj h33
 refine ret1R (P := Tryd.prog) (fn := Tryd.f34) (n := 18) (R := fun v H' => ∃ G', Ow G' H' (L) ∧ G.le G' ∧ v = .int .i64 x20) (v1 := (.int .i64 x20)) (by rfl) (rr_tmp (by rfl) (by exact rfl)) ?_
 exact ⟨_, O24, (GM.le.trans s11 s25), rfl⟩
def g_rat_In (K : Nat) (p0 : ByteArray) : Option Q := ((g_strings_CutPrefix K p0 (⟨#[45]⟩ : ByteArray)).bind fun x6 => ((g_strings_Cut K x6.1 (⟨#[47]⟩ : ByteArray)).bind fun x17 => ((g_nat_Read K x17.1).bind fun x28 => ((g_nat_Of K 1).bind fun x41 => (Option.bind ((if x17.2.2 = true then ((g_nat_Read K x17.2.1).bind fun x79 => some ({ (Q.mk x6.2 x28 x41) with den := x79 })) else some (Q.mk x6.2 x28 x41))) (tu1 fun x101 => some x101))))))
set_option maxHeartbeats 4000000 in
theorem g_rat_In_ok (K : Nat) {G : GM} {H : AH} {L : List Pc} (p0 : ByteArray) (O : Ow G H (L)) (r : Q) (h : g_rat_In K p0 = some r) :
    CR Tryd.prog 89 [(.string p0)] G H (L) (fun v G' _ => ∃ (w0 : List Value), v = .agg (List.toArray w0) ∧ T_Q.rep G' w0 r) := by
 unfold g_rat_In at h
 refine CR.of (calls_of_AW (n := 30) (fn := Tryd.f89) (R := fun v H' => ∃ G', Ow G' H' (L) ∧ G.le G' ∧ ∃ (w0 : List Value), v = .agg (List.toArray w0) ∧ T_Q.rep G' w0 r) (by kernel_rfl) rfl rfl ?_)
 refine .seq (.region (W.lo rfl rfl (Lo.alloc (r := T_Q) (x0 := (Q.mk false ([] : List Int) ([] : List Int))) ze91 (by kernel_rfl) z_Q O) ?_))
 rintro v4 H5 ⟨b2, rfl, O1, sm3⟩
 refine .nil (.seq (.region (W.q2 (.string p0) rfl ?_)))
 obtain ⟨x6, i7, h8⟩ := bd_inv h
 refine W.lo rfl rfl (Lo.callP (ps := []) (ps' := []) rfl (fn := Tryd.f79) (by kernel_rfl) rfl (mc rfl (mc rfl mn)) O1 (fun L' O' => g_strings_CutPrefix_ok K p0 (⟨#[45]⟩ : ByteArray) O' _ i7)) ?_
 rintro v15 H16 ⟨G9, O10, s11, sm14, rfl⟩
 replace O10 : Ow G9 H16 (eVar b2 91 T_Q (Q.mk false ([] : List Int) ([] : List Int)) :: L) := O10
 refine W.q2 (.tuple #[(.string x6.1), (.bool x6.2)]) rfl (W.pure (v := (.string x6.1)) rfl rfl (v_extract (oo rfl rfl) rfl) (W.pure (v := (.bool x6.2)) rfl rfl (v_extract (oo rfl rfl) rfl) (W.q1 (.string x6.1) rfl (W.q1 (.bool x6.2) rfl (.nil (.seq ?_))))))
 refine .region (W.q2 (.string x6.1) rfl ?_)
 obtain ⟨x17, i18, h19⟩ := bd_inv h8
 refine W.lo rfl rfl (Lo.callP (ps := []) (ps' := []) rfl (fn := Tryd.f80) (by kernel_rfl) rfl (mc rfl (mc rfl mn)) O10 (fun L' O' => g_strings_Cut_ok K x6.1 (⟨#[47]⟩ : ByteArray) O' _ i18)) ?_
 rintro v26 H27 ⟨G20, O21, s22, sm25, rfl⟩
 replace O21 : Ow G20 H27 (eVar b2 91 T_Q (Q.mk false ([] : List Int) ([] : List Int)) :: L) := O21
 refine W.q2 (.tuple #[(.string x17.1), (.string x17.2.1), (.bool x17.2.2)]) rfl (W.pure (v := (.string x17.1)) rfl rfl (v_extract (oo rfl rfl) rfl) (W.pure (v := (.string x17.2.1)) rfl rfl (v_extract (oo rfl rfl) rfl) (W.pure (v := (.bool x17.2.2)) rfl rfl (v_extract (oo rfl rfl) rfl) (W.q1 (.string x17.1) rfl (W.q1 (.string x17.2.1) rfl (W.q1 (.bool x17.2.2) rfl ?_))))))
 refine .nil (.seq (.region (W.q2 (.bool x6.2) rfl (W.q2 (.string x17.1) rfl ?_))))
 obtain ⟨x28, i29, h30⟩ := bd_inv h19
 refine W.lo rfl rfl (Lo.callPF (ps := []) (pw := fun w => [eSl w 108 (rI .u32) x28]) rfl (fn := Tryd.f70) (by kernel_rfl) rfl (mc rfl mn) O21 (fun L' O' => g_nat_Read_ok K x17.1 O' _ i29)) ?_
 rintro v39 H40 ⟨w36, G31, O32, s33, sm38, rfl⟩
 replace O32 : Ow G31 H40 (eSl w36 108 (rI .u32) x28 :: eVar b2 91 T_Q (Q.mk false ([] : List Int) ([] : List Int)) :: L) := O32
 obtain ⟨x41, i42, h43⟩ := bd_inv h30
 refine W.lo rfl rfl (Lo.callPF (ps := []) (pw := fun w => [eSl w 108 (rI .u32) x41]) rfl (fn := Tryd.f71) (by kernel_rfl) rfl (mc rfl mn) O32 (fun L' O' => g_nat_Of_ok K 1 O' _ i42)) ?_
 rintro v52 H53 ⟨w49, G44, O45, s46, sm51, rfl⟩
 replace O45 : Ow G44 H53 (eSl w49 108 (rI .u32) x41 :: eSl w36 108 (rI .u32) x28 :: eVar b2 91 T_Q (Q.mk false ([] : List Int) ([] : List Int)) :: L) := O45
 obtain ⟨G54, O55, s56, f57⟩ := O45.frzSl (j := 1) rfl
 replace O55 : Ow G54 H53 (eSl w49 108 (rI .u32) x41 :: eVar b2 91 T_Q (Q.mk false ([] : List Int) ([] : List Int)) :: L) := O55
 obtain ⟨G58, O59, s60, f61⟩ := O55.frzSl (j := 0) rfl
 replace O59 : Ow G58 H53 (eVar b2 91 T_Q (Q.mk false ([] : List Int) ([] : List Int)) :: L) := O59
 obtain ⟨c62, e64, f63⟩ := bd_Q_0_1_2 ((.bool x6.2)) (w36) (w49) (rfl) ((sl_cells (RT.mono _ s60 f57))) ((sl_cells f61))
 refine W.pure (v := .agg (List.toArray c62)) rfl rfl (e64 (opndP_oo rfl (qc' rfl (qc' rfl (qc' rfl qn'))))) (W.lo rfl rfl (Lo.alloc (r := T_Q) (x0 := (Q.mk false ([] : List Int) ([] : List Int))) ze91 (by kernel_rfl) z_Q O59) ?_)
 rintro v68 H69 ⟨b66, rfl, O65, sm67⟩
 refine W.lo rfl rfl (Lo.storeVar (j := 0) (s := T_Q) (y0 := (Q.mk x6.2 x28 x41)) (v := (.agg (List.toArray c62))) (o := 0) rfl ((Put.at (Put.self _) _ _)) rfl sz91 rfl (by omega) rfl f63 O65) ?_
 rintro v72 H73 ⟨O70, sm71⟩
 replace O70 : Ow G58 H73 (eVar b66 91 T_Q (Q.mk x6.2 x28 x41) :: eVar b2 91 T_Q (Q.mk false ([] : List Int) ([] : List Int)) :: L) := O70
 refine .nil (.seq (.seq (.region (W.q2 (.bool x17.2.2) rfl (.nil ?_)))))
 obtain ⟨q74, h75, h76⟩ := bd_inv h43
 refine AW.midT (fun σ' H' => ∃ (y1 : Q) (G' : GM), y1 = q74 ∧ Ow G' H' (eVar b66 91 T_Q y1 :: eVar b2 91 T_Q (Q.mk false ([] : List Int) ([] : List Int)) :: L) ∧ GM.le G58 G') ?_ ?_
 rotate_left
 ·rintro σ102 H103 fr104 ⟨x101, G105, rfl, O106, s107⟩
  have h109 := tu1_inv h76
  refine .seq (.region ?_)
  obtain ⟨c110, p111, f112⟩ := (O106.atVar (j := 0) rfl)
  refine W.loadA (cs := c110) rfl rfl ag91 sz91 (pt_px ((fr104 8 rfl).trans rfl) p111) (RT.len _ f112) (W.lo rfl rfl (Lo.storeVar (j := 1) (s := T_Q) (y0 := x101) (v := (.agg (List.toArray c110))) (o := 0) rfl ((Put.at (Put.self _) _ _)) rfl sz91 ((fr104 2 rfl).trans rfl) (by omega) rfl f112 O106) ?_)
  rintro v115 H116 ⟨O113, sm114⟩
  replace O113 : Ow G105 H116 (eVar b66 91 T_Q x101 :: eVar b2 91 T_Q x101 :: L) := O113
  refine .nil (.ret ?_)
  obtain ⟨c117, p118, f119⟩ := (O113.atVar (j := 1) rfl)
  have O120 : Ow G105 H116 (eVar b2 91 T_Q x101 :: L) := O113.drop 0
  have O121 : Ow G105 H116 (L) := O120.drop 0
  obtain rfl := Option.some.inj h109
  refine ret1R (P := Tryd.prog) (fn := Tryd.f89) (n := 30) (R := fun v H' => ∃ G', Ow G' H' (L) ∧ G.le G' ∧ ∃ (w0 : List Value), v = .agg (List.toArray w0) ∧ T_Q.rep G' w0 x101) (v1 := (.agg (List.toArray c117))) (by rfl) (rr_cellA (p := (.pointer (some ⟨b2, 0, none⟩))) (by rfl) ag91 sz91 (by exact ((fr104 2 rfl).trans rfl)) p118 (RT.len _ f119)) ?_
  exact ⟨_, O121, (GM.le.trans s11 (GM.le.trans s22 (GM.le.trans s33 (GM.le.trans s46 (GM.le.trans s56 (GM.le.trans s60 s107)))))), c117, rfl, f119⟩
 refine .cond (b := x17.2.2) rfl rfl (fun g77 => ?_) (fun g77 => ?_)
 rotate_left
 ·have h100 := neg_b g77 h75
  refine .skip ?_
  obtain rfl := Option.some.inj h100
  exact ⟨(Q.mk x6.2 x28 x41), _, rfl, O70, (GM.le.refl _)⟩
 have h78 := pos_inv g77 h75
 refine .region (W.q2 (.string x17.2.1) rfl ?_)
 obtain ⟨x79, i80, h81⟩ := bd_inv h78
 refine W.lo rfl rfl (Lo.callPF (ps := []) (pw := fun w => [eSl w 108 (rI .u32) x79]) rfl (fn := Tryd.f70) (by kernel_rfl) rfl (mc rfl mn) O70 (fun L' O' => g_nat_Read_ok K x17.2.1 O' _ i80)) ?_
 rintro v90 H91 ⟨w87, G82, O83, s84, sm89, rfl⟩
 replace O83 : Ow G82 H91 (eSl w87 108 (rI .u32) x79 :: eVar b66 91 T_Q (Q.mk x6.2 x28 x41) :: eVar b2 91 T_Q (Q.mk false ([] : List Int) ([] : List Int)) :: L) := O83
 refine W.pure (v := (padd (.pointer (some ⟨b66, 0, none⟩)) 2)) rfl rfl (v_fldA fl91_2 (oo rfl rfl) (O83.atVar (j := 1) rfl)) ?_
 obtain ⟨G92, O93, s94, f95⟩ := O83.frzSl (j := 0) rfl
 replace O93 : Ow G92 H91 (eVar b66 91 T_Q (Q.mk x6.2 x28 x41) :: eVar b2 91 T_Q (Q.mk false ([] : List Int) ([] : List Int)) :: L) := O93
 refine W.lo rfl rfl (Lo.storeVar (j := 0) (s := (rSl (rI .u32))) (y0 := x79) (v := w87) (o := 2) rfl ((Put.at u_Q_den _ _)) rfl sz64 rfl (by omega) rfl (sl_cells f95) O93) ?_
 rintro v98 H99 ⟨O96, sm97⟩
 replace O96 : Ow G92 H99 (eVar b66 91 T_Q ({ (Q.mk x6.2 x28 x41) with den := x79 }) :: eVar b2 91 T_Q (Q.mk false ([] : List Int) ([] : List Int)) :: L) := O96
 refine .nil ?_
 obtain rfl := Option.some.inj h81
 exact ⟨{ (Q.mk x6.2 x28 x41) with den := x79 }, _, rfl, O96, (GM.le.trans s84 s94)⟩
def g_rat_two (K : Nat) (p0 : ByteArray) (p1 : ByteArray) (p2 : Q × Q → Option Q) : Option (ByteArray × Int) := ((g_rat_CheckAll K [p0, p1]).bind fun x5 => (if (x5 != 0) = true then some ((⟨#[]⟩ : ByteArray), x5) else ((g_rat_In K p0).bind fun x20 => ((g_rat_In K p1).bind fun x33 => ((p2 (x20, x33)).bind fun x46 => ((g_rat_told K x46).bind fun x57 => some (x57.1, x57.2)))))))
set_option maxHeartbeats 4000000 in
theorem g_rat_two_ok (K : Nat) {G : GM} {H : AH} {L : List Pc} (p0 : ByteArray) (p1 : ByteArray) (v2 : Value) (p2 : Q × Q → Option Q) (hp2 : FnOk Tryd.prog G v2 (fun G vs (x : (Q × Q)) => ∃ (v0 : List Value), ∃ (v1 : List Value), vs = [.agg (List.toArray v0), .agg (List.toArray v1)] ∧ T_Q.rep G v0 x.1 ∧ T_Q.rep G v1 x.2) (fun G v (rr : (Q)) => ∃ (w0 : List Value), v = .agg (List.toArray w0) ∧ T_Q.rep G w0 rr) p2) (O : Ow G H (L)) (r : ByteArray × Int) (h : g_rat_two K p0 p1 p2 = some r) :
    CR Tryd.prog 86 [(.string p0), (.string p1), v2] G H (L) (fun v G' _ => v = .tuple #[.string r.1, .int .i64 r.2]) := by
 unfold g_rat_two at h
 refine CR.of (calls_of_AW (n := 25) (fn := Tryd.f86) (R := fun v H' => ∃ G', Ow G' H' (L) ∧ G.le G' ∧ v = .tuple #[.string r.1, .int .i64 r.2]) (by kernel_rfl) rfl rfl ?_)
 refine .seq (.region (W.q1 (.string (⟨#[]⟩ : ByteArray)) rfl (W.q1 (.int .i64 0) rfl (.nil (.seq (.seq ?_))))))
 refine .region (W.q2 (.string p0) rfl (W.q2 (.string p1) rfl (W.lo rfl rfl (Lo.buildSlice (r := rS) (vs := [(.string p0), (.string p1)]) (xs := [p0, p1]) el41 ze40 sz40 (by kernel_rfl) rfl (qc rfl (qc rfl qn)) rfl (.cons rfl (.cons rfl .nil)) O) ?_)))
 rintro v3 H4 ⟨O1, sm2⟩
 obtain ⟨x5, i6, h7⟩ := bd_inv h
 refine W.lo rfl rfl (Lo.callB (j := 0) rfl rfl (fn := Tryd.f34) (by kernel_rfl) rfl (mc rfl mn) O1 (fun G' L' hG O' hB => g_rat_CheckAll_ok K v3 [p0, p1] hB O' _ i6)) ?_
 rintro v14 H15 ⟨G8, O9, s10, sm13, rfl⟩
 replace O9 : Ow G8 H15 (eSl v3 40 rS [p0, p1] :: L) := O9
 refine W.q1 (.int .i64 x5) rfl (.nil (.seq (.region (W.q2 (.int .i64 x5) rfl (W.q3 (.bool (x5 != 0)) rfl rfl (.nil ?_))))))
 refine .cond (b := (x5 != 0)) rfl rfl (fun g16 => ?_) (fun g16 => ?_)
 ·have h17 := pos_inv g16 h7
  refine .seq (.region (W.q2 (.int .i64 x5) rfl (W.q1 (.string (⟨#[]⟩ : ByteArray)) rfl (W.q1 (.int .i64 x5) rfl (.nil (.ret ?_))))))
  have O18 : Ow G8 H15 (L) := O9.drop 0
  obtain rfl := Option.some.inj h17
  refine ret2R (P := Tryd.prog) (fn := Tryd.f86) (n := 25) (R := fun v H' => ∃ G', Ow G' H' (L) ∧ G.le G' ∧ v = .tuple #[.string ((⟨#[]⟩ : ByteArray), x5).1, .int .i64 ((⟨#[]⟩ : ByteArray), x5).2]) (v1 := (.string (⟨#[]⟩ : ByteArray))) (v2 := (.int .i64 x5)) (by rfl) (rr_tmp (by rfl) (by exact rfl)) (rr_tmp (by rfl) (by exact rfl)) ?_
  exact ⟨_, O18, s10, rfl⟩
 have h19 := neg_b g16 h7
 refine .skip (.seq (.region (W.q2 v2 rfl (W.q2 (.string p0) rfl ?_))))
 obtain ⟨x20, i21, h22⟩ := bd_inv h19
 refine W.lo rfl rfl (Lo.callP (ps := []) (ps' := []) rfl (fn := Tryd.f89) (by kernel_rfl) rfl (mc rfl mn) O9 (fun L' O' => g_rat_In_ok K p0 O' _ i21)) ?_
 rintro v31 H32 ⟨G23, O24, s25, sm30, ⟨c27, rfl, f28⟩⟩
 replace O24 : Ow G23 H32 (eSl v3 40 rS [p0, p1] :: L) := O24
 refine W.q2 (.string p1) rfl ?_
 obtain ⟨x33, i34, h35⟩ := bd_inv h22
 refine W.lo rfl rfl (Lo.callP (ps := []) (ps' := []) rfl (fn := Tryd.f89) (by kernel_rfl) rfl (mc rfl mn) O24 (fun L' O' => g_rat_In_ok K p1 O' _ i34)) ?_
 rintro v44 H45 ⟨G36, O37, s38, sm43, ⟨c40, rfl, f41⟩⟩
 replace O37 : Ow G36 H45 (eSl v3 40 rS [p0, p1] :: L) := O37
 obtain ⟨x46, i47, h48⟩ := bd_inv h35
 refine W.lo rfl rfl (Lo.callF (x0 := (x20, x33)) rfl rfl (FnOk.le hp2 (GM.le.trans s10 (GM.le.trans s25 s38))) (mc rfl (mc rfl mn)) ⟨c27, c40, rfl, (RT.mono _ s38 f28), f41⟩ i47 O37) ?_
 rintro v55 H56 ⟨G49, O50, s51, sm54, ⟨c52, rfl, f53⟩⟩
 obtain ⟨x57, i58, h59⟩ := bd_inv h48
 refine W.lo rfl rfl (Lo.callP (ps := []) (ps' := []) rfl (fn := Tryd.f81) (by kernel_rfl) rfl (mc rfl mn) O50 (fun L' O' => g_rat_told_ok K c52 x46 f53 O' _ i58)) ?_
 rintro v66 H67 ⟨G60, O61, s62, sm65, rfl⟩
 replace O61 : Ow G60 H67 (eSl v3 40 rS [p0, p1] :: L) := O61
 refine W.pure (v := (.string x57.1)) rfl rfl (v_extract (oo rfl rfl) rfl) (W.pure (v := (.int .i64 x57.2)) rfl rfl (v_extract (oo rfl rfl) rfl) (W.q1 (.string x57.1) rfl (W.q1 (.int .i64 x57.2) rfl (.nil (.ret ?_)))))
 have O68 : Ow G60 H67 (L) := O61.drop 0
 obtain rfl := Option.some.inj h59
 refine ret2R (P := Tryd.prog) (fn := Tryd.f86) (n := 25) (R := fun v H' => ∃ G', Ow G' H' (L) ∧ G.le G' ∧ v = .tuple #[.string (x57.1, x57.2).1, .int .i64 (x57.1, x57.2).2]) (v1 := (.string x57.1)) (v2 := (.int .i64 x57.2)) (by rfl) (rr_tmp (by rfl) (by exact rfl)) (rr_tmp (by rfl) (by exact rfl)) ?_
 exact ⟨_, O68, (GM.le.trans s10 (GM.le.trans s25 (GM.le.trans s38 (GM.le.trans s51 s62)))), rfl⟩
def g_rat_Q_Add (K : Nat) (p0 : Q) (p1 : Q) : Option Q := (if ((List.length p0.num : Int) == 0) = true then some p1 else (if ((List.length p1.num : Int) == 0) = true then some p0 else ((g_rat_Q_whole K p1).bind fun x65 => ((g_nat_N_Mul K p0.num x65).bind fun x78 => ((g_rat_Q_whole K p0).bind fun x97 => ((g_nat_N_Mul K p1.num x97).bind fun x110 => ((g_rat_Q_whole K p0).bind fun x131 => ((g_rat_Q_whole K p1).bind fun x147 => ((g_nat_N_Mul K x131 x147).bind fun x160 => (if (p0.neg == p1.neg) = true then ((g_nat_N_Add K x78 x110).bind fun x188 => ((g_rat_low K p0.neg x188 x160).bind fun x209 => some x209)) else ((g_nat_N_Cmp K x78 x110).bind fun x241 => (if (decide (x241 ≥ 0)) = true then ((g_nat_N_Sub K x78 x110).bind fun x259 => ((g_rat_low K p0.neg x259 x160).bind fun x280 => some x280)) else ((g_nat_N_Sub K x110 x78).bind fun x309 => ((g_rat_low K p1.neg x309 x160).bind fun x330 => some x330))))))))))))))
set_option maxHeartbeats 4000000 in
theorem g_rat_Q_Add_ok (K : Nat) {G : GM} {H : AH} {L : List Pc} (v0 : List Value) (p0 : Q) (hp0 : T_Q.rep G v0 p0) (v1 : List Value) (p1 : Q) (hp1 : T_Q.rep G v1 p1) (O : Ow G H (L)) (r : Q) (h : g_rat_Q_Add K p0 p1 = some r) :
    CR Tryd.prog 87 [.agg (List.toArray v0), .agg (List.toArray v1)] G H (L) (fun v G' _ => ∃ (w0 : List Value), v = .agg (List.toArray w0) ∧ T_Q.rep G' w0 r) := by
 unfold g_rat_Q_Add at h
 refine CR.of (calls_of_AW (n := 65) (fn := Tryd.f87) (R := fun v H' => ∃ G', Ow G' H' (L) ∧ G.le G' ∧ ∃ (w0 : List Value), v = .agg (List.toArray w0) ∧ T_Q.rep G' w0 r) (by kernel_rfl) rfl rfl ?_)
 refine .seq (.region (W.lo rfl rfl (Lo.box (r := T_Q) (x0 := p0) (v := (.agg (List.toArray v0))) rfl rfl hp0 O) ?_))
 rintro v4 H5 ⟨b2, rfl, O1, sm3⟩
 refine W.lo rfl rfl (Lo.box (r := T_Q) (x0 := p1) (v := (.agg (List.toArray v1))) rfl rfl hp1 O1) ?_
 rintro v9 H10 ⟨b7, rfl, O6, sm8⟩
 refine W.lo rfl rfl (Lo.alloc (r := T_Q) (x0 := (Q.mk false ([] : List Int) ([] : List Int))) ze91 (by kernel_rfl) z_Q O6) ?_
 rintro v14 H15 ⟨b12, rfl, O11, sm13⟩
 refine .nil (.seq (.block (.seq (.region (W.pure (v := (padd (.pointer (some ⟨b2, 0, none⟩)) 1)) rfl rfl (v_fldA fl91_1 (oo rfl rfl) (O11.atVar (j := 2) rfl)) ?_)))))
 obtain ⟨w16, p17, f18⟩ := At.sl (At.proj (O11.atVar (j := 2) rfl) p_Q_num)
 refine W.load1 (v := w16) (r := []) rfl rfl ag64 (pt_px rfl p17) (W.pure (v := (.int .i64 (List.length p0.num : Int))) rfl rfl (len_sl (oo rfl rfl) (sl_len f18) (elemT_inv el64)) (W.q3 (.bool ((List.length p0.num : Int) == 0)) rfl rfl (W.q1 (.bool ((List.length p0.num : Int) == 0)) rfl (.nil (.cond (b := ((List.length p0.num : Int) == 0)) rfl rfl (fun g19 => ?_) (fun g19 => ?_))))))
 ·have h20 := pos_inv g19 h
  refine .seq (.region ?_)
  obtain ⟨c21, p22, f23⟩ := (O11.atVar (j := 1) rfl)
  refine W.loadA (cs := c21) rfl rfl ag91 sz91 (pt_px rfl p22) (RT.len _ f23) (W.lo rfl rfl (Lo.storeVar (j := 0) (s := T_Q) (y0 := p1) (v := (.agg (List.toArray c21))) (o := 0) rfl ((Put.at (Put.self _) _ _)) rfl sz91 rfl (by omega) rfl f23 O11) ?_)
  rintro v26 H27 ⟨O24, sm25⟩
  replace O24 : Ow G H27 (eVar b12 91 T_Q p1 :: eVar b7 91 T_Q p1 :: eVar b2 91 T_Q p0 :: L) := O24
  refine .nil (.ret ?_)
  obtain ⟨c28, p29, f30⟩ := (O24.atVar (j := 0) rfl)
  have O31 : Ow G H27 (eVar b7 91 T_Q p1 :: eVar b2 91 T_Q p0 :: L) := O24.drop 0
  have O32 : Ow G H27 (eVar b2 91 T_Q p0 :: L) := O31.drop 0
  have O33 : Ow G H27 (L) := O32.drop 0
  obtain rfl := Option.some.inj h20
  refine ret1R (P := Tryd.prog) (fn := Tryd.f87) (n := 65) (R := fun v H' => ∃ G', Ow G' H' (L) ∧ G.le G' ∧ ∃ (w0 : List Value), v = .agg (List.toArray w0) ∧ T_Q.rep G' w0 p1) (v1 := (.agg (List.toArray c28))) (by rfl) (rr_cellA (p := (.pointer (some ⟨b12, 0, none⟩))) (by rfl) ag91 sz91 (by exact rfl) p29 (RT.len _ f30)) ?_
  exact ⟨_, O33, (GM.le.refl _), c28, rfl, f30⟩
 have h34 := neg_b g19 h
 refine .seq (.region (W.pure (v := (padd (.pointer (some ⟨b7, 0, none⟩)) 1)) rfl rfl (v_fldA fl91_1 (oo rfl rfl) (O11.atVar (j := 1) rfl)) ?_))
 obtain ⟨w35, p36, f37⟩ := At.sl (At.proj (O11.atVar (j := 1) rfl) p_Q_num)
 refine W.load1 (v := w35) (r := []) rfl rfl ag64 (pt_px rfl p36) (W.pure (v := (.int .i64 (List.length p1.num : Int))) rfl rfl (len_sl (oo rfl rfl) (sl_len f37) (elemT_inv el64)) (W.q3 (.bool ((List.length p1.num : Int) == 0)) rfl rfl (W.q1 (.bool ((List.length p1.num : Int) == 0)) rfl (.nil (.cond (b := ((List.length p1.num : Int) == 0)) rfl rfl (fun g38 => ?_) (fun g38 => ?_))))))
 ·have h39 := pos_inv g38 h34
  refine .seq (.region ?_)
  obtain ⟨c40, p41, f42⟩ := (O11.atVar (j := 2) rfl)
  refine W.loadA (cs := c40) rfl rfl ag91 sz91 (pt_px rfl p41) (RT.len _ f42) (W.lo rfl rfl (Lo.storeVar (j := 0) (s := T_Q) (y0 := p0) (v := (.agg (List.toArray c40))) (o := 0) rfl ((Put.at (Put.self _) _ _)) rfl sz91 rfl (by omega) rfl f42 O11) ?_)
  rintro v45 H46 ⟨O43, sm44⟩
  replace O43 : Ow G H46 (eVar b12 91 T_Q p0 :: eVar b7 91 T_Q p1 :: eVar b2 91 T_Q p0 :: L) := O43
  refine .nil (.ret ?_)
  obtain ⟨c47, p48, f49⟩ := (O43.atVar (j := 0) rfl)
  have O50 : Ow G H46 (eVar b7 91 T_Q p1 :: eVar b2 91 T_Q p0 :: L) := O43.drop 0
  have O51 : Ow G H46 (eVar b2 91 T_Q p0 :: L) := O50.drop 0
  have O52 : Ow G H46 (L) := O51.drop 0
  obtain rfl := Option.some.inj h39
  refine ret1R (P := Tryd.prog) (fn := Tryd.f87) (n := 65) (R := fun v H' => ∃ G', Ow G' H' (L) ∧ G.le G' ∧ ∃ (w0 : List Value), v = .agg (List.toArray w0) ∧ T_Q.rep G' w0 p0) (v1 := (.agg (List.toArray c47))) (by rfl) (rr_cellA (p := (.pointer (some ⟨b12, 0, none⟩))) (by rfl) ag91 sz91 (by exact rfl) p48 (RT.len _ f49)) ?_
  exact ⟨_, O52, (GM.le.refl _), c47, rfl, f49⟩
 have h53 := neg_b g38 h34
 refine .skip (.seq (.draw2 (M := [0, 1, 0, 4, 15, 0, 32, 0, 159, 511, 1023, 2047]) mixed (by kernel_rfl) (by kernel_rfl) fun H54 N58 x55 F57 => ?_))
 have O56 := O11.ext x55
 refine D2.pure (v := (padd (.pointer (some ⟨b2, 0, none⟩)) 1)) rfl rfl (v_fldA fl91_1 (oo rfl rfl) (O56.atVar (j := 2) rfl)) ?_
 obtain ⟨w59, p60, f61⟩ := At.sl (At.proj (O56.atVar (j := 2) rfl) p_Q_num)
 refine D2.load1' (v := w59) (r := []) rfl rfl ag64 (pt_px rfl p60) fa_nil ?_
 obtain ⟨c62, p63, f64⟩ := (O56.atVar (j := 1) rfl)
 refine D2.loadA' (cs := c62) rfl rfl ag91 sz91 (pt_px rfl p63) (RT.len _ f64) fa_nil ?_
 obtain ⟨x65, i66, h67⟩ := bd_inv h53
 refine D2.lo rfl rfl (Lo.callP (ps := []) (ps' := []) rfl (fn := Tryd.f110) (by kernel_rfl) rfl (mc rfl mn) O56 (fun L' O' => g_rat_Q_whole_ok K c62 p1 f64 O' _ i66)) ?_ fa_nil ?_ ?_
 ·rintro v76 H77 ⟨G68, O69, s70, sm75, ⟨w72, rfl, f73⟩⟩; exact (faR1 (.inl (by decide)) (faR1 (.inr (sm75 _ (Or.inr ⟨2, _, rfl, List.mem_singleton.2 rfl⟩))) fa_nil))
 ·rintro v76 H77 ⟨G68, O69, s70, sm75, ⟨w72, rfl, f73⟩⟩; exact fa_nil
 rintro v76 H77 ⟨G68, O69, s70, sm75, ⟨w72, rfl, f73⟩⟩
 replace O69 : Ow G68 H77 (eVar b12 91 T_Q (Q.mk false ([] : List Int) ([] : List Int)) :: eVar b7 91 T_Q p1 :: eVar b2 91 T_Q p0 :: L) := O69
 obtain ⟨x78, i79, h80⟩ := bd_inv h67
 refine D2.lo rfl rfl (Lo.callPF (ps := []) (pw := fun w => [eSl w 108 (rI .u32) x78]) rfl (fn := Tryd.f63) (by kernel_rfl) rfl (mc rfl (mc rfl mn)) O69 (fun L' O' => g_nat_N_Mul_ok K w59 p0.num (RT.mono _ s70 f61) w72 x65 f73 O' _ i79)) ?_ (faL_bit (by decide) fa_nil) ?_ ?_
 ·rintro v89 H90 ⟨w86, G81, O82, s83, sm88, rfl⟩; exact (faR1 (.inl (by decide)) (faR1 (.inl (by decide)) fa_nil))
 ·rintro v89 H90 ⟨w86, G81, O82, s83, sm88, rfl⟩; exact fa_nil
 rintro v89 H90 ⟨w86, G81, O82, s83, sm88, rfl⟩
 replace O82 : Ow G81 H90 (eSl w86 108 (rI .u32) x78 :: eVar b12 91 T_Q (Q.mk false ([] : List Int) ([] : List Int)) :: eVar b7 91 T_Q p1 :: eVar b2 91 T_Q p0 :: L) := O82
 refine D2.pure (v := (padd (.pointer (some ⟨b7, 0, none⟩)) 1)) rfl rfl (v_fldA fl91_1 (oo rfl rfl) (O82.atVar (j := 2) rfl)) ?_
 obtain ⟨w91, p92, f93⟩ := At.sl (At.proj (O82.atVar (j := 2) rfl) p_Q_num)
 refine D2.load1' (v := w91) (r := []) rfl rfl ag64 (pt_px rfl p92) (faQ_eq (sm88 _ (Or.inr ⟨1, _, rfl, List.mem_singleton.2 rfl⟩)) (faQ_eq (sm75 _ (Or.inr ⟨1, _, rfl, List.mem_singleton.2 rfl⟩)) fa_nil)) ?_
 obtain ⟨c94, p95, f96⟩ := (O82.atVar (j := 3) rfl)
 refine D2.loadA' (cs := c94) rfl rfl ag91 sz91 (pt_px rfl p95) (RT.len _ f96) (faQ_eq (sm88 _ (Or.inr ⟨2, _, rfl, List.mem_singleton.2 rfl⟩)) (faQ_eq (sm75 _ (Or.inr ⟨2, _, rfl, List.mem_singleton.2 rfl⟩)) fa_nil)) ?_
 obtain ⟨x97, i98, h99⟩ := bd_inv h80
 refine D2.lo rfl rfl (Lo.callP (ps := []) (ps' := []) rfl (fn := Tryd.f110) (by kernel_rfl) rfl (mc rfl mn) O82 (fun L' O' => g_rat_Q_whole_ok K c94 p0 f96 O' _ i98)) ?_ (faL_bit (by decide) (faL_bit (by decide) fa_nil)) ?_ ?_
 ·rintro v108 H109 ⟨G100, O101, s102, sm107, ⟨w104, rfl, f105⟩⟩; exact (faR1 (.inl (by decide)) (faR1 (.inr (sm107 _ (Or.inr ⟨2, _, rfl, List.mem_singleton.2 rfl⟩))) (faR1 (.inl (by decide)) (faR1 (.inl (by decide)) fa_nil))))
 ·rintro v108 H109 ⟨G100, O101, s102, sm107, ⟨w104, rfl, f105⟩⟩; exact fa_nil
 rintro v108 H109 ⟨G100, O101, s102, sm107, ⟨w104, rfl, f105⟩⟩
 replace O101 : Ow G100 H109 (eSl w86 108 (rI .u32) x78 :: eVar b12 91 T_Q (Q.mk false ([] : List Int) ([] : List Int)) :: eVar b7 91 T_Q p1 :: eVar b2 91 T_Q p0 :: L) := O101
 obtain ⟨x110, i111, h112⟩ := bd_inv h99
 refine D2.lo rfl rfl (Lo.callPF (ps := []) (pw := fun w => [eSl w 108 (rI .u32) x110]) rfl (fn := Tryd.f63) (by kernel_rfl) rfl (mc rfl (mc rfl mn)) O101 (fun L' O' => g_nat_N_Mul_ok K w91 p1.num (RT.mono _ s102 f93) w104 x97 f105 O' _ i111)) ?_ (faL_bit (by decide) (faL_bit (by decide) (faL_bit (by decide) fa_nil))) ?_ ?_
 ·rintro v121 H122 ⟨w118, G113, O114, s115, sm120, rfl⟩; exact (faR1 (.inl (by decide)) (faR1 (.inl (by decide)) (faR1 (.inl (by decide)) (faR1 (.inl (by decide)) fa_nil))))
 ·rintro v121 H122 ⟨w118, G113, O114, s115, sm120, rfl⟩; exact fa_nil
 rintro v121 H122 ⟨w118, G113, O114, s115, sm120, rfl⟩
 replace O114 : Ow G113 H122 (eSl w118 108 (rI .u32) x110 :: eSl w86 108 (rI .u32) x78 :: eVar b12 91 T_Q (Q.mk false ([] : List Int) ([] : List Int)) :: eVar b7 91 T_Q p1 :: eVar b2 91 T_Q p0 :: L) := O114
 refine D2.q1 w86 rfl (D2.q1 w118 rfl (.nil (.seq (.draw2 (M := [0, 1, 0, 7, 15, 31]) mixed (by kernel_rfl) (by kernel_rfl) fun H123 N127 x124 F126 => ?_))))
 have O125 := O114.ext x124
 obtain ⟨c128, p129, f130⟩ := (O125.atVar (j := 4) rfl)
 refine D2.loadA' (cs := c128) rfl rfl ag91 sz91 (pt_px rfl p129) (RT.len _ f130) fa_nil ?_
 obtain ⟨x131, i132, h133⟩ := bd_inv h112
 refine D2.lo rfl rfl (Lo.callP (ps := []) (ps' := []) rfl (fn := Tryd.f110) (by kernel_rfl) rfl (mc rfl mn) O125 (fun L' O' => g_rat_Q_whole_ok K c128 p0 f130 O' _ i132)) ?_ fa_nil ?_ ?_
 ·rintro v142 H143 ⟨G134, O135, s136, sm141, ⟨w138, rfl, f139⟩⟩; exact (faR1 (.inl (by decide)) fa_nil)
 ·rintro v142 H143 ⟨G134, O135, s136, sm141, ⟨w138, rfl, f139⟩⟩; exact fa_nil
 rintro v142 H143 ⟨G134, O135, s136, sm141, ⟨w138, rfl, f139⟩⟩
 replace O135 : Ow G134 H143 (eSl w118 108 (rI .u32) x110 :: eSl w86 108 (rI .u32) x78 :: eVar b12 91 T_Q (Q.mk false ([] : List Int) ([] : List Int)) :: eVar b7 91 T_Q p1 :: eVar b2 91 T_Q p0 :: L) := O135
 obtain ⟨c144, p145, f146⟩ := (O135.atVar (j := 3) rfl)
 refine D2.loadA' (cs := c144) rfl rfl ag91 sz91 (pt_px rfl p145) (RT.len _ f146) (faQ_eq (sm141 _ (Or.inr ⟨3, _, rfl, List.mem_singleton.2 rfl⟩)) fa_nil) ?_
 obtain ⟨x147, i148, h149⟩ := bd_inv h133
 refine D2.lo rfl rfl (Lo.callP (ps := []) (ps' := []) rfl (fn := Tryd.f110) (by kernel_rfl) rfl (mc rfl mn) O135 (fun L' O' => g_rat_Q_whole_ok K c144 p1 f146 O' _ i148)) ?_ (faL_bit (by decide) fa_nil) ?_ ?_
 ·rintro v158 H159 ⟨G150, O151, s152, sm157, ⟨w154, rfl, f155⟩⟩; exact (faR1 (.inl (by decide)) (faR1 (.inl (by decide)) fa_nil))
 ·rintro v158 H159 ⟨G150, O151, s152, sm157, ⟨w154, rfl, f155⟩⟩; exact fa_nil
 rintro v158 H159 ⟨G150, O151, s152, sm157, ⟨w154, rfl, f155⟩⟩
 replace O151 : Ow G150 H159 (eSl w118 108 (rI .u32) x110 :: eSl w86 108 (rI .u32) x78 :: eVar b12 91 T_Q (Q.mk false ([] : List Int) ([] : List Int)) :: eVar b7 91 T_Q p1 :: eVar b2 91 T_Q p0 :: L) := O151
 obtain ⟨x160, i161, h162⟩ := bd_inv h149
 refine D2.lo rfl rfl (Lo.callPF (ps := []) (pw := fun w => [eSl w 108 (rI .u32) x160]) rfl (fn := Tryd.f63) (by kernel_rfl) rfl (mc rfl (mc rfl mn)) O151 (fun L' O' => g_nat_N_Mul_ok K w138 x131 (RT.mono _ s152 f139) w154 x147 f155 O' _ i161)) ?_ (faL_bit (by decide) (faL_bit (by decide) fa_nil)) ?_ ?_
 ·rintro v171 H172 ⟨w168, G163, O164, s165, sm170, rfl⟩; exact (faR1 (.inl (by decide)) (faR1 (.inl (by decide)) fa_nil))
 ·rintro v171 H172 ⟨w168, G163, O164, s165, sm170, rfl⟩; exact fa_nil
 rintro v171 H172 ⟨w168, G163, O164, s165, sm170, rfl⟩
 replace O164 : Ow G163 H172 (eSl w168 108 (rI .u32) x160 :: eSl w118 108 (rI .u32) x110 :: eSl w86 108 (rI .u32) x78 :: eVar b12 91 T_Q (Q.mk false ([] : List Int) ([] : List Int)) :: eVar b7 91 T_Q p1 :: eVar b2 91 T_Q p0 :: L) := O164
 refine D2.q1 w168 rfl (.nil (.seq (.seq (.region (W.pure (v := (padd (.pointer (some ⟨b2, 0, none⟩)) 0)) rfl rfl (v_fldA fl91_0 (oo rfl rfl) (O164.atVar (j := 5) rfl)) (W.load1 (v := (.bool p0.neg)) (r := []) rfl rfl ag4 (pt_px rfl (At.bool (At.proj (O164.atVar (j := 5) rfl) p_Q_neg))) ?_))))))
 refine W.pure (v := (padd (.pointer (some ⟨b7, 0, none⟩)) 0)) rfl rfl (v_fldA fl91_0 (oo rfl rfl) (O164.atVar (j := 4) rfl)) (W.load1 (v := (.bool p1.neg)) (r := []) rfl rfl ag4 (pt_px rfl (At.bool (At.proj (O164.atVar (j := 4) rfl) p_Q_neg))) (W.pure (v := (.bool (p0.neg == p1.neg))) rfl rfl (bool_eql (oo rfl rfl) (oo rfl rfl) un4) (.nil (.cond (b := (p0.neg == p1.neg)) rfl rfl (fun g173 => ?_) (fun g173 => ?_)))))
 ·have h174 := pos_inv g173 h162
  refine .seq (.draw2 (M := [0, 1, 0, 0, 12, 0, 63, 127]) mixed (by kernel_rfl) (by kernel_rfl) fun H175 N179 x176 F178 => ?_)
  have O177 := O164.ext x176
  refine D2.pure (v := (padd (.pointer (some ⟨b2, 0, none⟩)) 0)) rfl rfl (v_fldA fl91_0 (oo rfl rfl) (O177.atVar (j := 5) rfl)) (D2.load1' (v := (.bool p0.neg)) (r := []) rfl rfl ag4 (pt_px rfl (At.bool (At.proj (O177.atVar (j := 5) rfl) p_Q_neg))) fa_nil (D2.q2 w86 rfl (D2.q2 w118 rfl ?_)))
  obtain ⟨G180, O181, s182, f183⟩ := O177.frzSl (j := 2) rfl
  replace O181 : Ow G180 H175 (eSl w168 108 (rI .u32) x160 :: eSl w118 108 (rI .u32) x110 :: eVar b12 91 T_Q (Q.mk false ([] : List Int) ([] : List Int)) :: eVar b7 91 T_Q p1 :: eVar b2 91 T_Q p0 :: L) := O181
  obtain ⟨G184, O185, s186, f187⟩ := O181.frzSl (j := 1) rfl
  replace O185 : Ow G184 H175 (eSl w168 108 (rI .u32) x160 :: eVar b12 91 T_Q (Q.mk false ([] : List Int) ([] : List Int)) :: eVar b7 91 T_Q p1 :: eVar b2 91 T_Q p0 :: L) := O185
  obtain ⟨x188, i189, h190⟩ := bd_inv h174
  refine D2.lo rfl rfl (Lo.callPF (ps := []) (pw := fun w => [eSl w 108 (rI .u32) x188]) rfl (fn := Tryd.f58) (by kernel_rfl) rfl (mc rfl (mc rfl mn)) O185 (fun L' O' => g_nat_N_Add_ok K w86 x78 (RT.mono _ s186 f183) w118 x110 f187 O' _ i189)) ?_ fa_nil ?_ ?_
  ·rintro v199 H200 ⟨w196, G191, O192, s193, sm198, rfl⟩; exact (faR1 (.inr (sm198 _ (Or.inr ⟨3, _, rfl, List.mem_singleton.2 rfl⟩))) fa_nil)
  ·rintro v199 H200 ⟨w196, G191, O192, s193, sm198, rfl⟩; exact fa_nil
  rintro v199 H200 ⟨w196, G191, O192, s193, sm198, rfl⟩
  replace O192 : Ow G191 H200 (eSl w196 108 (rI .u32) x188 :: eSl w168 108 (rI .u32) x160 :: eVar b12 91 T_Q (Q.mk false ([] : List Int) ([] : List Int)) :: eVar b7 91 T_Q p1 :: eVar b2 91 T_Q p0 :: L) := O192
  refine D2.q2 w168 rfl ?_
  obtain ⟨G201, O202, s203, f204⟩ := O192.frzSl (j := 0) rfl
  replace O202 : Ow G201 H200 (eSl w168 108 (rI .u32) x160 :: eVar b12 91 T_Q (Q.mk false ([] : List Int) ([] : List Int)) :: eVar b7 91 T_Q p1 :: eVar b2 91 T_Q p0 :: L) := O202
  obtain ⟨G205, O206, s207, f208⟩ := O202.frzSl (j := 0) rfl
  replace O206 : Ow G205 H200 (eVar b12 91 T_Q (Q.mk false ([] : List Int) ([] : List Int)) :: eVar b7 91 T_Q p1 :: eVar b2 91 T_Q p0 :: L) := O206
  obtain ⟨x209, i210, h211⟩ := bd_inv h190
  refine D2.lo rfl rfl (Lo.callP (ps := []) (ps' := []) rfl (fn := Tryd.f82) (by kernel_rfl) rfl (mc rfl (mc rfl (mc rfl mn))) O206 (fun L' O' => g_rat_low_ok K p0.neg w196 x188 (RT.mono _ s207 f204) w168 x160 f208 O' _ i210)) ?_ (faL_bit (by decide) fa_nil) ?_ ?_
  ·rintro v220 H221 ⟨G212, O213, s214, sm219, ⟨c216, rfl, f217⟩⟩; exact (faR1 (.inl (by decide)) fa_nil)
  ·rintro v220 H221 ⟨G212, O213, s214, sm219, ⟨c216, rfl, f217⟩⟩; exact fa_nil
  rintro v220 H221 ⟨G212, O213, s214, sm219, ⟨c216, rfl, f217⟩⟩
  replace O213 : Ow G212 H221 (eVar b12 91 T_Q (Q.mk false ([] : List Int) ([] : List Int)) :: eVar b7 91 T_Q p1 :: eVar b2 91 T_Q p0 :: L) := O213
  refine D2.lo rfl rfl (Lo.storeVar (j := 0) (s := T_Q) (y0 := x209) (v := (.agg (List.toArray c216))) (o := 0) rfl ((Put.at (Put.self _) _ _)) rfl sz91 rfl (by omega) rfl f217 O213) ?_ (faL_bit (by decide) (faL_bit (by decide) fa_nil)) ?_ ?_
  ·rintro v224 H225 ⟨O222, sm223⟩; exact (faR1 (.inl (by decide)) fa_nil)
  ·rintro v224 H225 ⟨O222, sm223⟩; exact fa_nil
  rintro v224 H225 ⟨O222, sm223⟩
  replace O222 : Ow G212 H225 (eVar b12 91 T_Q x209 :: eVar b7 91 T_Q p1 :: eVar b2 91 T_Q p0 :: L) := O222
  refine .nil (.ret ?_)
  obtain ⟨c226, p227, f228⟩ := (O222.atVar (j := 0) rfl)
  have O229 : Ow G212 H225 (eVar b7 91 T_Q p1 :: eVar b2 91 T_Q p0 :: L) := O222.drop 0
  have O230 : Ow G212 H225 (eVar b2 91 T_Q p0 :: L) := O229.drop 0
  have O231 : Ow G212 H225 (L) := O230.drop 0
  obtain rfl := Option.some.inj h211
  refine ret1R (P := Tryd.prog) (fn := Tryd.f87) (n := 65) (R := fun v H' => ∃ G', Ow G' H' (L) ∧ G.le G' ∧ ∃ (w0 : List Value), v = .agg (List.toArray w0) ∧ T_Q.rep G' w0 x209) (v1 := (.agg (List.toArray c226))) (by rfl) (rr_cellA (p := (.pointer (some ⟨b12, 0, none⟩))) (by rfl) ag91 sz91 (by exact rfl) p227 (RT.len _ f228)) ?_
  exact ⟨_, O231, (GM.le.trans s70 (GM.le.trans s83 (GM.le.trans s102 (GM.le.trans s115 (GM.le.trans s136 (GM.le.trans s152 (GM.le.trans s165 (GM.le.trans s182 (GM.le.trans s186 (GM.le.trans s193 (GM.le.trans s203 (GM.le.trans s207 s214)))))))))))), c226, rfl, f228⟩
 have h232 := neg_b g173 h162
 refine .skip (.seq (.seq (.region (W.q2 w86 rfl (W.q2 w118 rfl ?_)))))
 obtain ⟨G233, O234, s235, f236⟩ := O164.frzSl (j := 2) rfl
 replace O234 : Ow G233 H172 (eSl w168 108 (rI .u32) x160 :: eSl w118 108 (rI .u32) x110 :: eVar b12 91 T_Q (Q.mk false ([] : List Int) ([] : List Int)) :: eVar b7 91 T_Q p1 :: eVar b2 91 T_Q p0 :: L) := O234
 obtain ⟨G237, O238, s239, f240⟩ := O234.frzSl (j := 1) rfl
 replace O238 : Ow G237 H172 (eSl w168 108 (rI .u32) x160 :: eVar b12 91 T_Q (Q.mk false ([] : List Int) ([] : List Int)) :: eVar b7 91 T_Q p1 :: eVar b2 91 T_Q p0 :: L) := O238
 obtain ⟨x241, i242, h243⟩ := bd_inv h232
 refine W.lo rfl rfl (Lo.callP (ps := []) (ps' := []) rfl (fn := Tryd.f59) (by kernel_rfl) rfl (mc rfl (mc rfl mn)) O238 (fun L' O' => g_nat_N_Cmp_ok K w86 x78 (RT.mono _ s239 f236) w118 x110 f240 O' _ i242)) ?_
 rintro v250 H251 ⟨G244, O245, s246, sm249, rfl⟩
 replace O245 : Ow G244 H251 (eSl w168 108 (rI .u32) x160 :: eVar b12 91 T_Q (Q.mk false ([] : List Int) ([] : List Int)) :: eVar b7 91 T_Q p1 :: eVar b2 91 T_Q p0 :: L) := O245
 refine W.q3 (.bool (decide (x241 ≥ 0))) rfl rfl (.nil (.cond (b := decide (x241 ≥ 0)) rfl rfl (fun g252 => ?_) (fun g252 => ?_)))
 ·have h253 := pos_inv g252 h243
  refine .seq (.draw2 (M := [0, 1, 0, 0, 12, 0, 63, 127]) mixed (by kernel_rfl) (by kernel_rfl) fun H254 N258 x255 F257 => ?_)
  have O256 := O245.ext x255
  refine D2.pure (v := (padd (.pointer (some ⟨b2, 0, none⟩)) 0)) rfl rfl (v_fldA fl91_0 (oo rfl rfl) (O256.atVar (j := 3) rfl)) (D2.load1' (v := (.bool p0.neg)) (r := []) rfl rfl ag4 (pt_px rfl (At.bool (At.proj (O256.atVar (j := 3) rfl) p_Q_neg))) fa_nil (D2.q2 w86 rfl (D2.q2 w118 rfl ?_)))
  obtain ⟨x259, i260, h261⟩ := bd_inv h253
  refine D2.lo rfl rfl (Lo.callPF (ps := []) (pw := fun w => [eSl w 108 (rI .u32) x259]) rfl (fn := Tryd.f60) (by kernel_rfl) rfl (mc rfl (mc rfl mn)) O256 (fun L' O' => g_nat_N_Sub_ok K w86 x78 (RT.mono _ (GM.le.trans s239 s246) f236) w118 x110 (RT.mono _ s246 f240) O' _ i260)) ?_ fa_nil ?_ ?_
  ·rintro v270 H271 ⟨w267, G262, O263, s264, sm269, rfl⟩; exact (faR1 (.inr (sm269 _ (Or.inr ⟨3, _, rfl, List.mem_singleton.2 rfl⟩))) fa_nil)
  ·rintro v270 H271 ⟨w267, G262, O263, s264, sm269, rfl⟩; exact fa_nil
  rintro v270 H271 ⟨w267, G262, O263, s264, sm269, rfl⟩
  replace O263 : Ow G262 H271 (eSl w267 108 (rI .u32) x259 :: eSl w168 108 (rI .u32) x160 :: eVar b12 91 T_Q (Q.mk false ([] : List Int) ([] : List Int)) :: eVar b7 91 T_Q p1 :: eVar b2 91 T_Q p0 :: L) := O263
  refine D2.q2 w168 rfl ?_
  obtain ⟨G272, O273, s274, f275⟩ := O263.frzSl (j := 0) rfl
  replace O273 : Ow G272 H271 (eSl w168 108 (rI .u32) x160 :: eVar b12 91 T_Q (Q.mk false ([] : List Int) ([] : List Int)) :: eVar b7 91 T_Q p1 :: eVar b2 91 T_Q p0 :: L) := O273
  obtain ⟨G276, O277, s278, f279⟩ := O273.frzSl (j := 0) rfl
  replace O277 : Ow G276 H271 (eVar b12 91 T_Q (Q.mk false ([] : List Int) ([] : List Int)) :: eVar b7 91 T_Q p1 :: eVar b2 91 T_Q p0 :: L) := O277
  obtain ⟨x280, i281, h282⟩ := bd_inv h261
  refine D2.lo rfl rfl (Lo.callP (ps := []) (ps' := []) rfl (fn := Tryd.f82) (by kernel_rfl) rfl (mc rfl (mc rfl (mc rfl mn))) O277 (fun L' O' => g_rat_low_ok K p0.neg w267 x259 (RT.mono _ s278 f275) w168 x160 f279 O' _ i281)) ?_ (faL_bit (by decide) fa_nil) ?_ ?_
  ·rintro v291 H292 ⟨G283, O284, s285, sm290, ⟨c287, rfl, f288⟩⟩; exact (faR1 (.inl (by decide)) fa_nil)
  ·rintro v291 H292 ⟨G283, O284, s285, sm290, ⟨c287, rfl, f288⟩⟩; exact fa_nil
  rintro v291 H292 ⟨G283, O284, s285, sm290, ⟨c287, rfl, f288⟩⟩
  replace O284 : Ow G283 H292 (eVar b12 91 T_Q (Q.mk false ([] : List Int) ([] : List Int)) :: eVar b7 91 T_Q p1 :: eVar b2 91 T_Q p0 :: L) := O284
  refine D2.lo rfl rfl (Lo.storeVar (j := 0) (s := T_Q) (y0 := x280) (v := (.agg (List.toArray c287))) (o := 0) rfl ((Put.at (Put.self _) _ _)) rfl sz91 rfl (by omega) rfl f288 O284) ?_ (faL_bit (by decide) (faL_bit (by decide) fa_nil)) ?_ ?_
  ·rintro v295 H296 ⟨O293, sm294⟩; exact (faR1 (.inl (by decide)) fa_nil)
  ·rintro v295 H296 ⟨O293, sm294⟩; exact fa_nil
  rintro v295 H296 ⟨O293, sm294⟩
  replace O293 : Ow G283 H296 (eVar b12 91 T_Q x280 :: eVar b7 91 T_Q p1 :: eVar b2 91 T_Q p0 :: L) := O293
  refine .nil (.ret ?_)
  obtain ⟨c297, p298, f299⟩ := (O293.atVar (j := 0) rfl)
  have O300 : Ow G283 H296 (eVar b7 91 T_Q p1 :: eVar b2 91 T_Q p0 :: L) := O293.drop 0
  have O301 : Ow G283 H296 (eVar b2 91 T_Q p0 :: L) := O300.drop 0
  have O302 : Ow G283 H296 (L) := O301.drop 0
  obtain rfl := Option.some.inj h282
  refine ret1R (P := Tryd.prog) (fn := Tryd.f87) (n := 65) (R := fun v H' => ∃ G', Ow G' H' (L) ∧ G.le G' ∧ ∃ (w0 : List Value), v = .agg (List.toArray w0) ∧ T_Q.rep G' w0 x280) (v1 := (.agg (List.toArray c297))) (by rfl) (rr_cellA (p := (.pointer (some ⟨b12, 0, none⟩))) (by rfl) ag91 sz91 (by exact rfl) p298 (RT.len _ f299)) ?_
  exact ⟨_, O302, (GM.le.trans s70 (GM.le.trans s83 (GM.le.trans s102 (GM.le.trans s115 (GM.le.trans s136 (GM.le.trans s152 (GM.le.trans s165 (GM.le.trans s235 (GM.le.trans s239 (GM.le.trans s246 (GM.le.trans s264 (GM.le.trans s274 (GM.le.trans s278 s285))))))))))))), c297, rfl, f299⟩
 have h303 := neg_b g252 h243
 refine .skip (.seq (.draw2 (M := [0, 1, 0, 0, 12, 0, 63, 127]) mixed (by kernel_rfl) (by kernel_rfl) fun H304 N308 x305 F307 => ?_))
 have O306 := O245.ext x305
 refine D2.pure (v := (padd (.pointer (some ⟨b7, 0, none⟩)) 0)) rfl rfl (v_fldA fl91_0 (oo rfl rfl) (O306.atVar (j := 2) rfl)) (D2.load1' (v := (.bool p1.neg)) (r := []) rfl rfl ag4 (pt_px rfl (At.bool (At.proj (O306.atVar (j := 2) rfl) p_Q_neg))) fa_nil (D2.q2 w118 rfl (D2.q2 w86 rfl ?_)))
 obtain ⟨x309, i310, h311⟩ := bd_inv h303
 refine D2.lo rfl rfl (Lo.callPF (ps := []) (pw := fun w => [eSl w 108 (rI .u32) x309]) rfl (fn := Tryd.f60) (by kernel_rfl) rfl (mc rfl (mc rfl mn)) O306 (fun L' O' => g_nat_N_Sub_ok K w118 x110 (RT.mono _ s246 f240) w86 x78 (RT.mono _ (GM.le.trans s239 s246) f236) O' _ i310)) ?_ fa_nil ?_ ?_
 ·rintro v320 H321 ⟨w317, G312, O313, s314, sm319, rfl⟩; exact (faR1 (.inr (sm319 _ (Or.inr ⟨2, _, rfl, List.mem_singleton.2 rfl⟩))) fa_nil)
 ·rintro v320 H321 ⟨w317, G312, O313, s314, sm319, rfl⟩; exact fa_nil
 rintro v320 H321 ⟨w317, G312, O313, s314, sm319, rfl⟩
 replace O313 : Ow G312 H321 (eSl w317 108 (rI .u32) x309 :: eSl w168 108 (rI .u32) x160 :: eVar b12 91 T_Q (Q.mk false ([] : List Int) ([] : List Int)) :: eVar b7 91 T_Q p1 :: eVar b2 91 T_Q p0 :: L) := O313
 refine D2.q2 w168 rfl ?_
 obtain ⟨G322, O323, s324, f325⟩ := O313.frzSl (j := 0) rfl
 replace O323 : Ow G322 H321 (eSl w168 108 (rI .u32) x160 :: eVar b12 91 T_Q (Q.mk false ([] : List Int) ([] : List Int)) :: eVar b7 91 T_Q p1 :: eVar b2 91 T_Q p0 :: L) := O323
 obtain ⟨G326, O327, s328, f329⟩ := O323.frzSl (j := 0) rfl
 replace O327 : Ow G326 H321 (eVar b12 91 T_Q (Q.mk false ([] : List Int) ([] : List Int)) :: eVar b7 91 T_Q p1 :: eVar b2 91 T_Q p0 :: L) := O327
 obtain ⟨x330, i331, h332⟩ := bd_inv h311
 refine D2.lo rfl rfl (Lo.callP (ps := []) (ps' := []) rfl (fn := Tryd.f82) (by kernel_rfl) rfl (mc rfl (mc rfl (mc rfl mn))) O327 (fun L' O' => g_rat_low_ok K p1.neg w317 x309 (RT.mono _ s328 f325) w168 x160 f329 O' _ i331)) ?_ (faL_bit (by decide) fa_nil) ?_ ?_
 ·rintro v341 H342 ⟨G333, O334, s335, sm340, ⟨c337, rfl, f338⟩⟩; exact (faR1 (.inl (by decide)) fa_nil)
 ·rintro v341 H342 ⟨G333, O334, s335, sm340, ⟨c337, rfl, f338⟩⟩; exact fa_nil
 rintro v341 H342 ⟨G333, O334, s335, sm340, ⟨c337, rfl, f338⟩⟩
 replace O334 : Ow G333 H342 (eVar b12 91 T_Q (Q.mk false ([] : List Int) ([] : List Int)) :: eVar b7 91 T_Q p1 :: eVar b2 91 T_Q p0 :: L) := O334
 refine D2.lo rfl rfl (Lo.storeVar (j := 0) (s := T_Q) (y0 := x330) (v := (.agg (List.toArray c337))) (o := 0) rfl ((Put.at (Put.self _) _ _)) rfl sz91 rfl (by omega) rfl f338 O334) ?_ (faL_bit (by decide) (faL_bit (by decide) fa_nil)) ?_ ?_
 ·rintro v345 H346 ⟨O343, sm344⟩; exact (faR1 (.inl (by decide)) fa_nil)
 ·rintro v345 H346 ⟨O343, sm344⟩; exact fa_nil
 rintro v345 H346 ⟨O343, sm344⟩
 replace O343 : Ow G333 H346 (eVar b12 91 T_Q x330 :: eVar b7 91 T_Q p1 :: eVar b2 91 T_Q p0 :: L) := O343
 refine .nil (.ret ?_)
 obtain ⟨c347, p348, f349⟩ := (O343.atVar (j := 0) rfl)
 have O350 : Ow G333 H346 (eVar b7 91 T_Q p1 :: eVar b2 91 T_Q p0 :: L) := O343.drop 0
 have O351 : Ow G333 H346 (eVar b2 91 T_Q p0 :: L) := O350.drop 0
 have O352 : Ow G333 H346 (L) := O351.drop 0
 obtain rfl := Option.some.inj h332
 refine ret1R (P := Tryd.prog) (fn := Tryd.f87) (n := 65) (R := fun v H' => ∃ G', Ow G' H' (L) ∧ G.le G' ∧ ∃ (w0 : List Value), v = .agg (List.toArray w0) ∧ T_Q.rep G' w0 x330) (v1 := (.agg (List.toArray c347))) (by rfl) (rr_cellA (p := (.pointer (some ⟨b12, 0, none⟩))) (by rfl) ag91 sz91 (by exact rfl) p348 (RT.len _ f349)) ?_
 exact ⟨_, O352, (GM.le.trans s70 (GM.le.trans s83 (GM.le.trans s102 (GM.le.trans s115 (GM.le.trans s136 (GM.le.trans s152 (GM.le.trans s165 (GM.le.trans s235 (GM.le.trans s239 (GM.le.trans s246 (GM.le.trans s314 (GM.le.trans s324 (GM.le.trans s328 s335))))))))))))), c347, rfl, f349⟩
def g_rat_Add (K : Nat) (p0 : ByteArray) (p1 : ByteArray) : Option (ByteArray × Int) := ((g_rat_two K p0 p1 (fun x => g_rat_Q_Add K x.1 x.2)).bind fun x5 => some (x5.1, x5.2))
set_option maxHeartbeats 4000000 in
theorem g_rat_Add_ok (K : Nat) {G : GM} {H : AH} {L : List Pc} (p0 : ByteArray) (p1 : ByteArray) (O : Ow G H (L)) (r : ByteArray × Int) (h : g_rat_Add K p0 p1 = some r) :
    CR Tryd.prog 39 [(.string p0), (.string p1)] G H (L) (fun v G' _ => v = .tuple #[.string r.1, .int .i64 r.2]) := by
 unfold g_rat_Add at h
 refine CR.of (calls_of_AW (n := 11) (fn := Tryd.f39) (R := fun v H' => ∃ G', Ow G' H' (L) ∧ G.le G' ∧ v = .tuple #[.string r.1, .int .i64 r.2]) (by kernel_rfl) rfl rfl ?_)
 refine .seq (.region (W.q1 (.string (⟨#[]⟩ : ByteArray)) rfl (W.q1 (.int .i64 0) rfl (.nil (.seq (.region ?_))))))
 refine W.q2 (.string p0) rfl (W.q2 (.string p1) rfl ?_)
 obtain ⟨x5, i6, h7⟩ := bd_inv h
 refine W.lo rfl rfl (Lo.callP (ps := []) (ps' := []) rfl (fn := Tryd.f86) (by kernel_rfl) rfl (mc rfl (mc rfl (mc rfl mn))) O (fun L' O' => g_rat_two_ok K p0 p1 (.func (.func 87) #[] #[]) (fun x => g_rat_Q_Add K x.1 x.2) ⟨87, _, _, Tryd.f87, rfl, by kernel_rfl, rfl, fun G1 H L vs x r hG O hA hF => by obtain ⟨w1, w3, rfl, f2, f4⟩ := hA; exact g_rat_Q_Add_ok K w1 x.1 f2 w3 x.2 f4 O _ hF⟩ O' _ i6)) ?_
 rintro v14 H15 ⟨G8, O9, s10, sm13, rfl⟩
 replace O9 : Ow G8 H15 (L) := O9
 refine W.pure (v := (.string x5.1)) rfl rfl (v_extract (oo rfl rfl) rfl) (W.pure (v := (.int .i64 x5.2)) rfl rfl (v_extract (oo rfl rfl) rfl) (W.q1 (.string x5.1) rfl (W.q1 (.int .i64 x5.2) rfl (.nil (.ret ?_)))))
 obtain rfl := Option.some.inj h7
 refine ret2R (P := Tryd.prog) (fn := Tryd.f39) (n := 11) (R := fun v H' => ∃ G', Ow G' H' (L) ∧ G.le G' ∧ v = .tuple #[.string (x5.1, x5.2).1, .int .i64 (x5.1, x5.2).2]) (v1 := (.string x5.1)) (v2 := (.int .i64 x5.2)) (by rfl) (rr_tmp (by rfl) (by exact rfl)) (rr_tmp (by rfl) (by exact rfl)) ?_
 exact ⟨_, O9, s10, rfl⟩
def g_rat_Q_Neg (K : Nat) (p0 : Q) : Option Q := (if ((List.length p0.num : Int) == 0) = true then some p0 else some (Q.mk (!p0.neg) p0.num p0.den))
set_option maxHeartbeats 4000000 in
theorem g_rat_Q_Neg_ok (K : Nat) {G : GM} {H : AH} {L : List Pc} (v0 : List Value) (p0 : Q) (hp0 : T_Q.rep G v0 p0) (O : Ow G H (L)) (r : Q) (h : g_rat_Q_Neg K p0 = some r) :
    CR Tryd.prog 90 [.agg (List.toArray v0)] G H (L) (fun v G' _ => ∃ (w0 : List Value), v = .agg (List.toArray w0) ∧ T_Q.rep G' w0 r) := by
 unfold g_rat_Q_Neg at h
 refine CR.of (calls_of_AW (n := 16) (fn := Tryd.f90) (R := fun v H' => ∃ G', Ow G' H' (L) ∧ G.le G' ∧ ∃ (w0 : List Value), v = .agg (List.toArray w0) ∧ T_Q.rep G' w0 r) (by kernel_rfl) rfl rfl ?_)
 refine .seq (.region (W.lo rfl rfl (Lo.box (r := T_Q) (x0 := p0) (v := (.agg (List.toArray v0))) rfl rfl hp0 O) ?_))
 rintro v4 H5 ⟨b2, rfl, O1, sm3⟩
 refine W.lo rfl rfl (Lo.alloc (r := T_Q) (x0 := (Q.mk false ([] : List Int) ([] : List Int))) ze91 (by kernel_rfl) z_Q O1) ?_
 rintro v9 H10 ⟨b7, rfl, O6, sm8⟩
 refine .nil (.seq (.seq (.region (W.pure (v := (padd (.pointer (some ⟨b2, 0, none⟩)) 1)) rfl rfl (v_fldA fl91_1 (oo rfl rfl) (O6.atVar (j := 1) rfl)) ?_))))
 obtain ⟨w11, p12, f13⟩ := At.sl (At.proj (O6.atVar (j := 1) rfl) p_Q_num)
 refine W.load1 (v := w11) (r := []) rfl rfl ag64 (pt_px rfl p12) (W.pure (v := (.int .i64 (List.length p0.num : Int))) rfl rfl (len_sl (oo rfl rfl) (sl_len f13) (elemT_inv el64)) (W.q3 (.bool ((List.length p0.num : Int) == 0)) rfl rfl (.nil (.cond (b := ((List.length p0.num : Int) == 0)) rfl rfl (fun g14 => ?_) (fun g14 => ?_)))))
 ·have h15 := pos_inv g14 h
  refine .seq (.region ?_)
  obtain ⟨c16, p17, f18⟩ := (O6.atVar (j := 1) rfl)
  refine W.loadA (cs := c16) rfl rfl ag91 sz91 (pt_px rfl p17) (RT.len _ f18) (W.lo rfl rfl (Lo.storeVar (j := 0) (s := T_Q) (y0 := p0) (v := (.agg (List.toArray c16))) (o := 0) rfl ((Put.at (Put.self _) _ _)) rfl sz91 rfl (by omega) rfl f18 O6) ?_)
  rintro v21 H22 ⟨O19, sm20⟩
  replace O19 : Ow G H22 (eVar b7 91 T_Q p0 :: eVar b2 91 T_Q p0 :: L) := O19
  refine .nil (.ret ?_)
  obtain ⟨c23, p24, f25⟩ := (O19.atVar (j := 0) rfl)
  have O26 : Ow G H22 (eVar b2 91 T_Q p0 :: L) := O19.drop 0
  have O27 : Ow G H22 (L) := O26.drop 0
  obtain rfl := Option.some.inj h15
  refine ret1R (P := Tryd.prog) (fn := Tryd.f90) (n := 16) (R := fun v H' => ∃ G', Ow G' H' (L) ∧ G.le G' ∧ ∃ (w0 : List Value), v = .agg (List.toArray w0) ∧ T_Q.rep G' w0 p0) (v1 := (.agg (List.toArray c23))) (by rfl) (rr_cellA (p := (.pointer (some ⟨b7, 0, none⟩))) (by rfl) ag91 sz91 (by exact rfl) p24 (RT.len _ f25)) ?_
  exact ⟨_, O27, (GM.le.refl _), c23, rfl, f25⟩
 have h28 := neg_b g14 h
 refine .skip (.seq (.region (W.pure (v := (padd (.pointer (some ⟨b2, 0, none⟩)) 0)) rfl rfl (v_fldA fl91_0 (oo rfl rfl) (O6.atVar (j := 1) rfl)) (W.load1 (v := (.bool p0.neg)) (r := []) rfl rfl ag4 (pt_px rfl (At.bool (At.proj (O6.atVar (j := 1) rfl) p_Q_neg))) (W.pure (v := (.bool (!p0.neg))) rfl rfl (bool_not (a := p0.neg) (oo rfl rfl)) (W.pure (v := (padd (.pointer (some ⟨b2, 0, none⟩)) 1)) rfl rfl (v_fldA fl91_1 (oo rfl rfl) (O6.atVar (j := 1) rfl)) ?_))))))
 obtain ⟨w29, p30, f31⟩ := At.sl (At.proj (O6.atVar (j := 1) rfl) p_Q_num)
 refine W.load1 (v := w29) (r := []) rfl rfl ag64 (pt_px rfl p30) (W.pure (v := (padd (.pointer (some ⟨b2, 0, none⟩)) 2)) rfl rfl (v_fldA fl91_2 (oo rfl rfl) (O6.atVar (j := 1) rfl)) ?_)
 obtain ⟨w32, p33, f34⟩ := At.sl (At.proj (O6.atVar (j := 1) rfl) p_Q_den)
 refine W.load1 (v := w32) (r := []) rfl rfl ag64 (pt_px rfl p33) ?_
 obtain ⟨c35, e37, f36⟩ := bd_Q_0_1_2 ((.bool (!p0.neg))) (w29) (w32) (rfl) ((sl_cells f31)) ((sl_cells f34))
 refine W.pure (v := .agg (List.toArray c35)) rfl rfl (e37 (opndP_oo rfl (qc' rfl (qc' rfl (qc' rfl qn'))))) (W.lo rfl rfl (Lo.storeVar (j := 0) (s := T_Q) (y0 := (Q.mk (!p0.neg) p0.num p0.den)) (v := (.agg (List.toArray c35))) (o := 0) rfl ((Put.at (Put.self _) _ _)) rfl sz91 rfl (by omega) rfl f36 O6) ?_)
 rintro v40 H41 ⟨O38, sm39⟩
 replace O38 : Ow G H41 (eVar b7 91 T_Q (Q.mk (!p0.neg) p0.num p0.den) :: eVar b2 91 T_Q p0 :: L) := O38
 refine .nil (.ret ?_)
 obtain ⟨c42, p43, f44⟩ := (O38.atVar (j := 0) rfl)
 have O45 : Ow G H41 (eVar b2 91 T_Q p0 :: L) := O38.drop 0
 have O46 : Ow G H41 (L) := O45.drop 0
 obtain rfl := Option.some.inj h28
 refine ret1R (P := Tryd.prog) (fn := Tryd.f90) (n := 16) (R := fun v H' => ∃ G', Ow G' H' (L) ∧ G.le G' ∧ ∃ (w0 : List Value), v = .agg (List.toArray w0) ∧ T_Q.rep G' w0 (Q.mk (!p0.neg) p0.num p0.den)) (v1 := (.agg (List.toArray c42))) (by rfl) (rr_cellA (p := (.pointer (some ⟨b7, 0, none⟩))) (by rfl) ag91 sz91 (by exact rfl) p43 (RT.len _ f44)) ?_
 exact ⟨_, O46, (GM.le.refl _), c42, rfl, f44⟩
end Go.Am.Tryd
