/- Typed functions with the same answers as the program's, and the walks that show it. -/
import Derived.Test.YtlmgdnhnpkgheaaDoorG3Z6
import Derived.Test.YtlmgdnhnpkgheaaDoorG2Z6
import Derived.Laws.Strings
namespace Go.Am.Tryd
open Go Go.Am Go.Proofs
set_option linter.unusedVariables false
set_option linter.unusedSimpArgs false
set_option maxRecDepth 10000

def g_nat_Compare (K : Nat) (p0 : ByteArray) (p1 : ByteArray) : Option (Int × Int) := ((g_nat_both K p0 p1).bind fun x1 => (if (x1.2.2 != 0) = true then some (0, x1.2.2) else ((g_nat_N_Cmp K x1.1 x1.2.1).bind fun x19 => some (x19, 0))))
set_option maxHeartbeats 4000000 in
theorem g_nat_Compare_ok (K : Nat) {G : GM} {H : AH} {L : List Pc} (p0 : ByteArray) (p1 : ByteArray) (O : Ow G H (L)) (r : Int × Int) (h : g_nat_Compare K p0 p1 = some r) :
  CR Tryd.prog 53 [(.string p0), (.string p1)] G H (L) (fun v G' _ => v = .tuple #[.int .i64 r.1, .int .i64 r.2]) := by
 unfold g_nat_Compare at h
 refine CR.of (calls_of_AW (n := 22) (fn := Tryd.f53) (R := fun v H' => ∃ G', Ow G' H' (L) ∧ G.le G' ∧ v = .tuple #[.int .i64 r.1, .int .i64 r.2]) (by kernel_rfl) rfl rfl ?_)
 refine .seq ?_
 refine .region ?_
 refine W.pure (v := (.int .i64 0)) rfl rfl (v_assign (oo rfl rfl)) ?_
 refine W.pure (v := (.int .i64 0)) rfl rfl (v_assign (oo rfl rfl)) ?_
 refine .nil ?_
 refine .seq ?_
 refine .region ?_
 refine W.pure (v := (.string p0)) rfl rfl (v_move (oo rfl rfl)) ?_
 refine W.pure (v := (.string p1)) rfl rfl (v_move (oo rfl rfl)) ?_
 obtain ⟨x1, i2, h3⟩ := bd_inv h
 refine W.lo rfl rfl (Lo.callP (ps := []) (ps' := []) rfl (fn := Tryd.f56) (by kernel_rfl) rfl (mc rfl (mc rfl mn)) O (fun L' O' => g_nat_both_ok K p0 p1 O' _ i2)) ?_
 rintro v14 H15 ⟨G4, O5, s6, sm13, ⟨w8, w10, rfl, f9, f11⟩⟩
 replace O5 : Ow G4 H15 (L) := O5
 refine W.pure (v := (.tuple #[w8, w10, (.int .i64 x1.2.2)])) rfl rfl (v_move (oo rfl rfl)) ?_
 refine W.pure (v := w8) rfl rfl (v_extract (oo rfl rfl) rfl) ?_
 refine W.pure (v := w10) rfl rfl (v_extract (oo rfl rfl) rfl) ?_
 refine W.pure (v := (.int .i64 x1.2.2)) rfl rfl (v_extract (oo rfl rfl) rfl) ?_
 refine W.pure (v := w8) rfl rfl (v_assign (oo rfl rfl)) ?_
 refine W.pure (v := w10) rfl rfl (v_assign (oo rfl rfl)) ?_
 refine W.pure (v := (.int .i64 x1.2.2)) rfl rfl (v_assign (oo rfl rfl)) ?_
 refine .nil ?_
 refine .seq ?_
 refine .seq ?_
 refine .region ?_
 refine W.pure (v := (.int .i64 x1.2.2)) rfl rfl (v_move (oo rfl rfl)) ?_
 refine W.pure (v := (.bool (x1.2.2 != 0))) rfl rfl (v_int (oo rfl rfl) (oo rfl rfl) rfl) ?_
 refine .nil ?_
 refine .cond (b := (x1.2.2 != 0)) rfl rfl (fun g16 => ?_) (fun g16 => ?_)
 ·have h17 := pos_inv g16 h3
  refine .seq ?_
  refine .region ?_
  refine W.pure (v := (.int .i64 x1.2.2)) rfl rfl (v_move (oo rfl rfl)) ?_
  refine W.pure (v := (.int .i64 0)) rfl rfl (v_assign (oo rfl rfl)) ?_
  refine W.pure (v := (.int .i64 x1.2.2)) rfl rfl (v_assign (oo rfl rfl)) ?_
  refine .nil ?_
  refine .ret ?_
  obtain rfl := Option.some.inj h17
  refine ret2R (P := Tryd.prog) (fn := Tryd.f53) (n := 22) (R := fun v H' => ∃ G', Ow G' H' (L) ∧ G.le G' ∧ v = .tuple #[.int .i64 (0, x1.2.2).1, .int .i64 (0, x1.2.2).2]) (v1 := (.int .i64 0)) (v2 := (.int .i64 x1.2.2)) (by rfl) (rr_tmp (by rfl) (by exact rfl)) (rr_tmp (by rfl) (by exact rfl)) ?_
  exact ⟨_, O5, s6, rfl⟩
 ·have h18 := neg_b g16 h3
  refine .skip ?_
  refine .seq ?_
  refine .region ?_
  refine W.pure (v := w8) rfl rfl (v_move (oo rfl rfl)) ?_
  refine W.pure (v := w10) rfl rfl (v_move (oo rfl rfl)) ?_
  obtain ⟨x19, i20, h21⟩ := bd_inv h18
  refine W.lo rfl rfl (Lo.callP (ps := []) (ps' := []) rfl (fn := Tryd.f59) (by kernel_rfl) rfl (mc rfl (mc rfl mn)) O5 (fun L' O' => g_nat_N_Cmp_ok K w8 x1.1 f9 w10 x1.2.1 f11 O' _ i20)) ?_
  rintro v28 H29 ⟨G22, O23, s24, sm27, rfl⟩
  replace O23 : Ow G22 H29 (L) := O23
  refine W.pure (v := (.int .i64 x19)) rfl rfl (v_assign (oo rfl rfl)) ?_
  refine W.pure (v := (.int .i64 0)) rfl rfl (v_assign (oo rfl rfl)) ?_
  refine .nil ?_
  refine .ret ?_
  obtain rfl := Option.some.inj h21
  refine ret2R (P := Tryd.prog) (fn := Tryd.f53) (n := 22) (R := fun v H' => ∃ G', Ow G' H' (L) ∧ G.le G' ∧ v = .tuple #[.int .i64 (x19, 0).1, .int .i64 (x19, 0).2]) (v1 := (.int .i64 x19)) (v2 := (.int .i64 0)) (by rfl) (rr_tmp (by rfl) (by exact rfl)) (rr_tmp (by rfl) (by exact rfl)) ?_
  exact ⟨_, O23, (GM.le.trans s6 s24), rfl⟩
def g_nat_Of_l0 (K : Nat) : Nat → List Int → Int → Option (List Int)
 | 0, _, _ => none
 | k + 1, x6, x7 => (if (decide (x7 > 0)) = true then (if List.length x6 + List.length [IntKind.wrap .u32 (Int.tmod x7 1000000000)] ≤ 16777216 then g_nat_Of_l0 K k (x6 ++ [IntKind.wrap .u32 (Int.tmod x7 1000000000)]) (kwrap .i64 (Int.tdiv x7 1000000000)) else none) else some x6)
def g_nat_Of (K : Nat) (p0 : Int) : Option (List Int) := (Option.bind (g_nat_Of_l0 K K [] p0) (tu1 fun x33 => some x33))
set_option maxHeartbeats 4000000 in
theorem g_nat_Of_ok (K : Nat) {G : GM} {H : AH} {L : List Pc} (p0 : Int) (O : Ow G H (L)) (r : List Int) (h : g_nat_Of K p0 = some r) :
  CRF Tryd.prog 71 [(.int .i64 p0)] G H (fun w0 => (eSl w0 108 (rI .u32) r :: L)) (fun w0 v G' => w0 = v) := by
 unfold g_nat_Of at h
 refine CRF.of (calls_of_AW (n := 15) (fn := Tryd.f71) (R := fun v H' => ∃ w0 G', Ow G' H' (eSl w0 108 (rI .u32) r :: L) ∧ G.le G' ∧ w0 = v) (by kernel_rfl) rfl rfl ?_)
 refine .seq ?_
 refine .region ?_
 refine W.pure (v := (.slice none 0 0)) rfl rfl (v_assign (oo rfl rfl)) ?_
 refine .nil ?_
 refine .seq ?_
 refine .region ?_
 refine W.pure (v := (.slice none 0 0)) rfl rfl (v_assign (oo rfl rfl)) ?_
 refine .nil ?_
 refine .seq ?_
 obtain ⟨q1, h2, h3⟩ := bd_inv h
 refine AW.midT (fun σ' H' => ∃ (y1 : List Int) (G' : GM), y1 = q1 ∧ Ow G' H' (eSl (σ' 3) 108 (rI .u32) y1 :: L) ∧ GM.le G G') ?_ ?_
 ·refine .block ?_
  have O4 := O.nilSl 108 (rI .u32)
  refine AW.loop (α := Nat) (fun k' σ' H' => ∃ (y1 : List Int) (y2 : Int) (G' : GM), g_nat_Of_l0 K k' y1 y2 = some q1 ∧ Ow G' H' (eSl (σ' 3) 108 (rI .u32) y1 :: L) ∧ GM.le G G' ∧ σ' 0 = .int .i64 y2) (fun k' => k') K ⟨[], p0, _, h2, O4, (GM.le.refl _), rfl⟩ ?_
  rintro k5
  rintro σ8 H9 fr10 ⟨x6, x7, G11, h14, O12, s13, t15⟩
  rcases k5 with _ | k5
  ·exact none_absurd h14
  rw [g_nat_Of_l0] at h14
  refine .seq ?_
  refine .seq ?_
  refine .region ?_
  refine W.pure (v := (.int .i64 x7)) rfl rfl (v_move (oo rfl t15)) ?_
  refine W.pure (v := (.bool (decide (x7 > 0)))) rfl rfl (v_int (oo rfl rfl) (oo rfl rfl) rfl) ?_
  refine .nil ?_
  refine .cond (b := decide (x7 > 0)) rfl rfl (fun g16 => ?_) (fun g16 => ?_)
  ·have h17 := pos_inv g16 h14
   refine .skip ?_
   refine .block ?_
   refine .seq ?_
   refine .region ?_
   refine W.pure (v := (σ8 3)) rfl rfl (v_move (oo rfl rfl)) ?_
   refine W.pure (v := (.int .i64 x7)) rfl rfl (v_move (oo rfl t15)) ?_
   refine W.pure (v := (.int .i64 (Int.tmod x7 1000000000))) rfl rfl (v_rem (by decide) (oo rfl rfl) (oo rfl rfl)) ?_
   refine W.pure (v := (.int .u32 (IntKind.wrap .u32 (Int.tmod x7 1000000000)))) rfl rfl (v_conv in3 in108 (oo rfl rfl)) ?_
   refine W.lo rfl rfl (Lo.buildSlice (r := (rI .u32)) (vs := [(.int .u32 (IntKind.wrap .u32 (Int.tmod x7 1000000000)))]) (xs := [IntKind.wrap .u32 (Int.tmod x7 1000000000)]) el64 ze108 sz108 (by kernel_rfl) rfl (qc rfl qn) rfl (.cons rfl .nil) O12) ?_
   rintro v20 H21 ⟨O18, sm19⟩
   obtain ⟨es23, e24, e25⟩ := src_own (j := 0) rfl O18
   obtain ⟨g26, h27⟩ := gd_inv h17
   refine W.lo rfl rfl (Lo.append (j := 1) (v := (σ8 3)) rfl rfl el64 ni64 ze108 sz108 by108 (by decide) (by decide) rfl e24 e25 g26 O18) ?_
   rintro v29 H30 ⟨O22, sm28⟩
   replace O22 : Ow G11 H30 (eSl v20 108 (rI .u32) [IntKind.wrap .u32 (Int.tmod x7 1000000000)] :: eSl v29 108 (rI .u32) (x6 ++ [IntKind.wrap .u32 (Int.tmod x7 1000000000)]) :: L) := O22
   refine W.pure (v := v29) rfl rfl (v_assign (oo rfl rfl)) ?_
   refine .nil ?_
   refine .region ?_
   refine W.pure (v := (.int .i64 x7)) rfl rfl (v_move (oo rfl t15)) ?_
   refine W.pure (v := (.int .i64 (kwrap .i64 (Int.tdiv x7 1000000000)))) rfl rfl (v_quo (by decide) (oo rfl rfl) (oo rfl rfl)) ?_
   refine W.pure (v := (.int .i64 (kwrap .i64 (Int.tdiv x7 1000000000)))) rfl rfl (v_assign (oo rfl rfl)) ?_
   refine .nil ?_
   have O31 : Ow G11 H30 (eSl v29 108 (rI .u32) (x6 ++ [IntKind.wrap .u32 (Int.tmod x7 1000000000)]) :: L) := O22.drop 0
   exact ⟨k5, Nat.lt_succ_self _, ⟨(x6 ++ [IntKind.wrap .u32 (Int.tmod x7 1000000000)]), kwrap .i64 (Int.tdiv x7 1000000000), _, h27, O31, s13, rfl⟩⟩
  ·have h32 := neg_b g16 h14
   refine .exit ?_
   obtain rfl := Option.some.inj h32
   exact ⟨x6, _, rfl, O12, s13⟩
 ·rintro σ34 H35 fr36 ⟨x33, G37, rfl, O38, s39⟩
  have h41 := tu1_inv h3
  refine .seq ?_
  refine .region ?_
  refine W.pure (v := (σ34 3)) rfl rfl (v_move (oo rfl rfl)) ?_
  refine W.pure (v := (σ34 3)) rfl rfl (v_assign (oo rfl rfl)) ?_
  refine .nil ?_
  refine .ret ?_
  obtain rfl := Option.some.inj h41
  refine ret1R (P := Tryd.prog) (fn := Tryd.f71) (n := 15) (R := fun v H' => ∃ w0 G', Ow G' H' (eSl w0 108 (rI .u32) x33 :: L) ∧ G.le G' ∧ w0 = v) (v1 := (σ34 3)) (by rfl) (rr_tmp (by rfl) (by exact rfl)) ?_
  exact ⟨(σ34 3), _, O38, s39, rfl⟩
def g_nat_N_Digits (K : Nat) (p0 : List Int) : Option Int := ((g_nat_N_Text K p0).bind fun x1 => some (x1.size : Int))
set_option maxHeartbeats 4000000 in
theorem g_nat_N_Digits_ok (K : Nat) {G : GM} {H : AH} {L : List Pc} (v0 : Value) (p0 : List Int) (hp0 : (rSl (rI .u32)).rep G [v0] p0) (O : Ow G H (L)) (r : Int) (h : g_nat_N_Digits K p0 = some r) :
  CR Tryd.prog 72 [v0] G H (L) (fun v G' _ => v = .int .i64 r) := by
 unfold g_nat_N_Digits at h
 refine CR.of (calls_of_AW (n := 6) (fn := Tryd.f72) (R := fun v H' => ∃ G', Ow G' H' (L) ∧ G.le G' ∧ v = .int .i64 r) (by kernel_rfl) rfl rfl ?_)
 refine .seq ?_
 refine .region ?_
 refine W.pure (v := (.int .i64 0)) rfl rfl (v_assign (oo rfl rfl)) ?_
 refine .nil ?_
 refine .seq ?_
 refine .region ?_
 refine W.pure (v := v0) rfl rfl (v_move (oo rfl rfl)) ?_
 obtain ⟨x1, i2, h3⟩ := bd_inv h
 refine W.lo rfl rfl (Lo.callP (ps := []) (ps' := []) rfl (fn := Tryd.f67) (by kernel_rfl) rfl (mc rfl mn) O (fun L' O' => g_nat_N_Text_ok K v0 p0 hp0 O' _ i2)) ?_
 rintro v10 H11 ⟨G4, O5, s6, sm9, rfl⟩
 replace O5 : Ow G4 H11 (L) := O5
 refine W.pure (v := (.int .i64 (x1.size : Int))) rfl rfl (len_str (oo rfl rfl) un9) ?_
 refine W.pure (v := (.int .i64 (x1.size : Int))) rfl rfl (v_assign (oo rfl rfl)) ?_
 refine .nil ?_
 refine .ret ?_
 obtain rfl := Option.some.inj h3
 refine ret1R (P := Tryd.prog) (fn := Tryd.f72) (n := 6) (R := fun v H' => ∃ G', Ow G' H' (L) ∧ G.le G' ∧ v = .int .i64 (x1.size : Int)) (v1 := (.int .i64 (x1.size : Int))) (by rfl) (rr_tmp (by rfl) (by exact rfl)) ?_
 exact ⟨_, O5, s6, rfl⟩
def g_nat_Power_l0 (K : Nat) (p1 : Int) (x35 : List Int) : Nat → List Int → Int → Option ((ByteArray × Int) ⊕ (List Int))
 | 0, _, _ => none
 | k + 1, x109, x110 => (if (decide (x110 < p1)) = true then ((g_nat_N_Mul K x109 x35).bind fun x122 => ((g_nat_N_Digits K x122).bind fun x135 => (if (decide (x135 > 2000)) = true then some (.inl ((⟨#[]⟩ : ByteArray), 2)) else g_nat_Power_l0 K p1 x35 k x122 (kwrap .i64 (x110 + 1))))) else some (.inr x109))
def g_nat_Power (K : Nat) (p0 : ByteArray) (p1 : Int) : Option (ByteArray × Int) := ((g_nat_Check K p0).bind fun x1 => (if (x1 != 0) = true then some ((⟨#[]⟩ : ByteArray), x1) else (Option.bind ((if (decide (p1 < 0)) = true then some true else some (decide (p1 > 10000)))) (tu1 fun x22 => (if x22 = true then some ((⟨#[]⟩ : ByteArray), 4) else ((g_nat_Read K p0).bind fun x35 => ((g_nat_Of K 1).bind fun x48 => ((g_nat_Of K 1).bind fun x61 => ((g_nat_N_Cmp K x35 x61).bind fun x82 => (if (decide (x82 ≤ 0)) = true then (if (p1 == 0) = true then some ((⟨#[49]⟩ : ByteArray), 0) else some (p0, 0)) else (bindS (g_nat_Power_l0 K p1 x35 K x48 0) (tu2 fun a177 a178 => some (a177, a178)) (tu1 fun x156 => ((g_nat_told K x156).bind fun x166 => some (x166.1, x166.2))))))))))))))
set_option maxHeartbeats 4000000 in
theorem g_nat_Power_ok (K : Nat) {G : GM} {H : AH} {L : List Pc} (p0 : ByteArray) (p1 : Int) (O : Ow G H (L)) (r : ByteArray × Int) (h : g_nat_Power K p0 p1 = some r) :
  CR Tryd.prog 30 [(.string p0), (.int .i64 p1)] G H (L) (fun v G' _ => v = .tuple #[.string r.1, .int .i64 r.2]) := by
 unfold g_nat_Power at h
 refine CR.of (calls_of_AW (n := 44) (fn := Tryd.f30) (R := fun v H' => ∃ G', Ow G' H' (L) ∧ G.le G' ∧ v = .tuple #[.string r.1, .int .i64 r.2]) (by kernel_rfl) rfl rfl ?_)
 refine .seq ?_
 refine .region ?_
 refine W.pure (v := (.string (⟨#[]⟩ : ByteArray))) rfl rfl (v_assign (oo rfl rfl)) ?_
 refine W.pure (v := (.int .i64 0)) rfl rfl (v_assign (oo rfl rfl)) ?_
 refine .nil ?_
 refine .seq ?_
 refine .seq ?_
 refine .region ?_
 refine W.pure (v := (.string p0)) rfl rfl (v_move (oo rfl rfl)) ?_
 obtain ⟨x1, i2, h3⟩ := bd_inv h
 refine W.lo rfl rfl (Lo.callP (ps := []) (ps' := []) rfl (fn := Tryd.f14) (by kernel_rfl) rfl (mc rfl mn) O (fun L' O' => g_nat_Check_ok K p0 O' _ i2)) ?_
 rintro v10 H11 ⟨G4, O5, s6, sm9, rfl⟩
 replace O5 : Ow G4 H11 (L) := O5
 refine W.pure (v := (.int .i64 x1)) rfl rfl (v_assign (oo rfl rfl)) ?_
 refine .nil ?_
 refine .seq ?_
 refine .region ?_
 refine W.pure (v := (.int .i64 x1)) rfl rfl (v_move (oo rfl rfl)) ?_
 refine W.pure (v := (.bool (x1 != 0))) rfl rfl (v_int (oo rfl rfl) (oo rfl rfl) rfl) ?_
 refine .nil ?_
 refine .cond (b := (x1 != 0)) rfl rfl (fun g12 => ?_) (fun g12 => ?_)
 ·have h13 := pos_inv g12 h3
  refine .seq ?_
  refine .region ?_
  refine W.pure (v := (.int .i64 x1)) rfl rfl (v_move (oo rfl rfl)) ?_
  refine W.pure (v := (.string (⟨#[]⟩ : ByteArray))) rfl rfl (v_assign (oo rfl rfl)) ?_
  refine W.pure (v := (.int .i64 x1)) rfl rfl (v_assign (oo rfl rfl)) ?_
  refine .nil ?_
  refine .ret ?_
  obtain rfl := Option.some.inj h13
  refine ret2R (P := Tryd.prog) (fn := Tryd.f30) (n := 44) (R := fun v H' => ∃ G', Ow G' H' (L) ∧ G.le G' ∧ v = .tuple #[.string ((⟨#[]⟩ : ByteArray), x1).1, .int .i64 ((⟨#[]⟩ : ByteArray), x1).2]) (v1 := (.string (⟨#[]⟩ : ByteArray))) (v2 := (.int .i64 x1)) (by rfl) (rr_tmp (by rfl) (by exact rfl)) (rr_tmp (by rfl) (by exact rfl)) ?_
  exact ⟨_, O5, s6, rfl⟩
 ·have h14 := neg_b g12 h3
  refine .skip ?_
  refine .seq ?_
  refine .seq ?_
  obtain ⟨q15, h16, h17⟩ := bd_inv h14
  refine AW.midT (fun σ' H' => ∃ (y1 : Bool) (G' : GM), y1 = q15 ∧ Ow G' H' (L) ∧ GM.le G4 G' ∧ σ' 19 = .bool y1) ?_ ?_
  ·refine .region ?_
   refine W.pure (v := (.int .i64 p1)) rfl rfl (v_move (oo rfl rfl)) ?_
   refine W.pure (v := (.bool (decide (p1 < 0)))) rfl rfl (v_int (oo rfl rfl) (oo rfl rfl) rfl) ?_
   refine W.pure (v := (.bool (decide (p1 < 0)))) rfl rfl (v_move (oo rfl rfl)) ?_
   refine W.splitAt (t := 16) (b := decide (p1 < 0)) rfl (fun g18 gv19 => ?_) (fun g18 gv19 => ?_)
   ·have h20 := pos_inv g18 h16
    refine W.skip (gk rfl rfl gv19 rfl) rfl ?_
    refine W.skip (gk rfl rfl gv19 rfl) rfl ?_
    refine W.pure (v := (.bool true)) rfl rfl (v_pickT (oo rfl gv19) (oo rfl rfl)) ?_
    refine .nil ?_
    obtain rfl := Option.some.inj h20
    exact ⟨true, _, rfl, O5, (GM.le.refl _), rfl⟩
   ·have h21 := neg_b g18 h16
    refine W.pure (v := (.int .i64 p1)) (gk rfl rfl gv19 rfl) rfl (v_move (oo rfl rfl)) ?_
    refine W.pure (v := (.bool (decide (p1 > 10000)))) (gk rfl rfl gv19 rfl) rfl (v_int (oo rfl rfl) (oo rfl rfl) rfl) ?_
    refine W.pure (v := (.bool (decide (p1 > 10000)))) rfl rfl (v_pickF (oo rfl gv19) (oo rfl rfl)) ?_
    refine .nil ?_
    obtain rfl := Option.some.inj h21
    exact ⟨decide (p1 > 10000), _, rfl, O5, (GM.le.refl _), rfl⟩
  ·rintro σ23 H24 fr25 ⟨x22, G26, rfl, O27, s28, t30⟩
   have h31 := tu1_inv h17
   refine .cond (b := x22) rfl t30 (fun g32 => ?_) (fun g32 => ?_)
   ·have h33 := pos_inv g32 h31
    refine .seq ?_
    refine .region ?_
    refine W.pure (v := (.string (⟨#[]⟩ : ByteArray))) rfl rfl (v_assign (oo rfl rfl)) ?_
    refine W.pure (v := (.int .i64 4)) rfl rfl (v_assign (oo rfl rfl)) ?_
    refine .nil ?_
    refine .ret ?_
    obtain rfl := Option.some.inj h33
    refine ret2R (P := Tryd.prog) (fn := Tryd.f30) (n := 44) (R := fun v H' => ∃ G', Ow G' H' (L) ∧ G.le G' ∧ v = .tuple #[.string ((⟨#[]⟩ : ByteArray), 4).1, .int .i64 ((⟨#[]⟩ : ByteArray), 4).2]) (v1 := (.string (⟨#[]⟩ : ByteArray))) (v2 := (.int .i64 4)) (by rfl) (rr_tmp (by rfl) (by exact rfl)) (rr_tmp (by rfl) (by exact rfl)) ?_
    exact ⟨_, O27, (GM.le.trans s6 s28), rfl⟩
   ·have h34 := neg_b g32 h31
    refine .skip ?_
    refine .seq ?_
    refine .region ?_
    refine W.pure (v := (.string p0)) rfl rfl (v_move (oo rfl ((fr25 0 rfl).trans rfl))) ?_
    obtain ⟨x35, i36, h37⟩ := bd_inv h34
    refine W.lo rfl rfl (Lo.callPF (ps := []) (pw := fun w => [eSl w 108 (rI .u32) x35]) rfl (fn := Tryd.f70) (by kernel_rfl) rfl (mc rfl mn) O27 (fun L' O' => g_nat_Read_ok K p0 O' _ i36)) ?_
    rintro v46 H47 ⟨w43, G38, O39, s40, sm45, rfl⟩
    replace O39 : Ow G38 H47 (eSl w43 108 (rI .u32) x35 :: L) := O39
    obtain ⟨x48, i49, h50⟩ := bd_inv h37
    refine W.lo rfl rfl (Lo.callPF (ps := []) (pw := fun w => [eSl w 108 (rI .u32) x48]) rfl (fn := Tryd.f71) (by kernel_rfl) rfl (mc rfl mn) O39 (fun L' O' => g_nat_Of_ok K 1 O' _ i49)) ?_
    rintro v59 H60 ⟨w56, G51, O52, s53, sm58, rfl⟩
    replace O52 : Ow G51 H60 (eSl w56 108 (rI .u32) x48 :: eSl w43 108 (rI .u32) x35 :: L) := O52
    refine W.pure (v := w43) rfl rfl (v_assign (oo rfl rfl)) ?_
    refine W.pure (v := w56) rfl rfl (v_assign (oo rfl rfl)) ?_
    refine .nil ?_
    refine .seq ?_
    refine .seq ?_
    refine .region ?_
    refine W.pure (v := w43) rfl rfl (v_move (oo rfl rfl)) ?_
    obtain ⟨x61, i62, h63⟩ := bd_inv h50
    refine W.lo rfl rfl (Lo.callPF (ps := []) (pw := fun w => [eSl w 108 (rI .u32) x61]) rfl (fn := Tryd.f71) (by kernel_rfl) rfl (mc rfl mn) O52 (fun L' O' => g_nat_Of_ok K 1 O' _ i62)) ?_
    rintro v72 H73 ⟨w69, G64, O65, s66, sm71, rfl⟩
    replace O65 : Ow G64 H73 (eSl w69 108 (rI .u32) x61 :: eSl w56 108 (rI .u32) x48 :: eSl w43 108 (rI .u32) x35 :: L) := O65
    obtain ⟨G74, O75, s76, f77⟩ := O65.frzSl (j := 2) rfl
    replace O75 : Ow G74 H73 (eSl w69 108 (rI .u32) x61 :: eSl w56 108 (rI .u32) x48 :: L) := O75
    obtain ⟨G78, O79, s80, f81⟩ := O75.frzSl (j := 0) rfl
    replace O79 : Ow G78 H73 (eSl w56 108 (rI .u32) x48 :: L) := O79
    obtain ⟨x82, i83, h84⟩ := bd_inv h63
    refine W.lo rfl rfl (Lo.callP (ps := []) (ps' := []) rfl (fn := Tryd.f59) (by kernel_rfl) rfl (mc rfl (mc rfl mn)) O79 (fun L' O' => g_nat_N_Cmp_ok K w43 x35 (RT.mono _ s80 f77) w69 x61 f81 O' _ i83)) ?_
    rintro v91 H92 ⟨G85, O86, s87, sm90, rfl⟩
    replace O86 : Ow G85 H92 (eSl w56 108 (rI .u32) x48 :: L) := O86
    refine W.pure (v := (.bool (decide (x82 ≤ 0)))) rfl rfl (v_int (oo rfl rfl) (oo rfl rfl) rfl) ?_
    refine .nil ?_
    refine .cond (b := decide (x82 ≤ 0)) rfl rfl (fun g93 => ?_) (fun g93 => ?_)
    ·have h94 := pos_inv g93 h84
     refine .seq ?_
     refine .seq ?_
     refine .region ?_
     refine W.pure (v := (.int .i64 p1)) rfl rfl (v_move (oo rfl ((fr25 1 rfl).trans rfl))) ?_
     refine W.pure (v := (.bool (p1 == 0))) rfl rfl (v_int (oo rfl rfl) (oo rfl rfl) rfl) ?_
     refine .nil ?_
     refine .cond (b := (p1 == 0)) rfl rfl (fun g95 => ?_) (fun g95 => ?_)
     ·have h96 := pos_inv g95 h94
      refine .seq ?_
      refine .region ?_
      refine W.pure (v := (.string (⟨#[49]⟩ : ByteArray))) rfl rfl (v_assign (oo rfl rfl)) ?_
      refine W.pure (v := (.int .i64 0)) rfl rfl (v_assign (oo rfl rfl)) ?_
      refine .nil ?_
      refine .ret ?_
      have O97 : Ow G85 H92 (L) := O86.drop 0
      obtain rfl := Option.some.inj h96
      refine ret2R (P := Tryd.prog) (fn := Tryd.f30) (n := 44) (R := fun v H' => ∃ G', Ow G' H' (L) ∧ G.le G' ∧ v = .tuple #[.string ((⟨#[49]⟩ : ByteArray), 0).1, .int .i64 ((⟨#[49]⟩ : ByteArray), 0).2]) (v1 := (.string (⟨#[49]⟩ : ByteArray))) (v2 := (.int .i64 0)) (by rfl) (rr_tmp (by rfl) (by exact rfl)) (rr_tmp (by rfl) (by exact rfl)) ?_
      exact ⟨_, O97, (GM.le.trans s6 (GM.le.trans s28 (GM.le.trans s40 (GM.le.trans s53 (GM.le.trans s66 (GM.le.trans s76 (GM.le.trans s80 s87))))))), rfl⟩
     ·have h98 := neg_b g95 h94
      refine .skip ?_
      refine .seq ?_
      refine .region ?_
      refine W.pure (v := (.string p0)) rfl rfl (v_move (oo rfl ((fr25 0 rfl).trans rfl))) ?_
      refine W.pure (v := (.string p0)) rfl rfl (v_assign (oo rfl rfl)) ?_
      refine W.pure (v := (.int .i64 0)) rfl rfl (v_assign (oo rfl rfl)) ?_
      refine .nil ?_
      refine .ret ?_
      have O99 : Ow G85 H92 (L) := O86.drop 0
      obtain rfl := Option.some.inj h98
      refine ret2R (P := Tryd.prog) (fn := Tryd.f30) (n := 44) (R := fun v H' => ∃ G', Ow G' H' (L) ∧ G.le G' ∧ v = .tuple #[.string (p0, 0).1, .int .i64 (p0, 0).2]) (v1 := (.string p0)) (v2 := (.int .i64 0)) (by rfl) (rr_tmp (by rfl) (by exact rfl)) (rr_tmp (by rfl) (by exact rfl)) ?_
      exact ⟨_, O99, (GM.le.trans s6 (GM.le.trans s28 (GM.le.trans s40 (GM.le.trans s53 (GM.le.trans s66 (GM.le.trans s76 (GM.le.trans s80 s87))))))), rfl⟩
    ·have h100 := neg_b g93 h84
     refine .skip ?_
     refine .seq ?_
     refine .seq ?_
     refine .region ?_
     refine W.pure (v := (.int .i64 p1)) rfl rfl (v_move (oo rfl ((fr25 1 rfl).trans rfl))) ?_
     refine W.pure (v := (.int .i64 0)) rfl rfl (v_move (oo rfl rfl)) ?_
     refine .nil ?_
     obtain ⟨G101, O102, s103, f104⟩ := O86.frzSl (j := 0) rfl
     replace O102 : Ow G101 H92 (L) := O102
     obtain ⟨q105, h106, h107⟩ := bindS_inv h100
     refine AW.midT (fun σ' H' => ∃ (y1 : List Int) (G' : GM), (.inr y1) = q105 ∧ Ow G' H' (L) ∧ GM.le G101 G' ∧ (rSl (rI .u32)).rep G' [σ' 8] y1) ?_ ?_
     ·refine .block ?_
      refine AW.loop (α := Nat) (fun k' σ' H' => ∃ (y1 : List Int) (y2 : Int) (G' : GM), g_nat_Power_l0 K p1 x35 k' y1 y2 = some q105 ∧ Ow G' H' (L) ∧ GM.le G101 G' ∧ (rSl (rI .u32)).rep G' [σ' 8] y1 ∧ σ' 31 = .int .i64 y2) (fun k' => k') K ⟨x48, 0, _, h106, O102, (GM.le.refl _), f104, rfl⟩ ?_
      rintro k108
      rintro σ111 H112 fr113 ⟨x109, x110, G114, h117, O115, s116, f118, t119⟩
      rcases k108 with _ | k108
      ·exact none_absurd h117
      rw [g_nat_Power_l0] at h117
      refine .seq ?_
      refine .region ?_
      refine W.pure (v := (.bool (decide (x110 < p1)))) rfl rfl (v_int (oo rfl t119) (oo rfl ((fr113 30 rfl).trans rfl)) rfl) ?_
      refine .nil ?_
      refine .seq ?_
      refine .cond (b := decide (x110 < p1)) rfl rfl (fun g120 => ?_) (fun g120 => ?_)
      ·have h121 := pos_inv g120 h117
       refine .skip ?_
       refine .seq ?_
       refine .block ?_
       refine .seq ?_
       refine .region ?_
       refine W.pure (v := (σ111 8)) rfl rfl (v_move (oo rfl rfl)) ?_
       refine W.pure (v := w43) rfl rfl (v_move (oo rfl ((fr113 7 rfl).trans rfl))) ?_
       obtain ⟨x122, i123, h124⟩ := bd_inv h121
       refine W.lo rfl rfl (Lo.callPF (ps := []) (pw := fun w => [eSl w 108 (rI .u32) x122]) rfl (fn := Tryd.f63) (by kernel_rfl) rfl (mc rfl (mc rfl mn)) O115 (fun L' O' => g_nat_N_Mul_ok K (σ111 8) x109 f118 w43 x35 (RT.mono _ (GM.le.trans s80 (GM.le.trans s87 (GM.le.trans s103 s116))) f77) O' _ i123)) ?_
       rintro v133 H134 ⟨w130, G125, O126, s127, sm132, rfl⟩
       replace O126 : Ow G125 H134 (eSl w130 108 (rI .u32) x122 :: L) := O126
       refine W.pure (v := w130) rfl rfl (v_assign (oo rfl rfl)) ?_
       refine .nil ?_
       refine .seq ?_
       refine .region ?_
       refine W.pure (v := w130) rfl rfl (v_move (oo rfl rfl)) ?_
       obtain ⟨x135, i136, h137⟩ := bd_inv h124
       refine W.lo rfl rfl (Lo.callB (j := 0) rfl rfl (fn := Tryd.f72) (by kernel_rfl) rfl (mc rfl mn) O126 (fun G' L' hG O' hB => g_nat_N_Digits_ok K w130 x122 hB O' _ i136)) ?_
       rintro v144 H145 ⟨G138, O139, s140, sm143, rfl⟩
       replace O139 : Ow G138 H145 (eSl w130 108 (rI .u32) x122 :: L) := O139
       refine W.pure (v := (.bool (decide (x135 > 2000)))) rfl rfl (v_int (oo rfl rfl) (oo rfl rfl) rfl) ?_
       refine .nil ?_
       refine .cond (b := decide (x135 > 2000)) rfl rfl (fun g146 => ?_) (fun g146 => ?_)
       ·have h147 := pos_inv g146 h137
        refine .seq ?_
        refine .region ?_
        refine W.pure (v := (.string (⟨#[]⟩ : ByteArray))) rfl rfl (v_assign (oo rfl rfl)) ?_
        refine W.pure (v := (.int .i64 2)) rfl rfl (v_assign (oo rfl rfl)) ?_
        refine .nil ?_
        refine .ret ?_
        have O148 : Ow G138 H145 (L) := O139.drop 0
        obtain rfl := Option.some.inj h147
        have h149 := tu2_inv (outS_l h107)
        obtain rfl := Option.some.inj h149
        refine ret2R (P := Tryd.prog) (fn := Tryd.f30) (n := 44) (R := fun v H' => ∃ G', Ow G' H' (L) ∧ G.le G' ∧ v = .tuple #[.string ((⟨#[]⟩ : ByteArray), 2).1, .int .i64 ((⟨#[]⟩ : ByteArray), 2).2]) (v1 := (.string (⟨#[]⟩ : ByteArray))) (v2 := (.int .i64 2)) (by rfl) (rr_tmp (by rfl) (by exact rfl)) (rr_tmp (by rfl) (by exact rfl)) ?_
        exact ⟨_, O148, (GM.le.trans s6 (GM.le.trans s28 (GM.le.trans s40 (GM.le.trans s53 (GM.le.trans s66 (GM.le.trans s76 (GM.le.trans s80 (GM.le.trans s87 (GM.le.trans s103 (GM.le.trans s116 (GM.le.trans s127 s140))))))))))), rfl⟩
       ·have h150 := neg_b g146 h137
        refine .skip ?_
        refine .region ?_
        refine W.pure (v := (.int .i64 (kwrap .i64 (x110 + 1)))) rfl rfl (v_int (oo rfl t119) (oo rfl rfl) rfl) ?_
        refine W.pure (v := (.int .i64 (kwrap .i64 (x110 + 1)))) rfl rfl (v_move (oo rfl rfl)) ?_
        refine .nil ?_
        obtain ⟨G151, O152, s153, f154⟩ := O139.frzSl (j := 0) rfl
        replace O152 : Ow G151 H145 (L) := O152
        exact ⟨k108, Nat.lt_succ_self _, ⟨x122, kwrap .i64 (x110 + 1), _, h150, O152, (GM.le.trans s116 (GM.le.trans s127 (GM.le.trans s140 s153))), f154, rfl⟩⟩
      ·have h155 := neg_b g120 h117
       refine .exit ?_
       obtain rfl := Option.some.inj h155
       exact ⟨x109, _, rfl, O115, s116, f118⟩
     ·rintro σ157 H158 fr159 ⟨x156, G160, rfl, O161, s162, f164⟩
      have h165 := tu1_inv (outS_r h107)
      refine .seq ?_
      refine .region ?_
      refine W.pure (v := (σ157 8)) rfl rfl (v_move (oo rfl rfl)) ?_
      obtain ⟨x166, i167, h168⟩ := bd_inv h165
      refine W.lo rfl rfl (Lo.callP (ps := []) (ps' := []) rfl (fn := Tryd.f57) (by kernel_rfl) rfl (mc rfl mn) O161 (fun L' O' => g_nat_told_ok K (σ157 8) x156 f164 O' _ i167)) ?_
      rintro v175 H176 ⟨G169, O170, s171, sm174, rfl⟩
      replace O170 : Ow G169 H176 (L) := O170
      refine W.pure (v := (.string x166.1)) rfl rfl (v_extract (oo rfl rfl) rfl) ?_
      refine W.pure (v := (.int .i64 x166.2)) rfl rfl (v_extract (oo rfl rfl) rfl) ?_
      refine W.pure (v := (.string x166.1)) rfl rfl (v_assign (oo rfl rfl)) ?_
      refine W.pure (v := (.int .i64 x166.2)) rfl rfl (v_assign (oo rfl rfl)) ?_
      refine .nil ?_
      refine .ret ?_
      obtain rfl := Option.some.inj h168
      refine ret2R (P := Tryd.prog) (fn := Tryd.f30) (n := 44) (R := fun v H' => ∃ G', Ow G' H' (L) ∧ G.le G' ∧ v = .tuple #[.string (x166.1, x166.2).1, .int .i64 (x166.1, x166.2).2]) (v1 := (.string x166.1)) (v2 := (.int .i64 x166.2)) (by rfl) (rr_tmp (by rfl) (by exact rfl)) (rr_tmp (by rfl) (by exact rfl)) ?_
      exact ⟨_, O170, (GM.le.trans s6 (GM.le.trans s28 (GM.le.trans s40 (GM.le.trans s53 (GM.le.trans s66 (GM.le.trans s76 (GM.le.trans s80 (GM.le.trans s87 (GM.le.trans s103 (GM.le.trans s162 s171)))))))))), rfl⟩
def g_strings_Repeat (K : Nat) (p0 : ByteArray) (p1 : Int) : Option ByteArray := (if (p1 == 0) = true then some (⟨#[]⟩ : ByteArray) else (if (p1 == 1) = true then some p0 else (if (decide (p1 < 0)) = true then none else none)))
set_option maxHeartbeats 4000000 in
theorem g_strings_Repeat_ok (K : Nat) {G : GM} {H : AH} {L : List Pc} (p0 : ByteArray) (p1 : Int) (O : Ow G H (L)) (r : ByteArray) (h : g_strings_Repeat K p0 p1 = some r) :
  CR Tryd.prog 98 [(.string p0), (.int .i64 p1)] G H (L) (fun v G' _ => v = .string r) := by
 unfold g_strings_Repeat at h
 refine CR.of (calls_of_AW (n := 125) (fn := Tryd.f98) (R := fun v H' => ∃ G', Ow G' H' (L) ∧ G.le G' ∧ v = .string r) (by kernel_rfl) rfl rfl ?_)
 refine .seq ?_
 refine .region ?_
 refine W.pure (v := (.string (⟨#[]⟩ : ByteArray))) rfl rfl (v_assign (oo rfl rfl)) ?_
 refine .nil ?_
 refine .seq ?_
 refine .seq ?_
 refine .region ?_
 refine W.pure (v := (.int .i64 p1)) rfl rfl (v_move (oo rfl rfl)) ?_
 refine .nil ?_
 refine .block ?_
 refine .seq ?_
 refine .region ?_
 refine W.pure (v := (.bool (p1 == 0))) rfl rfl (v_int (oo rfl rfl) (oo rfl rfl) rfl) ?_
 refine W.pure (v := (.bool (p1 == 0))) rfl rfl (v_assign (oo rfl rfl)) ?_
 refine .nil ?_
 refine .cond (b := (p1 == 0)) rfl rfl (fun g1 => ?_) (fun g1 => ?_)
 ·have h2 := pos_inv g1 h
  refine .seq ?_
  refine .region ?_
  refine W.pure (v := (.string (⟨#[]⟩ : ByteArray))) rfl rfl (v_assign (oo rfl rfl)) ?_
  refine .nil ?_
  refine .ret ?_
  obtain rfl := Option.some.inj h2
  refine ret1R (P := Tryd.prog) (fn := Tryd.f98) (n := 125) (R := fun v H' => ∃ G', Ow G' H' (L) ∧ G.le G' ∧ v = .string (⟨#[]⟩ : ByteArray)) (v1 := (.string (⟨#[]⟩ : ByteArray))) (by rfl) (rr_tmp (by rfl) (by exact rfl)) ?_
  exact ⟨_, O, (GM.le.refl _), rfl⟩
 ·have h3 := neg_b g1 h
  refine .seq ?_
  refine .region ?_
  refine W.pure (v := (.bool (p1 == 1))) rfl rfl (v_int (oo rfl rfl) (oo rfl rfl) rfl) ?_
  refine W.pure (v := (.bool (p1 == 1))) rfl rfl (v_assign (oo rfl rfl)) ?_
  refine .nil ?_
  refine .cond (b := (p1 == 1)) rfl rfl (fun g4 => ?_) (fun g4 => ?_)
  ·have h5 := pos_inv g4 h3
   refine .seq ?_
   refine .region ?_
   refine W.pure (v := (.string p0)) rfl rfl (v_move (oo rfl rfl)) ?_
   refine W.pure (v := (.string p0)) rfl rfl (v_assign (oo rfl rfl)) ?_
   refine .nil ?_
   refine .ret ?_
   obtain rfl := Option.some.inj h5
   refine ret1R (P := Tryd.prog) (fn := Tryd.f98) (n := 125) (R := fun v H' => ∃ G', Ow G' H' (L) ∧ G.le G' ∧ v = .string p0) (v1 := (.string p0)) (by rfl) (rr_tmp (by rfl) (by exact rfl)) ?_
   exact ⟨_, O, (GM.le.refl _), rfl⟩
  ·have h6 := neg_b g4 h3
   refine .skip ?_
   refine .seq ?_
   refine .seq ?_
   refine .region ?_
   refine W.pure (v := (.int .i64 p1)) rfl rfl (v_move (oo rfl rfl)) ?_
   refine W.pure (v := (.bool (decide (p1 < 0)))) rfl rfl (v_int (oo rfl rfl) (oo rfl rfl) rfl) ?_
   refine .nil ?_
   refine .cond (b := decide (p1 < 0)) rfl rfl (fun g7 => ?_) (fun g7 => ?_)
   ·have h8 := pos_inv g7 h6
    refine .region ?_
    exact gap h8
   ·have h9 := neg_b g7 h6
    refine .skip ?_
    refine .seq ?_
    refine .region ?_
    refine W.pure (v := (.string p0)) rfl rfl (v_move (oo rfl rfl)) ?_
    refine W.pure (v := (.int .i64 (p0.size : Int))) rfl rfl (len_str (oo rfl rfl) un9) ?_
    refine W.pure (v := (.int .u64 (IntKind.wrap .u64 (p0.size : Int)))) rfl rfl (v_conv in3 in118 (oo rfl rfl)) ?_
    refine W.pure (v := (.int .i64 p1)) rfl rfl (v_move (oo rfl rfl)) ?_
    refine W.pure (v := (.int .u64 (IntKind.wrap .u64 p1))) rfl rfl (v_conv in3 in118 (oo rfl rfl)) ?_
    exact gap h9
def g_nat_Root_l0 (K : Nat) (x15 : List Int) : Nat → List Int → Option (ByteArray × Int)
 | 0, _ => none
 | k + 1, x70 => ((g_nat_N_Div K x15 x70).bind fun x79 => ((g_nat_N_Add K x70 x79.1).bind fun x94 => ((g_nat_N_short K x94 2).bind fun x111 => ((g_nat_N_Cmp K x111.1 x70).bind fun x126 => (if (decide (x126 ≥ 0)) = true then ((g_nat_N_Text K x70).bind fun x139 => some (x139, 0)) else g_nat_Root_l0 K x15 k x111.1)))))
def g_nat_Root (K : Nat) (p0 : ByteArray) : Option (ByteArray × Int) := ((g_nat_Check K p0).bind fun x1 => (if (x1 != 0) = true then some ((⟨#[]⟩ : ByteArray), x1) else ((g_nat_Read K p0).bind fun x15 => (if ((List.length x15 : Int) == 0) = true then some ((⟨#[48]⟩ : ByteArray), 0) else ((g_strings_Repeat K (⟨#[48]⟩ : ByteArray) (kwrap .i64 (Int.tdiv (kwrap .i64 ((p0.size : Int) + 1)) 2))).bind fun x32 => (if ((⟨#[49]⟩ : ByteArray)).size + (x32).size ≤ 4611686018427387904 then ((g_nat_Read K ((⟨#[49]⟩ : ByteArray) ++ x32)).bind fun x45 => (g_nat_Root_l0 K x15 K x45).bind (tu2 fun a152 a153 => some (a152, a153))) else none))))))
set_option maxHeartbeats 4000000 in
theorem g_nat_Root_ok (K : Nat) {G : GM} {H : AH} {L : List Pc} (p0 : ByteArray) (O : Ow G H (L)) (r : ByteArray × Int) (h : g_nat_Root K p0 = some r) :
  CR Tryd.prog 54 [(.string p0)] G H (L) (fun v G' _ => v = .tuple #[.string r.1, .int .i64 r.2]) := by
 unfold g_nat_Root at h
 refine CR.of (calls_of_AW (n := 48) (fn := Tryd.f54) (R := fun v H' => ∃ G', Ow G' H' (L) ∧ G.le G' ∧ v = .tuple #[.string r.1, .int .i64 r.2]) (by kernel_rfl) rfl rfl ?_)
 refine .seq ?_
 refine .region ?_
 refine W.pure (v := (.string (⟨#[]⟩ : ByteArray))) rfl rfl (v_assign (oo rfl rfl)) ?_
 refine W.pure (v := (.int .i64 0)) rfl rfl (v_assign (oo rfl rfl)) ?_
 refine .nil ?_
 refine .seq ?_
 refine .seq ?_
 refine .region ?_
 refine W.pure (v := (.string p0)) rfl rfl (v_move (oo rfl rfl)) ?_
 obtain ⟨x1, i2, h3⟩ := bd_inv h
 refine W.lo rfl rfl (Lo.callP (ps := []) (ps' := []) rfl (fn := Tryd.f14) (by kernel_rfl) rfl (mc rfl mn) O (fun L' O' => g_nat_Check_ok K p0 O' _ i2)) ?_
 rintro v10 H11 ⟨G4, O5, s6, sm9, rfl⟩
 replace O5 : Ow G4 H11 (L) := O5
 refine W.pure (v := (.int .i64 x1)) rfl rfl (v_assign (oo rfl rfl)) ?_
 refine .nil ?_
 refine .seq ?_
 refine .region ?_
 refine W.pure (v := (.int .i64 x1)) rfl rfl (v_move (oo rfl rfl)) ?_
 refine W.pure (v := (.bool (x1 != 0))) rfl rfl (v_int (oo rfl rfl) (oo rfl rfl) rfl) ?_
 refine .nil ?_
 refine .cond (b := (x1 != 0)) rfl rfl (fun g12 => ?_) (fun g12 => ?_)
 ·have h13 := pos_inv g12 h3
  refine .seq ?_
  refine .region ?_
  refine W.pure (v := (.int .i64 x1)) rfl rfl (v_move (oo rfl rfl)) ?_
  refine W.pure (v := (.string (⟨#[]⟩ : ByteArray))) rfl rfl (v_assign (oo rfl rfl)) ?_
  refine W.pure (v := (.int .i64 x1)) rfl rfl (v_assign (oo rfl rfl)) ?_
  refine .nil ?_
  refine .ret ?_
  obtain rfl := Option.some.inj h13
  refine ret2R (P := Tryd.prog) (fn := Tryd.f54) (n := 48) (R := fun v H' => ∃ G', Ow G' H' (L) ∧ G.le G' ∧ v = .tuple #[.string ((⟨#[]⟩ : ByteArray), x1).1, .int .i64 ((⟨#[]⟩ : ByteArray), x1).2]) (v1 := (.string (⟨#[]⟩ : ByteArray))) (v2 := (.int .i64 x1)) (by rfl) (rr_tmp (by rfl) (by exact rfl)) (rr_tmp (by rfl) (by exact rfl)) ?_
  exact ⟨_, O5, s6, rfl⟩
 ·have h14 := neg_b g12 h3
  refine .skip ?_
  refine .seq ?_
  refine .region ?_
  refine W.pure (v := (.string p0)) rfl rfl (v_move (oo rfl rfl)) ?_
  obtain ⟨x15, i16, h17⟩ := bd_inv h14
  refine W.lo rfl rfl (Lo.callPF (ps := []) (pw := fun w => [eSl w 108 (rI .u32) x15]) rfl (fn := Tryd.f70) (by kernel_rfl) rfl (mc rfl mn) O5 (fun L' O' => g_nat_Read_ok K p0 O' _ i16)) ?_
  rintro v26 H27 ⟨w23, G18, O19, s20, sm25, rfl⟩
  replace O19 : Ow G18 H27 (eSl w23 108 (rI .u32) x15 :: L) := O19
  refine W.pure (v := w23) rfl rfl (v_assign (oo rfl rfl)) ?_
  refine .nil ?_
  refine .seq ?_
  refine .seq ?_
  refine .region ?_
  refine W.pure (v := w23) rfl rfl (v_move (oo rfl rfl)) ?_
  refine W.pure (v := (.int .i64 (List.length x15 : Int))) rfl rfl (len_sl (oo rfl rfl) (O19.slLen (j := 0) rfl) (elemT_inv el64)) ?_
  refine W.pure (v := (.bool ((List.length x15 : Int) == 0))) rfl rfl (v_int (oo rfl rfl) (oo rfl rfl) rfl) ?_
  refine .nil ?_
  refine .cond (b := ((List.length x15 : Int) == 0)) rfl rfl (fun g28 => ?_) (fun g28 => ?_)
  ·have h29 := pos_inv g28 h17
   refine .seq ?_
   refine .region ?_
   refine W.pure (v := (.string (⟨#[48]⟩ : ByteArray))) rfl rfl (v_assign (oo rfl rfl)) ?_
   refine W.pure (v := (.int .i64 0)) rfl rfl (v_assign (oo rfl rfl)) ?_
   refine .nil ?_
   refine .ret ?_
   have O30 : Ow G18 H27 (L) := O19.drop 0
   obtain rfl := Option.some.inj h29
   refine ret2R (P := Tryd.prog) (fn := Tryd.f54) (n := 48) (R := fun v H' => ∃ G', Ow G' H' (L) ∧ G.le G' ∧ v = .tuple #[.string ((⟨#[48]⟩ : ByteArray), 0).1, .int .i64 ((⟨#[48]⟩ : ByteArray), 0).2]) (v1 := (.string (⟨#[48]⟩ : ByteArray))) (v2 := (.int .i64 0)) (by rfl) (rr_tmp (by rfl) (by exact rfl)) (rr_tmp (by rfl) (by exact rfl)) ?_
   exact ⟨_, O30, (GM.le.trans s6 s20), rfl⟩
  ·have h31 := neg_b g28 h17
   refine .skip ?_
   refine .seq ?_
   refine .region ?_
   refine W.pure (v := (.string p0)) rfl rfl (v_move (oo rfl rfl)) ?_
   refine W.pure (v := (.int .i64 (p0.size : Int))) rfl rfl (len_str (oo rfl rfl) un9) ?_
   refine W.pure (v := (.int .i64 (kwrap .i64 ((p0.size : Int) + 1)))) rfl rfl (v_int (oo rfl rfl) (oo rfl rfl) rfl) ?_
   refine W.pure (v := (.int .i64 (kwrap .i64 (Int.tdiv (kwrap .i64 ((p0.size : Int) + 1)) 2)))) rfl rfl (v_quo (by decide) (oo rfl rfl) (oo rfl rfl)) ?_
   obtain ⟨x32, i33, h34⟩ := bd_inv h31
   refine W.lo rfl rfl (Lo.callP (ps := []) (ps' := []) rfl (fn := Tryd.f98) (by kernel_rfl) rfl (mc rfl (mc rfl mn)) O19 (fun L' O' => g_strings_Repeat_ok K (⟨#[48]⟩ : ByteArray) (kwrap .i64 (Int.tdiv (kwrap .i64 ((p0.size : Int) + 1)) 2)) O' _ i33)) ?_
   rintro v41 H42 ⟨G35, O36, s37, sm40, rfl⟩
   replace O36 : Ow G35 H42 (eSl w23 108 (rI .u32) x15 :: L) := O36
   obtain ⟨g43, h44⟩ := gd_inv h34
   refine W.pure (v := (.string ((⟨#[49]⟩ : ByteArray) ++ x32))) rfl rfl (vs_add g43 (oo rfl rfl) (oo rfl rfl)) ?_
   obtain ⟨x45, i46, h47⟩ := bd_inv h44
   refine W.lo rfl rfl (Lo.callPF (ps := []) (pw := fun w => [eSl w 108 (rI .u32) x45]) rfl (fn := Tryd.f70) (by kernel_rfl) rfl (mc rfl mn) O36 (fun L' O' => g_nat_Read_ok K ((⟨#[49]⟩ : ByteArray) ++ x32) O' _ i46)) ?_
   rintro v56 H57 ⟨w53, G48, O49, s50, sm55, rfl⟩
   replace O49 : Ow G48 H57 (eSl w53 108 (rI .u32) x45 :: eSl w23 108 (rI .u32) x15 :: L) := O49
   refine W.pure (v := w53) rfl rfl (v_assign (oo rfl rfl)) ?_
   refine .nil ?_
   obtain ⟨G58, O59, s60, f61⟩ := O49.frzSl (j := 0) rfl
   replace O59 : Ow G58 H57 (eSl w23 108 (rI .u32) x15 :: L) := O59
   obtain ⟨G62, O63, s64, f65⟩ := O59.frzSl (j := 0) rfl
   replace O63 : Ow G62 H57 (L) := O63
   obtain ⟨q66, h67, h68⟩ := bd_inv h47
   refine AW.midT (fun _ _ => False) ?_ (fun _ _ _ hf => hf.elim)
   refine .block ?_
   refine AW.loop (α := Nat) (fun k' σ' H' => ∃ (y1 : List Int) (G' : GM), g_nat_Root_l0 K x15 k' y1 = some q66 ∧ Ow G' H' (L) ∧ GM.le G62 G' ∧ (rSl (rI .u32)).rep G' [σ' 6] y1) (fun k' => k') K ⟨x45, _, h67, O63, (GM.le.refl _), (RT.mono _ s64 f61)⟩ ?_
   rintro k69
   rintro σ71 H72 fr73 ⟨x70, G74, h77, O75, s76, f78⟩
   rcases k69 with _ | k69
   ·exact none_absurd h77
   rw [g_nat_Root_l0] at h77
   refine .block ?_
   refine .seq ?_
   refine .region ?_
   refine W.pure (v := w23) rfl rfl (v_move (oo rfl ((fr73 5 rfl).trans rfl))) ?_
   refine W.pure (v := (σ71 6)) rfl rfl (v_move (oo rfl rfl)) ?_
   obtain ⟨x79, i80, h81⟩ := bd_inv h77
   refine W.lo rfl rfl (Lo.callP (ps := []) (ps' := []) rfl (fn := Tryd.f66) (by kernel_rfl) rfl (mc rfl (mc rfl mn)) O75 (fun L' O' => g_nat_N_Div_ok K w23 x15 (RT.mono _ s76 f65) (σ71 6) x70 f78 O' _ i80)) ?_
   rintro v92 H93 ⟨G82, O83, s84, sm91, ⟨w86, w88, rfl, f87, f89⟩⟩
   replace O83 : Ow G82 H93 (L) := O83
   refine W.pure (v := (.tuple #[w86, w88])) rfl rfl (v_move (oo rfl rfl)) ?_
   refine W.pure (v := w86) rfl rfl (v_extract (oo rfl rfl) rfl) ?_
   refine W.pure (v := w88) rfl rfl (v_extract (oo rfl rfl) rfl) ?_
   refine W.pure (v := w86) rfl rfl (v_assign (oo rfl rfl)) ?_
   refine W.pure (v := w88) rfl rfl (v_assign (oo rfl rfl)) ?_
   refine .nil ?_
   refine .seq ?_
   refine .region ?_
   refine W.pure (v := (σ71 6)) rfl rfl (v_move (oo rfl rfl)) ?_
   refine W.pure (v := w86) rfl rfl (v_move (oo rfl rfl)) ?_
   obtain ⟨x94, i95, h96⟩ := bd_inv h81
   refine W.lo rfl rfl (Lo.callPF (ps := []) (pw := fun w => [eSl w 108 (rI .u32) x94]) rfl (fn := Tryd.f58) (by kernel_rfl) rfl (mc rfl (mc rfl mn)) O83 (fun L' O' => g_nat_N_Add_ok K (σ71 6) x70 (RT.mono _ s84 f78) w86 x79.1 f87 O' _ i95)) ?_
   rintro v105 H106 ⟨w102, G97, O98, s99, sm104, rfl⟩
   replace O98 : Ow G97 H106 (eSl w102 108 (rI .u32) x94 :: L) := O98
   obtain ⟨G107, O108, s109, f110⟩ := O98.frzSl (j := 0) rfl
   replace O108 : Ow G107 H106 (L) := O108
   obtain ⟨x111, i112, h113⟩ := bd_inv h96
   refine W.lo rfl rfl (Lo.callP (ps := []) (ps' := []) rfl (fn := Tryd.f99) (by kernel_rfl) rfl (mc rfl (mc rfl mn)) O108 (fun L' O' => g_nat_N_short_ok K w102 x94 f110 2 O' _ i112)) ?_
   rintro v124 H125 ⟨G114, O115, s116, sm123, ⟨w118, w120, rfl, f119, f121⟩⟩
   replace O115 : Ow G114 H125 (L) := O115
   refine W.pure (v := (.tuple #[w118, w120])) rfl rfl (v_move (oo rfl rfl)) ?_
   refine W.pure (v := w118) rfl rfl (v_extract (oo rfl rfl) rfl) ?_
   refine W.pure (v := w120) rfl rfl (v_extract (oo rfl rfl) rfl) ?_
   refine W.pure (v := w118) rfl rfl (v_assign (oo rfl rfl)) ?_
   refine W.pure (v := w120) rfl rfl (v_assign (oo rfl rfl)) ?_
   refine .nil ?_
   refine .seq ?_
   refine .seq ?_
   refine .region ?_
   refine W.pure (v := w118) rfl rfl (v_move (oo rfl rfl)) ?_
   refine W.pure (v := (σ71 6)) rfl rfl (v_move (oo rfl rfl)) ?_
   obtain ⟨x126, i127, h128⟩ := bd_inv h113
   refine W.lo rfl rfl (Lo.callP (ps := []) (ps' := []) rfl (fn := Tryd.f59) (by kernel_rfl) rfl (mc rfl (mc rfl mn)) O115 (fun L' O' => g_nat_N_Cmp_ok K w118 x111.1 f119 (σ71 6) x70 (RT.mono _ (GM.le.trans s84 (GM.le.trans s99 (GM.le.trans s109 s116))) f78) O' _ i127)) ?_
   rintro v135 H136 ⟨G129, O130, s131, sm134, rfl⟩
   replace O130 : Ow G129 H136 (L) := O130
   refine W.pure (v := (.bool (decide (x126 ≥ 0)))) rfl rfl (v_int (oo rfl rfl) (oo rfl rfl) rfl) ?_
   refine .nil ?_
   refine .cond (b := decide (x126 ≥ 0)) rfl rfl (fun g137 => ?_) (fun g137 => ?_)
   ·have h138 := pos_inv g137 h128
    refine .seq ?_
    refine .region ?_
    refine W.pure (v := (σ71 6)) rfl rfl (v_move (oo rfl rfl)) ?_
    obtain ⟨x139, i140, h141⟩ := bd_inv h138
    refine W.lo rfl rfl (Lo.callP (ps := []) (ps' := []) rfl (fn := Tryd.f67) (by kernel_rfl) rfl (mc rfl mn) O130 (fun L' O' => g_nat_N_Text_ok K (σ71 6) x70 (RT.mono _ (GM.le.trans s84 (GM.le.trans s99 (GM.le.trans s109 (GM.le.trans s116 s131)))) f78) O' _ i140)) ?_
    rintro v148 H149 ⟨G142, O143, s144, sm147, rfl⟩
    replace O143 : Ow G142 H149 (L) := O143
    refine W.pure (v := (.string x139)) rfl rfl (v_assign (oo rfl rfl)) ?_
    refine W.pure (v := (.int .i64 0)) rfl rfl (v_assign (oo rfl rfl)) ?_
    refine .nil ?_
    refine .ret ?_
    obtain rfl := Option.some.inj h141
    have h150 := tu2_inv h68
    obtain rfl := Option.some.inj h150
    refine ret2R (P := Tryd.prog) (fn := Tryd.f54) (n := 48) (R := fun v H' => ∃ G', Ow G' H' (L) ∧ G.le G' ∧ v = .tuple #[.string (x139, 0).1, .int .i64 (x139, 0).2]) (v1 := (.string x139)) (v2 := (.int .i64 0)) (by rfl) (rr_tmp (by rfl) (by exact rfl)) (rr_tmp (by rfl) (by exact rfl)) ?_
    exact ⟨_, O143, (GM.le.trans s6 (GM.le.trans s20 (GM.le.trans s37 (GM.le.trans s50 (GM.le.trans s60 (GM.le.trans s64 (GM.le.trans s76 (GM.le.trans s84 (GM.le.trans s99 (GM.le.trans s109 (GM.le.trans s116 (GM.le.trans s131 s144)))))))))))), rfl⟩
   ·have h151 := neg_b g137 h128
    refine .skip ?_
    refine .region ?_
    refine W.pure (v := w118) rfl rfl (v_move (oo rfl rfl)) ?_
    refine W.pure (v := w118) rfl rfl (v_assign (oo rfl rfl)) ?_
    refine .nil ?_
    exact ⟨k69, Nat.lt_succ_self _, ⟨x111.1, _, h151, O130, (GM.le.trans s76 (GM.le.trans s84 (GM.le.trans s99 (GM.le.trans s109 (GM.le.trans s116 s131))))), (RT.mono _ s131 f119)⟩⟩
def g_slices_IndexFunc_api_Errno_api_Errno_l0 (K : Nat) (p0 : List Int) (p1 : Int → Option Bool) : Nat → Int → Option (Int ⊕ Unit)
 | 0, _ => none
 | k + 1, x5 => (if (decide (x5 < (List.length p0 : Int))) = true then ((idx p0 x5).bind fun x16 => ((p1 x16).bind fun x20 => (if x20 = true then some (.inl x5) else g_slices_IndexFunc_api_Errno_api_Errno_l0 K p0 p1 k (kwrap .i64 (x5 + 1))))) else some (.inr ()))
def g_slices_IndexFunc_api_Errno_api_Errno (K : Nat) (p0 : List Int) (p1 : Int → Option Bool) : Option Int := (bindS (g_slices_IndexFunc_api_Errno_api_Errno_l0 K p0 p1 K 0) (tu1 fun a42 => some a42) (tu0 (some (-1))))
set_option maxHeartbeats 4000000 in
theorem g_slices_IndexFunc_api_Errno_api_Errno_ok (K : Nat) {G : GM} {H : AH} {L : List Pc} (v0 : Value) (p0 : List Int) (hp0 : (rSl (rI .i64)).rep G [v0] p0) (v1 : Value) (p1 : Int → Option Bool) (hp1 : FnOk Tryd.prog G v1 (fun _ vs (x : (Int)) => vs = [.int .i64 x]) (fun _ v (rr : (Bool)) => v = .bool rr) p1) (O : Ow G H (L)) (r : Int) (h : g_slices_IndexFunc_api_Errno_api_Errno K p0 p1 = some r) :
  CR Tryd.prog 119 [v0, v1] G H (L) (fun v G' _ => v = .int .i64 r) := by
 unfold g_slices_IndexFunc_api_Errno_api_Errno at h
 refine CR.of (calls_of_AW (n := 19) (fn := Tryd.f119) (R := fun v H' => ∃ G', Ow G' H' (L) ∧ G.le G' ∧ v = .int .i64 r) (by kernel_rfl) rfl rfl ?_)
 refine .seq ?_
 refine .region ?_
 refine W.pure (v := (.int .i64 0)) rfl rfl (v_assign (oo rfl rfl)) ?_
 refine .nil ?_
 refine .seq ?_
 refine .seq ?_
 refine .region ?_
 refine W.pure (v := v0) rfl rfl (v_move (oo rfl rfl)) ?_
 refine W.pure (v := (.int .i64 (List.length p0 : Int))) rfl rfl (len_sl (oo rfl rfl) (sl_len hp0) (elemT_inv el70)) ?_
 refine W.pure (v := (.int .i64 0)) rfl rfl (v_move (oo rfl rfl)) ?_
 refine .nil ?_
 obtain ⟨q1, h2, h3⟩ := bindS_inv h
 refine AW.midT (fun σ' H' => ∃  (G' : GM), (.inr ()) = q1 ∧ Ow G' H' (L) ∧ GM.le G G') ?_ ?_
 ·refine .block ?_
  refine AW.loop (α := Nat) (fun k' σ' H' => ∃ (y1 : Int) (G' : GM), g_slices_IndexFunc_api_Errno_api_Errno_l0 K p0 p1 k' y1 = some q1 ∧ Ow G' H' (L) ∧ GM.le G G' ∧ σ' 8 = .int .i64 y1) (fun k' => k') K ⟨0, _, h2, O, (GM.le.refl _), rfl⟩ ?_
  rintro k4
  rintro σ6 H7 fr8 ⟨x5, G9, h12, O10, s11, t13⟩
  rcases k4 with _ | k4
  ·exact none_absurd h12
  rw [g_slices_IndexFunc_api_Errno_api_Errno_l0] at h12
  refine .seq ?_
  refine .region ?_
  refine W.pure (v := (.bool (decide (x5 < (List.length p0 : Int))))) rfl rfl (v_int (oo rfl t13) (oo rfl ((fr8 7 rfl).trans rfl)) rfl) ?_
  refine .nil ?_
  refine .seq ?_
  refine .cond (b := decide (x5 < (List.length p0 : Int))) rfl rfl (fun g14 => ?_) (fun g14 => ?_)
  ·have h15 := pos_inv g14 h12
   refine .skip ?_
   refine .seq ?_
   refine .block ?_
   refine .seq ?_
   refine .region ?_
   refine W.pure (v := (.int .i64 x5)) rfl rfl (v_move (oo rfl t13)) ?_
   refine W.pure (v := (.int .i64 x5)) rfl rfl (v_assign (oo rfl rfl)) ?_
   refine .nil ?_
   refine .seq ?_
   refine .region ?_
   refine W.pure (v := v1) rfl rfl (v_move (oo rfl ((fr8 1 rfl).trans rfl))) ?_
   refine W.pure (v := v0) rfl rfl (v_move (oo rfl ((fr8 0 rfl).trans rfl))) ?_
   refine W.pure (v := (.int .i64 x5)) rfl rfl (v_move (oo rfl rfl)) ?_
   obtain ⟨x16, i17, h18⟩ := bd_inv h15
   have j19 := idx_inv i17
   refine W.pure (v := (selem v0 (Int.toNat x5 * 1))) rfl rfl (v_idx el70 sz23 (oo rfl rfl) (oo rfl rfl) (sl_len (RT.mono _ s11 hp0)) j19.1 j19.2.1) ?_
   refine W.load1 (v := (.int .i64 x16)) (r := []) rfl rfl ag23 (pt_px rfl (At.int (At.le (At.le (sl_idx hp0 j19.2.2) s11 s11) (GM.le.refl _) O10.fro))) ?_
   obtain ⟨x20, i21, h22⟩ := bd_inv h18
   refine W.lo rfl rfl (Lo.callF (x0 := x16) rfl rfl (FnOk.le hp1 s11) (mc rfl mn) rfl i21 O10) ?_
   rintro v27 H28 ⟨G23, O24, s25, sm26, rfl⟩
   refine .nil ?_
   refine .cond (b := x20) rfl rfl (fun g29 => ?_) (fun g29 => ?_)
   ·have h30 := pos_inv g29 h22
    refine .seq ?_
    refine .region ?_
    refine W.pure (v := (.int .i64 x5)) rfl rfl (v_move (oo rfl rfl)) ?_
    refine W.pure (v := (.int .i64 x5)) rfl rfl (v_assign (oo rfl rfl)) ?_
    refine .nil ?_
    refine .ret ?_
    obtain rfl := Option.some.inj h30
    have h31 := tu1_inv (outS_l h3)
    obtain rfl := Option.some.inj h31
    refine ret1R (P := Tryd.prog) (fn := Tryd.f119) (n := 19) (R := fun v H' => ∃ G', Ow G' H' (L) ∧ G.le G' ∧ v = .int .i64 x5) (v1 := (.int .i64 x5)) (by rfl) (rr_tmp (by rfl) (by exact rfl)) ?_
    exact ⟨_, O24, (GM.le.trans s11 s25), rfl⟩
   ·have h32 := neg_b g29 h22
    refine .skip ?_
    refine .region ?_
    refine W.pure (v := (.int .i64 (kwrap .i64 (x5 + 1)))) rfl rfl (v_int (oo rfl t13) (oo rfl rfl) rfl) ?_
    refine W.pure (v := (.int .i64 (kwrap .i64 (x5 + 1)))) rfl rfl (v_move (oo rfl rfl)) ?_
    refine .nil ?_
    exact ⟨k4, Nat.lt_succ_self _, ⟨kwrap .i64 (x5 + 1), _, h32, O24, (GM.le.trans s11 s25), rfl⟩⟩
  ·have h33 := neg_b g14 h12
   refine .exit ?_
   obtain rfl := Option.some.inj h33
   exact ⟨_, rfl, O10, s11⟩
 ·rintro σ34 H35 fr36 ⟨G37, rfl, O38, s39⟩
  have h41 := tu0_inv (outS_r h3)
  refine .seq ?_
  refine .region ?_
  refine W.pure (v := (.int .i64 (-1))) rfl rfl (v_assign (oo rfl rfl)) ?_
  refine .nil ?_
  refine .ret ?_
  obtain rfl := Option.some.inj h41
  refine ret1R (P := Tryd.prog) (fn := Tryd.f119) (n := 19) (R := fun v H' => ∃ G', Ow G' H' (L) ∧ G.le G' ∧ v = .int .i64 (-1)) (v1 := (.int .i64 (-1))) (by rfl) (rr_tmp (by rfl) (by exact rfl)) ?_
  exact ⟨_, O38, s39, rfl⟩
def g_slices_ContainsFunc_api_Errno_api_Errno (K : Nat) (p0 : List Int) (p1 : Int → Option Bool) : Option Bool := ((g_slices_IndexFunc_api_Errno_api_Errno K p0 p1).bind fun x1 => some (decide (x1 ≥ 0)))
set_option maxHeartbeats 4000000 in
theorem g_slices_ContainsFunc_api_Errno_api_Errno_ok (K : Nat) {G : GM} {H : AH} {L : List Pc} (v0 : Value) (p0 : List Int) (hp0 : (rSl (rI .i64)).rep G [v0] p0) (v1 : Value) (p1 : Int → Option Bool) (hp1 : FnOk Tryd.prog G v1 (fun _ vs (x : (Int)) => vs = [.int .i64 x]) (fun _ v (rr : (Bool)) => v = .bool rr) p1) (O : Ow G H (L)) (r : Bool) (h : g_slices_ContainsFunc_api_Errno_api_Errno K p0 p1 = some r) :
  CR Tryd.prog 100 [v0, v1] G H (L) (fun v G' _ => v = .bool r) := by
 unfold g_slices_ContainsFunc_api_Errno_api_Errno at h
 refine CR.of (calls_of_AW (n := 9) (fn := Tryd.f100) (R := fun v H' => ∃ G', Ow G' H' (L) ∧ G.le G' ∧ v = .bool r) (by kernel_rfl) rfl rfl ?_)
 refine .seq ?_
 refine .region ?_
 refine W.pure (v := (.bool false)) rfl rfl (v_assign (oo rfl rfl)) ?_
 refine .nil ?_
 refine .seq ?_
 refine .region ?_
 refine W.pure (v := v0) rfl rfl (v_move (oo rfl rfl)) ?_
 refine W.pure (v := v1) rfl rfl (v_move (oo rfl rfl)) ?_
 obtain ⟨x1, i2, h3⟩ := bd_inv h
 refine W.lo rfl rfl (Lo.callP (ps := []) (ps' := []) rfl (fn := Tryd.f119) (by kernel_rfl) rfl (mc rfl (mc rfl mn)) O (fun L' O' => g_slices_IndexFunc_api_Errno_api_Errno_ok K v0 p0 hp0 v1 p1 hp1 O' _ i2)) ?_
 rintro v10 H11 ⟨G4, O5, s6, sm9, rfl⟩
 replace O5 : Ow G4 H11 (L) := O5
 refine W.pure (v := (.bool (decide (x1 ≥ 0)))) rfl rfl (v_int (oo rfl rfl) (oo rfl rfl) rfl) ?_
 refine W.pure (v := (.bool (decide (x1 ≥ 0)))) rfl rfl (v_assign (oo rfl rfl)) ?_
 refine .nil ?_
 refine .ret ?_
 obtain rfl := Option.some.inj h3
 refine ret1R (P := Tryd.prog) (fn := Tryd.f100) (n := 9) (R := fun v H' => ∃ G', Ow G' H' (L) ∧ G.le G' ∧ v = .bool (decide (x1 ≥ 0))) (v1 := (.bool (decide (x1 ≥ 0)))) (by rfl) (rr_tmp (by rfl) (by exact rfl)) ?_
 exact ⟨_, O5, s6, rfl⟩
def g_law_fine_1 (K : Nat) (p0 : Int) : Option Bool := some (p0 != 0)
set_option maxHeartbeats 4000000 in
theorem g_law_fine_1_ok (K : Nat) {G : GM} {H : AH} {L : List Pc} (p0 : Int) (O : Ow G H (L)) (r : Bool) (h : g_law_fine_1 K p0 = some r) :
  CR Tryd.prog 101 [(.int .i64 p0)] G H (L) (fun v G' _ => v = .bool r) := by
 unfold g_law_fine_1 at h
 refine CR.of (calls_of_AW (n := 5) (fn := Tryd.f101) (R := fun v H' => ∃ G', Ow G' H' (L) ∧ G.le G' ∧ v = .bool r) (by kernel_rfl) rfl rfl ?_)
 refine .seq ?_
 refine .region ?_
 refine W.pure (v := (.bool false)) rfl rfl (v_assign (oo rfl rfl)) ?_
 refine .nil ?_
 refine .seq ?_
 refine .region ?_
 refine W.pure (v := (.int .i64 p0)) rfl rfl (v_move (oo rfl rfl)) ?_
 refine W.pure (v := (.bool (p0 != 0))) rfl rfl (v_int (oo rfl rfl) (oo rfl rfl) rfl) ?_
 refine W.pure (v := (.bool (p0 != 0))) rfl rfl (v_assign (oo rfl rfl)) ?_
 refine .nil ?_
 refine .ret ?_
 obtain rfl := Option.some.inj h
 refine ret1R (P := Tryd.prog) (fn := Tryd.f101) (n := 5) (R := fun v H' => ∃ G', Ow G' H' (L) ∧ G.le G' ∧ v = .bool (p0 != 0)) (v1 := (.bool (p0 != 0))) (by rfl) (rr_tmp (by rfl) (by exact rfl)) ?_
 exact ⟨_, O, (GM.le.refl _), rfl⟩
def g_law_fine (K : Nat) (p0 : List Int) : Option Bool := ((g_slices_ContainsFunc_api_Errno_api_Errno K p0 (fun x => g_law_fine_1 K x)).bind fun x1 => some (!x1))
set_option maxHeartbeats 4000000 in
theorem g_law_fine_ok (K : Nat) {G : GM} {H : AH} {L : List Pc} (v0 : Value) (p0 : List Int) (hp0 : (rSl (rI .i64)).rep G [v0] p0) (O : Ow G H (L)) (r : Bool) (h : g_law_fine K p0 = some r) :
  CR Tryd.prog 55 [v0] G H (L) (fun v G' _ => v = .bool r) := by
 unfold g_law_fine at h
 refine CR.of (calls_of_AW (n := 6) (fn := Tryd.f55) (R := fun v H' => ∃ G', Ow G' H' (L) ∧ G.le G' ∧ v = .bool r) (by kernel_rfl) rfl rfl ?_)
 refine .seq ?_
 refine .region ?_
 refine W.pure (v := (.bool false)) rfl rfl (v_assign (oo rfl rfl)) ?_
 refine .nil ?_
 refine .seq ?_
 refine .region ?_
 refine W.pure (v := v0) rfl rfl (v_move (oo rfl rfl)) ?_
 obtain ⟨x1, i2, h3⟩ := bd_inv h
 refine W.lo rfl rfl (Lo.callP (ps := []) (ps' := []) rfl (fn := Tryd.f100) (by kernel_rfl) rfl (mc rfl (mc rfl mn)) O (fun L' O' => g_slices_ContainsFunc_api_Errno_api_Errno_ok K v0 p0 hp0 (.func (.func 101) #[] #[]) (fun x => g_law_fine_1 K x) ⟨101, _, _, Tryd.f101, rfl, by kernel_rfl, rfl, fun G1 H L vs x r hG O hA hF => by obtain rfl := hA; exact g_law_fine_1_ok K x O _ hF⟩ O' _ i2)) ?_
 rintro v10 H11 ⟨G4, O5, s6, sm9, rfl⟩
 replace O5 : Ow G4 H11 (L) := O5
 refine W.pure (v := (.bool (!x1))) rfl rfl (bool_not (a := x1) (oo rfl rfl)) ?_
 refine W.pure (v := (.bool (!x1))) rfl rfl (v_assign (oo rfl rfl)) ?_
 refine .nil ?_
 refine .ret ?_
 obtain rfl := Option.some.inj h3
 refine ret1R (P := Tryd.prog) (fn := Tryd.f55) (n := 6) (R := fun v H' => ∃ G', Ow G' H' (L) ∧ G.le G' ∧ v = .bool (!x1)) (v1 := (.bool (!x1))) (by rfl) (rr_tmp (by rfl) (by exact rfl)) ?_
 exact ⟨_, O5, s6, rfl⟩
def g_law_natFact (K : Nat) : Option Bool := ((g_nat_Add K (⟨#[57, 57, 57, 57, 57, 57, 57, 57, 57]⟩ : ByteArray) (⟨#[49]⟩ : ByteArray)).bind fun x1 => ((g_nat_Sub K (⟨#[49, 48, 48, 48, 48, 48, 48, 48, 48, 48]⟩ : ByteArray) (⟨#[49]⟩ : ByteArray)).bind fun x12 => ((g_nat_Mul K (⟨#[49, 48, 48, 48, 48, 48, 48, 48, 48, 48]⟩ : ByteArray) (⟨#[49, 48, 48, 48, 48, 48, 48, 48, 48, 48]⟩ : ByteArray)).bind fun x23 => ((g_nat_Divide K (⟨#[49, 55]⟩ : ByteArray) (⟨#[53]⟩ : ByteArray)).bind fun x34 => ((g_nat_Gcd K (⟨#[49, 50]⟩ : ByteArray) (⟨#[49, 56]⟩ : ByteArray)).bind fun x45 => ((g_nat_Compare K (⟨#[57]⟩ : ByteArray) (⟨#[49, 48]⟩ : ByteArray)).bind fun x56 => ((g_nat_Power K (⟨#[50]⟩ : ByteArray) 10).bind fun x67 => ((g_nat_Root K (⟨#[57, 57]⟩ : ByteArray)).bind fun x78 => (Option.bind (((g_law_fine K [x1.2, x12.2, x23.2, x34.2.2, x45.2, x56.2, x67.2, x78.2]).bind fun x96 => (if x96 = true then (lt (sEq x1.1 (⟨#[49, 48, 48, 48, 48, 48, 48, 48, 48, 48]⟩ : ByteArray)) fun x110 => (if x110 = true then (lt (sEq x12.1 (⟨#[57, 57, 57, 57, 57, 57, 57, 57, 57]⟩ : ByteArray)) fun x116 => (if x116 = true then (lt (sEq x23.1 (⟨#[49, 48, 48, 48, 48, 48, 48, 48, 48, 48, 48, 48, 48, 48, 48, 48, 48, 48, 48]⟩ : ByteArray)) fun x122 => (if x122 = true then (if (sEq x34.1 (⟨#[51]⟩ : ByteArray)) = true then (if (sEq x34.2.1 (⟨#[50]⟩ : ByteArray)) = true then (if (sEq x45.1 (⟨#[54]⟩ : ByteArray)) = true then (if (x56.1 == (-1)) = true then (if (sEq x67.1 (⟨#[49, 48, 50, 52]⟩ : ByteArray)) = true then (if (sEq x78.1 (⟨#[57]⟩ : ByteArray)) = true then ((g_nat_Check K (⟨#[48, 48, 55]⟩ : ByteArray)).bind fun x146 => some (x146 == 5)) else some false) else some false) else some false) else some false) else some false) else some false) else some false)) else some false)) else some false)) else some false))) (tu1 fun x178 => some x178))))))))))
set_option maxHeartbeats 4000000 in
theorem g_law_natFact_ok (K : Nat) {G : GM} {H : AH} {L : List Pc}  (O : Ow G H (L)) (r : Bool) (h : g_law_natFact K = some r) :
  CR Tryd.prog 13 [] G H (L) (fun v G' _ => v = .bool r) := by
 unfold g_law_natFact at h
 refine CR.of (calls_of_AW (n := 101) (fn := Tryd.f13) (R := fun v H' => ∃ G', Ow G' H' (L) ∧ G.le G' ∧ v = .bool r) (by kernel_rfl) rfl rfl ?_)
 refine .seq ?_
 refine .region ?_
 refine W.pure (v := (.bool false)) rfl rfl (v_assign (oo rfl rfl)) ?_
 refine .nil ?_
 refine .seq ?_
 refine .region ?_
 obtain ⟨x1, i2, h3⟩ := bd_inv h
 refine W.lo rfl rfl (Lo.callP (ps := []) (ps' := []) rfl (fn := Tryd.f16) (by kernel_rfl) rfl (mc rfl (mc rfl mn)) O (fun L' O' => g_nat_Add_ok K (⟨#[57, 57, 57, 57, 57, 57, 57, 57, 57]⟩ : ByteArray) (⟨#[49]⟩ : ByteArray) O' _ i2)) ?_
 rintro v10 H11 ⟨G4, O5, s6, sm9, rfl⟩
 replace O5 : Ow G4 H11 (L) := O5
 refine W.pure (v := (.tuple #[(.string x1.1), (.int .i64 x1.2)])) rfl rfl (v_move (oo rfl rfl)) ?_
 refine W.pure (v := (.string x1.1)) rfl rfl (v_extract (oo rfl rfl) rfl) ?_
 refine W.pure (v := (.int .i64 x1.2)) rfl rfl (v_extract (oo rfl rfl) rfl) ?_
 refine W.pure (v := (.string x1.1)) rfl rfl (v_assign (oo rfl rfl)) ?_
 refine W.pure (v := (.int .i64 x1.2)) rfl rfl (v_assign (oo rfl rfl)) ?_
 refine .nil ?_
 refine .seq ?_
 refine .region ?_
 obtain ⟨x12, i13, h14⟩ := bd_inv h3
 refine W.lo rfl rfl (Lo.callP (ps := []) (ps' := []) rfl (fn := Tryd.f17) (by kernel_rfl) rfl (mc rfl (mc rfl mn)) O5 (fun L' O' => g_nat_Sub_ok K (⟨#[49, 48, 48, 48, 48, 48, 48, 48, 48, 48]⟩ : ByteArray) (⟨#[49]⟩ : ByteArray) O' _ i13)) ?_
 rintro v21 H22 ⟨G15, O16, s17, sm20, rfl⟩
 replace O16 : Ow G15 H22 (L) := O16
 refine W.pure (v := (.tuple #[(.string x12.1), (.int .i64 x12.2)])) rfl rfl (v_move (oo rfl rfl)) ?_
 refine W.pure (v := (.string x12.1)) rfl rfl (v_extract (oo rfl rfl) rfl) ?_
 refine W.pure (v := (.int .i64 x12.2)) rfl rfl (v_extract (oo rfl rfl) rfl) ?_
 refine W.pure (v := (.string x12.1)) rfl rfl (v_assign (oo rfl rfl)) ?_
 refine W.pure (v := (.int .i64 x12.2)) rfl rfl (v_assign (oo rfl rfl)) ?_
 refine .nil ?_
 refine .seq ?_
 refine .region ?_
 obtain ⟨x23, i24, h25⟩ := bd_inv h14
 refine W.lo rfl rfl (Lo.callP (ps := []) (ps' := []) rfl (fn := Tryd.f23) (by kernel_rfl) rfl (mc rfl (mc rfl mn)) O16 (fun L' O' => g_nat_Mul_ok K (⟨#[49, 48, 48, 48, 48, 48, 48, 48, 48, 48]⟩ : ByteArray) (⟨#[49, 48, 48, 48, 48, 48, 48, 48, 48, 48]⟩ : ByteArray) O' _ i24)) ?_
 rintro v32 H33 ⟨G26, O27, s28, sm31, rfl⟩
 replace O27 : Ow G26 H33 (L) := O27
 refine W.pure (v := (.tuple #[(.string x23.1), (.int .i64 x23.2)])) rfl rfl (v_move (oo rfl rfl)) ?_
 refine W.pure (v := (.string x23.1)) rfl rfl (v_extract (oo rfl rfl) rfl) ?_
 refine W.pure (v := (.int .i64 x23.2)) rfl rfl (v_extract (oo rfl rfl) rfl) ?_
 refine W.pure (v := (.string x23.1)) rfl rfl (v_assign (oo rfl rfl)) ?_
 refine W.pure (v := (.int .i64 x23.2)) rfl rfl (v_assign (oo rfl rfl)) ?_
 refine .nil ?_
 refine .seq ?_
 refine .region ?_
 obtain ⟨x34, i35, h36⟩ := bd_inv h25
 refine W.lo rfl rfl (Lo.callP (ps := []) (ps' := []) rfl (fn := Tryd.f26) (by kernel_rfl) rfl (mc rfl (mc rfl mn)) O27 (fun L' O' => g_nat_Divide_ok K (⟨#[49, 55]⟩ : ByteArray) (⟨#[53]⟩ : ByteArray) O' _ i35)) ?_
 rintro v43 H44 ⟨G37, O38, s39, sm42, rfl⟩
 replace O38 : Ow G37 H44 (L) := O38
 refine W.pure (v := (.tuple #[(.string x34.1), (.string x34.2.1), (.int .i64 x34.2.2)])) rfl rfl (v_move (oo rfl rfl)) ?_
 refine W.pure (v := (.string x34.1)) rfl rfl (v_extract (oo rfl rfl) rfl) ?_
 refine W.pure (v := (.string x34.2.1)) rfl rfl (v_extract (oo rfl rfl) rfl) ?_
 refine W.pure (v := (.int .i64 x34.2.2)) rfl rfl (v_extract (oo rfl rfl) rfl) ?_
 refine W.pure (v := (.string x34.1)) rfl rfl (v_assign (oo rfl rfl)) ?_
 refine W.pure (v := (.string x34.2.1)) rfl rfl (v_assign (oo rfl rfl)) ?_
 refine W.pure (v := (.int .i64 x34.2.2)) rfl rfl (v_assign (oo rfl rfl)) ?_
 refine .nil ?_
 refine .seq ?_
 refine .region ?_
 obtain ⟨x45, i46, h47⟩ := bd_inv h36
 refine W.lo rfl rfl (Lo.callP (ps := []) (ps' := []) rfl (fn := Tryd.f27) (by kernel_rfl) rfl (mc rfl (mc rfl mn)) O38 (fun L' O' => g_nat_Gcd_ok K (⟨#[49, 50]⟩ : ByteArray) (⟨#[49, 56]⟩ : ByteArray) O' _ i46)) ?_
 rintro v54 H55 ⟨G48, O49, s50, sm53, rfl⟩
 replace O49 : Ow G48 H55 (L) := O49
 refine W.pure (v := (.tuple #[(.string x45.1), (.int .i64 x45.2)])) rfl rfl (v_move (oo rfl rfl)) ?_
 refine W.pure (v := (.string x45.1)) rfl rfl (v_extract (oo rfl rfl) rfl) ?_
 refine W.pure (v := (.int .i64 x45.2)) rfl rfl (v_extract (oo rfl rfl) rfl) ?_
 refine W.pure (v := (.string x45.1)) rfl rfl (v_assign (oo rfl rfl)) ?_
 refine W.pure (v := (.int .i64 x45.2)) rfl rfl (v_assign (oo rfl rfl)) ?_
 refine .nil ?_
 refine .seq ?_
 refine .region ?_
 obtain ⟨x56, i57, h58⟩ := bd_inv h47
 refine W.lo rfl rfl (Lo.callP (ps := []) (ps' := []) rfl (fn := Tryd.f53) (by kernel_rfl) rfl (mc rfl (mc rfl mn)) O49 (fun L' O' => g_nat_Compare_ok K (⟨#[57]⟩ : ByteArray) (⟨#[49, 48]⟩ : ByteArray) O' _ i57)) ?_
 rintro v65 H66 ⟨G59, O60, s61, sm64, rfl⟩
 replace O60 : Ow G59 H66 (L) := O60
 refine W.pure (v := (.tuple #[(.int .i64 x56.1), (.int .i64 x56.2)])) rfl rfl (v_move (oo rfl rfl)) ?_
 refine W.pure (v := (.int .i64 x56.1)) rfl rfl (v_extract (oo rfl rfl) rfl) ?_
 refine W.pure (v := (.int .i64 x56.2)) rfl rfl (v_extract (oo rfl rfl) rfl) ?_
 refine W.pure (v := (.int .i64 x56.1)) rfl rfl (v_assign (oo rfl rfl)) ?_
 refine W.pure (v := (.int .i64 x56.2)) rfl rfl (v_assign (oo rfl rfl)) ?_
 refine .nil ?_
 refine .seq ?_
 refine .region ?_
 obtain ⟨x67, i68, h69⟩ := bd_inv h58
 refine W.lo rfl rfl (Lo.callP (ps := []) (ps' := []) rfl (fn := Tryd.f30) (by kernel_rfl) rfl (mc rfl (mc rfl mn)) O60 (fun L' O' => g_nat_Power_ok K (⟨#[50]⟩ : ByteArray) 10 O' _ i68)) ?_
 rintro v76 H77 ⟨G70, O71, s72, sm75, rfl⟩
 replace O71 : Ow G70 H77 (L) := O71
 refine W.pure (v := (.tuple #[(.string x67.1), (.int .i64 x67.2)])) rfl rfl (v_move (oo rfl rfl)) ?_
 refine W.pure (v := (.string x67.1)) rfl rfl (v_extract (oo rfl rfl) rfl) ?_
 refine W.pure (v := (.int .i64 x67.2)) rfl rfl (v_extract (oo rfl rfl) rfl) ?_
 refine W.pure (v := (.string x67.1)) rfl rfl (v_assign (oo rfl rfl)) ?_
 refine W.pure (v := (.int .i64 x67.2)) rfl rfl (v_assign (oo rfl rfl)) ?_
 refine .nil ?_
 refine .seq ?_
 refine .region ?_
 obtain ⟨x78, i79, h80⟩ := bd_inv h69
 refine W.lo rfl rfl (Lo.callP (ps := []) (ps' := []) rfl (fn := Tryd.f54) (by kernel_rfl) rfl (mc rfl mn) O71 (fun L' O' => g_nat_Root_ok K (⟨#[57, 57]⟩ : ByteArray) O' _ i79)) ?_
 rintro v87 H88 ⟨G81, O82, s83, sm86, rfl⟩
 replace O82 : Ow G81 H88 (L) := O82
 refine W.pure (v := (.tuple #[(.string x78.1), (.int .i64 x78.2)])) rfl rfl (v_move (oo rfl rfl)) ?_
 refine W.pure (v := (.string x78.1)) rfl rfl (v_extract (oo rfl rfl) rfl) ?_
 refine W.pure (v := (.int .i64 x78.2)) rfl rfl (v_extract (oo rfl rfl) rfl) ?_
 refine W.pure (v := (.string x78.1)) rfl rfl (v_assign (oo rfl rfl)) ?_
 refine W.pure (v := (.int .i64 x78.2)) rfl rfl (v_assign (oo rfl rfl)) ?_
 refine .nil ?_
 refine .seq ?_
 obtain ⟨q89, h90, h91⟩ := bd_inv h80
 refine AW.midT (fun σ' H' => ∃ (y1 : Bool) (G' : GM), y1 = q89 ∧ Ow G' H' (L) ∧ GM.le G81 G' ∧ σ' 0 = .bool y1) ?_ ?_
 ·refine .region ?_
  refine W.pure (v := (.int .i64 x1.2)) rfl rfl (v_move (oo rfl rfl)) ?_
  refine W.pure (v := (.int .i64 x12.2)) rfl rfl (v_move (oo rfl rfl)) ?_
  refine W.pure (v := (.int .i64 x23.2)) rfl rfl (v_move (oo rfl rfl)) ?_
  refine W.pure (v := (.int .i64 x34.2.2)) rfl rfl (v_move (oo rfl rfl)) ?_
  refine W.pure (v := (.int .i64 x45.2)) rfl rfl (v_move (oo rfl rfl)) ?_
  refine W.pure (v := (.int .i64 x56.2)) rfl rfl (v_move (oo rfl rfl)) ?_
  refine W.pure (v := (.int .i64 x67.2)) rfl rfl (v_move (oo rfl rfl)) ?_
  refine W.pure (v := (.int .i64 x78.2)) rfl rfl (v_move (oo rfl rfl)) ?_
  refine W.lo rfl rfl (Lo.buildSlice (r := (rI .i64)) (vs := [(.int .i64 x1.2), (.int .i64 x12.2), (.int .i64 x23.2), (.int .i64 x34.2.2), (.int .i64 x45.2), (.int .i64 x56.2), (.int .i64 x67.2), (.int .i64 x78.2)]) (xs := [x1.2, x12.2, x23.2, x34.2.2, x45.2, x56.2, x67.2, x78.2]) el70 ze23 sz23 (by kernel_rfl) rfl (qc rfl (qc rfl (qc rfl (qc rfl (qc rfl (qc rfl (qc rfl (qc rfl qn)))))))) rfl (.cons rfl (.cons rfl (.cons rfl (.cons rfl (.cons rfl (.cons rfl (.cons rfl (.cons rfl .nil)))))))) O82) ?_
  rintro v94 H95 ⟨O92, sm93⟩
  obtain ⟨x96, i97, h98⟩ := bd_inv h90
  refine W.lo rfl rfl (Lo.callB (j := 0) rfl rfl (fn := Tryd.f55) (by kernel_rfl) rfl (mc rfl mn) O92 (fun G' L' hG O' hB => g_law_fine_ok K v94 [x1.2, x12.2, x23.2, x34.2.2, x45.2, x56.2, x67.2, x78.2] hB O' _ i97)) ?_
  rintro v105 H106 ⟨G99, O100, s101, sm104, rfl⟩
  replace O100 : Ow G99 H106 (eSl v94 23 (rI .i64) [x1.2, x12.2, x23.2, x34.2.2, x45.2, x56.2, x67.2, x78.2] :: L) := O100
  refine W.pure (v := (.bool x96)) rfl rfl (v_move (oo rfl rfl)) ?_
  refine W.splitAt (t := 61) (b := x96) rfl (fun g107 gv108 => ?_) (fun g107 gv108 => ?_)
  ·have h109 := pos_inv g107 h98
   refine W.pure (v := (.string x1.1)) (gk rfl rfl gv108 rfl) rfl (v_move (oo rfl rfl)) ?_
   refine W.pure (v := (.bool (sEq x1.1 (⟨#[49, 48, 48, 48, 48, 48, 48, 48, 48, 48]⟩ : ByteArray)))) (gk rfl rfl gv108 rfl) rfl (vs_eql (oo rfl rfl) (oo rfl rfl)) ?_
   obtain ⟨x110, e111, h112⟩ := lt_inv h109
   refine W.pure (v := (.bool x110)) rfl rfl (v_pickT (oo rfl gv108) (oo rfl (congrArg (Value.bool) e111))) ?_
   refine W.pure (v := (.bool x110)) rfl rfl (v_move (oo rfl rfl)) ?_
   refine W.splitAt (t := 65) (b := x110) rfl (fun g113 gv114 => ?_) (fun g113 gv114 => ?_)
   ·have h115 := pos_inv g113 h112
    refine W.pure (v := (.string x12.1)) (gk rfl rfl gv114 rfl) rfl (v_move (oo rfl rfl)) ?_
    refine W.pure (v := (.bool (sEq x12.1 (⟨#[57, 57, 57, 57, 57, 57, 57, 57, 57]⟩ : ByteArray)))) (gk rfl rfl gv114 rfl) rfl (vs_eql (oo rfl rfl) (oo rfl rfl)) ?_
    obtain ⟨x116, e117, h118⟩ := lt_inv h115
    refine W.pure (v := (.bool x116)) rfl rfl (v_pickT (oo rfl gv114) (oo rfl (congrArg (Value.bool) e117))) ?_
    refine W.pure (v := (.bool x116)) rfl rfl (v_move (oo rfl rfl)) ?_
    refine W.splitAt (t := 69) (b := x116) rfl (fun g119 gv120 => ?_) (fun g119 gv120 => ?_)
    ·have h121 := pos_inv g119 h118
     refine W.pure (v := (.string x23.1)) (gk rfl rfl gv120 rfl) rfl (v_move (oo rfl rfl)) ?_
     refine W.pure (v := (.bool (sEq x23.1 (⟨#[49, 48, 48, 48, 48, 48, 48, 48, 48, 48, 48, 48, 48, 48, 48, 48, 48, 48, 48]⟩ : ByteArray)))) (gk rfl rfl gv120 rfl) rfl (vs_eql (oo rfl rfl) (oo rfl rfl)) ?_
     obtain ⟨x122, e123, h124⟩ := lt_inv h121
     refine W.pure (v := (.bool x122)) rfl rfl (v_pickT (oo rfl gv120) (oo rfl (congrArg (Value.bool) e123))) ?_
     refine W.pure (v := (.bool x122)) rfl rfl (v_move (oo rfl rfl)) ?_
     refine W.splitAt (t := 73) (b := x122) rfl (fun g125 gv126 => ?_) (fun g125 gv126 => ?_)
     ·have h127 := pos_inv g125 h124
      refine W.pure (v := (.string x34.1)) (gk rfl rfl gv126 rfl) rfl (v_move (oo rfl rfl)) ?_
      refine W.pure (v := (.bool (sEq x34.1 (⟨#[51]⟩ : ByteArray)))) (gk rfl rfl gv126 rfl) rfl (vs_eql (oo rfl rfl) (oo rfl rfl)) ?_
      refine W.pure (v := (.bool (sEq x34.1 (⟨#[51]⟩ : ByteArray)))) rfl rfl (v_pickT (oo rfl gv126) (oo rfl rfl)) ?_
      refine W.pure (v := (.bool (sEq x34.1 (⟨#[51]⟩ : ByteArray)))) rfl rfl (v_move (oo rfl rfl)) ?_
      refine W.splitAt (t := 77) (b := sEq x34.1 (⟨#[51]⟩ : ByteArray)) rfl (fun g128 gv129 => ?_) (fun g128 gv129 => ?_)
      ·have h130 := pos_inv g128 h127
       refine W.pure (v := (.string x34.2.1)) (gk rfl rfl gv129 rfl) rfl (v_move (oo rfl rfl)) ?_
       refine W.pure (v := (.bool (sEq x34.2.1 (⟨#[50]⟩ : ByteArray)))) (gk rfl rfl gv129 rfl) rfl (vs_eql (oo rfl rfl) (oo rfl rfl)) ?_
       refine W.pure (v := (.bool (sEq x34.2.1 (⟨#[50]⟩ : ByteArray)))) rfl rfl (v_pickT (oo rfl gv129) (oo rfl rfl)) ?_
       refine W.pure (v := (.bool (sEq x34.2.1 (⟨#[50]⟩ : ByteArray)))) rfl rfl (v_move (oo rfl rfl)) ?_
       refine W.splitAt (t := 81) (b := sEq x34.2.1 (⟨#[50]⟩ : ByteArray)) rfl (fun g131 gv132 => ?_) (fun g131 gv132 => ?_)
       ·have h133 := pos_inv g131 h130
        refine W.pure (v := (.string x45.1)) (gk rfl rfl gv132 rfl) rfl (v_move (oo rfl rfl)) ?_
        refine W.pure (v := (.bool (sEq x45.1 (⟨#[54]⟩ : ByteArray)))) (gk rfl rfl gv132 rfl) rfl (vs_eql (oo rfl rfl) (oo rfl rfl)) ?_
        refine W.pure (v := (.bool (sEq x45.1 (⟨#[54]⟩ : ByteArray)))) rfl rfl (v_pickT (oo rfl gv132) (oo rfl rfl)) ?_
        refine W.pure (v := (.bool (sEq x45.1 (⟨#[54]⟩ : ByteArray)))) rfl rfl (v_move (oo rfl rfl)) ?_
        refine W.splitAt (t := 85) (b := sEq x45.1 (⟨#[54]⟩ : ByteArray)) rfl (fun g134 gv135 => ?_) (fun g134 gv135 => ?_)
        ·have h136 := pos_inv g134 h133
         refine W.pure (v := (.int .i64 x56.1)) (gk rfl rfl gv135 rfl) rfl (v_move (oo rfl rfl)) ?_
         refine W.pure (v := (.bool (x56.1 == (-1)))) (gk rfl rfl gv135 rfl) rfl (v_int (oo rfl rfl) (oo rfl rfl) rfl) ?_
         refine W.pure (v := (.bool (x56.1 == (-1)))) rfl rfl (v_pickT (oo rfl gv135) (oo rfl rfl)) ?_
         refine W.pure (v := (.bool (x56.1 == (-1)))) rfl rfl (v_move (oo rfl rfl)) ?_
         refine W.splitAt (t := 89) (b := (x56.1 == (-1))) rfl (fun g137 gv138 => ?_) (fun g137 gv138 => ?_)
         ·have h139 := pos_inv g137 h136
          refine W.pure (v := (.string x67.1)) (gk rfl rfl gv138 rfl) rfl (v_move (oo rfl rfl)) ?_
          refine W.pure (v := (.bool (sEq x67.1 (⟨#[49, 48, 50, 52]⟩ : ByteArray)))) (gk rfl rfl gv138 rfl) rfl (vs_eql (oo rfl rfl) (oo rfl rfl)) ?_
          refine W.pure (v := (.bool (sEq x67.1 (⟨#[49, 48, 50, 52]⟩ : ByteArray)))) rfl rfl (v_pickT (oo rfl gv138) (oo rfl rfl)) ?_
          refine W.pure (v := (.bool (sEq x67.1 (⟨#[49, 48, 50, 52]⟩ : ByteArray)))) rfl rfl (v_move (oo rfl rfl)) ?_
          refine W.splitAt (t := 93) (b := sEq x67.1 (⟨#[49, 48, 50, 52]⟩ : ByteArray)) rfl (fun g140 gv141 => ?_) (fun g140 gv141 => ?_)
          ·have h142 := pos_inv g140 h139
           refine W.pure (v := (.string x78.1)) (gk rfl rfl gv141 rfl) rfl (v_move (oo rfl rfl)) ?_
           refine W.pure (v := (.bool (sEq x78.1 (⟨#[57]⟩ : ByteArray)))) (gk rfl rfl gv141 rfl) rfl (vs_eql (oo rfl rfl) (oo rfl rfl)) ?_
           refine W.pure (v := (.bool (sEq x78.1 (⟨#[57]⟩ : ByteArray)))) rfl rfl (v_pickT (oo rfl gv141) (oo rfl rfl)) ?_
           refine W.pure (v := (.bool (sEq x78.1 (⟨#[57]⟩ : ByteArray)))) rfl rfl (v_move (oo rfl rfl)) ?_
           refine W.splitAt (t := 97) (b := sEq x78.1 (⟨#[57]⟩ : ByteArray)) rfl (fun g143 gv144 => ?_) (fun g143 gv144 => ?_)
           ·have h145 := pos_inv g143 h142
            obtain ⟨x146, i147, h148⟩ := bd_inv h145
            refine W.lo (gk rfl rfl gv144 rfl) rfl (Lo.callP (ps := []) (ps' := []) rfl (fn := Tryd.f14) (by kernel_rfl) rfl (mc rfl mn) O100 (fun L' O' => g_nat_Check_ok K (⟨#[48, 48, 55]⟩ : ByteArray) O' _ i147)) ?_
            rintro v155 H156 ⟨G149, O150, s151, sm154, rfl⟩
            replace O150 : Ow G149 H156 (eSl v94 23 (rI .i64) [x1.2, x12.2, x23.2, x34.2.2, x45.2, x56.2, x67.2, x78.2] :: L) := O150
            refine W.pure (v := (.bool (x146 == 5))) (gk rfl rfl gv144 rfl) rfl (v_int (oo rfl rfl) (oo rfl rfl) rfl) ?_
            refine W.pure (v := (.bool (x146 == 5))) rfl rfl (v_pickT (oo rfl gv144) (oo rfl rfl)) ?_
            refine W.pure (v := (.bool (x146 == 5))) rfl rfl (v_assign (oo rfl rfl)) ?_
            refine .nil ?_
            have O157 : Ow G149 H156 (L) := O150.drop 0
            obtain rfl := Option.some.inj h148
            exact ⟨(x146 == 5), _, rfl, O157, (GM.le.trans s101 s151), rfl⟩
           ·have h158 := neg_b g143 h142
            refine W.skip (gk rfl rfl gv144 rfl) rfl ?_
            refine W.skip (gk rfl rfl gv144 rfl) rfl ?_
            refine W.pure (v := (.bool false)) rfl rfl (v_pickF (oo rfl gv144) (oo rfl rfl)) ?_
            refine W.pure (v := (.bool false)) rfl rfl (v_assign (oo rfl rfl)) ?_
            refine .nil ?_
            have O159 : Ow G99 H106 (L) := O100.drop 0
            obtain rfl := Option.some.inj h158
            exact ⟨false, _, rfl, O159, s101, rfl⟩
          ·have h160 := neg_b g140 h139
           refine W.skip (gk rfl rfl gv141 rfl) rfl ?_
           refine W.skip (gk rfl rfl gv141 rfl) rfl ?_
           refine W.pure (v := (.bool false)) rfl rfl (v_pickF (oo rfl gv141) (oo rfl rfl)) ?_
           refine W.pure (v := (.bool false)) rfl rfl (v_move (oo rfl rfl)) ?_
           refine W.skip (gk rfl rfl rfl rfl) rfl ?_
           refine W.skip (gk rfl rfl rfl rfl) rfl ?_
           refine W.pure (v := (.bool false)) rfl rfl (v_pickF (oo rfl rfl) (oo rfl rfl)) ?_
           refine W.pure (v := (.bool false)) rfl rfl (v_assign (oo rfl rfl)) ?_
           refine .nil ?_
           have O161 : Ow G99 H106 (L) := O100.drop 0
           obtain rfl := Option.some.inj h160
           exact ⟨false, _, rfl, O161, s101, rfl⟩
         ·have h162 := neg_b g137 h136
          refine W.skip (gk rfl rfl gv138 rfl) rfl ?_
          refine W.skip (gk rfl rfl gv138 rfl) rfl ?_
          refine W.pure (v := (.bool false)) rfl rfl (v_pickF (oo rfl gv138) (oo rfl rfl)) ?_
          refine W.pure (v := (.bool false)) rfl rfl (v_move (oo rfl rfl)) ?_
          refine W.skip (gk rfl rfl rfl rfl) rfl ?_
          refine W.skip (gk rfl rfl rfl rfl) rfl ?_
          refine W.pure (v := (.bool false)) rfl rfl (v_pickF (oo rfl rfl) (oo rfl rfl)) ?_
          refine W.pure (v := (.bool false)) rfl rfl (v_move (oo rfl rfl)) ?_
          refine W.skip (gk rfl rfl rfl rfl) rfl ?_
          refine W.skip (gk rfl rfl rfl rfl) rfl ?_
          refine W.pure (v := (.bool false)) rfl rfl (v_pickF (oo rfl rfl) (oo rfl rfl)) ?_
          refine W.pure (v := (.bool false)) rfl rfl (v_assign (oo rfl rfl)) ?_
          refine .nil ?_
          have O163 : Ow G99 H106 (L) := O100.drop 0
          obtain rfl := Option.some.inj h162
          exact ⟨false, _, rfl, O163, s101, rfl⟩
        ·have h164 := neg_b g134 h133
         refine W.skip (gk rfl rfl gv135 rfl) rfl ?_
         refine W.skip (gk rfl rfl gv135 rfl) rfl ?_
         refine W.pure (v := (.bool false)) rfl rfl (v_pickF (oo rfl gv135) (oo rfl rfl)) ?_
         refine W.pure (v := (.bool false)) rfl rfl (v_move (oo rfl rfl)) ?_
         refine W.skip (gk rfl rfl rfl rfl) rfl ?_
         refine W.skip (gk rfl rfl rfl rfl) rfl ?_
         refine W.pure (v := (.bool false)) rfl rfl (v_pickF (oo rfl rfl) (oo rfl rfl)) ?_
         refine W.pure (v := (.bool false)) rfl rfl (v_move (oo rfl rfl)) ?_
         refine W.skip (gk rfl rfl rfl rfl) rfl ?_
         refine W.skip (gk rfl rfl rfl rfl) rfl ?_
         refine W.pure (v := (.bool false)) rfl rfl (v_pickF (oo rfl rfl) (oo rfl rfl)) ?_
         refine W.pure (v := (.bool false)) rfl rfl (v_move (oo rfl rfl)) ?_
         refine W.skip (gk rfl rfl rfl rfl) rfl ?_
         refine W.skip (gk rfl rfl rfl rfl) rfl ?_
         refine W.pure (v := (.bool false)) rfl rfl (v_pickF (oo rfl rfl) (oo rfl rfl)) ?_
         refine W.pure (v := (.bool false)) rfl rfl (v_assign (oo rfl rfl)) ?_
         refine .nil ?_
         have O165 : Ow G99 H106 (L) := O100.drop 0
         obtain rfl := Option.some.inj h164
         exact ⟨false, _, rfl, O165, s101, rfl⟩
       ·have h166 := neg_b g131 h130
        refine W.skip (gk rfl rfl gv132 rfl) rfl ?_
        refine W.skip (gk rfl rfl gv132 rfl) rfl ?_
        refine W.pure (v := (.bool false)) rfl rfl (v_pickF (oo rfl gv132) (oo rfl rfl)) ?_
        refine W.pure (v := (.bool false)) rfl rfl (v_move (oo rfl rfl)) ?_
        refine W.skip (gk rfl rfl rfl rfl) rfl ?_
        refine W.skip (gk rfl rfl rfl rfl) rfl ?_
        refine W.pure (v := (.bool false)) rfl rfl (v_pickF (oo rfl rfl) (oo rfl rfl)) ?_
        refine W.pure (v := (.bool false)) rfl rfl (v_move (oo rfl rfl)) ?_
        refine W.skip (gk rfl rfl rfl rfl) rfl ?_
        refine W.skip (gk rfl rfl rfl rfl) rfl ?_
        refine W.pure (v := (.bool false)) rfl rfl (v_pickF (oo rfl rfl) (oo rfl rfl)) ?_
        refine W.pure (v := (.bool false)) rfl rfl (v_move (oo rfl rfl)) ?_
        refine W.skip (gk rfl rfl rfl rfl) rfl ?_
        refine W.skip (gk rfl rfl rfl rfl) rfl ?_
        refine W.pure (v := (.bool false)) rfl rfl (v_pickF (oo rfl rfl) (oo rfl rfl)) ?_
        refine W.pure (v := (.bool false)) rfl rfl (v_move (oo rfl rfl)) ?_
        refine W.skip (gk rfl rfl rfl rfl) rfl ?_
        refine W.skip (gk rfl rfl rfl rfl) rfl ?_
        refine W.pure (v := (.bool false)) rfl rfl (v_pickF (oo rfl rfl) (oo rfl rfl)) ?_
        refine W.pure (v := (.bool false)) rfl rfl (v_assign (oo rfl rfl)) ?_
        refine .nil ?_
        have O167 : Ow G99 H106 (L) := O100.drop 0
        obtain rfl := Option.some.inj h166
        exact ⟨false, _, rfl, O167, s101, rfl⟩
      ·have h168 := neg_b g128 h127
       refine W.skip (gk rfl rfl gv129 rfl) rfl ?_
       refine W.skip (gk rfl rfl gv129 rfl) rfl ?_
       refine W.pure (v := (.bool false)) rfl rfl (v_pickF (oo rfl gv129) (oo rfl rfl)) ?_
       refine W.pure (v := (.bool false)) rfl rfl (v_move (oo rfl rfl)) ?_
       refine W.skip (gk rfl rfl rfl rfl) rfl ?_
       refine W.skip (gk rfl rfl rfl rfl) rfl ?_
       refine W.pure (v := (.bool false)) rfl rfl (v_pickF (oo rfl rfl) (oo rfl rfl)) ?_
       refine W.pure (v := (.bool false)) rfl rfl (v_move (oo rfl rfl)) ?_
       refine W.skip (gk rfl rfl rfl rfl) rfl ?_
       refine W.skip (gk rfl rfl rfl rfl) rfl ?_
       refine W.pure (v := (.bool false)) rfl rfl (v_pickF (oo rfl rfl) (oo rfl rfl)) ?_
       refine W.pure (v := (.bool false)) rfl rfl (v_move (oo rfl rfl)) ?_
       refine W.skip (gk rfl rfl rfl rfl) rfl ?_
       refine W.skip (gk rfl rfl rfl rfl) rfl ?_
       refine W.pure (v := (.bool false)) rfl rfl (v_pickF (oo rfl rfl) (oo rfl rfl)) ?_
       refine W.pure (v := (.bool false)) rfl rfl (v_move (oo rfl rfl)) ?_
       refine W.skip (gk rfl rfl rfl rfl) rfl ?_
       refine W.skip (gk rfl rfl rfl rfl) rfl ?_
       refine W.pure (v := (.bool false)) rfl rfl (v_pickF (oo rfl rfl) (oo rfl rfl)) ?_
       refine W.pure (v := (.bool false)) rfl rfl (v_move (oo rfl rfl)) ?_
       refine W.skip (gk rfl rfl rfl rfl) rfl ?_
       refine W.skip (gk rfl rfl rfl rfl) rfl ?_
       refine W.pure (v := (.bool false)) rfl rfl (v_pickF (oo rfl rfl) (oo rfl rfl)) ?_
       refine W.pure (v := (.bool false)) rfl rfl (v_assign (oo rfl rfl)) ?_
       refine .nil ?_
       have O169 : Ow G99 H106 (L) := O100.drop 0
       obtain rfl := Option.some.inj h168
       exact ⟨false, _, rfl, O169, s101, rfl⟩
     ·have h170 := neg_b g125 h124
      refine W.skip (gk rfl rfl gv126 rfl) rfl ?_
      refine W.skip (gk rfl rfl gv126 rfl) rfl ?_
      refine W.pure (v := (.bool false)) rfl rfl (v_pickF (oo rfl gv126) (oo rfl rfl)) ?_
      refine W.pure (v := (.bool false)) rfl rfl (v_move (oo rfl rfl)) ?_
      refine W.skip (gk rfl rfl rfl rfl) rfl ?_
      refine W.skip (gk rfl rfl rfl rfl) rfl ?_
      refine W.pure (v := (.bool false)) rfl rfl (v_pickF (oo rfl rfl) (oo rfl rfl)) ?_
      refine W.pure (v := (.bool false)) rfl rfl (v_move (oo rfl rfl)) ?_
      refine W.skip (gk rfl rfl rfl rfl) rfl ?_
      refine W.skip (gk rfl rfl rfl rfl) rfl ?_
      refine W.pure (v := (.bool false)) rfl rfl (v_pickF (oo rfl rfl) (oo rfl rfl)) ?_
      refine W.pure (v := (.bool false)) rfl rfl (v_move (oo rfl rfl)) ?_
      refine W.skip (gk rfl rfl rfl rfl) rfl ?_
      refine W.skip (gk rfl rfl rfl rfl) rfl ?_
      refine W.pure (v := (.bool false)) rfl rfl (v_pickF (oo rfl rfl) (oo rfl rfl)) ?_
      refine W.pure (v := (.bool false)) rfl rfl (v_move (oo rfl rfl)) ?_
      refine W.skip (gk rfl rfl rfl rfl) rfl ?_
      refine W.skip (gk rfl rfl rfl rfl) rfl ?_
      refine W.pure (v := (.bool false)) rfl rfl (v_pickF (oo rfl rfl) (oo rfl rfl)) ?_
      refine W.pure (v := (.bool false)) rfl rfl (v_move (oo rfl rfl)) ?_
      refine W.skip (gk rfl rfl rfl rfl) rfl ?_
      refine W.skip (gk rfl rfl rfl rfl) rfl ?_
      refine W.pure (v := (.bool false)) rfl rfl (v_pickF (oo rfl rfl) (oo rfl rfl)) ?_
      refine W.pure (v := (.bool false)) rfl rfl (v_move (oo rfl rfl)) ?_
      refine W.skip (gk rfl rfl rfl rfl) rfl ?_
      refine W.skip (gk rfl rfl rfl rfl) rfl ?_
      refine W.pure (v := (.bool false)) rfl rfl (v_pickF (oo rfl rfl) (oo rfl rfl)) ?_
      refine W.pure (v := (.bool false)) rfl rfl (v_assign (oo rfl rfl)) ?_
      refine .nil ?_
      have O171 : Ow G99 H106 (L) := O100.drop 0
      obtain rfl := Option.some.inj h170
      exact ⟨false, _, rfl, O171, s101, rfl⟩
    ·have h172 := neg_b g119 h118
     refine W.skip (gk rfl rfl gv120 rfl) rfl ?_
     refine W.skip (gk rfl rfl gv120 rfl) rfl ?_
     refine W.pure (v := (.bool false)) rfl rfl (v_pickF (oo rfl gv120) (oo rfl rfl)) ?_
     refine W.pure (v := (.bool false)) rfl rfl (v_move (oo rfl rfl)) ?_
     refine W.skip (gk rfl rfl rfl rfl) rfl ?_
     refine W.skip (gk rfl rfl rfl rfl) rfl ?_
     refine W.pure (v := (.bool false)) rfl rfl (v_pickF (oo rfl rfl) (oo rfl rfl)) ?_
     refine W.pure (v := (.bool false)) rfl rfl (v_move (oo rfl rfl)) ?_
     refine W.skip (gk rfl rfl rfl rfl) rfl ?_
     refine W.skip (gk rfl rfl rfl rfl) rfl ?_
     refine W.pure (v := (.bool false)) rfl rfl (v_pickF (oo rfl rfl) (oo rfl rfl)) ?_
     refine W.pure (v := (.bool false)) rfl rfl (v_move (oo rfl rfl)) ?_
     refine W.skip (gk rfl rfl rfl rfl) rfl ?_
     refine W.skip (gk rfl rfl rfl rfl) rfl ?_
     refine W.pure (v := (.bool false)) rfl rfl (v_pickF (oo rfl rfl) (oo rfl rfl)) ?_
     refine W.pure (v := (.bool false)) rfl rfl (v_move (oo rfl rfl)) ?_
     refine W.skip (gk rfl rfl rfl rfl) rfl ?_
     refine W.skip (gk rfl rfl rfl rfl) rfl ?_
     refine W.pure (v := (.bool false)) rfl rfl (v_pickF (oo rfl rfl) (oo rfl rfl)) ?_
     refine W.pure (v := (.bool false)) rfl rfl (v_move (oo rfl rfl)) ?_
     refine W.skip (gk rfl rfl rfl rfl) rfl ?_
     refine W.skip (gk rfl rfl rfl rfl) rfl ?_
     refine W.pure (v := (.bool false)) rfl rfl (v_pickF (oo rfl rfl) (oo rfl rfl)) ?_
     refine W.pure (v := (.bool false)) rfl rfl (v_move (oo rfl rfl)) ?_
     refine W.skip (gk rfl rfl rfl rfl) rfl ?_
     refine W.skip (gk rfl rfl rfl rfl) rfl ?_
     refine W.pure (v := (.bool false)) rfl rfl (v_pickF (oo rfl rfl) (oo rfl rfl)) ?_
     refine W.pure (v := (.bool false)) rfl rfl (v_move (oo rfl rfl)) ?_
     refine W.skip (gk rfl rfl rfl rfl) rfl ?_
     refine W.skip (gk rfl rfl rfl rfl) rfl ?_
     refine W.pure (v := (.bool false)) rfl rfl (v_pickF (oo rfl rfl) (oo rfl rfl)) ?_
     refine W.pure (v := (.bool false)) rfl rfl (v_assign (oo rfl rfl)) ?_
     refine .nil ?_
     have O173 : Ow G99 H106 (L) := O100.drop 0
     obtain rfl := Option.some.inj h172
     exact ⟨false, _, rfl, O173, s101, rfl⟩
   ·have h174 := neg_b g113 h112
    refine W.skip (gk rfl rfl gv114 rfl) rfl ?_
    refine W.skip (gk rfl rfl gv114 rfl) rfl ?_
    refine W.pure (v := (.bool false)) rfl rfl (v_pickF (oo rfl gv114) (oo rfl rfl)) ?_
    refine W.pure (v := (.bool false)) rfl rfl (v_move (oo rfl rfl)) ?_
    refine W.skip (gk rfl rfl rfl rfl) rfl ?_
    refine W.skip (gk rfl rfl rfl rfl) rfl ?_
    refine W.pure (v := (.bool false)) rfl rfl (v_pickF (oo rfl rfl) (oo rfl rfl)) ?_
    refine W.pure (v := (.bool false)) rfl rfl (v_move (oo rfl rfl)) ?_
    refine W.skip (gk rfl rfl rfl rfl) rfl ?_
    refine W.skip (gk rfl rfl rfl rfl) rfl ?_
    refine W.pure (v := (.bool false)) rfl rfl (v_pickF (oo rfl rfl) (oo rfl rfl)) ?_
    refine W.pure (v := (.bool false)) rfl rfl (v_move (oo rfl rfl)) ?_
    refine W.skip (gk rfl rfl rfl rfl) rfl ?_
    refine W.skip (gk rfl rfl rfl rfl) rfl ?_
    refine W.pure (v := (.bool false)) rfl rfl (v_pickF (oo rfl rfl) (oo rfl rfl)) ?_
    refine W.pure (v := (.bool false)) rfl rfl (v_move (oo rfl rfl)) ?_
    refine W.skip (gk rfl rfl rfl rfl) rfl ?_
    refine W.skip (gk rfl rfl rfl rfl) rfl ?_
    refine W.pure (v := (.bool false)) rfl rfl (v_pickF (oo rfl rfl) (oo rfl rfl)) ?_
    refine W.pure (v := (.bool false)) rfl rfl (v_move (oo rfl rfl)) ?_
    refine W.skip (gk rfl rfl rfl rfl) rfl ?_
    refine W.skip (gk rfl rfl rfl rfl) rfl ?_
    refine W.pure (v := (.bool false)) rfl rfl (v_pickF (oo rfl rfl) (oo rfl rfl)) ?_
    refine W.pure (v := (.bool false)) rfl rfl (v_move (oo rfl rfl)) ?_
    refine W.skip (gk rfl rfl rfl rfl) rfl ?_
    refine W.skip (gk rfl rfl rfl rfl) rfl ?_
    refine W.pure (v := (.bool false)) rfl rfl (v_pickF (oo rfl rfl) (oo rfl rfl)) ?_
    refine W.pure (v := (.bool false)) rfl rfl (v_move (oo rfl rfl)) ?_
    refine W.skip (gk rfl rfl rfl rfl) rfl ?_
    refine W.skip (gk rfl rfl rfl rfl) rfl ?_
    refine W.pure (v := (.bool false)) rfl rfl (v_pickF (oo rfl rfl) (oo rfl rfl)) ?_
    refine W.pure (v := (.bool false)) rfl rfl (v_move (oo rfl rfl)) ?_
    refine W.skip (gk rfl rfl rfl rfl) rfl ?_
    refine W.skip (gk rfl rfl rfl rfl) rfl ?_
    refine W.pure (v := (.bool false)) rfl rfl (v_pickF (oo rfl rfl) (oo rfl rfl)) ?_
    refine W.pure (v := (.bool false)) rfl rfl (v_assign (oo rfl rfl)) ?_
    refine .nil ?_
    have O175 : Ow G99 H106 (L) := O100.drop 0
    obtain rfl := Option.some.inj h174
    exact ⟨false, _, rfl, O175, s101, rfl⟩
  ·have h176 := neg_b g107 h98
   refine W.skip (gk rfl rfl gv108 rfl) rfl ?_
   refine W.skip (gk rfl rfl gv108 rfl) rfl ?_
   refine W.pure (v := (.bool false)) rfl rfl (v_pickF (oo rfl gv108) (oo rfl rfl)) ?_
   refine W.pure (v := (.bool false)) rfl rfl (v_move (oo rfl rfl)) ?_
   refine W.skip (gk rfl rfl rfl rfl) rfl ?_
   refine W.skip (gk rfl rfl rfl rfl) rfl ?_
   refine W.pure (v := (.bool false)) rfl rfl (v_pickF (oo rfl rfl) (oo rfl rfl)) ?_
   refine W.pure (v := (.bool false)) rfl rfl (v_move (oo rfl rfl)) ?_
   refine W.skip (gk rfl rfl rfl rfl) rfl ?_
   refine W.skip (gk rfl rfl rfl rfl) rfl ?_
   refine W.pure (v := (.bool false)) rfl rfl (v_pickF (oo rfl rfl) (oo rfl rfl)) ?_
   refine W.pure (v := (.bool false)) rfl rfl (v_move (oo rfl rfl)) ?_
   refine W.skip (gk rfl rfl rfl rfl) rfl ?_
   refine W.skip (gk rfl rfl rfl rfl) rfl ?_
   refine W.pure (v := (.bool false)) rfl rfl (v_pickF (oo rfl rfl) (oo rfl rfl)) ?_
   refine W.pure (v := (.bool false)) rfl rfl (v_move (oo rfl rfl)) ?_
   refine W.skip (gk rfl rfl rfl rfl) rfl ?_
   refine W.skip (gk rfl rfl rfl rfl) rfl ?_
   refine W.pure (v := (.bool false)) rfl rfl (v_pickF (oo rfl rfl) (oo rfl rfl)) ?_
   refine W.pure (v := (.bool false)) rfl rfl (v_move (oo rfl rfl)) ?_
   refine W.skip (gk rfl rfl rfl rfl) rfl ?_
   refine W.skip (gk rfl rfl rfl rfl) rfl ?_
   refine W.pure (v := (.bool false)) rfl rfl (v_pickF (oo rfl rfl) (oo rfl rfl)) ?_
   refine W.pure (v := (.bool false)) rfl rfl (v_move (oo rfl rfl)) ?_
   refine W.skip (gk rfl rfl rfl rfl) rfl ?_
   refine W.skip (gk rfl rfl rfl rfl) rfl ?_
   refine W.pure (v := (.bool false)) rfl rfl (v_pickF (oo rfl rfl) (oo rfl rfl)) ?_
   refine W.pure (v := (.bool false)) rfl rfl (v_move (oo rfl rfl)) ?_
   refine W.skip (gk rfl rfl rfl rfl) rfl ?_
   refine W.skip (gk rfl rfl rfl rfl) rfl ?_
   refine W.pure (v := (.bool false)) rfl rfl (v_pickF (oo rfl rfl) (oo rfl rfl)) ?_
   refine W.pure (v := (.bool false)) rfl rfl (v_move (oo rfl rfl)) ?_
   refine W.skip (gk rfl rfl rfl rfl) rfl ?_
   refine W.skip (gk rfl rfl rfl rfl) rfl ?_
   refine W.pure (v := (.bool false)) rfl rfl (v_pickF (oo rfl rfl) (oo rfl rfl)) ?_
   refine W.pure (v := (.bool false)) rfl rfl (v_move (oo rfl rfl)) ?_
   refine W.skip (gk rfl rfl rfl rfl) rfl ?_
   refine W.skip (gk rfl rfl rfl rfl) rfl ?_
   refine W.pure (v := (.bool false)) rfl rfl (v_pickF (oo rfl rfl) (oo rfl rfl)) ?_
   refine W.pure (v := (.bool false)) rfl rfl (v_assign (oo rfl rfl)) ?_
   refine .nil ?_
   have O177 : Ow G99 H106 (L) := O100.drop 0
   obtain rfl := Option.some.inj h176
   exact ⟨false, _, rfl, O177, s101, rfl⟩
 ·rintro σ179 H180 fr181 ⟨x178, G182, rfl, O183, s184, t186⟩
  have h187 := tu1_inv h91
  refine .ret ?_
  obtain rfl := Option.some.inj h187
  refine ret1R (P := Tryd.prog) (fn := Tryd.f13) (n := 101) (R := fun v H' => ∃ G', Ow G' H' (L) ∧ G.le G' ∧ v = .bool x178) (v1 := (.bool x178)) (by rfl) (rr_tmp (by rfl) (by exact t186)) ?_
  exact ⟨_, O183, (GM.le.trans s6 (GM.le.trans s17 (GM.le.trans s28 (GM.le.trans s39 (GM.le.trans s50 (GM.le.trans s61 (GM.le.trans s72 (GM.le.trans s83 s184)))))))), rfl⟩
def g_R_NatError_l0 (K : Nat) (p0 : ByteArray) : Nat → Int → Option (Int ⊕ Unit)
 | 0, _ => none
 | k + 1, x8 => (if (decide (x8 < (p0.size : Int))) = true then (Option.bind (((bidx p0 x8).bind fun x22 => (if (decide (x22 < 48)) = true then some true else ((bidx p0 x8).bind fun x29 => some (decide (x29 > 57)))))) (tu1 fun x32 => (if x32 = true then some (.inl 5) else g_R_NatError_l0 K p0 k (kwrap .i64 (x8 + 1))))) else some (.inr ()))
def g_R_NatError (K : Nat) (p0 : ByteArray) : Option Int := (if ((p0.size : Int) == 0) = true then some 5 else (bindS (g_R_NatError_l0 K p0 K 0) (tu1 fun a81 => some a81) (tu0 (Option.bind ((if (decide ((p0.size : Int) > 1)) = true then ((bidx p0 0).bind fun x61 => some (x61 == 48)) else some false)) (tu1 fun x65 => (if x65 = true then some 5 else (if (decide ((p0.size : Int) > 2000)) = true then some 2 else some 0)))))))
set_option maxHeartbeats 4000000 in
theorem g_R_NatError_ok (K : Nat) {G : GM} {H : AH} {L : List Pc} (p0 : ByteArray) (O : Ow G H (L)) (r : Int) (h : g_R_NatError K p0 = some r) :
  CR Tryd.prog 15 [(.string p0)] G H (L) (fun v G' _ => v = .int .i64 r) := by
 unfold g_R_NatError at h
 refine CR.of (calls_of_AW (n := 34) (fn := Tryd.f15) (R := fun v H' => ∃ G', Ow G' H' (L) ∧ G.le G' ∧ v = .int .i64 r) (by kernel_rfl) rfl rfl ?_)
 refine .seq ?_
 refine .region ?_
 refine W.pure (v := (.int .i64 0)) rfl rfl (v_assign (oo rfl rfl)) ?_
 refine .nil ?_
 refine .seq ?_
 refine .seq ?_
 refine .region ?_
 refine W.pure (v := (.string p0)) rfl rfl (v_move (oo rfl rfl)) ?_
 refine W.pure (v := (.int .i64 (p0.size : Int))) rfl rfl (len_str (oo rfl rfl) un9) ?_
 refine W.pure (v := (.bool ((p0.size : Int) == 0))) rfl rfl (v_int (oo rfl rfl) (oo rfl rfl) rfl) ?_
 refine .nil ?_
 refine .cond (b := ((p0.size : Int) == 0)) rfl rfl (fun g1 => ?_) (fun g1 => ?_)
 ·have h2 := pos_inv g1 h
  refine .seq ?_
  refine .region ?_
  refine W.pure (v := (.int .i64 5)) rfl rfl (v_assign (oo rfl rfl)) ?_
  refine .nil ?_
  refine .ret ?_
  obtain rfl := Option.some.inj h2
  refine ret1R (P := Tryd.prog) (fn := Tryd.f15) (n := 34) (R := fun v H' => ∃ G', Ow G' H' (L) ∧ G.le G' ∧ v = .int .i64 5) (v1 := (.int .i64 5)) (by rfl) (rr_tmp (by rfl) (by exact rfl)) ?_
  exact ⟨_, O, (GM.le.refl _), rfl⟩
 ·have h3 := neg_b g1 h
  refine .skip ?_
  refine .seq ?_
  refine .seq ?_
  refine .region ?_
  refine W.pure (v := (.int .i64 0)) rfl rfl (v_assign (oo rfl rfl)) ?_
  refine .nil ?_
  obtain ⟨q4, h5, h6⟩ := bindS_inv h3
  refine AW.midT (fun σ' H' => ∃  (G' : GM), (.inr ()) = q4 ∧ Ow G' H' (L) ∧ GM.le G G') ?_ ?_
  ·refine .block ?_
   refine AW.loop (α := Nat) (fun k' σ' H' => ∃ (y1 : Int) (G' : GM), g_R_NatError_l0 K p0 k' y1 = some q4 ∧ Ow G' H' (L) ∧ GM.le G G' ∧ σ' 3 = .int .i64 y1) (fun k' => k') K ⟨0, _, h5, O, (GM.le.refl _), rfl⟩ ?_
   rintro k7
   rintro σ9 H10 fr11 ⟨x8, G12, h15, O13, s14, t16⟩
   rcases k7 with _ | k7
   ·exact none_absurd h15
   rw [g_R_NatError_l0] at h15
   refine .seq ?_
   refine .seq ?_
   refine .region ?_
   refine W.pure (v := (.int .i64 x8)) rfl rfl (v_move (oo rfl t16)) ?_
   refine W.pure (v := (.string p0)) rfl rfl (v_move (oo rfl ((fr11 0 rfl).trans rfl))) ?_
   refine W.pure (v := (.int .i64 (p0.size : Int))) rfl rfl (len_str (oo rfl rfl) un9) ?_
   refine W.pure (v := (.bool (decide (x8 < (p0.size : Int))))) rfl rfl (v_int (oo rfl rfl) (oo rfl rfl) rfl) ?_
   refine .nil ?_
   refine .cond (b := decide (x8 < (p0.size : Int))) rfl rfl (fun g17 => ?_) (fun g17 => ?_)
   ·have h18 := pos_inv g17 h15
    refine .skip ?_
    refine .seq ?_
    refine .block ?_
    refine .seq ?_
    obtain ⟨q19, h20, h21⟩ := bd_inv h18
    refine AW.midT (fun σ' H' => ∃ (y1 : Bool) (G' : GM), y1 = q19 ∧ Ow G' H' (L) ∧ GM.le G12 G' ∧ σ' 22 = .bool y1) ?_ ?_
    ·refine .region ?_
     refine W.pure (v := (.string p0)) rfl rfl (v_move (oo rfl ((fr11 0 rfl).trans rfl))) ?_
     refine W.pure (v := (.int .i64 x8)) rfl rfl (v_move (oo rfl t16)) ?_
     obtain ⟨x22, i23, h24⟩ := bd_inv h20
     refine W.pure (v := (.int .u8 x22)) rfl rfl (v_sidx un9 (oo rfl rfl) (oo rfl rfl) i23) ?_
     refine W.pure (v := (.bool (decide (x22 < 48)))) rfl rfl (v_int (oo rfl rfl) (oo rfl rfl) rfl) ?_
     refine W.pure (v := (.bool (decide (x22 < 48)))) rfl rfl (v_move (oo rfl rfl)) ?_
     refine W.splitAt (t := 17) (b := decide (x22 < 48)) rfl (fun g25 gv26 => ?_) (fun g25 gv26 => ?_)
     ·have h27 := pos_inv g25 h24
      refine W.skip (gk rfl rfl gv26 rfl) rfl ?_
      refine W.skip (gk rfl rfl gv26 rfl) rfl ?_
      refine W.skip (gk rfl rfl gv26 rfl) rfl ?_
      refine W.skip (gk rfl rfl gv26 rfl) rfl ?_
      refine W.pure (v := (.bool true)) rfl rfl (v_pickT (oo rfl gv26) (oo rfl rfl)) ?_
      refine .nil ?_
      obtain rfl := Option.some.inj h27
      exact ⟨true, _, rfl, O13, (GM.le.refl _), rfl⟩
     ·have h28 := neg_b g25 h24
      refine W.pure (v := (.string p0)) (gk rfl rfl gv26 rfl) rfl (v_move (oo rfl ((fr11 0 rfl).trans rfl))) ?_
      refine W.pure (v := (.int .i64 x8)) (gk rfl rfl gv26 rfl) rfl (v_move (oo rfl t16)) ?_
      obtain ⟨x29, i30, h31⟩ := bd_inv h28
      refine W.pure (v := (.int .u8 x29)) (gk rfl rfl gv26 rfl) rfl (v_sidx un9 (oo rfl rfl) (oo rfl rfl) i30) ?_
      refine W.pure (v := (.bool (decide (x29 > 57)))) (gk rfl rfl gv26 rfl) rfl (v_int (oo rfl rfl) (oo rfl rfl) rfl) ?_
      refine W.pure (v := (.bool (decide (x29 > 57)))) rfl rfl (v_pickF (oo rfl gv26) (oo rfl rfl)) ?_
      refine .nil ?_
      obtain rfl := Option.some.inj h31
      exact ⟨decide (x29 > 57), _, rfl, O13, (GM.le.refl _), rfl⟩
    ·rintro σ33 H34 fr35 ⟨x32, G36, rfl, O37, s38, t40⟩
     have h41 := tu1_inv h21
     refine .cond (b := x32) rfl t40 (fun g42 => ?_) (fun g42 => ?_)
     ·have h43 := pos_inv g42 h41
      refine .seq ?_
      refine .region ?_
      refine W.pure (v := (.int .i64 5)) rfl rfl (v_assign (oo rfl rfl)) ?_
      refine .nil ?_
      refine .ret ?_
      obtain rfl := Option.some.inj h43
      have h44 := tu1_inv (outS_l h6)
      obtain rfl := Option.some.inj h44
      refine ret1R (P := Tryd.prog) (fn := Tryd.f15) (n := 34) (R := fun v H' => ∃ G', Ow G' H' (L) ∧ G.le G' ∧ v = .int .i64 5) (v1 := (.int .i64 5)) (by rfl) (rr_tmp (by rfl) (by exact rfl)) ?_
      exact ⟨_, O37, (GM.le.trans s14 s38), rfl⟩
     ·have h45 := neg_b g42 h41
      refine .skip ?_
      refine .region ?_
      refine W.pure (v := (.int .i64 x8)) rfl rfl (v_move (oo rfl ((fr35 3 rfl).trans t16))) ?_
      refine W.pure (v := (.int .i64 (kwrap .i64 (x8 + 1)))) rfl rfl (v_int (oo rfl rfl) (oo rfl rfl) rfl) ?_
      refine W.pure (v := (.int .i64 (kwrap .i64 (x8 + 1)))) rfl rfl (v_assign (oo rfl rfl)) ?_
      refine .nil ?_
      exact ⟨k7, Nat.lt_succ_self _, ⟨kwrap .i64 (x8 + 1), _, h45, O37, (GM.le.trans s14 s38), rfl⟩⟩
   ·have h46 := neg_b g17 h15
    refine .exit ?_
    obtain rfl := Option.some.inj h46
    exact ⟨_, rfl, O13, s14⟩
  ·rintro σ47 H48 fr49 ⟨G50, rfl, O51, s52⟩
   have h54 := tu0_inv (outS_r h6)
   refine .seq ?_
   refine .seq ?_
   obtain ⟨q55, h56, h57⟩ := bd_inv h54
   refine AW.midT (fun σ' H' => ∃ (y1 : Bool) (G' : GM), y1 = q55 ∧ Ow G' H' (L) ∧ GM.le G50 G' ∧ σ' 30 = .bool y1) ?_ ?_
   ·refine .region ?_
    refine W.pure (v := (.string p0)) rfl rfl (v_move (oo rfl ((fr49 0 rfl).trans rfl))) ?_
    refine W.pure (v := (.int .i64 (p0.size : Int))) rfl rfl (len_str (oo rfl rfl) un9) ?_
    refine W.pure (v := (.bool (decide ((p0.size : Int) > 1)))) rfl rfl (v_int (oo rfl rfl) (oo rfl rfl) rfl) ?_
    refine W.pure (v := (.bool (decide ((p0.size : Int) > 1)))) rfl rfl (v_move (oo rfl rfl)) ?_
    refine W.splitAt (t := 26) (b := decide ((p0.size : Int) > 1)) rfl (fun g58 gv59 => ?_) (fun g58 gv59 => ?_)
    ·have h60 := pos_inv g58 h56
     refine W.pure (v := (.string p0)) (gk rfl rfl gv59 rfl) rfl (v_move (oo rfl ((fr49 0 rfl).trans rfl))) ?_
     obtain ⟨x61, i62, h63⟩ := bd_inv h60
     refine W.pure (v := (.int .u8 x61)) (gk rfl rfl gv59 rfl) rfl (v_sidx un9 (oo rfl rfl) (oo rfl rfl) i62) ?_
     refine W.pure (v := (.bool (x61 == 48))) (gk rfl rfl gv59 rfl) rfl (v_int (oo rfl rfl) (oo rfl rfl) rfl) ?_
     refine W.pure (v := (.bool (x61 == 48))) rfl rfl (v_pickT (oo rfl gv59) (oo rfl rfl)) ?_
     refine .nil ?_
     obtain rfl := Option.some.inj h63
     exact ⟨(x61 == 48), _, rfl, O51, (GM.le.refl _), rfl⟩
    ·have h64 := neg_b g58 h56
     refine W.skip (gk rfl rfl gv59 rfl) rfl ?_
     refine W.skip (gk rfl rfl gv59 rfl) rfl ?_
     refine W.skip (gk rfl rfl gv59 rfl) rfl ?_
     refine W.pure (v := (.bool false)) rfl rfl (v_pickF (oo rfl gv59) (oo rfl rfl)) ?_
     refine .nil ?_
     obtain rfl := Option.some.inj h64
     exact ⟨false, _, rfl, O51, (GM.le.refl _), rfl⟩
   ·rintro σ66 H67 fr68 ⟨x65, G69, rfl, O70, s71, t73⟩
    have h74 := tu1_inv h57
    refine .cond (b := x65) rfl t73 (fun g75 => ?_) (fun g75 => ?_)
    ·have h76 := pos_inv g75 h74
     refine .seq ?_
     refine .region ?_
     refine W.pure (v := (.int .i64 5)) rfl rfl (v_assign (oo rfl rfl)) ?_
     refine .nil ?_
     refine .ret ?_
     obtain rfl := Option.some.inj h76
     refine ret1R (P := Tryd.prog) (fn := Tryd.f15) (n := 34) (R := fun v H' => ∃ G', Ow G' H' (L) ∧ G.le G' ∧ v = .int .i64 5) (v1 := (.int .i64 5)) (by rfl) (rr_tmp (by rfl) (by exact rfl)) ?_
     exact ⟨_, O70, (GM.le.trans s52 s71), rfl⟩
    ·have h77 := neg_b g75 h74
     refine .skip ?_
     refine .seq ?_
     refine .seq ?_
     refine .region ?_
     refine W.pure (v := (.string p0)) rfl rfl (v_move (oo rfl ((fr68 0 rfl).trans ((fr49 0 rfl).trans rfl)))) ?_
     refine W.pure (v := (.int .i64 (p0.size : Int))) rfl rfl (len_str (oo rfl rfl) un9) ?_
     refine W.pure (v := (.bool (decide ((p0.size : Int) > 2000)))) rfl rfl (v_int (oo rfl rfl) (oo rfl rfl) rfl) ?_
     refine .nil ?_
     refine .cond (b := decide ((p0.size : Int) > 2000)) rfl rfl (fun g78 => ?_) (fun g78 => ?_)
     ·have h79 := pos_inv g78 h77
      refine .seq ?_
      refine .region ?_
      refine W.pure (v := (.int .i64 2)) rfl rfl (v_assign (oo rfl rfl)) ?_
      refine .nil ?_
      refine .ret ?_
      obtain rfl := Option.some.inj h79
      refine ret1R (P := Tryd.prog) (fn := Tryd.f15) (n := 34) (R := fun v H' => ∃ G', Ow G' H' (L) ∧ G.le G' ∧ v = .int .i64 2) (v1 := (.int .i64 2)) (by rfl) (rr_tmp (by rfl) (by exact rfl)) ?_
      exact ⟨_, O70, (GM.le.trans s52 s71), rfl⟩
     ·have h80 := neg_b g78 h77
      refine .skip ?_
      refine .seq ?_
      refine .region ?_
      refine W.pure (v := (.int .i64 0)) rfl rfl (v_assign (oo rfl rfl)) ?_
      refine .nil ?_
      refine .ret ?_
      obtain rfl := Option.some.inj h80
      refine ret1R (P := Tryd.prog) (fn := Tryd.f15) (n := 34) (R := fun v H' => ∃ G', Ow G' H' (L) ∧ G.le G' ∧ v = .int .i64 0) (v1 := (.int .i64 0)) (by rfl) (rr_tmp (by rfl) (by exact rfl)) ?_
      exact ⟨_, O70, (GM.le.trans s52 s71), rfl⟩
def g_law_first_l0 (K : Nat) (p0 : List Int) : Nat → Int → Option (Int ⊕ Unit)
 | 0, _ => none
 | k + 1, x5 => (if (decide (x5 < (List.length p0 : Int))) = true then ((idx p0 x5).bind fun x16 => (if (x16 != 0) = true then some (.inl x16) else g_law_first_l0 K p0 k (kwrap .i64 (x5 + 1)))) else some (.inr ()))
def g_law_first (K : Nat) (p0 : List Int) : Option Int := (bindS (g_law_first_l0 K p0 K 0) (tu1 fun a33 => some a33) (tu0 (some 0)))
set_option maxHeartbeats 4000000 in
theorem g_law_first_ok (K : Nat) {G : GM} {H : AH} {L : List Pc} (v0 : Value) (p0 : List Int) (hp0 : (rSl (rI .i64)).rep G [v0] p0) (O : Ow G H (L)) (r : Int) (h : g_law_first K p0 = some r) :
  CR Tryd.prog 18 [v0] G H (L) (fun v G' _ => v = .int .i64 r) := by
 unfold g_law_first at h
 refine CR.of (calls_of_AW (n := 15) (fn := Tryd.f18) (R := fun v H' => ∃ G', Ow G' H' (L) ∧ G.le G' ∧ v = .int .i64 r) (by kernel_rfl) rfl rfl ?_)
 refine .seq ?_
 refine .region ?_
 refine W.pure (v := (.int .i64 0)) rfl rfl (v_assign (oo rfl rfl)) ?_
 refine .nil ?_
 refine .seq ?_
 refine .seq ?_
 refine .region ?_
 refine W.pure (v := v0) rfl rfl (v_move (oo rfl rfl)) ?_
 refine W.pure (v := (.int .i64 (List.length p0 : Int))) rfl rfl (len_sl (oo rfl rfl) (sl_len hp0) (elemT_inv el70)) ?_
 refine W.pure (v := (.int .i64 0)) rfl rfl (v_move (oo rfl rfl)) ?_
 refine .nil ?_
 obtain ⟨q1, h2, h3⟩ := bindS_inv h
 refine AW.midT (fun σ' H' => ∃  (G' : GM), (.inr ()) = q1 ∧ Ow G' H' (L) ∧ GM.le G G') ?_ ?_
 ·refine .block ?_
  refine AW.loop (α := Nat) (fun k' σ' H' => ∃ (y1 : Int) (G' : GM), g_law_first_l0 K p0 k' y1 = some q1 ∧ Ow G' H' (L) ∧ GM.le G G' ∧ σ' 7 = .int .i64 y1) (fun k' => k') K ⟨0, _, h2, O, (GM.le.refl _), rfl⟩ ?_
  rintro k4
  rintro σ6 H7 fr8 ⟨x5, G9, h12, O10, s11, t13⟩
  rcases k4 with _ | k4
  ·exact none_absurd h12
  rw [g_law_first_l0] at h12
  refine .seq ?_
  refine .region ?_
  refine W.pure (v := (.bool (decide (x5 < (List.length p0 : Int))))) rfl rfl (v_int (oo rfl t13) (oo rfl ((fr8 6 rfl).trans rfl)) rfl) ?_
  refine .nil ?_
  refine .seq ?_
  refine .cond (b := decide (x5 < (List.length p0 : Int))) rfl rfl (fun g14 => ?_) (fun g14 => ?_)
  ·have h15 := pos_inv g14 h12
   refine .skip ?_
   refine .seq ?_
   refine .block ?_
   refine .seq ?_
   refine .region ?_
   obtain ⟨x16, i17, h18⟩ := bd_inv h15
   have j19 := idx_inv i17
   refine W.pure (v := (selem v0 (Int.toNat x5 * 1))) rfl rfl (v_idx el70 sz23 (oo rfl ((fr8 5 rfl).trans rfl)) (oo rfl t13) (sl_len (RT.mono _ s11 hp0)) j19.1 j19.2.1) ?_
   refine W.load1 (v := (.int .i64 x16)) (r := []) rfl rfl ag23 (pt_px rfl (At.int (At.le (At.le (sl_idx hp0 j19.2.2) s11 s11) (GM.le.refl _) O10.fro))) ?_
   refine W.pure (v := (.int .i64 x16)) rfl rfl (v_assign (oo rfl rfl)) ?_
   refine .nil ?_
   refine .seq ?_
   refine .region ?_
   refine W.pure (v := (.int .i64 x16)) rfl rfl (v_move (oo rfl rfl)) ?_
   refine W.pure (v := (.bool (x16 != 0))) rfl rfl (v_int (oo rfl rfl) (oo rfl rfl) rfl) ?_
   refine .nil ?_
   refine .cond (b := (x16 != 0)) rfl rfl (fun g20 => ?_) (fun g20 => ?_)
   ·have h21 := pos_inv g20 h18
    refine .seq ?_
    refine .region ?_
    refine W.pure (v := (.int .i64 x16)) rfl rfl (v_move (oo rfl rfl)) ?_
    refine W.pure (v := (.int .i64 x16)) rfl rfl (v_assign (oo rfl rfl)) ?_
    refine .nil ?_
    refine .ret ?_
    obtain rfl := Option.some.inj h21
    have h22 := tu1_inv (outS_l h3)
    obtain rfl := Option.some.inj h22
    refine ret1R (P := Tryd.prog) (fn := Tryd.f18) (n := 15) (R := fun v H' => ∃ G', Ow G' H' (L) ∧ G.le G' ∧ v = .int .i64 x16) (v1 := (.int .i64 x16)) (by rfl) (rr_tmp (by rfl) (by exact rfl)) ?_
    exact ⟨_, O10, s11, rfl⟩
   ·have h23 := neg_b g20 h18
    refine .skip ?_
    refine .region ?_
    refine W.pure (v := (.int .i64 (kwrap .i64 (x5 + 1)))) rfl rfl (v_int (oo rfl t13) (oo rfl rfl) rfl) ?_
    refine W.pure (v := (.int .i64 (kwrap .i64 (x5 + 1)))) rfl rfl (v_move (oo rfl rfl)) ?_
    refine .nil ?_
    exact ⟨k4, Nat.lt_succ_self _, ⟨kwrap .i64 (x5 + 1), _, h23, O10, s11, rfl⟩⟩
  ·have h24 := neg_b g14 h12
   refine .exit ?_
   obtain rfl := Option.some.inj h24
   exact ⟨_, rfl, O10, s11⟩
 ·rintro σ25 H26 fr27 ⟨G28, rfl, O29, s30⟩
  have h32 := tu0_inv (outS_r h3)
  refine .seq ?_
  refine .region ?_
  refine W.pure (v := (.int .i64 0)) rfl rfl (v_assign (oo rfl rfl)) ?_
  refine .nil ?_
  refine .ret ?_
  obtain rfl := Option.some.inj h32
  refine ret1R (P := Tryd.prog) (fn := Tryd.f18) (n := 15) (R := fun v H' => ∃ G', Ow G' H' (L) ∧ G.le G' ∧ v = .int .i64 0) (v1 := (.int .i64 0)) (by rfl) (rr_tmp (by rfl) (by exact rfl)) ?_
  exact ⟨_, O29, s30, rfl⟩
def g_R_digit (K : Nat) (p0 : ByteArray) (p1 : Int) : Option Int := (if (decide (p1 < (p0.size : Int))) = true then ((bidx p0 (kwrap .i64 ((kwrap .i64 ((p0.size : Int) - 1)) - p1))).bind fun x3 => some (IntKind.wrap .i64 (kwrap .u8 (x3 - 48)))) else some 0)
set_option maxHeartbeats 4000000 in
theorem g_R_digit_ok (K : Nat) {G : GM} {H : AH} {L : List Pc} (p0 : ByteArray) (p1 : Int) (O : Ow G H (L)) (r : Int) (h : g_R_digit K p0 p1 = some r) :
  CR Tryd.prog 61 [(.string p0), (.int .i64 p1)] G H (L) (fun v G' _ => v = .int .i64 r) := by
 unfold g_R_digit at h
 refine CR.of (calls_of_AW (n := 18) (fn := Tryd.f61) (R := fun v H' => ∃ G', Ow G' H' (L) ∧ G.le G' ∧ v = .int .i64 r) (by kernel_rfl) rfl rfl ?_)
 refine .seq ?_
 refine .region ?_
 refine W.pure (v := (.int .i64 0)) rfl rfl (v_assign (oo rfl rfl)) ?_
 refine .nil ?_
 refine .seq ?_
 refine .seq ?_
 refine .region ?_
 refine W.pure (v := (.int .i64 p1)) rfl rfl (v_move (oo rfl rfl)) ?_
 refine W.pure (v := (.string p0)) rfl rfl (v_move (oo rfl rfl)) ?_
 refine W.pure (v := (.int .i64 (p0.size : Int))) rfl rfl (len_str (oo rfl rfl) un9) ?_
 refine W.pure (v := (.bool (decide (p1 < (p0.size : Int))))) rfl rfl (v_int (oo rfl rfl) (oo rfl rfl) rfl) ?_
 refine .nil ?_
 refine .cond (b := decide (p1 < (p0.size : Int))) rfl rfl (fun g1 => ?_) (fun g1 => ?_)
 ·have h2 := pos_inv g1 h
  refine .seq ?_
  refine .region ?_
  refine W.pure (v := (.string p0)) rfl rfl (v_move (oo rfl rfl)) ?_
  refine W.pure (v := (.string p0)) rfl rfl (v_move (oo rfl rfl)) ?_
  refine W.pure (v := (.int .i64 (p0.size : Int))) rfl rfl (len_str (oo rfl rfl) un9) ?_
  refine W.pure (v := (.int .i64 (kwrap .i64 ((p0.size : Int) - 1)))) rfl rfl (v_int (oo rfl rfl) (oo rfl rfl) rfl) ?_
  refine W.pure (v := (.int .i64 p1)) rfl rfl (v_move (oo rfl rfl)) ?_
  refine W.pure (v := (.int .i64 (kwrap .i64 ((kwrap .i64 ((p0.size : Int) - 1)) - p1)))) rfl rfl (v_int (oo rfl rfl) (oo rfl rfl) rfl) ?_
  obtain ⟨x3, i4, h5⟩ := bd_inv h2
  refine W.pure (v := (.int .u8 x3)) rfl rfl (v_sidx un9 (oo rfl rfl) (oo rfl rfl) i4) ?_
  refine W.pure (v := (.int .u8 (kwrap .u8 (x3 - 48)))) rfl rfl (v_int (oo rfl rfl) (oo rfl rfl) rfl) ?_
  refine W.pure (v := (.int .i64 (IntKind.wrap .i64 (kwrap .u8 (x3 - 48))))) rfl rfl (v_conv in5 in3 (oo rfl rfl)) ?_
  refine W.pure (v := (.int .i64 (IntKind.wrap .i64 (kwrap .u8 (x3 - 48))))) rfl rfl (v_assign (oo rfl rfl)) ?_
  refine .nil ?_
  refine .ret ?_
  obtain rfl := Option.some.inj h5
  refine ret1R (P := Tryd.prog) (fn := Tryd.f61) (n := 18) (R := fun v H' => ∃ G', Ow G' H' (L) ∧ G.le G' ∧ v = .int .i64 (IntKind.wrap .i64 (kwrap .u8 (x3 - 48)))) (v1 := (.int .i64 (IntKind.wrap .i64 (kwrap .u8 (x3 - 48))))) (by rfl) (rr_tmp (by rfl) (by exact rfl)) ?_
  exact ⟨_, O, (GM.le.refl _), rfl⟩
 ·have h6 := neg_b g1 h
  refine .skip ?_
  refine .seq ?_
  refine .region ?_
  refine W.pure (v := (.int .i64 0)) rfl rfl (v_assign (oo rfl rfl)) ?_
  refine .nil ?_
  refine .ret ?_
  obtain rfl := Option.some.inj h6
  refine ret1R (P := Tryd.prog) (fn := Tryd.f61) (n := 18) (R := fun v H' => ∃ G', Ow G' H' (L) ∧ G.le G' ∧ v = .int .i64 0) (v1 := (.int .i64 0)) (by rfl) (rr_tmp (by rfl) (by exact rfl)) ?_
  exact ⟨_, O, (GM.le.refl _), rfl⟩
def g_R_strip_l0 (K : Nat) : Nat → ByteArray → Option (ByteArray)
 | 0, _ => none
 | k + 1, x5 => (Option.bind ((if (decide ((x5.size : Int) > 1)) = true then ((bidx x5 0).bind fun x20 => some (x20 == 48)) else some false)) (tu1 fun x24 => (if x24 = true then ((ssl x5 1 (x5.size : Int)).bind fun x36 => g_R_strip_l0 K k x36) else some x5)))
def g_R_strip (K : Nat) (p0 : ByteArray) : Option ByteArray := (Option.bind (g_R_strip_l0 K K p0) (tu1 fun x40 => some x40))
set_option maxHeartbeats 4000000 in
theorem g_R_strip_ok (K : Nat) {G : GM} {H : AH} {L : List Pc} (p0 : ByteArray) (O : Ow G H (L)) (r : ByteArray) (h : g_R_strip K p0 = some r) :
  CR Tryd.prog 69 [(.string p0)] G H (L) (fun v G' _ => v = .string r) := by
 unfold g_R_strip at h
 refine CR.of (calls_of_AW (n := 14) (fn := Tryd.f69) (R := fun v H' => ∃ G', Ow G' H' (L) ∧ G.le G' ∧ v = .string r) (by kernel_rfl) rfl rfl ?_)
 refine .seq ?_
 refine .region ?_
 refine W.pure (v := (.string (⟨#[]⟩ : ByteArray))) rfl rfl (v_assign (oo rfl rfl)) ?_
 refine .nil ?_
 refine .seq ?_
 obtain ⟨q1, h2, h3⟩ := bd_inv h
 refine AW.midT (fun σ' H' => ∃ (y1 : ByteArray) (G' : GM), y1 = q1 ∧ Ow G' H' (L) ∧ GM.le G G' ∧ σ' 0 = .string y1) ?_ ?_
 ·refine .block ?_
  refine AW.loop (α := Nat) (fun k' σ' H' => ∃ (y1 : ByteArray) (G' : GM), g_R_strip_l0 K k' y1 = some q1 ∧ Ow G' H' (L) ∧ GM.le G G' ∧ σ' 0 = .string y1) (fun k' => k') K ⟨p0, _, h2, O, (GM.le.refl _), rfl⟩ ?_
  rintro k4
  rintro σ6 H7 fr8 ⟨x5, G9, h12, O10, s11, t13⟩
  rcases k4 with _ | k4
  ·exact none_absurd h12
  rw [g_R_strip_l0] at h12
  refine .seq ?_
  refine .seq ?_
  obtain ⟨q14, h15, h16⟩ := bd_inv h12
  refine AW.midT (fun σ' H' => ∃ (y1 : Bool) (G' : GM), y1 = q14 ∧ Ow G' H' (L) ∧ GM.le G9 G' ∧ σ' 10 = .bool y1) ?_ ?_
  ·refine .region ?_
   refine W.pure (v := (.string x5)) rfl rfl (v_move (oo rfl t13)) ?_
   refine W.pure (v := (.int .i64 (x5.size : Int))) rfl rfl (len_str (oo rfl rfl) un9) ?_
   refine W.pure (v := (.bool (decide ((x5.size : Int) > 1)))) rfl rfl (v_int (oo rfl rfl) (oo rfl rfl) rfl) ?_
   refine W.pure (v := (.bool (decide ((x5.size : Int) > 1)))) rfl rfl (v_move (oo rfl rfl)) ?_
   refine W.splitAt (t := 6) (b := decide ((x5.size : Int) > 1)) rfl (fun g17 gv18 => ?_) (fun g17 gv18 => ?_)
   ·have h19 := pos_inv g17 h15
    refine W.pure (v := (.string x5)) (gk rfl rfl gv18 rfl) rfl (v_move (oo rfl t13)) ?_
    obtain ⟨x20, i21, h22⟩ := bd_inv h19
    refine W.pure (v := (.int .u8 x20)) (gk rfl rfl gv18 rfl) rfl (v_sidx un9 (oo rfl rfl) (oo rfl rfl) i21) ?_
    refine W.pure (v := (.bool (x20 == 48))) (gk rfl rfl gv18 rfl) rfl (v_int (oo rfl rfl) (oo rfl rfl) rfl) ?_
    refine W.pure (v := (.bool (x20 == 48))) rfl rfl (v_pickT (oo rfl gv18) (oo rfl rfl)) ?_
    refine .nil ?_
    obtain rfl := Option.some.inj h22
    exact ⟨(x20 == 48), _, rfl, O10, (GM.le.refl _), rfl⟩
   ·have h23 := neg_b g17 h15
    refine W.skip (gk rfl rfl gv18 rfl) rfl ?_
    refine W.skip (gk rfl rfl gv18 rfl) rfl ?_
    refine W.skip (gk rfl rfl gv18 rfl) rfl ?_
    refine W.pure (v := (.bool false)) rfl rfl (v_pickF (oo rfl gv18) (oo rfl rfl)) ?_
    refine .nil ?_
    obtain rfl := Option.some.inj h23
    exact ⟨false, _, rfl, O10, (GM.le.refl _), rfl⟩
  ·rintro σ25 H26 fr27 ⟨x24, G28, rfl, O29, s30, t32⟩
   have h33 := tu1_inv h16
   refine .cond (b := x24) rfl t32 (fun g34 => ?_) (fun g34 => ?_)
   ·have h35 := pos_inv g34 h33
    refine .skip ?_
    refine .block ?_
    refine .region ?_
    refine W.pure (v := (.string x5)) rfl rfl (v_move (oo rfl ((fr27 0 rfl).trans t13))) ?_
    obtain ⟨x36, i37, h38⟩ := bd_inv h35
    refine W.pure (v := (.string x36)) rfl rfl (v_sslL un9 (oo rfl rfl) (oo rfl rfl) i37) ?_
    refine W.pure (v := (.string x36)) rfl rfl (v_assign (oo rfl rfl)) ?_
    refine .nil ?_
    exact ⟨k4, Nat.lt_succ_self _, ⟨x36, _, h38, O29, (GM.le.trans s11 s30), rfl⟩⟩
   ·have h39 := neg_b g34 h33
    refine .exit ?_
    obtain rfl := Option.some.inj h39
    exact ⟨x5, _, rfl, O29, (GM.le.trans s11 s30), ((fr27 0 rfl).trans t13)⟩
 ·rintro σ41 H42 fr43 ⟨x40, G44, rfl, O45, s46, t48⟩
  have h49 := tu1_inv h3
  refine .seq ?_
  refine .region ?_
  refine W.pure (v := (.string x40)) rfl rfl (v_move (oo rfl t48)) ?_
  refine W.pure (v := (.string x40)) rfl rfl (v_assign (oo rfl rfl)) ?_
  refine .nil ?_
  refine .ret ?_
  obtain rfl := Option.some.inj h49
  refine ret1R (P := Tryd.prog) (fn := Tryd.f69) (n := 14) (R := fun v H' => ∃ G', Ow G' H' (L) ∧ G.le G' ∧ v = .string x40) (v1 := (.string x40)) (by rfl) (rr_tmp (by rfl) (by exact rfl)) ?_
  exact ⟨_, O45, s46, rfl⟩
def g_R_text_l0 (K : Nat) (p0 : List Int) : Nat → List Int → Int → Option (List Int)
 | 0, _, _ => none
 | k + 1, x11, x12 => (if (decide (x12 < (List.length p0 : Int))) = true then ((idx p0 x12).bind fun x23 => ((idx x11 (kwrap .i64 ((kwrap .i64 ((List.length p0 : Int) - 1)) - x12))).bind fun x27 => g_R_text_l0 K p0 k (List.set x11 (Int.toNat (kwrap .i64 ((kwrap .i64 ((List.length p0 : Int) - 1)) - x12))) (IntKind.wrap .u8 (kwrap .i64 ((48 : Int) + x23)))) (kwrap .i64 (x12 + 1)))) else some x11)
def g_R_text (K : Nat) (p0 : List Int) : Option ByteArray := (if 0 ≤ (List.length p0 : Int) ∧ (List.length p0 : Int) ≤ (List.length p0 : Int) ∧ (List.length p0 : Int) ≤ 16777216 then (Option.bind (g_R_text_l0 K p0 K (List.replicate (Int.toNat (List.length p0 : Int)) 0) 0) (tu1 fun x36 => (if 0 < List.length x36 then (if ((⟨#[48]⟩ : ByteArray)).size + ((strOfNums x36)).size ≤ 4611686018427387904 then ((g_R_strip K ((⟨#[48]⟩ : ByteArray) ++ (strOfNums x36))).bind fun x52 => some x52) else none) else none))) else none)
set_option maxHeartbeats 4000000 in
theorem g_R_text_ok (K : Nat) {G : GM} {H : AH} {L : List Pc} (v0 : Value) (p0 : List Int) (hp0 : (rSl (rI .i64)).rep G [v0] p0) (O : Ow G H (L)) (r : ByteArray) (h : g_R_text K p0 = some r) :
  CR Tryd.prog 62 [v0] G H (L) (fun v G' _ => v = .string r) := by
 unfold g_R_text at h
 refine CR.of (calls_of_AW (n := 31) (fn := Tryd.f62) (R := fun v H' => ∃ G', Ow G' H' (L) ∧ G.le G' ∧ v = .string r) (by kernel_rfl) rfl rfl ?_)
 refine .seq ?_
 refine .region ?_
 refine W.pure (v := (.string (⟨#[]⟩ : ByteArray))) rfl rfl (v_assign (oo rfl rfl)) ?_
 refine .nil ?_
 refine .seq ?_
 refine .region ?_
 refine W.pure (v := v0) rfl rfl (v_move (oo rfl rfl)) ?_
 refine W.pure (v := (.int .i64 (List.length p0 : Int))) rfl rfl (len_sl (oo rfl rfl) (sl_len hp0) (elemT_inv el71)) ?_
 obtain ⟨g2, h3⟩ := gd_inv h
 refine W.lo rfl rfl (Lo.makeSlice (r := (rI .u8)) (x0 := 0) (a := (List.length p0 : Int)) (c := (List.length p0 : Int)) rfl el62 ze5 sz5 (by kernel_rfl) rfl by5 (by decide) rfl rfl g2 (zI .u8) O) ?_
 rintro v5 H6 ⟨O1, sm4⟩
 refine W.pure (v := v5) rfl rfl (v_assign (oo rfl rfl)) ?_
 refine .nil ?_
 refine .seq ?_
 refine .seq ?_
 refine .region ?_
 refine W.pure (v := v0) rfl rfl (v_move (oo rfl rfl)) ?_
 refine W.pure (v := (.int .i64 (List.length p0 : Int))) rfl rfl (len_sl (oo rfl rfl) (sl_len hp0) (elemT_inv el71)) ?_
 refine W.pure (v := (.int .i64 0)) rfl rfl (v_move (oo rfl rfl)) ?_
 refine .nil ?_
 obtain ⟨q7, h8, h9⟩ := bd_inv h3
 refine AW.midT (fun σ' H' => ∃ (y1 : List Int) (G' : GM), y1 = q7 ∧ Ow G' H' (eSl v5 5 (rI .u8) y1 :: L) ∧ GM.le G G') ?_ ?_
 ·refine .block ?_
  refine AW.loop (α := Nat) (fun k' σ' H' => ∃ (y1 : List Int) (y2 : Int) (G' : GM), g_R_text_l0 K p0 k' y1 y2 = some q7 ∧ Ow G' H' (eSl v5 5 (rI .u8) y1 :: L) ∧ GM.le G G' ∧ σ' 11 = .int .i64 y2) (fun k' => k') K ⟨(List.replicate (Int.toNat (List.length p0 : Int)) 0), 0, _, h8, O1, (GM.le.refl _), rfl⟩ ?_
  rintro k10
  rintro σ13 H14 fr15 ⟨x11, x12, G16, h19, O17, s18, t20⟩
  rcases k10 with _ | k10
  ·exact none_absurd h19
  rw [g_R_text_l0] at h19
  refine .seq ?_
  refine .region ?_
  refine W.pure (v := (.bool (decide (x12 < (List.length p0 : Int))))) rfl rfl (v_int (oo rfl t20) (oo rfl ((fr15 10 rfl).trans rfl)) rfl) ?_
  refine .nil ?_
  refine .seq ?_
  refine .cond (b := decide (x12 < (List.length p0 : Int))) rfl rfl (fun g21 => ?_) (fun g21 => ?_)
  ·have h22 := pos_inv g21 h19
   refine .skip ?_
   refine .seq ?_
   refine .block ?_
   refine .seq ?_
   refine .region ?_
   refine W.pure (v := (.int .i64 x12)) rfl rfl (v_move (oo rfl t20)) ?_
   obtain ⟨x23, i24, h25⟩ := bd_inv h22
   have j26 := idx_inv i24
   refine W.pure (v := (selem v0 (Int.toNat x12 * 1))) rfl rfl (v_idx el71 sz3 (oo rfl ((fr15 9 rfl).trans rfl)) (oo rfl t20) (sl_len (RT.mono _ s18 hp0)) j26.1 j26.2.1) ?_
   refine W.load1 (v := (.int .i64 x23)) (r := []) rfl rfl ag3 (pt_px rfl (At.int (At.le (At.le (sl_idx hp0 j26.2.2) s18 s18) (GM.le.refl _) O17.fro))) ?_
   refine W.pure (v := (.int .i64 x12)) rfl rfl (v_assign (oo rfl rfl)) ?_
   refine W.pure (v := (.int .i64 x23)) rfl rfl (v_assign (oo rfl rfl)) ?_
   refine .nil ?_
   refine .region ?_
   refine W.pure (v := v5) rfl rfl (v_move (oo rfl ((fr15 3 rfl).trans rfl))) ?_
   refine W.pure (v := v0) rfl rfl (v_move (oo rfl ((fr15 0 rfl).trans rfl))) ?_
   refine W.pure (v := (.int .i64 (List.length p0 : Int))) rfl rfl (len_sl (oo rfl rfl) (sl_len (RT.mono _ s18 hp0)) (elemT_inv el71)) ?_
   refine W.pure (v := (.int .i64 (kwrap .i64 ((List.length p0 : Int) - 1)))) rfl rfl (v_int (oo rfl rfl) (oo rfl rfl) rfl) ?_
   refine W.pure (v := (.int .i64 x12)) rfl rfl (v_move (oo rfl rfl)) ?_
   refine W.pure (v := (.int .i64 (kwrap .i64 ((kwrap .i64 ((List.length p0 : Int) - 1)) - x12)))) rfl rfl (v_int (oo rfl rfl) (oo rfl rfl) rfl) ?_
   refine W.pure (v := (.int .i64 x23)) rfl rfl (v_move (oo rfl rfl)) ?_
   refine W.pure (v := (.int .i64 (kwrap .i64 ((48 : Int) + x23)))) rfl rfl (v_int (oo rfl rfl) (oo rfl rfl) rfl) ?_
   refine W.pure (v := (.int .u8 (IntKind.wrap .u8 (kwrap .i64 ((48 : Int) + x23))))) rfl rfl (v_conv in3 in5 (oo rfl rfl)) ?_
   obtain ⟨x27, i28, h29⟩ := bd_inv h25
   have j30 := idx_inv i28
   refine W.pure (v := (selem v5 (Int.toNat (kwrap .i64 ((kwrap .i64 ((List.length p0 : Int) - 1)) - x12)) * 1))) rfl rfl (v_idx el62 sz5 (oo rfl rfl) (oo rfl rfl) (O17.slLen (j := 0) rfl) j30.1 j30.2.1) ?_
   refine W.lo rfl rfl (Lo.storeSl0 (j := 0) (y0 := IntKind.wrap .u8 (kwrap .i64 ((48 : Int) + x23))) (v := (.int .u8 (IntKind.wrap .u8 (kwrap .i64 ((48 : Int) + x23))))) rfl j30.2.2  rfl sz5 rfl rfl rfl O17) ?_
   rintro v33 H34 ⟨O31, sm32⟩
   replace O31 : Ow G16 H34 (eSl v5 5 (rI .u8) (List.set x11 (Int.toNat (kwrap .i64 ((kwrap .i64 ((List.length p0 : Int) - 1)) - x12))) (IntKind.wrap .u8 (kwrap .i64 ((48 : Int) + x23)))) :: L) := O31
   refine .nil ?_
   refine .region ?_
   refine W.pure (v := (.int .i64 (kwrap .i64 (x12 + 1)))) rfl rfl (v_int (oo rfl t20) (oo rfl rfl) rfl) ?_
   refine W.pure (v := (.int .i64 (kwrap .i64 (x12 + 1)))) rfl rfl (v_move (oo rfl rfl)) ?_
   refine .nil ?_
   exact ⟨k10, Nat.lt_succ_self _, ⟨(List.set x11 (Int.toNat (kwrap .i64 ((kwrap .i64 ((List.length p0 : Int) - 1)) - x12))) (IntKind.wrap .u8 (kwrap .i64 ((48 : Int) + x23)))), kwrap .i64 (x12 + 1), _, h29, O31, s18, rfl⟩⟩
  ·have h35 := neg_b g21 h19
   refine .exit ?_
   obtain rfl := Option.some.inj h35
   exact ⟨x11, _, rfl, O17, s18⟩
 ·rintro σ37 H38 fr39 ⟨x36, G40, rfl, O41, s42⟩
  have h44 := tu1_inv h9
  refine .seq ?_
  refine .region ?_
  refine W.pure (v := v5) rfl rfl (v_move (oo rfl ((fr39 3 rfl).trans rfl))) ?_
  obtain ⟨es45, e46, e47⟩ := src_own (j := 0) rfl O41
  obtain ⟨g48, h49⟩ := gd_inv h44
  refine W.bytesStr rfl rfl el62 in5 un9 e46 e47 g48 ?_
  obtain ⟨g50, h51⟩ := gd_inv h49
  refine W.pure (v := (.string ((⟨#[48]⟩ : ByteArray) ++ (strOfNums x36)))) rfl rfl (vs_add g50 (oo rfl rfl) (oo rfl rfl)) ?_
  obtain ⟨x52, i53, h54⟩ := bd_inv h51
  refine W.lo rfl rfl (Lo.callP (ps := []) (ps' := []) rfl (fn := Tryd.f69) (by kernel_rfl) rfl (mc rfl mn) O41 (fun L' O' => g_R_strip_ok K ((⟨#[48]⟩ : ByteArray) ++ (strOfNums x36)) O' _ i53)) ?_
  rintro v61 H62 ⟨G55, O56, s57, sm60, rfl⟩
  replace O56 : Ow G55 H62 (eSl v5 5 (rI .u8) x36 :: L) := O56
  refine W.pure (v := (.string x52)) rfl rfl (v_assign (oo rfl rfl)) ?_
  refine .nil ?_
  refine .ret ?_
  have O63 : Ow G55 H62 (L) := O56.drop 0
  obtain rfl := Option.some.inj h54
  refine ret1R (P := Tryd.prog) (fn := Tryd.f62) (n := 31) (R := fun v H' => ∃ G', Ow G' H' (L) ∧ G.le G' ∧ v = .string x52) (v1 := (.string x52)) (by rfl) (rr_tmp (by rfl) (by exact rfl)) ?_
  exact ⟨_, O63, (GM.le.trans s42 s57), rfl⟩
def g_R_NatCmp (K : Nat) (p0 : ByteArray) (p1 : ByteArray) : Option Int := (if (decide ((p0.size : Int) < (p1.size : Int))) = true then some (-1) else (if (decide ((p0.size : Int) > (p1.size : Int))) = true then some 1 else (if (sLt p0 p1) = true then some (-1) else (if (!(sLt p0 p1 || sEq p0 p1)) = true then some 1 else some 0))))
set_option maxHeartbeats 4000000 in
theorem g_R_NatCmp_ok (K : Nat) {G : GM} {H : AH} {L : List Pc} (p0 : ByteArray) (p1 : ByteArray) (O : Ow G H (L)) (r : Int) (h : g_R_NatCmp K p0 p1 = some r) :
  CR Tryd.prog 21 [(.string p0), (.string p1)] G H (L) (fun v G' _ => v = .int .i64 r) := by
 unfold g_R_NatCmp at h
 refine CR.of (calls_of_AW (n := 25) (fn := Tryd.f21) (R := fun v H' => ∃ G', Ow G' H' (L) ∧ G.le G' ∧ v = .int .i64 r) (by kernel_rfl) rfl rfl ?_)
 refine .seq ?_
 refine .region ?_
 refine W.pure (v := (.int .i64 0)) rfl rfl (v_assign (oo rfl rfl)) ?_
 refine .nil ?_
 refine .seq ?_
 refine .block ?_
 refine .seq ?_
 refine .region ?_
 refine W.pure (v := (.string p0)) rfl rfl (v_move (oo rfl rfl)) ?_
 refine W.pure (v := (.int .i64 (p0.size : Int))) rfl rfl (len_str (oo rfl rfl) un9) ?_
 refine W.pure (v := (.string p1)) rfl rfl (v_move (oo rfl rfl)) ?_
 refine W.pure (v := (.int .i64 (p1.size : Int))) rfl rfl (len_str (oo rfl rfl) un9) ?_
 refine W.pure (v := (.bool (decide ((p0.size : Int) < (p1.size : Int))))) rfl rfl (v_int (oo rfl rfl) (oo rfl rfl) rfl) ?_
 refine W.pure (v := (.bool (decide ((p0.size : Int) < (p1.size : Int))))) rfl rfl (v_assign (oo rfl rfl)) ?_
 refine .nil ?_
 refine .cond (b := decide ((p0.size : Int) < (p1.size : Int))) rfl rfl (fun g1 => ?_) (fun g1 => ?_)
 ·have h2 := pos_inv g1 h
  refine .seq ?_
  refine .region ?_
  refine W.pure (v := (.int .i64 (-1))) rfl rfl (v_assign (oo rfl rfl)) ?_
  refine .nil ?_
  refine .ret ?_
  obtain rfl := Option.some.inj h2
  refine ret1R (P := Tryd.prog) (fn := Tryd.f21) (n := 25) (R := fun v H' => ∃ G', Ow G' H' (L) ∧ G.le G' ∧ v = .int .i64 (-1)) (v1 := (.int .i64 (-1))) (by rfl) (rr_tmp (by rfl) (by exact rfl)) ?_
  exact ⟨_, O, (GM.le.refl _), rfl⟩
 ·have h3 := neg_b g1 h
  refine .seq ?_
  refine .region ?_
  refine W.pure (v := (.string p0)) rfl rfl (v_move (oo rfl rfl)) ?_
  refine W.pure (v := (.int .i64 (p0.size : Int))) rfl rfl (len_str (oo rfl rfl) un9) ?_
  refine W.pure (v := (.string p1)) rfl rfl (v_move (oo rfl rfl)) ?_
  refine W.pure (v := (.int .i64 (p1.size : Int))) rfl rfl (len_str (oo rfl rfl) un9) ?_
  refine W.pure (v := (.bool (decide ((p0.size : Int) > (p1.size : Int))))) rfl rfl (v_int (oo rfl rfl) (oo rfl rfl) rfl) ?_
  refine W.pure (v := (.bool (decide ((p0.size : Int) > (p1.size : Int))))) rfl rfl (v_assign (oo rfl rfl)) ?_
  refine .nil ?_
  refine .cond (b := decide ((p0.size : Int) > (p1.size : Int))) rfl rfl (fun g4 => ?_) (fun g4 => ?_)
  ·have h5 := pos_inv g4 h3
   refine .seq ?_
   refine .region ?_
   refine W.pure (v := (.int .i64 1)) rfl rfl (v_assign (oo rfl rfl)) ?_
   refine .nil ?_
   refine .ret ?_
   obtain rfl := Option.some.inj h5
   refine ret1R (P := Tryd.prog) (fn := Tryd.f21) (n := 25) (R := fun v H' => ∃ G', Ow G' H' (L) ∧ G.le G' ∧ v = .int .i64 1) (v1 := (.int .i64 1)) (by rfl) (rr_tmp (by rfl) (by exact rfl)) ?_
   exact ⟨_, O, (GM.le.refl _), rfl⟩
  ·have h6 := neg_b g4 h3
   refine .seq ?_
   refine .region ?_
   refine W.pure (v := (.string p0)) rfl rfl (v_move (oo rfl rfl)) ?_
   refine W.pure (v := (.string p1)) rfl rfl (v_move (oo rfl rfl)) ?_
   refine W.pure (v := (.bool (sLt p0 p1))) rfl rfl (vs_lss (oo rfl rfl) (oo rfl rfl)) ?_
   refine W.pure (v := (.bool (sLt p0 p1))) rfl rfl (v_assign (oo rfl rfl)) ?_
   refine .nil ?_
   refine .cond (b := sLt p0 p1) rfl rfl (fun g7 => ?_) (fun g7 => ?_)
   ·have h8 := pos_inv g7 h6
    refine .seq ?_
    refine .region ?_
    refine W.pure (v := (.int .i64 (-1))) rfl rfl (v_assign (oo rfl rfl)) ?_
    refine .nil ?_
    refine .ret ?_
    obtain rfl := Option.some.inj h8
    refine ret1R (P := Tryd.prog) (fn := Tryd.f21) (n := 25) (R := fun v H' => ∃ G', Ow G' H' (L) ∧ G.le G' ∧ v = .int .i64 (-1)) (v1 := (.int .i64 (-1))) (by rfl) (rr_tmp (by rfl) (by exact rfl)) ?_
    exact ⟨_, O, (GM.le.refl _), rfl⟩
   ·have h9 := neg_b g7 h6
    refine .seq ?_
    refine .region ?_
    refine W.pure (v := (.string p0)) rfl rfl (v_move (oo rfl rfl)) ?_
    refine W.pure (v := (.string p1)) rfl rfl (v_move (oo rfl rfl)) ?_
    refine W.pure (v := (.bool (!(sLt p0 p1 || sEq p0 p1)))) rfl rfl (vs_gtr (oo rfl rfl) (oo rfl rfl)) ?_
    refine W.pure (v := (.bool (!(sLt p0 p1 || sEq p0 p1)))) rfl rfl (v_assign (oo rfl rfl)) ?_
    refine .nil ?_
    refine .cond (b := (!(sLt p0 p1 || sEq p0 p1))) rfl rfl (fun g10 => ?_) (fun g10 => ?_)
    ·have h11 := pos_inv g10 h9
     refine .seq ?_
     refine .region ?_
     refine W.pure (v := (.int .i64 1)) rfl rfl (v_assign (oo rfl rfl)) ?_
     refine .nil ?_
     refine .ret ?_
     obtain rfl := Option.some.inj h11
     refine ret1R (P := Tryd.prog) (fn := Tryd.f21) (n := 25) (R := fun v H' => ∃ G', Ow G' H' (L) ∧ G.le G' ∧ v = .int .i64 1) (v1 := (.int .i64 1)) (by rfl) (rr_tmp (by rfl) (by exact rfl)) ?_
     exact ⟨_, O, (GM.le.refl _), rfl⟩
    ·have h12 := neg_b g10 h9
     refine .skip ?_
     refine .seq ?_
     refine .region ?_
     refine W.pure (v := (.int .i64 0)) rfl rfl (v_assign (oo rfl rfl)) ?_
     refine .nil ?_
     refine .ret ?_
     obtain rfl := Option.some.inj h12
     refine ret1R (P := Tryd.prog) (fn := Tryd.f21) (n := 25) (R := fun v H' => ∃ G', Ow G' H' (L) ∧ G.le G' ∧ v = .int .i64 0) (v1 := (.int .i64 0)) (by rfl) (rr_tmp (by rfl) (by exact rfl)) ?_
     exact ⟨_, O, (GM.le.refl _), rfl⟩
def g_R_NatSub_l0 (K : Nat) (p0 : ByteArray) (p1 : ByteArray) : Nat → List Int → Int → Int → Option (List Int)
 | 0, _, _, _ => none
 | k + 1, x6, x7, x8 => (if (decide (x8 < (p0.size : Int))) = true then ((g_R_digit K p0 x8).bind fun x20 => ((g_R_digit K p1 x8).bind fun x31 => (Option.bind ((if (decide ((kwrap .i64 ((kwrap .i64 (x20 - x31)) - x7)) < 0)) = true then (lt (kwrap .i64 ((kwrap .i64 ((kwrap .i64 (x20 - x31)) - x7)) + 10)) fun x47 => some (1, x47)) else some (0, kwrap .i64 ((kwrap .i64 (x20 - x31)) - x7)))) (tu2 fun x51 x52 => (if List.length x6 + List.length [x52] ≤ 16777216 then g_R_NatSub_l0 K p0 p1 k (x6 ++ [x52]) x51 (kwrap .i64 (x8 + 1)) else none))))) else some x6)
def g_R_NatSub (K : Nat) (p0 : ByteArray) (p1 : ByteArray) : Option ByteArray := (Option.bind (g_R_NatSub_l0 K p0 p1 K [] 0 0) (tu1 fun x78 => ((g_R_text K x78).bind fun x87 => some x87)))
set_option maxHeartbeats 4000000 in
theorem g_R_NatSub_ok (K : Nat) {G : GM} {H : AH} {L : List Pc} (p0 : ByteArray) (p1 : ByteArray) (O : Ow G H (L)) (r : ByteArray) (h : g_R_NatSub K p0 p1 = some r) :
  CR Tryd.prog 22 [(.string p0), (.string p1)] G H (L) (fun v G' _ => v = .string r) := by
 unfold g_R_NatSub at h
 refine CR.of (calls_of_AW (n := 34) (fn := Tryd.f22) (R := fun v H' => ∃ G', Ow G' H' (L) ∧ G.le G' ∧ v = .string r) (by kernel_rfl) rfl rfl ?_)
 refine .seq ?_
 refine .region ?_
 refine W.pure (v := (.string (⟨#[]⟩ : ByteArray))) rfl rfl (v_assign (oo rfl rfl)) ?_
 refine .nil ?_
 refine .seq ?_
 refine .region ?_
 refine W.pure (v := (.slice none 0 0)) rfl rfl (v_assign (oo rfl rfl)) ?_
 refine .nil ?_
 refine .seq ?_
 refine .region ?_
 refine W.pure (v := (.int .i64 0)) rfl rfl (v_assign (oo rfl rfl)) ?_
 refine .nil ?_
 refine .seq ?_
 refine .seq ?_
 refine .region ?_
 refine W.pure (v := (.string p0)) rfl rfl (v_move (oo rfl rfl)) ?_
 refine W.pure (v := (.int .i64 (p0.size : Int))) rfl rfl (len_str (oo rfl rfl) un9) ?_
 refine W.pure (v := (.int .i64 0)) rfl rfl (v_move (oo rfl rfl)) ?_
 refine .nil ?_
 obtain ⟨q1, h2, h3⟩ := bd_inv h
 refine AW.midT (fun σ' H' => ∃ (y1 : List Int) (G' : GM), y1 = q1 ∧ Ow G' H' (eSl (σ' 5) 3 (rI .i64) y1 :: L) ∧ GM.le G G') ?_ ?_
 ·refine .block ?_
  have O4 := O.nilSl 3 (rI .i64)
  refine AW.loop (α := Nat) (fun k' σ' H' => ∃ (y1 : List Int) (y2 : Int) (y3 : Int) (G' : GM), g_R_NatSub_l0 K p0 p1 k' y1 y2 y3 = some q1 ∧ Ow G' H' (eSl (σ' 5) 3 (rI .i64) y1 :: L) ∧ GM.le G G' ∧ σ' 6 = .int .i64 y2 ∧ σ' 11 = .int .i64 y3) (fun k' => k') K ⟨[], 0, 0, _, h2, O4, (GM.le.refl _), rfl, rfl⟩ ?_
  rintro k5
  rintro σ9 H10 fr11 ⟨x6, x7, x8, G12, h15, O13, s14, t16, t17⟩
  rcases k5 with _ | k5
  ·exact none_absurd h15
  rw [g_R_NatSub_l0] at h15
  refine .seq ?_
  refine .region ?_
  refine W.pure (v := (.bool (decide (x8 < (p0.size : Int))))) rfl rfl (v_int (oo rfl t17) (oo rfl ((fr11 10 rfl).trans rfl)) rfl) ?_
  refine .nil ?_
  refine .seq ?_
  refine .cond (b := decide (x8 < (p0.size : Int))) rfl rfl (fun g18 => ?_) (fun g18 => ?_)
  ·have h19 := pos_inv g18 h15
   refine .skip ?_
   refine .seq ?_
   refine .block ?_
   refine .seq ?_
   refine .region ?_
   refine W.pure (v := (.int .i64 x8)) rfl rfl (v_move (oo rfl t17)) ?_
   refine W.pure (v := (.int .i64 x8)) rfl rfl (v_assign (oo rfl rfl)) ?_
   refine .nil ?_
   refine .seq ?_
   refine .region ?_
   refine W.pure (v := (.string p0)) rfl rfl (v_move (oo rfl ((fr11 0 rfl).trans rfl))) ?_
   refine W.pure (v := (.int .i64 x8)) rfl rfl (v_move (oo rfl rfl)) ?_
   obtain ⟨x20, i21, h22⟩ := bd_inv h19
   refine W.lo rfl rfl (Lo.callP (ps := []) (ps' := []) rfl (fn := Tryd.f61) (by kernel_rfl) rfl (mc rfl (mc rfl mn)) O13 (fun L' O' => g_R_digit_ok K p0 x8 O' _ i21)) ?_
   rintro v29 H30 ⟨G23, O24, s25, sm28, rfl⟩
   replace O24 : Ow G23 H30 (eSl (σ9 5) 3 (rI .i64) x6 :: L) := O24
   refine W.pure (v := (.string p1)) rfl rfl (v_move (oo rfl ((fr11 1 rfl).trans rfl))) ?_
   refine W.pure (v := (.int .i64 x8)) rfl rfl (v_move (oo rfl rfl)) ?_
   obtain ⟨x31, i32, h33⟩ := bd_inv h22
   refine W.lo rfl rfl (Lo.callP (ps := []) (ps' := []) rfl (fn := Tryd.f61) (by kernel_rfl) rfl (mc rfl (mc rfl mn)) O24 (fun L' O' => g_R_digit_ok K p1 x8 O' _ i32)) ?_
   rintro v40 H41 ⟨G34, O35, s36, sm39, rfl⟩
   replace O35 : Ow G34 H41 (eSl (σ9 5) 3 (rI .i64) x6 :: L) := O35
   refine W.pure (v := (.int .i64 (kwrap .i64 (x20 - x31)))) rfl rfl (v_int (oo rfl rfl) (oo rfl rfl) rfl) ?_
   refine W.pure (v := (.int .i64 x7)) rfl rfl (v_move (oo rfl t16)) ?_
   refine W.pure (v := (.int .i64 (kwrap .i64 ((kwrap .i64 (x20 - x31)) - x7)))) rfl rfl (v_int (oo rfl rfl) (oo rfl rfl) rfl) ?_
   refine W.pure (v := (.int .i64 (kwrap .i64 ((kwrap .i64 (x20 - x31)) - x7)))) rfl rfl (v_assign (oo rfl rfl)) ?_
   refine .nil ?_
   refine .seq ?_
   refine .region ?_
   refine W.pure (v := (.int .i64 0)) rfl rfl (v_assign (oo rfl rfl)) ?_
   refine .nil ?_
   refine .seq ?_
   refine .seq ?_
   refine .region ?_
   refine W.pure (v := (.int .i64 (kwrap .i64 ((kwrap .i64 (x20 - x31)) - x7)))) rfl rfl (v_move (oo rfl rfl)) ?_
   refine W.pure (v := (.bool (decide ((kwrap .i64 ((kwrap .i64 (x20 - x31)) - x7)) < 0)))) rfl rfl (v_int (oo rfl rfl) (oo rfl rfl) rfl) ?_
   refine .nil ?_
   obtain ⟨q42, h43, h44⟩ := bd_inv h33
   refine AW.midT (fun σ' H' => ∃ (y1 : Int) (y2 : Int) (G' : GM), (y1, y2) = q42 ∧ Ow G' H' (eSl (σ9 5) 3 (rI .i64) x6 :: L) ∧ GM.le G34 G' ∧ σ' 6 = .int .i64 y1 ∧ σ' 8 = .int .i64 y2) ?_ ?_
   ·refine .cond (b := decide ((kwrap .i64 ((kwrap .i64 (x20 - x31)) - x7)) < 0)) rfl rfl (fun g45 => ?_) (fun g45 => ?_)
    ·have h46 := pos_inv g45 h43
     refine .region ?_
     refine W.pure (v := (.int .i64 (kwrap .i64 ((kwrap .i64 (x20 - x31)) - x7)))) rfl rfl (v_move (oo rfl rfl)) ?_
     refine W.pure (v := (.int .i64 (kwrap .i64 ((kwrap .i64 ((kwrap .i64 (x20 - x31)) - x7)) + 10)))) rfl rfl (v_int (oo rfl rfl) (oo rfl rfl) rfl) ?_
     obtain ⟨x47, e48, h49⟩ := lt_inv h46
     refine W.pure (v := (.int .i64 x47)) rfl rfl (v_assign (oo rfl (congrArg (Value.int .i64) e48))) ?_
     refine W.pure (v := (.int .i64 1)) rfl rfl (v_assign (oo rfl rfl)) ?_
     refine .nil ?_
     obtain rfl := Option.some.inj h49
     exact ⟨1, x47, _, rfl, O35, (GM.le.refl _), rfl, rfl⟩
    ·have h50 := neg_b g45 h43
     refine .skip ?_
     obtain rfl := Option.some.inj h50
     exact ⟨0, kwrap .i64 ((kwrap .i64 (x20 - x31)) - x7), _, rfl, O35, (GM.le.refl _), rfl, rfl⟩
   ·rintro σ53 H54 fr55 ⟨x51, x52, G56, rfl, O57, s58, t60, t61⟩
    have h62 := tu2_inv h44
    refine .region ?_
    refine W.pure (v := (σ9 5)) rfl rfl (v_move (oo rfl ((fr55 5 rfl).trans rfl))) ?_
    refine W.pure (v := (.int .i64 x52)) rfl rfl (v_move (oo rfl t61)) ?_
    refine W.lo rfl rfl (Lo.buildSlice (r := (rI .i64)) (vs := [(.int .i64 x52)]) (xs := [x52]) el71 ze3 sz3 (by kernel_rfl) rfl (qc rfl qn) rfl (.cons rfl .nil) O57) ?_
    rintro v65 H66 ⟨O63, sm64⟩
    obtain ⟨es68, e69, e70⟩ := src_own (j := 0) rfl O63
    obtain ⟨g71, h72⟩ := gd_inv h62
    refine W.lo rfl rfl (Lo.append (j := 1) (v := (σ9 5)) rfl rfl el71 ni71 ze3 sz3 by3 (by decide) (by decide) rfl e69 e70 g71 O63) ?_
    rintro v74 H75 ⟨O67, sm73⟩
    replace O67 : Ow G56 H75 (eSl v65 3 (rI .i64) [x52] :: eSl v74 3 (rI .i64) (x6 ++ [x52]) :: L) := O67
    refine W.pure (v := v74) rfl rfl (v_assign (oo rfl rfl)) ?_
    refine .nil ?_
    refine .region ?_
    refine W.pure (v := (.int .i64 (kwrap .i64 (x8 + 1)))) rfl rfl (v_int (oo rfl ((fr55 11 rfl).trans t17)) (oo rfl rfl) rfl) ?_
    refine W.pure (v := (.int .i64 (kwrap .i64 (x8 + 1)))) rfl rfl (v_move (oo rfl rfl)) ?_
    refine .nil ?_
    have O76 : Ow G56 H75 (eSl v74 3 (rI .i64) (x6 ++ [x52]) :: L) := O67.drop 0
    exact ⟨k5, Nat.lt_succ_self _, ⟨(x6 ++ [x52]), x51, kwrap .i64 (x8 + 1), _, h72, O76, (GM.le.trans s14 (GM.le.trans s25 (GM.le.trans s36 s58))), t60, rfl⟩⟩
  ·have h77 := neg_b g18 h15
   refine .exit ?_
   obtain rfl := Option.some.inj h77
   exact ⟨x6, _, rfl, O13, s14⟩
 ·rintro σ79 H80 fr81 ⟨x78, G82, rfl, O83, s84⟩
  have h86 := tu1_inv h3
  refine .seq ?_
  refine .region ?_
  refine W.pure (v := (σ79 5)) rfl rfl (v_move (oo rfl rfl)) ?_
  obtain ⟨x87, i88, h89⟩ := bd_inv h86
  refine W.lo rfl rfl (Lo.callB (j := 0) rfl rfl (fn := Tryd.f62) (by kernel_rfl) rfl (mc rfl mn) O83 (fun G' L' hG O' hB => g_R_text_ok K (σ79 5) x78 hB O' _ i88)) ?_
  rintro v96 H97 ⟨G90, O91, s92, sm95, rfl⟩
  replace O91 : Ow G90 H97 (eSl (σ79 5) 3 (rI .i64) x78 :: L) := O91
  refine W.pure (v := (.string x87)) rfl rfl (v_assign (oo rfl rfl)) ?_
  refine .nil ?_
  refine .ret ?_
  have O98 : Ow G90 H97 (L) := O91.drop 0
  obtain rfl := Option.some.inj h89
  refine ret1R (P := Tryd.prog) (fn := Tryd.f22) (n := 34) (R := fun v H' => ∃ G', Ow G' H' (L) ∧ G.le G' ∧ v = .string x87) (v1 := (.string x87)) (by rfl) (rr_tmp (by rfl) (by exact rfl)) ?_
  exact ⟨_, O98, (GM.le.trans s84 s92), rfl⟩
def g_law_long_1 (K : Nat) (p0 : ByteArray) (p1 : Int) : Option Bool := some (decide ((p0.size : Int) > p1))
set_option maxHeartbeats 4000000 in
theorem g_law_long_1_ok (K : Nat) {G : GM} {H : AH} {L : List Pc} (p0 : ByteArray) (v1 : Value) (p1 : Int) (hp1 : At G G v1 (rI .i64) p1) (O : Ow G H (L)) (r : Bool) (h : g_law_long_1 K p0 p1 = some r) :
  CR Tryd.prog 65 [(.string p0), v1] G H (L) (fun v G' _ => v = .bool r) := by
 unfold g_law_long_1 at h
 refine CR.of (calls_of_AW (n := 8) (fn := Tryd.f65) (R := fun v H' => ∃ G', Ow G' H' (L) ∧ G.le G' ∧ v = .bool r) (by kernel_rfl) rfl rfl ?_)
 refine .seq ?_
 refine .region ?_
 refine W.pure (v := (.bool false)) rfl rfl (v_assign (oo rfl rfl)) ?_
 refine .nil ?_
 refine .seq ?_
 refine .region ?_
 refine W.pure (v := (.string p0)) rfl rfl (v_move (oo rfl rfl)) ?_
 refine W.pure (v := (.int .i64 (p0.size : Int))) rfl rfl (len_str (oo rfl rfl) un9) ?_
 refine W.load1 (v := (.int .i64 p1)) (r := []) rfl rfl ag3 (pt_px rfl (At.int (At.le hp1 (GM.le.refl _) O.fro))) ?_
 refine W.pure (v := (.bool (decide ((p0.size : Int) > p1)))) rfl rfl (v_int (oo rfl rfl) (oo rfl rfl) rfl) ?_
 refine W.pure (v := (.bool (decide ((p0.size : Int) > p1)))) rfl rfl (v_assign (oo rfl rfl)) ?_
 refine .nil ?_
 refine .ret ?_
 obtain rfl := Option.some.inj h
 refine ret1R (P := Tryd.prog) (fn := Tryd.f65) (n := 8) (R := fun v H' => ∃ G', Ow G' H' (L) ∧ G.le G' ∧ v = .bool (decide ((p0.size : Int) > p1))) (v1 := (.bool (decide ((p0.size : Int) > p1)))) (by rfl) (rr_tmp (by rfl) (by exact rfl)) ?_
 exact ⟨_, O, (GM.le.refl _), rfl⟩
def g_slices_IndexFunc_string_string_l0 (K : Nat) (p0 : List ByteArray) (p1 : ByteArray → Option Bool) : Nat → Int → Option (Int ⊕ Unit)
 | 0, _ => none
 | k + 1, x5 => (if (decide (x5 < (List.length p0 : Int))) = true then ((idx p0 x5).bind fun x16 => ((p1 x16).bind fun x20 => (if x20 = true then some (.inl x5) else g_slices_IndexFunc_string_string_l0 K p0 p1 k (kwrap .i64 (x5 + 1))))) else some (.inr ()))
def g_slices_IndexFunc_string_string (K : Nat) (p0 : List ByteArray) (p1 : ByteArray → Option Bool) : Option Int := (bindS (g_slices_IndexFunc_string_string_l0 K p0 p1 K 0) (tu1 fun a42 => some a42) (tu0 (some (-1))))
set_option maxHeartbeats 4000000 in
theorem g_slices_IndexFunc_string_string_ok (K : Nat) {G : GM} {H : AH} {L : List Pc} (v0 : Value) (p0 : List ByteArray) (hp0 : (rSl rS).rep G [v0] p0) (v1 : Value) (p1 : ByteArray → Option Bool) (hp1 : FnOk Tryd.prog G v1 (fun _ vs (x : (ByteArray)) => vs = [.string x]) (fun _ v (rr : (Bool)) => v = .bool rr) p1) (O : Ow G H (L)) (r : Int) (h : g_slices_IndexFunc_string_string K p0 p1 = some r) :
  CR Tryd.prog 103 [v0, v1] G H (L) (fun v G' _ => v = .int .i64 r) := by
 unfold g_slices_IndexFunc_string_string at h
 refine CR.of (calls_of_AW (n := 19) (fn := Tryd.f103) (R := fun v H' => ∃ G', Ow G' H' (L) ∧ G.le G' ∧ v = .int .i64 r) (by kernel_rfl) rfl rfl ?_)
 refine .seq ?_
 refine .region ?_
 refine W.pure (v := (.int .i64 0)) rfl rfl (v_assign (oo rfl rfl)) ?_
 refine .nil ?_
 refine .seq ?_
 refine .seq ?_
 refine .region ?_
 refine W.pure (v := v0) rfl rfl (v_move (oo rfl rfl)) ?_
 refine W.pure (v := (.int .i64 (List.length p0 : Int))) rfl rfl (len_sl (oo rfl rfl) (sl_len hp0) (elemT_inv el74)) ?_
 refine W.pure (v := (.int .i64 0)) rfl rfl (v_move (oo rfl rfl)) ?_
 refine .nil ?_
 obtain ⟨q1, h2, h3⟩ := bindS_inv h
 refine AW.midT (fun σ' H' => ∃  (G' : GM), (.inr ()) = q1 ∧ Ow G' H' (L) ∧ GM.le G G') ?_ ?_
 ·refine .block ?_
  refine AW.loop (α := Nat) (fun k' σ' H' => ∃ (y1 : Int) (G' : GM), g_slices_IndexFunc_string_string_l0 K p0 p1 k' y1 = some q1 ∧ Ow G' H' (L) ∧ GM.le G G' ∧ σ' 8 = .int .i64 y1) (fun k' => k') K ⟨0, _, h2, O, (GM.le.refl _), rfl⟩ ?_
  rintro k4
  rintro σ6 H7 fr8 ⟨x5, G9, h12, O10, s11, t13⟩
  rcases k4 with _ | k4
  ·exact none_absurd h12
  rw [g_slices_IndexFunc_string_string_l0] at h12
  refine .seq ?_
  refine .region ?_
  refine W.pure (v := (.bool (decide (x5 < (List.length p0 : Int))))) rfl rfl (v_int (oo rfl t13) (oo rfl ((fr8 7 rfl).trans rfl)) rfl) ?_
  refine .nil ?_
  refine .seq ?_
  refine .cond (b := decide (x5 < (List.length p0 : Int))) rfl rfl (fun g14 => ?_) (fun g14 => ?_)
  ·have h15 := pos_inv g14 h12
   refine .skip ?_
   refine .seq ?_
   refine .block ?_
   refine .seq ?_
   refine .region ?_
   refine W.pure (v := (.int .i64 x5)) rfl rfl (v_move (oo rfl t13)) ?_
   refine W.pure (v := (.int .i64 x5)) rfl rfl (v_assign (oo rfl rfl)) ?_
   refine .nil ?_
   refine .seq ?_
   refine .region ?_
   refine W.pure (v := v1) rfl rfl (v_move (oo rfl ((fr8 1 rfl).trans rfl))) ?_
   refine W.pure (v := v0) rfl rfl (v_move (oo rfl ((fr8 0 rfl).trans rfl))) ?_
   refine W.pure (v := (.int .i64 x5)) rfl rfl (v_move (oo rfl rfl)) ?_
   obtain ⟨x16, i17, h18⟩ := bd_inv h15
   have j19 := idx_inv i17
   refine W.pure (v := (selem v0 (Int.toNat x5 * 1))) rfl rfl (v_idx el74 sz9 (oo rfl rfl) (oo rfl rfl) (sl_len (RT.mono _ s11 hp0)) j19.1 j19.2.1) ?_
   refine W.load1 (v := (.string x16)) (r := []) rfl rfl ag9 (pt_px rfl (At.str (At.le (At.le (sl_idx hp0 j19.2.2) s11 s11) (GM.le.refl _) O10.fro))) ?_
   obtain ⟨x20, i21, h22⟩ := bd_inv h18
   refine W.lo rfl rfl (Lo.callF (x0 := x16) rfl rfl (FnOk.le hp1 s11) (mc rfl mn) rfl i21 O10) ?_
   rintro v27 H28 ⟨G23, O24, s25, sm26, rfl⟩
   refine .nil ?_
   refine .cond (b := x20) rfl rfl (fun g29 => ?_) (fun g29 => ?_)
   ·have h30 := pos_inv g29 h22
    refine .seq ?_
    refine .region ?_
    refine W.pure (v := (.int .i64 x5)) rfl rfl (v_move (oo rfl rfl)) ?_
    refine W.pure (v := (.int .i64 x5)) rfl rfl (v_assign (oo rfl rfl)) ?_
    refine .nil ?_
    refine .ret ?_
    obtain rfl := Option.some.inj h30
    have h31 := tu1_inv (outS_l h3)
    obtain rfl := Option.some.inj h31
    refine ret1R (P := Tryd.prog) (fn := Tryd.f103) (n := 19) (R := fun v H' => ∃ G', Ow G' H' (L) ∧ G.le G' ∧ v = .int .i64 x5) (v1 := (.int .i64 x5)) (by rfl) (rr_tmp (by rfl) (by exact rfl)) ?_
    exact ⟨_, O24, (GM.le.trans s11 s25), rfl⟩
   ·have h32 := neg_b g29 h22
    refine .skip ?_
    refine .region ?_
    refine W.pure (v := (.int .i64 (kwrap .i64 (x5 + 1)))) rfl rfl (v_int (oo rfl t13) (oo rfl rfl) rfl) ?_
    refine W.pure (v := (.int .i64 (kwrap .i64 (x5 + 1)))) rfl rfl (v_move (oo rfl rfl)) ?_
    refine .nil ?_
    exact ⟨k4, Nat.lt_succ_self _, ⟨kwrap .i64 (x5 + 1), _, h32, O24, (GM.le.trans s11 s25), rfl⟩⟩
  ·have h33 := neg_b g14 h12
   refine .exit ?_
   obtain rfl := Option.some.inj h33
   exact ⟨_, rfl, O10, s11⟩
 ·rintro σ34 H35 fr36 ⟨G37, rfl, O38, s39⟩
  have h41 := tu0_inv (outS_r h3)
  refine .seq ?_
  refine .region ?_
  refine W.pure (v := (.int .i64 (-1))) rfl rfl (v_assign (oo rfl rfl)) ?_
  refine .nil ?_
  refine .ret ?_
  obtain rfl := Option.some.inj h41
  refine ret1R (P := Tryd.prog) (fn := Tryd.f103) (n := 19) (R := fun v H' => ∃ G', Ow G' H' (L) ∧ G.le G' ∧ v = .int .i64 (-1)) (v1 := (.int .i64 (-1))) (by rfl) (rr_tmp (by rfl) (by exact rfl)) ?_
  exact ⟨_, O38, s39, rfl⟩
def g_slices_ContainsFunc_string_string (K : Nat) (p0 : List ByteArray) (p1 : ByteArray → Option Bool) : Option Bool := ((g_slices_IndexFunc_string_string K p0 p1).bind fun x1 => some (decide (x1 ≥ 0)))
set_option maxHeartbeats 4000000 in
theorem g_slices_ContainsFunc_string_string_ok (K : Nat) {G : GM} {H : AH} {L : List Pc} (v0 : Value) (p0 : List ByteArray) (hp0 : (rSl rS).rep G [v0] p0) (v1 : Value) (p1 : ByteArray → Option Bool) (hp1 : FnOk Tryd.prog G v1 (fun _ vs (x : (ByteArray)) => vs = [.string x]) (fun _ v (rr : (Bool)) => v = .bool rr) p1) (O : Ow G H (L)) (r : Bool) (h : g_slices_ContainsFunc_string_string K p0 p1 = some r) :
  CR Tryd.prog 64 [v0, v1] G H (L) (fun v G' _ => v = .bool r) := by
 unfold g_slices_ContainsFunc_string_string at h
 refine CR.of (calls_of_AW (n := 9) (fn := Tryd.f64) (R := fun v H' => ∃ G', Ow G' H' (L) ∧ G.le G' ∧ v = .bool r) (by kernel_rfl) rfl rfl ?_)
 refine .seq ?_
 refine .region ?_
 refine W.pure (v := (.bool false)) rfl rfl (v_assign (oo rfl rfl)) ?_
 refine .nil ?_
 refine .seq ?_
 refine .region ?_
 refine W.pure (v := v0) rfl rfl (v_move (oo rfl rfl)) ?_
 refine W.pure (v := v1) rfl rfl (v_move (oo rfl rfl)) ?_
 obtain ⟨x1, i2, h3⟩ := bd_inv h
 refine W.lo rfl rfl (Lo.callP (ps := []) (ps' := []) rfl (fn := Tryd.f103) (by kernel_rfl) rfl (mc rfl (mc rfl mn)) O (fun L' O' => g_slices_IndexFunc_string_string_ok K v0 p0 hp0 v1 p1 hp1 O' _ i2)) ?_
 rintro v10 H11 ⟨G4, O5, s6, sm9, rfl⟩
 replace O5 : Ow G4 H11 (L) := O5
 refine W.pure (v := (.bool (decide (x1 ≥ 0)))) rfl rfl (v_int (oo rfl rfl) (oo rfl rfl) rfl) ?_
 refine W.pure (v := (.bool (decide (x1 ≥ 0)))) rfl rfl (v_assign (oo rfl rfl)) ?_
 refine .nil ?_
 refine .ret ?_
 obtain rfl := Option.some.inj h3
 refine ret1R (P := Tryd.prog) (fn := Tryd.f64) (n := 9) (R := fun v H' => ∃ G', Ow G' H' (L) ∧ G.le G' ∧ v = .bool (decide (x1 ≥ 0))) (v1 := (.bool (decide (x1 ≥ 0)))) (by rfl) (rr_tmp (by rfl) (by exact rfl)) ?_
 exact ⟨_, O5, s6, rfl⟩
def g_law_long (K : Nat) (p0 : Int) (p1 : List ByteArray) : Option Bool := ((g_slices_ContainsFunc_string_string K p1 (fun x => g_law_long_1 K x p0)).bind fun x10 => some x10)
set_option maxHeartbeats 4000000 in
theorem g_law_long_ok (K : Nat) {G : GM} {H : AH} {L : List Pc} (p0 : Int) (v1 : Value) (p1 : List ByteArray) (hp1 : (rSl rS).rep G [v1] p1) (O : Ow G H (L)) (r : Bool) (h : g_law_long K p0 p1 = some r) :
  CR Tryd.prog 24 [(.int .i64 p0), v1] G H (L) (fun v G' _ => v = .bool r) := by
 unfold g_law_long at h
 refine CR.of (calls_of_AW (n := 8) (fn := Tryd.f24) (R := fun v H' => ∃ G', Ow G' H' (L) ∧ G.le G' ∧ v = .bool r) (by kernel_rfl) rfl rfl ?_)
 refine .seq ?_
 refine .region ?_
 refine W.lo rfl rfl (Lo.box (r := (rI .i64)) (x0 := p0) (v := (.int .i64 p0)) rfl rfl rfl O) ?_
 rintro v4 H5 ⟨b2, rfl, O1, sm3⟩
 refine W.pure (v := (.bool false)) rfl rfl (v_assign (oo rfl rfl)) ?_
 refine .nil ?_
 refine .seq ?_
 refine .region ?_
 refine W.pure (v := v1) rfl rfl (v_move (oo rfl rfl)) ?_
 refine W.pure (v := (.func (.func 65) #[] #[(.pointer (some ⟨b2, 0, none⟩))])) rfl rfl (v_makeFunc (opndL_ooL rfl mn) (opndL_ooL rfl (mc rfl mn))) ?_
 obtain ⟨G6, O7, s8, f9⟩ := O1.frzVar (j := 0) rfl
 replace O7 : Ow G6 H5 (L) := O7
 obtain ⟨x10, i11, h12⟩ := bd_inv h
 refine W.lo rfl rfl (Lo.callP (ps := []) (ps' := []) rfl (fn := Tryd.f64) (by kernel_rfl) rfl (mc rfl (mc rfl mn)) O7 (fun L' O' => g_slices_ContainsFunc_string_string_ok K v1 p1 (RT.mono _ s8 hp1) (.func (.func 65) #[] #[(.pointer (some ⟨b2, 0, none⟩))]) (fun x => g_law_long_1 K x p0) ⟨65, _, _, Tryd.f65, rfl, by kernel_rfl, rfl, fun G1 H L vs x r hG O hA hF => by obtain rfl := hA; exact g_law_long_1_ok K x (.pointer (some ⟨b2, 0, none⟩)) p0 (At.le f9 hG hG) O _ hF⟩ O' _ i11)) ?_
 rintro v19 H20 ⟨G13, O14, s15, sm18, rfl⟩
 replace O14 : Ow G13 H20 (L) := O14
 refine W.pure (v := (.bool x10)) rfl rfl (v_assign (oo rfl rfl)) ?_
 refine .nil ?_
 refine .ret ?_
 obtain rfl := Option.some.inj h12
 refine ret1R (P := Tryd.prog) (fn := Tryd.f24) (n := 8) (R := fun v H' => ∃ G', Ow G' H' (L) ∧ G.le G' ∧ v = .bool x10) (v1 := (.bool x10)) (by rfl) (rr_tmp (by rfl) (by exact rfl)) ?_
 exact ⟨_, O14, (GM.le.trans s8 s15), rfl⟩
end Go.Am.Tryd
/- Typed functions with the same answers as the program's, and the walks that show it. -/
namespace Go.Am.Tryd
open Go Go.Am Go.Proofs
set_option linter.unusedVariables false
set_option linter.unusedSimpArgs false
set_option maxRecDepth 10000

def g_R_NatDiv_l2 (K : Nat) (p1 : ByteArray) : Nat → ByteArray → Int → Option (ByteArray × Int)
 | 0, _, _ => none
 | k + 1, x56, x57 => ((g_R_NatCmp K x56 p1).bind fun x67 => (if (decide (x67 ≥ 0)) = true then ((g_R_NatSub K x56 p1).bind fun x80 => g_R_NatDiv_l2 K p1 k x80 (kwrap .u8 (x57 + 1))) else some (x56, x57)))
def g_R_NatDiv_l0 (K : Nat) (p0 : ByteArray) (p1 : ByteArray) : Nat → ByteArray → ByteArray → Int → Option (ByteArray × ByteArray)
 | 0, _, _, _ => none
 | k + 1, x21, x22, x23 => (if (decide (x23 < (p0.size : Int))) = true then ((ssl p0 x23 (kwrap .i64 (x23 + 1))).bind fun x36 => (if (x22).size + (x36).size ≤ 4611686018427387904 then ((g_R_strip K (x22 ++ x36)).bind fun x41 => (Option.bind (g_R_NatDiv_l2 K p1 K x41 48) (tu2 fun x92 x93 => (if (x21).size + ((Utf8.encode x93)).size ≤ 4611686018427387904 then g_R_NatDiv_l0 K p0 p1 k (x21 ++ (Utf8.encode x93)) x92 (kwrap .i64 (x23 + 1)) else none)))) else none)) else some (x21, x22))
def g_R_NatDiv (K : Nat) (p0 : ByteArray) (p1 : ByteArray) : Option (ByteArray × ByteArray) := ((ssl p0 0 (imin (p0.size : Int) (kwrap .i64 ((p1.size : Int) - 1)))).bind fun x1 => (if ((⟨#[48]⟩ : ByteArray)).size + (x1).size ≤ 4611686018427387904 then ((g_R_strip K ((⟨#[48]⟩ : ByteArray) ++ x1)).bind fun x6 => (Option.bind (g_R_NatDiv_l0 K p0 p1 K (⟨#[48]⟩ : ByteArray) x6 (imin (p0.size : Int) (kwrap .i64 ((p1.size : Int) - 1)))) (tu2 fun x107 x108 => ((g_R_strip K x107).bind fun x119 => some (x119, x108))))) else none))
set_option maxHeartbeats 4000000 in
theorem g_R_NatDiv_ok (K : Nat) {G : GM} {H : AH} {L : List Pc} (p0 : ByteArray) (p1 : ByteArray) (O : Ow G H (L)) (r : ByteArray × ByteArray) (h : g_R_NatDiv K p0 p1 = some r) :
  CR Tryd.prog 29 [(.string p0), (.string p1)] G H (L) (fun v G' _ => v = .tuple #[.string r.1, .string r.2]) := by
 unfold g_R_NatDiv at h
 refine CR.of (calls_of_AW (n := 53) (fn := Tryd.f29) (R := fun v H' => ∃ G', Ow G' H' (L) ∧ G.le G' ∧ v = .tuple #[.string r.1, .string r.2]) (by kernel_rfl) rfl rfl ?_)
 refine .seq ?_
 refine .region ?_
 refine W.pure (v := (.string (⟨#[]⟩ : ByteArray))) rfl rfl (v_assign (oo rfl rfl)) ?_
 refine W.pure (v := (.string (⟨#[]⟩ : ByteArray))) rfl rfl (v_assign (oo rfl rfl)) ?_
 refine .nil ?_
 refine .seq ?_
 refine .region ?_
 refine W.pure (v := (.string p0)) rfl rfl (v_move (oo rfl rfl)) ?_
 refine W.pure (v := (.int .i64 (p0.size : Int))) rfl rfl (len_str (oo rfl rfl) un9) ?_
 refine W.pure (v := (.string p1)) rfl rfl (v_move (oo rfl rfl)) ?_
 refine W.pure (v := (.int .i64 (p1.size : Int))) rfl rfl (len_str (oo rfl rfl) un9) ?_
 refine W.pure (v := (.int .i64 (kwrap .i64 ((p1.size : Int) - 1)))) rfl rfl (v_int (oo rfl rfl) (oo rfl rfl) rfl) ?_
 refine W.pure (v := (.int .i64 (imin (p0.size : Int) (kwrap .i64 ((p1.size : Int) - 1))))) rfl rfl (v_min2 (oo rfl rfl) (oo rfl rfl)) ?_
 refine W.pure (v := (.int .i64 (imin (p0.size : Int) (kwrap .i64 ((p1.size : Int) - 1))))) rfl rfl (v_assign (oo rfl rfl)) ?_
 refine .nil ?_
 refine .seq ?_
 refine .region ?_
 refine W.pure (v := (.string p0)) rfl rfl (v_move (oo rfl rfl)) ?_
 refine W.pure (v := (.int .i64 (imin (p0.size : Int) (kwrap .i64 ((p1.size : Int) - 1))))) rfl rfl (v_move (oo rfl rfl)) ?_
 obtain ⟨x1, i2, h3⟩ := bd_inv h
 refine W.pure (v := (.string x1)) rfl rfl (v_sslH un9 (oo rfl rfl) (oo rfl rfl) i2) ?_
 obtain ⟨g4, h5⟩ := gd_inv h3
 refine W.pure (v := (.string ((⟨#[48]⟩ : ByteArray) ++ x1))) rfl rfl (vs_add g4 (oo rfl rfl) (oo rfl rfl)) ?_
 obtain ⟨x6, i7, h8⟩ := bd_inv h5
 refine W.lo rfl rfl (Lo.callP (ps := []) (ps' := []) rfl (fn := Tryd.f69) (by kernel_rfl) rfl (mc rfl mn) O (fun L' O' => g_R_strip_ok K ((⟨#[48]⟩ : ByteArray) ++ x1) O' _ i7)) ?_
 rintro v15 H16 ⟨G9, O10, s11, sm14, rfl⟩
 replace O10 : Ow G9 H16 (L) := O10
 refine W.pure (v := (.string (⟨#[48]⟩ : ByteArray))) rfl rfl (v_assign (oo rfl rfl)) ?_
 refine W.pure (v := (.string x6)) rfl rfl (v_assign (oo rfl rfl)) ?_
 refine .nil ?_
 refine .seq ?_
 refine .seq ?_
 refine .region ?_
 refine W.pure (v := (.int .i64 (imin (p0.size : Int) (kwrap .i64 ((p1.size : Int) - 1))))) rfl rfl (v_move (oo rfl rfl)) ?_
 refine W.pure (v := (.int .i64 (imin (p0.size : Int) (kwrap .i64 ((p1.size : Int) - 1))))) rfl rfl (v_assign (oo rfl rfl)) ?_
 refine .nil ?_
 obtain ⟨q17, h18, h19⟩ := bd_inv h8
 refine AW.midT (fun σ' H' => ∃ (y1 : ByteArray) (y2 : ByteArray) (G' : GM), (y1, y2) = q17 ∧ Ow G' H' (L) ∧ GM.le G9 G' ∧ σ' 7 = .string y1 ∧ σ' 8 = .string y2) ?_ ?_
 ·refine .block ?_
  refine AW.loop (α := Nat) (fun k' σ' H' => ∃ (y1 : ByteArray) (y2 : ByteArray) (y3 : Int) (G' : GM), g_R_NatDiv_l0 K p0 p1 k' y1 y2 y3 = some q17 ∧ Ow G' H' (L) ∧ GM.le G9 G' ∧ σ' 7 = .string y1 ∧ σ' 8 = .string y2 ∧ σ' 9 = .int .i64 y3) (fun k' => k') K ⟨(⟨#[48]⟩ : ByteArray), x6, imin (p0.size : Int) (kwrap .i64 ((p1.size : Int) - 1)), _, h18, O10, (GM.le.refl _), rfl, rfl, rfl⟩ ?_
  rintro k20
  rintro σ24 H25 fr26 ⟨x21, x22, x23, G27, h30, O28, s29, t31, t32, t33⟩
  rcases k20 with _ | k20
  ·exact none_absurd h30
  rw [g_R_NatDiv_l0] at h30
  refine .seq ?_
  refine .seq ?_
  refine .region ?_
  refine W.pure (v := (.int .i64 x23)) rfl rfl (v_move (oo rfl t33)) ?_
  refine W.pure (v := (.string p0)) rfl rfl (v_move (oo rfl ((fr26 0 rfl).trans rfl))) ?_
  refine W.pure (v := (.int .i64 (p0.size : Int))) rfl rfl (len_str (oo rfl rfl) un9) ?_
  refine W.pure (v := (.bool (decide (x23 < (p0.size : Int))))) rfl rfl (v_int (oo rfl rfl) (oo rfl rfl) rfl) ?_
  refine .nil ?_
  refine .cond (b := decide (x23 < (p0.size : Int))) rfl rfl (fun g34 => ?_) (fun g34 => ?_)
  ·have h35 := pos_inv g34 h30
   refine .skip ?_
   refine .seq ?_
   refine .block ?_
   refine .seq ?_
   refine .region ?_
   refine W.pure (v := (.string x22)) rfl rfl (v_move (oo rfl t32)) ?_
   refine W.pure (v := (.string p0)) rfl rfl (v_move (oo rfl ((fr26 0 rfl).trans rfl))) ?_
   refine W.pure (v := (.int .i64 x23)) rfl rfl (v_move (oo rfl t33)) ?_
   refine W.pure (v := (.int .i64 x23)) rfl rfl (v_move (oo rfl t33)) ?_
   refine W.pure (v := (.int .i64 (kwrap .i64 (x23 + 1)))) rfl rfl (v_int (oo rfl rfl) (oo rfl rfl) rfl) ?_
   obtain ⟨x36, i37, h38⟩ := bd_inv h35
   refine W.pure (v := (.string x36)) rfl rfl (v_sslLH un9 (oo rfl rfl) (oo rfl rfl) (oo rfl rfl) i37) ?_
   obtain ⟨g39, h40⟩ := gd_inv h38
   refine W.pure (v := (.string (x22 ++ x36))) rfl rfl (vs_add g39 (oo rfl rfl) (oo rfl rfl)) ?_
   obtain ⟨x41, i42, h43⟩ := bd_inv h40
   refine W.lo rfl rfl (Lo.callP (ps := []) (ps' := []) rfl (fn := Tryd.f69) (by kernel_rfl) rfl (mc rfl mn) O28 (fun L' O' => g_R_strip_ok K (x22 ++ x36) O' _ i42)) ?_
   rintro v50 H51 ⟨G44, O45, s46, sm49, rfl⟩
   replace O45 : Ow G44 H51 (L) := O45
   refine W.pure (v := (.string x41)) rfl rfl (v_assign (oo rfl rfl)) ?_
   refine .nil ?_
   refine .seq ?_
   refine .region ?_
   refine W.pure (v := (.int .u8 48)) rfl rfl (v_assign (oo rfl rfl)) ?_
   refine .nil ?_
   refine .seq ?_
   obtain ⟨q52, h53, h54⟩ := bd_inv h43
   refine AW.midT (fun σ' H' => ∃ (y1 : ByteArray) (y2 : Int) (G' : GM), (y1, y2) = q52 ∧ Ow G' H' (L) ∧ GM.le G44 G' ∧ σ' 8 = .string y1 ∧ σ' 10 = .int .u8 y2) ?_ ?_
   ·refine .block ?_
    refine AW.loop (α := Nat) (fun k' σ' H' => ∃ (y1 : ByteArray) (y2 : Int) (G' : GM), g_R_NatDiv_l2 K p1 k' y1 y2 = some q52 ∧ Ow G' H' (L) ∧ GM.le G44 G' ∧ σ' 8 = .string y1 ∧ σ' 10 = .int .u8 y2) (fun k' => k') K ⟨x41, 48, _, h53, O45, (GM.le.refl _), rfl, rfl⟩ ?_
    rintro k55
    rintro σ58 H59 fr60 ⟨x56, x57, G61, h64, O62, s63, t65, t66⟩
    rcases k55 with _ | k55
    ·exact none_absurd h64
    rw [g_R_NatDiv_l2] at h64
    refine .seq ?_
    refine .seq ?_
    refine .region ?_
    refine W.pure (v := (.string x56)) rfl rfl (v_move (oo rfl t65)) ?_
    refine W.pure (v := (.string p1)) rfl rfl (v_move (oo rfl ((fr60 1 rfl).trans ((fr26 1 rfl).trans rfl)))) ?_
    obtain ⟨x67, i68, h69⟩ := bd_inv h64
    refine W.lo rfl rfl (Lo.callP (ps := []) (ps' := []) rfl (fn := Tryd.f21) (by kernel_rfl) rfl (mc rfl (mc rfl mn)) O62 (fun L' O' => g_R_NatCmp_ok K x56 p1 O' _ i68)) ?_
    rintro v76 H77 ⟨G70, O71, s72, sm75, rfl⟩
    replace O71 : Ow G70 H77 (L) := O71
    refine W.pure (v := (.bool (decide (x67 ≥ 0)))) rfl rfl (v_int (oo rfl rfl) (oo rfl rfl) rfl) ?_
    refine .nil ?_
    refine .cond (b := decide (x67 ≥ 0)) rfl rfl (fun g78 => ?_) (fun g78 => ?_)
    ·have h79 := pos_inv g78 h69
     refine .skip ?_
     refine .block ?_
     refine .seq ?_
     refine .region ?_
     refine W.pure (v := (.string x56)) rfl rfl (v_move (oo rfl t65)) ?_
     refine W.pure (v := (.string p1)) rfl rfl (v_move (oo rfl ((fr60 1 rfl).trans ((fr26 1 rfl).trans rfl)))) ?_
     obtain ⟨x80, i81, h82⟩ := bd_inv h79
     refine W.lo rfl rfl (Lo.callP (ps := []) (ps' := []) rfl (fn := Tryd.f22) (by kernel_rfl) rfl (mc rfl (mc rfl mn)) O71 (fun L' O' => g_R_NatSub_ok K x56 p1 O' _ i81)) ?_
     rintro v89 H90 ⟨G83, O84, s85, sm88, rfl⟩
     replace O84 : Ow G83 H90 (L) := O84
     refine W.pure (v := (.string x80)) rfl rfl (v_assign (oo rfl rfl)) ?_
     refine .nil ?_
     refine .region ?_
     refine W.pure (v := (.int .u8 x57)) rfl rfl (v_move (oo rfl t66)) ?_
     refine W.pure (v := (.int .u8 (kwrap .u8 (x57 + 1)))) rfl rfl (v_int (oo rfl rfl) (oo rfl rfl) rfl) ?_
     refine W.pure (v := (.int .u8 (kwrap .u8 (x57 + 1)))) rfl rfl (v_assign (oo rfl rfl)) ?_
     refine .nil ?_
     exact ⟨k55, Nat.lt_succ_self _, ⟨x80, kwrap .u8 (x57 + 1), _, h82, O84, (GM.le.trans s63 (GM.le.trans s72 s85)), rfl, rfl⟩⟩
    ·have h91 := neg_b g78 h69
     refine .exit ?_
     obtain rfl := Option.some.inj h91
     exact ⟨x56, x57, _, rfl, O71, (GM.le.trans s63 s72), t65, t66⟩
   ·rintro σ94 H95 fr96 ⟨x92, x93, G97, rfl, O98, s99, t101, t102⟩
    have h103 := tu2_inv h54
    refine .region ?_
    refine W.pure (v := (.string x21)) rfl rfl (v_move (oo rfl ((fr96 7 rfl).trans t31))) ?_
    refine W.pure (v := (.int .u8 x93)) rfl rfl (v_move (oo rfl t102)) ?_
    refine W.pure (v := (.string (Utf8.encode x93))) rfl rfl (v_convIS in5 un9 (oo rfl rfl)) ?_
    obtain ⟨g104, h105⟩ := gd_inv h103
    refine W.pure (v := (.string (x21 ++ (Utf8.encode x93)))) rfl rfl (vs_add g104 (oo rfl rfl) (oo rfl rfl)) ?_
    refine W.pure (v := (.string (x21 ++ (Utf8.encode x93)))) rfl rfl (v_assign (oo rfl rfl)) ?_
    refine .nil ?_
    refine .region ?_
    refine W.pure (v := (.int .i64 x23)) rfl rfl (v_move (oo rfl ((fr96 9 rfl).trans t33))) ?_
    refine W.pure (v := (.int .i64 (kwrap .i64 (x23 + 1)))) rfl rfl (v_int (oo rfl rfl) (oo rfl rfl) rfl) ?_
    refine W.pure (v := (.int .i64 (kwrap .i64 (x23 + 1)))) rfl rfl (v_assign (oo rfl rfl)) ?_
    refine .nil ?_
    exact ⟨k20, Nat.lt_succ_self _, ⟨(x21 ++ (Utf8.encode x93)), x92, kwrap .i64 (x23 + 1), _, h105, O98, (GM.le.trans s29 (GM.le.trans s46 s99)), rfl, t101, rfl⟩⟩
  ·have h106 := neg_b g34 h30
   refine .exit ?_
   obtain rfl := Option.some.inj h106
   exact ⟨x21, x22, _, rfl, O28, s29, t31, t32⟩
 ·rintro σ109 H110 fr111 ⟨x107, x108, G112, rfl, O113, s114, t116, t117⟩
  have h118 := tu2_inv h19
  refine .seq ?_
  refine .region ?_
  refine W.pure (v := (.string x107)) rfl rfl (v_move (oo rfl t116)) ?_
  obtain ⟨x119, i120, h121⟩ := bd_inv h118
  refine W.lo rfl rfl (Lo.callP (ps := []) (ps' := []) rfl (fn := Tryd.f69) (by kernel_rfl) rfl (mc rfl mn) O113 (fun L' O' => g_R_strip_ok K x107 O' _ i120)) ?_
  rintro v128 H129 ⟨G122, O123, s124, sm127, rfl⟩
  replace O123 : Ow G122 H129 (L) := O123
  refine W.pure (v := (.string x108)) rfl rfl (v_move (oo rfl t117)) ?_
  refine W.pure (v := (.string x119)) rfl rfl (v_assign (oo rfl rfl)) ?_
  refine W.pure (v := (.string x108)) rfl rfl (v_assign (oo rfl rfl)) ?_
  refine .nil ?_
  refine .ret ?_
  obtain rfl := Option.some.inj h121
  refine ret2R (P := Tryd.prog) (fn := Tryd.f29) (n := 53) (R := fun v H' => ∃ G', Ow G' H' (L) ∧ G.le G' ∧ v = .tuple #[.string (x119, x108).1, .string (x119, x108).2]) (v1 := (.string x119)) (v2 := (.string x108)) (by rfl) (rr_tmp (by rfl) (by exact rfl)) (rr_tmp (by rfl) (by exact rfl)) ?_
  exact ⟨_, O123, (GM.le.trans s11 (GM.le.trans s114 s124)), rfl⟩
def g_R_NatGcd_l0 (K : Nat) : Nat → ByteArray → ByteArray → Option (ByteArray)
 | 0, _, _ => none
 | k + 1, x5, x6 => (if (!(sEq x6 (⟨#[48]⟩ : ByteArray))) = true then ((g_R_NatDiv K x5 x6).bind fun x18 => g_R_NatGcd_l0 K k x6 x18.2) else some x5)
def g_R_NatGcd (K : Nat) (p0 : ByteArray) (p1 : ByteArray) : Option ByteArray := (Option.bind (g_R_NatGcd_l0 K K p0 p1) (tu1 fun x30 => some x30))
set_option maxHeartbeats 4000000 in
theorem g_R_NatGcd_ok (K : Nat) {G : GM} {H : AH} {L : List Pc} (p0 : ByteArray) (p1 : ByteArray) (O : Ow G H (L)) (r : ByteArray) (h : g_R_NatGcd K p0 p1 = some r) :
  CR Tryd.prog 28 [(.string p0), (.string p1)] G H (L) (fun v G' _ => v = .string r) := by
 unfold g_R_NatGcd at h
 refine CR.of (calls_of_AW (n := 18) (fn := Tryd.f28) (R := fun v H' => ∃ G', Ow G' H' (L) ∧ G.le G' ∧ v = .string r) (by kernel_rfl) rfl rfl ?_)
 refine .seq ?_
 refine .region ?_
 refine W.pure (v := (.string (⟨#[]⟩ : ByteArray))) rfl rfl (v_assign (oo rfl rfl)) ?_
 refine .nil ?_
 refine .seq ?_
 obtain ⟨q1, h2, h3⟩ := bd_inv h
 refine AW.midT (fun σ' H' => ∃ (y1 : ByteArray) (G' : GM), y1 = q1 ∧ Ow G' H' (L) ∧ GM.le G G' ∧ σ' 0 = .string y1) ?_ ?_
 ·refine .block ?_
  refine AW.loop (α := Nat) (fun k' σ' H' => ∃ (y1 : ByteArray) (y2 : ByteArray) (G' : GM), g_R_NatGcd_l0 K k' y1 y2 = some q1 ∧ Ow G' H' (L) ∧ GM.le G G' ∧ σ' 0 = .string y1 ∧ σ' 1 = .string y2) (fun k' => k') K ⟨p0, p1, _, h2, O, (GM.le.refl _), rfl, rfl⟩ ?_
  rintro k4
  rintro σ7 H8 fr9 ⟨x5, x6, G10, h13, O11, s12, t14, t15⟩
  rcases k4 with _ | k4
  ·exact none_absurd h13
  rw [g_R_NatGcd_l0] at h13
  refine .seq ?_
  refine .seq ?_
  refine .region ?_
  refine W.pure (v := (.string x6)) rfl rfl (v_move (oo rfl t15)) ?_
  refine W.pure (v := (.bool (!(sEq x6 (⟨#[48]⟩ : ByteArray))))) rfl rfl (vs_neq (oo rfl rfl) (oo rfl rfl)) ?_
  refine .nil ?_
  refine .cond (b := (!(sEq x6 (⟨#[48]⟩ : ByteArray)))) rfl rfl (fun g16 => ?_) (fun g16 => ?_)
  ·have h17 := pos_inv g16 h13
   refine .skip ?_
   refine .block ?_
   refine .seq ?_
   refine .region ?_
   refine W.pure (v := (.string x5)) rfl rfl (v_move (oo rfl t14)) ?_
   refine W.pure (v := (.string x6)) rfl rfl (v_move (oo rfl t15)) ?_
   obtain ⟨x18, i19, h20⟩ := bd_inv h17
   refine W.lo rfl rfl (Lo.callP (ps := []) (ps' := []) rfl (fn := Tryd.f29) (by kernel_rfl) rfl (mc rfl (mc rfl mn)) O11 (fun L' O' => g_R_NatDiv_ok K x5 x6 O' _ i19)) ?_
   rintro v27 H28 ⟨G21, O22, s23, sm26, rfl⟩
   replace O22 : Ow G21 H28 (L) := O22
   refine W.pure (v := (.tuple #[(.string x18.1), (.string x18.2)])) rfl rfl (v_move (oo rfl rfl)) ?_
   refine W.pure (v := (.string x18.1)) rfl rfl (v_extract (oo rfl rfl) rfl) ?_
   refine W.pure (v := (.string x18.2)) rfl rfl (v_extract (oo rfl rfl) rfl) ?_
   refine W.pure (v := (.string x18.1)) rfl rfl (v_assign (oo rfl rfl)) ?_
   refine W.pure (v := (.string x18.2)) rfl rfl (v_assign (oo rfl rfl)) ?_
   refine .nil ?_
   refine .region ?_
   refine W.pure (v := (.string x6)) rfl rfl (v_move (oo rfl t15)) ?_
   refine W.pure (v := (.string x18.2)) rfl rfl (v_move (oo rfl rfl)) ?_
   refine W.pure (v := (.string x6)) rfl rfl (v_assign (oo rfl rfl)) ?_
   refine W.pure (v := (.string x18.2)) rfl rfl (v_assign (oo rfl rfl)) ?_
   refine .nil ?_
   exact ⟨k4, Nat.lt_succ_self _, ⟨x6, x18.2, _, h20, O22, (GM.le.trans s12 s23), rfl, rfl⟩⟩
  ·have h29 := neg_b g16 h13
   refine .exit ?_
   obtain rfl := Option.some.inj h29
   exact ⟨x5, _, rfl, O11, s12, t14⟩
 ·rintro σ31 H32 fr33 ⟨x30, G34, rfl, O35, s36, t38⟩
  have h39 := tu1_inv h3
  refine .seq ?_
  refine .region ?_
  refine W.pure (v := (.string x30)) rfl rfl (v_move (oo rfl t38)) ?_
  refine W.pure (v := (.string x30)) rfl rfl (v_assign (oo rfl rfl)) ?_
  refine .nil ?_
  refine .ret ?_
  obtain rfl := Option.some.inj h39
  refine ret1R (P := Tryd.prog) (fn := Tryd.f28) (n := 18) (R := fun v H' => ∃ G', Ow G' H' (L) ∧ G.le G' ∧ v = .string x30) (v1 := (.string x30)) (by rfl) (rr_tmp (by rfl) (by exact rfl)) ?_
  exact ⟨_, O35, s36, rfl⟩
def g_law_NatDivides (K : Nat) (p0 : ByteArray) (p1 : ByteArray) : Option Bool := ((g_law_natFact K ).bind fun x1 => (if (!x1) = true then some false else ((g_nat_Divide K p0 p1).bind fun x15 => ((g_nat_Gcd K p0 p1).bind fun x26 => ((g_R_NatError K p0).bind fun x37 => ((g_R_NatError K p1).bind fun x48 => ((g_law_first K [x37, x48]).bind fun x63 => (if (x63 != 0) = true then (Option.bind ((if (x15.2.2 == x63) = true then (if (x26.2 == x63) = true then (if (sEq x15.1 (⟨#[]⟩ : ByteArray)) = true then (if (sEq x15.2.1 (⟨#[]⟩ : ByteArray)) = true then some (sEq x26.1 (⟨#[]⟩ : ByteArray)) else some false) else some false) else some false) else some false)) (tu1 fun x95 => some x95)) else ((g_law_long K 120 [p0, p1]).bind fun x111 => (if x111 = true then some true else (Option.bind ((if (x26.2 != 0) = true then some true else ((g_R_NatGcd K p0 p1).bind fun x134 => some (!(sEq x26.1 x134))))) (tu1 fun x145 => (if x145 = true then some false else (if (sEq p1 (⟨#[48]⟩ : ByteArray)) = true then (Option.bind ((if (x15.2.2 == 10) = true then (if (sEq x15.1 (⟨#[]⟩ : ByteArray)) = true then some (sEq x15.2.1 (⟨#[]⟩ : ByteArray)) else some false) else some false)) (tu1 fun x173 => some x173)) else ((g_R_NatDiv K p0 p1).bind fun x186 => (Option.bind ((if (x15.2.2 == 0) = true then (if (sEq x15.1 x186.1) = true then some (sEq x15.2.1 x186.2) else some false) else some false)) (tu1 fun x208 => some x208)))))))))))))))))
set_option maxHeartbeats 4000000 in
theorem g_law_NatDivides_ok (K : Nat) {G : GM} {H : AH} {L : List Pc} (p0 : ByteArray) (p1 : ByteArray) (O : Ow G H (L)) (r : Bool) (h : g_law_NatDivides K p0 p1 = some r) :
  CR Tryd.prog 6 [(.string p0), (.string p1)] G H (L) (fun v G' _ => v = .bool r) := by
 unfold g_law_NatDivides at h
 refine CR.of (calls_of_AW (n := 99) (fn := Tryd.f6) (R := fun v H' => ∃ G', Ow G' H' (L) ∧ G.le G' ∧ v = .bool r) (by kernel_rfl) rfl rfl ?_)
 refine .seq ?_
 refine .region ?_
 refine W.pure (v := (.bool false)) rfl rfl (v_assign (oo rfl rfl)) ?_
 refine .nil ?_
 refine .seq ?_
 refine .seq ?_
 refine .region ?_
 obtain ⟨x1, i2, h3⟩ := bd_inv h
 refine W.lo rfl rfl (Lo.callP (ps := []) (ps' := []) rfl (fn := Tryd.f13) (by kernel_rfl) rfl mn O (fun L' O' => g_law_natFact_ok K  O' _ i2)) ?_
 rintro v10 H11 ⟨G4, O5, s6, sm9, rfl⟩
 replace O5 : Ow G4 H11 (L) := O5
 refine W.pure (v := (.bool (!x1))) rfl rfl (bool_not (a := x1) (oo rfl rfl)) ?_
 refine .nil ?_
 refine .cond (b := (!x1)) rfl rfl (fun g12 => ?_) (fun g12 => ?_)
 ·have h13 := pos_inv g12 h3
  refine .seq ?_
  refine .region ?_
  refine W.pure (v := (.bool false)) rfl rfl (v_assign (oo rfl rfl)) ?_
  refine .nil ?_
  refine .ret ?_
  obtain rfl := Option.some.inj h13
  refine ret1R (P := Tryd.prog) (fn := Tryd.f6) (n := 99) (R := fun v H' => ∃ G', Ow G' H' (L) ∧ G.le G' ∧ v = .bool false) (v1 := (.bool false)) (by rfl) (rr_tmp (by rfl) (by exact rfl)) ?_
  exact ⟨_, O5, s6, rfl⟩
 ·have h14 := neg_b g12 h3
  refine .skip ?_
  refine .seq ?_
  refine .region ?_
  refine W.pure (v := (.string p0)) rfl rfl (v_move (oo rfl rfl)) ?_
  refine W.pure (v := (.string p1)) rfl rfl (v_move (oo rfl rfl)) ?_
  obtain ⟨x15, i16, h17⟩ := bd_inv h14
  refine W.lo rfl rfl (Lo.callP (ps := []) (ps' := []) rfl (fn := Tryd.f26) (by kernel_rfl) rfl (mc rfl (mc rfl mn)) O5 (fun L' O' => g_nat_Divide_ok K p0 p1 O' _ i16)) ?_
  rintro v24 H25 ⟨G18, O19, s20, sm23, rfl⟩
  replace O19 : Ow G18 H25 (L) := O19
  refine W.pure (v := (.tuple #[(.string x15.1), (.string x15.2.1), (.int .i64 x15.2.2)])) rfl rfl (v_move (oo rfl rfl)) ?_
  refine W.pure (v := (.string x15.1)) rfl rfl (v_extract (oo rfl rfl) rfl) ?_
  refine W.pure (v := (.string x15.2.1)) rfl rfl (v_extract (oo rfl rfl) rfl) ?_
  refine W.pure (v := (.int .i64 x15.2.2)) rfl rfl (v_extract (oo rfl rfl) rfl) ?_
  refine W.pure (v := (.string x15.1)) rfl rfl (v_assign (oo rfl rfl)) ?_
  refine W.pure (v := (.string x15.2.1)) rfl rfl (v_assign (oo rfl rfl)) ?_
  refine W.pure (v := (.int .i64 x15.2.2)) rfl rfl (v_assign (oo rfl rfl)) ?_
  refine .nil ?_
  refine .seq ?_
  refine .region ?_
  refine W.pure (v := (.string p0)) rfl rfl (v_move (oo rfl rfl)) ?_
  refine W.pure (v := (.string p1)) rfl rfl (v_move (oo rfl rfl)) ?_
  obtain ⟨x26, i27, h28⟩ := bd_inv h17
  refine W.lo rfl rfl (Lo.callP (ps := []) (ps' := []) rfl (fn := Tryd.f27) (by kernel_rfl) rfl (mc rfl (mc rfl mn)) O19 (fun L' O' => g_nat_Gcd_ok K p0 p1 O' _ i27)) ?_
  rintro v35 H36 ⟨G29, O30, s31, sm34, rfl⟩
  replace O30 : Ow G29 H36 (L) := O30
  refine W.pure (v := (.tuple #[(.string x26.1), (.int .i64 x26.2)])) rfl rfl (v_move (oo rfl rfl)) ?_
  refine W.pure (v := (.string x26.1)) rfl rfl (v_extract (oo rfl rfl) rfl) ?_
  refine W.pure (v := (.int .i64 x26.2)) rfl rfl (v_extract (oo rfl rfl) rfl) ?_
  refine W.pure (v := (.string x26.1)) rfl rfl (v_assign (oo rfl rfl)) ?_
  refine W.pure (v := (.int .i64 x26.2)) rfl rfl (v_assign (oo rfl rfl)) ?_
  refine .nil ?_
  refine .seq ?_
  refine .seq ?_
  refine .region ?_
  refine W.pure (v := (.string p0)) rfl rfl (v_move (oo rfl rfl)) ?_
  obtain ⟨x37, i38, h39⟩ := bd_inv h28
  refine W.lo rfl rfl (Lo.callP (ps := []) (ps' := []) rfl (fn := Tryd.f15) (by kernel_rfl) rfl (mc rfl mn) O30 (fun L' O' => g_R_NatError_ok K p0 O' _ i38)) ?_
  rintro v46 H47 ⟨G40, O41, s42, sm45, rfl⟩
  replace O41 : Ow G40 H47 (L) := O41
  refine W.pure (v := (.string p1)) rfl rfl (v_move (oo rfl rfl)) ?_
  obtain ⟨x48, i49, h50⟩ := bd_inv h39
  refine W.lo rfl rfl (Lo.callP (ps := []) (ps' := []) rfl (fn := Tryd.f15) (by kernel_rfl) rfl (mc rfl mn) O41 (fun L' O' => g_R_NatError_ok K p1 O' _ i49)) ?_
  rintro v57 H58 ⟨G51, O52, s53, sm56, rfl⟩
  replace O52 : Ow G51 H58 (L) := O52
  refine W.lo rfl rfl (Lo.buildSlice (r := (rI .i64)) (vs := [(.int .i64 x37), (.int .i64 x48)]) (xs := [x37, x48]) el70 ze23 sz23 (by kernel_rfl) rfl (qc rfl (qc rfl qn)) rfl (.cons rfl (.cons rfl .nil)) O52) ?_
  rintro v61 H62 ⟨O59, sm60⟩
  obtain ⟨x63, i64, h65⟩ := bd_inv h50
  refine W.lo rfl rfl (Lo.callB (j := 0) rfl rfl (fn := Tryd.f18) (by kernel_rfl) rfl (mc rfl mn) O59 (fun G' L' hG O' hB => g_law_first_ok K v61 [x37, x48] hB O' _ i64)) ?_
  rintro v72 H73 ⟨G66, O67, s68, sm71, rfl⟩
  replace O67 : Ow G66 H73 (eSl v61 23 (rI .i64) [x37, x48] :: L) := O67
  refine W.pure (v := (.int .i64 x63)) rfl rfl (v_assign (oo rfl rfl)) ?_
  refine .nil ?_
  refine .seq ?_
  refine .region ?_
  refine W.pure (v := (.int .i64 x63)) rfl rfl (v_move (oo rfl rfl)) ?_
  refine W.pure (v := (.bool (x63 != 0))) rfl rfl (v_int (oo rfl rfl) (oo rfl rfl) rfl) ?_
  refine .nil ?_
  refine .cond (b := (x63 != 0)) rfl rfl (fun g74 => ?_) (fun g74 => ?_)
  ·have h75 := pos_inv g74 h65
   refine .seq ?_
   obtain ⟨q76, h77, h78⟩ := bd_inv h75
   refine AW.midT (fun σ' H' => ∃ (y1 : Bool) (G' : GM), y1 = q76 ∧ Ow G' H' (eSl v61 23 (rI .i64) [x37, x48] :: L) ∧ GM.le G66 G' ∧ σ' 4 = .bool y1) ?_ ?_
   ·refine .region ?_
    refine W.pure (v := (.int .i64 x15.2.2)) rfl rfl (v_move (oo rfl rfl)) ?_
    refine W.pure (v := (.int .i64 x63)) rfl rfl (v_move (oo rfl rfl)) ?_
    refine W.pure (v := (.bool (x15.2.2 == x63))) rfl rfl (v_int (oo rfl rfl) (oo rfl rfl) rfl) ?_
    refine W.pure (v := (.bool (x15.2.2 == x63))) rfl rfl (v_move (oo rfl rfl)) ?_
    refine W.splitAt (t := 39) (b := (x15.2.2 == x63)) rfl (fun g79 gv80 => ?_) (fun g79 gv80 => ?_)
    ·have h81 := pos_inv g79 h77
     refine W.pure (v := (.int .i64 x26.2)) (gk rfl rfl gv80 rfl) rfl (v_move (oo rfl rfl)) ?_
     refine W.pure (v := (.int .i64 x63)) (gk rfl rfl gv80 rfl) rfl (v_move (oo rfl rfl)) ?_
     refine W.pure (v := (.bool (x26.2 == x63))) (gk rfl rfl gv80 rfl) rfl (v_int (oo rfl rfl) (oo rfl rfl) rfl) ?_
     refine W.pure (v := (.bool (x26.2 == x63))) rfl rfl (v_pickT (oo rfl gv80) (oo rfl rfl)) ?_
     refine W.pure (v := (.bool (x26.2 == x63))) rfl rfl (v_move (oo rfl rfl)) ?_
     refine W.splitAt (t := 44) (b := (x26.2 == x63)) rfl (fun g82 gv83 => ?_) (fun g82 gv83 => ?_)
     ·have h84 := pos_inv g82 h81
      refine W.pure (v := (.string x15.1)) (gk rfl rfl gv83 rfl) rfl (v_move (oo rfl rfl)) ?_
      refine W.pure (v := (.bool (sEq x15.1 (⟨#[]⟩ : ByteArray)))) (gk rfl rfl gv83 rfl) rfl (vs_eql (oo rfl rfl) (oo rfl rfl)) ?_
      refine W.pure (v := (.bool (sEq x15.1 (⟨#[]⟩ : ByteArray)))) rfl rfl (v_pickT (oo rfl gv83) (oo rfl rfl)) ?_
      refine W.pure (v := (.bool (sEq x15.1 (⟨#[]⟩ : ByteArray)))) rfl rfl (v_move (oo rfl rfl)) ?_
      refine W.splitAt (t := 48) (b := sEq x15.1 (⟨#[]⟩ : ByteArray)) rfl (fun g85 gv86 => ?_) (fun g85 gv86 => ?_)
      ·have h87 := pos_inv g85 h84
       refine W.pure (v := (.string x15.2.1)) (gk rfl rfl gv86 rfl) rfl (v_move (oo rfl rfl)) ?_
       refine W.pure (v := (.bool (sEq x15.2.1 (⟨#[]⟩ : ByteArray)))) (gk rfl rfl gv86 rfl) rfl (vs_eql (oo rfl rfl) (oo rfl rfl)) ?_
       refine W.pure (v := (.bool (sEq x15.2.1 (⟨#[]⟩ : ByteArray)))) rfl rfl (v_pickT (oo rfl gv86) (oo rfl rfl)) ?_
       refine W.pure (v := (.bool (sEq x15.2.1 (⟨#[]⟩ : ByteArray)))) rfl rfl (v_move (oo rfl rfl)) ?_
       refine W.splitAt (t := 52) (b := sEq x15.2.1 (⟨#[]⟩ : ByteArray)) rfl (fun g88 gv89 => ?_) (fun g88 gv89 => ?_)
       ·have h90 := pos_inv g88 h87
        refine W.pure (v := (.string x26.1)) (gk rfl rfl gv89 rfl) rfl (v_move (oo rfl rfl)) ?_
        refine W.pure (v := (.bool (sEq x26.1 (⟨#[]⟩ : ByteArray)))) (gk rfl rfl gv89 rfl) rfl (vs_eql (oo rfl rfl) (oo rfl rfl)) ?_
        refine W.pure (v := (.bool (sEq x26.1 (⟨#[]⟩ : ByteArray)))) rfl rfl (v_pickT (oo rfl gv89) (oo rfl rfl)) ?_
        refine W.pure (v := (.bool (sEq x26.1 (⟨#[]⟩ : ByteArray)))) rfl rfl (v_assign (oo rfl rfl)) ?_
        refine .nil ?_
        obtain rfl := Option.some.inj h90
        exact ⟨sEq x26.1 (⟨#[]⟩ : ByteArray), _, rfl, O67, (GM.le.refl _), rfl⟩
       ·have h91 := neg_b g88 h87
        refine W.skip (gk rfl rfl gv89 rfl) rfl ?_
        refine W.skip (gk rfl rfl gv89 rfl) rfl ?_
        refine W.pure (v := (.bool false)) rfl rfl (v_pickF (oo rfl gv89) (oo rfl rfl)) ?_
        refine W.pure (v := (.bool false)) rfl rfl (v_assign (oo rfl rfl)) ?_
        refine .nil ?_
        obtain rfl := Option.some.inj h91
        exact ⟨false, _, rfl, O67, (GM.le.refl _), rfl⟩
      ·have h92 := neg_b g85 h84
       refine W.skip (gk rfl rfl gv86 rfl) rfl ?_
       refine W.skip (gk rfl rfl gv86 rfl) rfl ?_
       refine W.pure (v := (.bool false)) rfl rfl (v_pickF (oo rfl gv86) (oo rfl rfl)) ?_
       refine W.pure (v := (.bool false)) rfl rfl (v_move (oo rfl rfl)) ?_
       refine W.skip (gk rfl rfl rfl rfl) rfl ?_
       refine W.skip (gk rfl rfl rfl rfl) rfl ?_
       refine W.pure (v := (.bool false)) rfl rfl (v_pickF (oo rfl rfl) (oo rfl rfl)) ?_
       refine W.pure (v := (.bool false)) rfl rfl (v_assign (oo rfl rfl)) ?_
       refine .nil ?_
       obtain rfl := Option.some.inj h92
       exact ⟨false, _, rfl, O67, (GM.le.refl _), rfl⟩
     ·have h93 := neg_b g82 h81
      refine W.skip (gk rfl rfl gv83 rfl) rfl ?_
      refine W.skip (gk rfl rfl gv83 rfl) rfl ?_
      refine W.pure (v := (.bool false)) rfl rfl (v_pickF (oo rfl gv83) (oo rfl rfl)) ?_
      refine W.pure (v := (.bool false)) rfl rfl (v_move (oo rfl rfl)) ?_
      refine W.skip (gk rfl rfl rfl rfl) rfl ?_
      refine W.skip (gk rfl rfl rfl rfl) rfl ?_
      refine W.pure (v := (.bool false)) rfl rfl (v_pickF (oo rfl rfl) (oo rfl rfl)) ?_
      refine W.pure (v := (.bool false)) rfl rfl (v_move (oo rfl rfl)) ?_
      refine W.skip (gk rfl rfl rfl rfl) rfl ?_
      refine W.skip (gk rfl rfl rfl rfl) rfl ?_
      refine W.pure (v := (.bool false)) rfl rfl (v_pickF (oo rfl rfl) (oo rfl rfl)) ?_
      refine W.pure (v := (.bool false)) rfl rfl (v_assign (oo rfl rfl)) ?_
      refine .nil ?_
      obtain rfl := Option.some.inj h93
      exact ⟨false, _, rfl, O67, (GM.le.refl _), rfl⟩
    ·have h94 := neg_b g79 h77
     refine W.skip (gk rfl rfl gv80 rfl) rfl ?_
     refine W.skip (gk rfl rfl gv80 rfl) rfl ?_
     refine W.skip (gk rfl rfl gv80 rfl) rfl ?_
     refine W.pure (v := (.bool false)) rfl rfl (v_pickF (oo rfl gv80) (oo rfl rfl)) ?_
     refine W.pure (v := (.bool false)) rfl rfl (v_move (oo rfl rfl)) ?_
     refine W.skip (gk rfl rfl rfl rfl) rfl ?_
     refine W.skip (gk rfl rfl rfl rfl) rfl ?_
     refine W.pure (v := (.bool false)) rfl rfl (v_pickF (oo rfl rfl) (oo rfl rfl)) ?_
     refine W.pure (v := (.bool false)) rfl rfl (v_move (oo rfl rfl)) ?_
     refine W.skip (gk rfl rfl rfl rfl) rfl ?_
     refine W.skip (gk rfl rfl rfl rfl) rfl ?_
     refine W.pure (v := (.bool false)) rfl rfl (v_pickF (oo rfl rfl) (oo rfl rfl)) ?_
     refine W.pure (v := (.bool false)) rfl rfl (v_move (oo rfl rfl)) ?_
     refine W.skip (gk rfl rfl rfl rfl) rfl ?_
     refine W.skip (gk rfl rfl rfl rfl) rfl ?_
     refine W.pure (v := (.bool false)) rfl rfl (v_pickF (oo rfl rfl) (oo rfl rfl)) ?_
     refine W.pure (v := (.bool false)) rfl rfl (v_assign (oo rfl rfl)) ?_
     refine .nil ?_
     obtain rfl := Option.some.inj h94
     exact ⟨false, _, rfl, O67, (GM.le.refl _), rfl⟩
   ·rintro σ96 H97 fr98 ⟨x95, G99, rfl, O100, s101, t103⟩
    have h104 := tu1_inv h78
    refine .ret ?_
    have O105 : Ow G99 H97 (L) := O100.drop 0
    obtain rfl := Option.some.inj h104
    refine ret1R (P := Tryd.prog) (fn := Tryd.f6) (n := 99) (R := fun v H' => ∃ G', Ow G' H' (L) ∧ G.le G' ∧ v = .bool x95) (v1 := (.bool x95)) (by rfl) (rr_tmp (by rfl) (by exact t103)) ?_
    exact ⟨_, O105, (GM.le.trans s6 (GM.le.trans s20 (GM.le.trans s31 (GM.le.trans s42 (GM.le.trans s53 (GM.le.trans s68 s101)))))), rfl⟩
  ·have h106 := neg_b g74 h65
   refine .skip ?_
   refine .seq ?_
   refine .seq ?_
   refine .region ?_
   refine W.pure (v := (.string p0)) rfl rfl (v_move (oo rfl rfl)) ?_
   refine W.pure (v := (.string p1)) rfl rfl (v_move (oo rfl rfl)) ?_
   refine W.lo rfl rfl (Lo.buildSlice (r := rS) (vs := [(.string p0), (.string p1)]) (xs := [p0, p1]) el74 ze9 sz9 (by kernel_rfl) rfl (qc rfl (qc rfl qn)) rfl (.cons rfl (.cons rfl .nil)) O67) ?_
   rintro v109 H110 ⟨O107, sm108⟩
   obtain ⟨x111, i112, h113⟩ := bd_inv h106
   refine W.lo rfl rfl (Lo.callB (j := 0) rfl rfl (fn := Tryd.f24) (by kernel_rfl) rfl (mc rfl (mc rfl mn)) O107 (fun G' L' hG O' hB => g_law_long_ok K 120 v109 [p0, p1] hB O' _ i112)) ?_
   rintro v120 H121 ⟨G114, O115, s116, sm119, rfl⟩
   replace O115 : Ow G114 H121 (eSl v109 9 rS [p0, p1] :: eSl v61 23 (rI .i64) [x37, x48] :: L) := O115
   refine .nil ?_
   refine .cond (b := x111) rfl rfl (fun g122 => ?_) (fun g122 => ?_)
   ·have h123 := pos_inv g122 h113
    refine .seq ?_
    refine .region ?_
    refine W.pure (v := (.bool true)) rfl rfl (v_assign (oo rfl rfl)) ?_
    refine .nil ?_
    refine .ret ?_
    have O124 : Ow G114 H121 (eSl v61 23 (rI .i64) [x37, x48] :: L) := O115.drop 0
    have O125 : Ow G114 H121 (L) := O124.drop 0
    obtain rfl := Option.some.inj h123
    refine ret1R (P := Tryd.prog) (fn := Tryd.f6) (n := 99) (R := fun v H' => ∃ G', Ow G' H' (L) ∧ G.le G' ∧ v = .bool true) (v1 := (.bool true)) (by rfl) (rr_tmp (by rfl) (by exact rfl)) ?_
    exact ⟨_, O125, (GM.le.trans s6 (GM.le.trans s20 (GM.le.trans s31 (GM.le.trans s42 (GM.le.trans s53 (GM.le.trans s68 s116)))))), rfl⟩
   ·have h126 := neg_b g122 h113
    refine .skip ?_
    refine .seq ?_
    refine .seq ?_
    obtain ⟨q127, h128, h129⟩ := bd_inv h126
    refine AW.midT (fun σ' H' => ∃ (y1 : Bool) (G' : GM), y1 = q127 ∧ Ow G' H' (eSl v109 9 rS [p0, p1] :: eSl v61 23 (rI .i64) [x37, x48] :: L) ∧ GM.le G114 G' ∧ σ' 68 = .bool y1) ?_ ?_
    ·refine .region ?_
     refine W.pure (v := (.int .i64 x26.2)) rfl rfl (v_move (oo rfl rfl)) ?_
     refine W.pure (v := (.bool (x26.2 != 0))) rfl rfl (v_int (oo rfl rfl) (oo rfl rfl) rfl) ?_
     refine W.pure (v := (.bool (x26.2 != 0))) rfl rfl (v_move (oo rfl rfl)) ?_
     refine W.splitAt (t := 62) (b := (x26.2 != 0)) rfl (fun g130 gv131 => ?_) (fun g130 gv131 => ?_)
     ·have h132 := pos_inv g130 h128
      refine W.skip (gk rfl rfl gv131 rfl) rfl ?_
      refine W.skip (gk rfl rfl gv131 rfl) rfl ?_
      refine W.skip (gk rfl rfl gv131 rfl) rfl ?_
      refine W.skip (gk rfl rfl gv131 rfl) rfl ?_
      refine W.skip (gk rfl rfl gv131 rfl) rfl ?_
      refine W.pure (v := (.bool true)) rfl rfl (v_pickT (oo rfl gv131) (oo rfl rfl)) ?_
      refine .nil ?_
      obtain rfl := Option.some.inj h132
      exact ⟨true, _, rfl, O115, (GM.le.refl _), rfl⟩
     ·have h133 := neg_b g130 h128
      refine W.pure (v := (.string x26.1)) (gk rfl rfl gv131 rfl) rfl (v_move (oo rfl rfl)) ?_
      refine W.pure (v := (.string p0)) (gk rfl rfl gv131 rfl) rfl (v_move (oo rfl rfl)) ?_
      refine W.pure (v := (.string p1)) (gk rfl rfl gv131 rfl) rfl (v_move (oo rfl rfl)) ?_
      obtain ⟨x134, i135, h136⟩ := bd_inv h133
      refine W.lo (gk rfl rfl gv131 rfl) rfl (Lo.callP (ps := []) (ps' := []) rfl (fn := Tryd.f28) (by kernel_rfl) rfl (mc rfl (mc rfl mn)) O115 (fun L' O' => g_R_NatGcd_ok K p0 p1 O' _ i135)) ?_
      rintro v143 H144 ⟨G137, O138, s139, sm142, rfl⟩
      replace O138 : Ow G137 H144 (eSl v109 9 rS [p0, p1] :: eSl v61 23 (rI .i64) [x37, x48] :: L) := O138
      refine W.pure (v := (.bool (!(sEq x26.1 x134)))) (gk rfl rfl gv131 rfl) rfl (vs_neq (oo rfl rfl) (oo rfl rfl)) ?_
      refine W.pure (v := (.bool (!(sEq x26.1 x134)))) rfl rfl (v_pickF (oo rfl gv131) (oo rfl rfl)) ?_
      refine .nil ?_
      obtain rfl := Option.some.inj h136
      exact ⟨(!(sEq x26.1 x134)), _, rfl, O138, s139, rfl⟩
    ·rintro σ146 H147 fr148 ⟨x145, G149, rfl, O150, s151, t153⟩
     have h154 := tu1_inv h129
     refine .cond (b := x145) rfl t153 (fun g155 => ?_) (fun g155 => ?_)
     ·have h156 := pos_inv g155 h154
      refine .seq ?_
      refine .region ?_
      refine W.pure (v := (.bool false)) rfl rfl (v_assign (oo rfl rfl)) ?_
      refine .nil ?_
      refine .ret ?_
      have O157 : Ow G149 H147 (eSl v61 23 (rI .i64) [x37, x48] :: L) := O150.drop 0
      have O158 : Ow G149 H147 (L) := O157.drop 0
      obtain rfl := Option.some.inj h156
      refine ret1R (P := Tryd.prog) (fn := Tryd.f6) (n := 99) (R := fun v H' => ∃ G', Ow G' H' (L) ∧ G.le G' ∧ v = .bool false) (v1 := (.bool false)) (by rfl) (rr_tmp (by rfl) (by exact rfl)) ?_
      exact ⟨_, O158, (GM.le.trans s6 (GM.le.trans s20 (GM.le.trans s31 (GM.le.trans s42 (GM.le.trans s53 (GM.le.trans s68 (GM.le.trans s116 s151))))))), rfl⟩
     ·have h159 := neg_b g155 h154
      refine .skip ?_
      refine .seq ?_
      refine .seq ?_
      refine .region ?_
      refine W.pure (v := (.string p1)) rfl rfl (v_move (oo rfl ((fr148 1 rfl).trans rfl))) ?_
      refine W.pure (v := (.bool (sEq p1 (⟨#[48]⟩ : ByteArray)))) rfl rfl (vs_eql (oo rfl rfl) (oo rfl rfl)) ?_
      refine .nil ?_
      refine .cond (b := sEq p1 (⟨#[48]⟩ : ByteArray)) rfl rfl (fun g160 => ?_) (fun g160 => ?_)
      ·have h161 := pos_inv g160 h159
       refine .seq ?_
       obtain ⟨q162, h163, h164⟩ := bd_inv h161
       refine AW.midT (fun σ' H' => ∃ (y1 : Bool) (G' : GM), y1 = q162 ∧ Ow G' H' (eSl v109 9 rS [p0, p1] :: eSl v61 23 (rI .i64) [x37, x48] :: L) ∧ GM.le G149 G' ∧ σ' 4 = .bool y1) ?_ ?_
       ·refine .region ?_
        refine W.pure (v := (.int .i64 x15.2.2)) rfl rfl (v_move (oo rfl ((fr148 7 rfl).trans rfl))) ?_
        refine W.pure (v := (.bool (x15.2.2 == 10))) rfl rfl (v_int (oo rfl rfl) (oo rfl rfl) rfl) ?_
        refine W.pure (v := (.bool (x15.2.2 == 10))) rfl rfl (v_move (oo rfl rfl)) ?_
        refine W.splitAt (t := 73) (b := (x15.2.2 == 10)) rfl (fun g165 gv166 => ?_) (fun g165 gv166 => ?_)
        ·have h167 := pos_inv g165 h163
         refine W.pure (v := (.string x15.1)) (gk rfl rfl gv166 rfl) rfl (v_move (oo rfl ((fr148 5 rfl).trans rfl))) ?_
         refine W.pure (v := (.bool (sEq x15.1 (⟨#[]⟩ : ByteArray)))) (gk rfl rfl gv166 rfl) rfl (vs_eql (oo rfl rfl) (oo rfl rfl)) ?_
         refine W.pure (v := (.bool (sEq x15.1 (⟨#[]⟩ : ByteArray)))) rfl rfl (v_pickT (oo rfl gv166) (oo rfl rfl)) ?_
         refine W.pure (v := (.bool (sEq x15.1 (⟨#[]⟩ : ByteArray)))) rfl rfl (v_move (oo rfl rfl)) ?_
         refine W.splitAt (t := 77) (b := sEq x15.1 (⟨#[]⟩ : ByteArray)) rfl (fun g168 gv169 => ?_) (fun g168 gv169 => ?_)
         ·have h170 := pos_inv g168 h167
          refine W.pure (v := (.string x15.2.1)) (gk rfl rfl gv169 rfl) rfl (v_move (oo rfl ((fr148 6 rfl).trans rfl))) ?_
          refine W.pure (v := (.bool (sEq x15.2.1 (⟨#[]⟩ : ByteArray)))) (gk rfl rfl gv169 rfl) rfl (vs_eql (oo rfl rfl) (oo rfl rfl)) ?_
          refine W.pure (v := (.bool (sEq x15.2.1 (⟨#[]⟩ : ByteArray)))) rfl rfl (v_pickT (oo rfl gv169) (oo rfl rfl)) ?_
          refine W.pure (v := (.bool (sEq x15.2.1 (⟨#[]⟩ : ByteArray)))) rfl rfl (v_assign (oo rfl rfl)) ?_
          refine .nil ?_
          obtain rfl := Option.some.inj h170
          exact ⟨sEq x15.2.1 (⟨#[]⟩ : ByteArray), _, rfl, O150, (GM.le.refl _), rfl⟩
         ·have h171 := neg_b g168 h167
          refine W.skip (gk rfl rfl gv169 rfl) rfl ?_
          refine W.skip (gk rfl rfl gv169 rfl) rfl ?_
          refine W.pure (v := (.bool false)) rfl rfl (v_pickF (oo rfl gv169) (oo rfl rfl)) ?_
          refine W.pure (v := (.bool false)) rfl rfl (v_assign (oo rfl rfl)) ?_
          refine .nil ?_
          obtain rfl := Option.some.inj h171
          exact ⟨false, _, rfl, O150, (GM.le.refl _), rfl⟩
        ·have h172 := neg_b g165 h163
         refine W.skip (gk rfl rfl gv166 rfl) rfl ?_
         refine W.skip (gk rfl rfl gv166 rfl) rfl ?_
         refine W.pure (v := (.bool false)) rfl rfl (v_pickF (oo rfl gv166) (oo rfl rfl)) ?_
         refine W.pure (v := (.bool false)) rfl rfl (v_move (oo rfl rfl)) ?_
         refine W.skip (gk rfl rfl rfl rfl) rfl ?_
         refine W.skip (gk rfl rfl rfl rfl) rfl ?_
         refine W.pure (v := (.bool false)) rfl rfl (v_pickF (oo rfl rfl) (oo rfl rfl)) ?_
         refine W.pure (v := (.bool false)) rfl rfl (v_assign (oo rfl rfl)) ?_
         refine .nil ?_
         obtain rfl := Option.some.inj h172
         exact ⟨false, _, rfl, O150, (GM.le.refl _), rfl⟩
       ·rintro σ174 H175 fr176 ⟨x173, G177, rfl, O178, s179, t181⟩
        have h182 := tu1_inv h164
        refine .ret ?_
        have O183 : Ow G177 H175 (eSl v61 23 (rI .i64) [x37, x48] :: L) := O178.drop 0
        have O184 : Ow G177 H175 (L) := O183.drop 0
        obtain rfl := Option.some.inj h182
        refine ret1R (P := Tryd.prog) (fn := Tryd.f6) (n := 99) (R := fun v H' => ∃ G', Ow G' H' (L) ∧ G.le G' ∧ v = .bool x173) (v1 := (.bool x173)) (by rfl) (rr_tmp (by rfl) (by exact t181)) ?_
        exact ⟨_, O184, (GM.le.trans s6 (GM.le.trans s20 (GM.le.trans s31 (GM.le.trans s42 (GM.le.trans s53 (GM.le.trans s68 (GM.le.trans s116 (GM.le.trans s151 s179)))))))), rfl⟩
      ·have h185 := neg_b g160 h159
       refine .skip ?_
       refine .seq ?_
       refine .region ?_
       refine W.pure (v := (.string p0)) rfl rfl (v_move (oo rfl ((fr148 0 rfl).trans rfl))) ?_
       refine W.pure (v := (.string p1)) rfl rfl (v_move (oo rfl ((fr148 1 rfl).trans rfl))) ?_
       obtain ⟨x186, i187, h188⟩ := bd_inv h185
       refine W.lo rfl rfl (Lo.callP (ps := []) (ps' := []) rfl (fn := Tryd.f29) (by kernel_rfl) rfl (mc rfl (mc rfl mn)) O150 (fun L' O' => g_R_NatDiv_ok K p0 p1 O' _ i187)) ?_
       rintro v195 H196 ⟨G189, O190, s191, sm194, rfl⟩
       replace O190 : Ow G189 H196 (eSl v109 9 rS [p0, p1] :: eSl v61 23 (rI .i64) [x37, x48] :: L) := O190
       refine W.pure (v := (.tuple #[(.string x186.1), (.string x186.2)])) rfl rfl (v_move (oo rfl rfl)) ?_
       refine W.pure (v := (.string x186.1)) rfl rfl (v_extract (oo rfl rfl) rfl) ?_
       refine W.pure (v := (.string x186.2)) rfl rfl (v_extract (oo rfl rfl) rfl) ?_
       refine W.pure (v := (.string x186.1)) rfl rfl (v_assign (oo rfl rfl)) ?_
       refine W.pure (v := (.string x186.2)) rfl rfl (v_assign (oo rfl rfl)) ?_
       refine .nil ?_
       refine .seq ?_
       obtain ⟨q197, h198, h199⟩ := bd_inv h188
       refine AW.midT (fun σ' H' => ∃ (y1 : Bool) (G' : GM), y1 = q197 ∧ Ow G' H' (eSl v109 9 rS [p0, p1] :: eSl v61 23 (rI .i64) [x37, x48] :: L) ∧ GM.le G189 G' ∧ σ' 4 = .bool y1) ?_ ?_
       ·refine .region ?_
        refine W.pure (v := (.int .i64 x15.2.2)) rfl rfl (v_move (oo rfl ((fr148 7 rfl).trans rfl))) ?_
        refine W.pure (v := (.bool (x15.2.2 == 0))) rfl rfl (v_int (oo rfl rfl) (oo rfl rfl) rfl) ?_
        refine W.pure (v := (.bool (x15.2.2 == 0))) rfl rfl (v_move (oo rfl rfl)) ?_
        refine W.splitAt (t := 89) (b := (x15.2.2 == 0)) rfl (fun g200 gv201 => ?_) (fun g200 gv201 => ?_)
        ·have h202 := pos_inv g200 h198
         refine W.pure (v := (.string x15.1)) (gk rfl rfl gv201 rfl) rfl (v_move (oo rfl ((fr148 5 rfl).trans rfl))) ?_
         refine W.pure (v := (.string x186.1)) (gk rfl rfl gv201 rfl) rfl (v_move (oo rfl rfl)) ?_
         refine W.pure (v := (.bool (sEq x15.1 x186.1))) (gk rfl rfl gv201 rfl) rfl (vs_eql (oo rfl rfl) (oo rfl rfl)) ?_
         refine W.pure (v := (.bool (sEq x15.1 x186.1))) rfl rfl (v_pickT (oo rfl gv201) (oo rfl rfl)) ?_
         refine W.pure (v := (.bool (sEq x15.1 x186.1))) rfl rfl (v_move (oo rfl rfl)) ?_
         refine W.splitAt (t := 94) (b := sEq x15.1 x186.1) rfl (fun g203 gv204 => ?_) (fun g203 gv204 => ?_)
         ·have h205 := pos_inv g203 h202
          refine W.pure (v := (.string x15.2.1)) (gk rfl rfl gv204 rfl) rfl (v_move (oo rfl ((fr148 6 rfl).trans rfl))) ?_
          refine W.pure (v := (.string x186.2)) (gk rfl rfl gv204 rfl) rfl (v_move (oo rfl rfl)) ?_
          refine W.pure (v := (.bool (sEq x15.2.1 x186.2))) (gk rfl rfl gv204 rfl) rfl (vs_eql (oo rfl rfl) (oo rfl rfl)) ?_
          refine W.pure (v := (.bool (sEq x15.2.1 x186.2))) rfl rfl (v_pickT (oo rfl gv204) (oo rfl rfl)) ?_
          refine W.pure (v := (.bool (sEq x15.2.1 x186.2))) rfl rfl (v_assign (oo rfl rfl)) ?_
          refine .nil ?_
          obtain rfl := Option.some.inj h205
          exact ⟨sEq x15.2.1 x186.2, _, rfl, O190, (GM.le.refl _), rfl⟩
         ·have h206 := neg_b g203 h202
          refine W.skip (gk rfl rfl gv204 rfl) rfl ?_
          refine W.skip (gk rfl rfl gv204 rfl) rfl ?_
          refine W.skip (gk rfl rfl gv204 rfl) rfl ?_
          refine W.pure (v := (.bool false)) rfl rfl (v_pickF (oo rfl gv204) (oo rfl rfl)) ?_
          refine W.pure (v := (.bool false)) rfl rfl (v_assign (oo rfl rfl)) ?_
          refine .nil ?_
          obtain rfl := Option.some.inj h206
          exact ⟨false, _, rfl, O190, (GM.le.refl _), rfl⟩
        ·have h207 := neg_b g200 h198
         refine W.skip (gk rfl rfl gv201 rfl) rfl ?_
         refine W.skip (gk rfl rfl gv201 rfl) rfl ?_
         refine W.skip (gk rfl rfl gv201 rfl) rfl ?_
         refine W.pure (v := (.bool false)) rfl rfl (v_pickF (oo rfl gv201) (oo rfl rfl)) ?_
         refine W.pure (v := (.bool false)) rfl rfl (v_move (oo rfl rfl)) ?_
         refine W.skip (gk rfl rfl rfl rfl) rfl ?_
         refine W.skip (gk rfl rfl rfl rfl) rfl ?_
         refine W.skip (gk rfl rfl rfl rfl) rfl ?_
         refine W.pure (v := (.bool false)) rfl rfl (v_pickF (oo rfl rfl) (oo rfl rfl)) ?_
         refine W.pure (v := (.bool false)) rfl rfl (v_assign (oo rfl rfl)) ?_
         refine .nil ?_
         obtain rfl := Option.some.inj h207
         exact ⟨false, _, rfl, O190, (GM.le.refl _), rfl⟩
       ·rintro σ209 H210 fr211 ⟨x208, G212, rfl, O213, s214, t216⟩
        have h217 := tu1_inv h199
        refine .ret ?_
        have O218 : Ow G212 H210 (eSl v61 23 (rI .i64) [x37, x48] :: L) := O213.drop 0
        have O219 : Ow G212 H210 (L) := O218.drop 0
        obtain rfl := Option.some.inj h217
        refine ret1R (P := Tryd.prog) (fn := Tryd.f6) (n := 99) (R := fun v H' => ∃ G', Ow G' H' (L) ∧ G.le G' ∧ v = .bool x208) (v1 := (.bool x208)) (by rfl) (rr_tmp (by rfl) (by exact t216)) ?_
        exact ⟨_, O219, (GM.le.trans s6 (GM.le.trans s20 (GM.le.trans s31 (GM.le.trans s42 (GM.le.trans s53 (GM.le.trans s68 (GM.le.trans s116 (GM.le.trans s151 (GM.le.trans s191 s214))))))))), rfl⟩
structure Q where
 neg : Bool
 num : List Int
 den : List Int
 deriving DecidableEq, Inhabited
end Go.Am.Tryd
/- Typed functions with the same answers as the program's, and the walks that show it. -/
namespace Go.Am.Tryd
open Go Go.Am Go.Proofs
set_option linter.unusedVariables false
set_option linter.unusedSimpArgs false
set_option maxRecDepth 10000

end Go.Am.Tryd
/- Typed functions with the same answers as the program's, and the walks that show it. -/
namespace Go.Am.Tryd
open Go Go.Am Go.Proofs
set_option linter.unusedVariables false
set_option linter.unusedSimpArgs false
set_option maxRecDepth 10000

end Go.Am.Tryd
/- Typed functions with the same answers as the program's, and the walks that show it. -/
namespace Go.Am.Tryd
open Go Go.Am Go.Proofs
set_option linter.unusedVariables false
set_option linter.unusedSimpArgs false
set_option maxRecDepth 10000

end Go.Am.Tryd
/- Plain lemmas for typed functions: loops over lists, texts, whole numbers. -/
namespace Go.Am
open Go
set_option linter.unusedSimpArgs false
set_option linter.unusedVariables false

/-! ### Whole numbers -/
theorem kw {a : Int} (h1 : -9223372036854775808 ≤ a) (h2 : a ≤ 9223372036854775807) : kwrap .i64 a = a := kwrap_in (krange_i64 h1 h2)
theorem kw1 {i n : Nat} (h : i < n) (hn : n ≤ 4611686018427387904) : kwrap .i64 ((i : Int) + 1) = ((i + 1 : Nat) : Int) := by rw [kw (by omega) (by omega)]; omega
theorem idx_nat {α : Type} {xs : List α} {i : Nat} {x : α} (h : xs[i]? = some x) : idx xs (i : Int) = some x := by
  unfold idx
  rw [if_neg (by omega)]
  simpa using h
theorem lt_nat {i n : Nat} (h : i < n) : decide ((i : Int) < (n : Int)) = true := by simp; omega
theorem nlt_nat {i n : Nat} (h : n ≤ i) : decide ((i : Int) < (n : Int)) = false := by simp; omega

/-! ### Loops over a list that may end early -/
@[simp] theorem Sum.elim_ite {α β γ : Type} (f : α → γ) (g : β → γ) (c : Prop) [Decidable c] (x y : α ⊕ β) : Sum.elim f g (if c then x else y) = if c then Sum.elim f g x else Sum.elim f g y := by split <;> rfl
def runS {α S E : Type} (chk : α → S → E ⊕ S) : List α → S → E ⊕ S
  | [], s => .inr s
  | x :: xs, s => Sum.elim .inl (runS chk xs) (chk x s)
/-- A loop with a counter comes to what the list says. -/
theorem loop_sum {α S E : Type} (xs : List α) (l : Nat → S → Int → Option (E ⊕ S)) (chk : α → S → E ⊕ S) (I : S → Nat → Prop)
    (h : ∀ k s (i : Nat) x, xs[i]? = some x → I s i → l (k + 1) s i = Sum.elim (fun e => some (.inl e)) (fun s' => l k s' ((i + 1 : Nat) : Int)) (chk x s))
    (hI : ∀ s (i : Nat) x s', xs[i]? = some x → I s i → chk x s = .inr s' → I s' (i + 1))
    (h0 : ∀ k s (i : Nat), xs.length ≤ i → l (k + 1) s i = some (.inr s)) : ∀ d k s (i : Nat), xs.length - i = d → d < k → I s i → l k s i = some (runS chk (xs.drop i) s) := by
  intro d
  induction d with
  | zero =>
    intro k s i hd hk _
    obtain ⟨k, rfl⟩ : ∃ m, k = m + 1 := ⟨k - 1, by omega⟩
    rw [h0 k s i (by omega), List.drop_eq_nil_of_le (by omega)]; rfl
  | succ d ih =>
    intro k s i hd hk hi
    obtain ⟨k, rfl⟩ : ∃ m, k = m + 1 := ⟨k - 1, by omega⟩
    have hl : i < xs.length := by omega
    have hx : xs[i]? = some xs[i] := List.getElem?_eq_getElem hl
    rw [h k s i _ hx hi, List.drop_eq_getElem_cons hl, runS]
    cases hc : chk xs[i] s with
    | inl e => rfl
    | inr s' => exact ih k s' (i + 1) (by omega) (by omega) (hI s i _ s' hx hi hc)
theorem loop_sum0 {α S E : Type} (xs : List α) (l : Nat → S → Int → Option (E ⊕ S)) (chk : α → S → E ⊕ S) (I : S → Nat → Prop)
    (h : ∀ k s (i : Nat) x, xs[i]? = some x → I s i → l (k + 1) s i = Sum.elim (fun e => some (.inl e)) (fun s' => l k s' ((i + 1 : Nat) : Int)) (chk x s))
    (hI : ∀ s (i : Nat) x s', xs[i]? = some x → I s i → chk x s = .inr s' → I s' (i + 1))
    (h0 : ∀ k s (i : Nat), xs.length ≤ i → l (k + 1) s i = some (.inr s)) (k : Nat) (s : S) (hk : xs.length < k) (hi : I s 0) : l k s 0 = some (runS chk xs s) := by
  have := loop_sum xs l chk I h hI h0 xs.length k s 0 (by omega) hk hi
  simpa using this


/-! ### Texts -/
theorem sEq_iff {a b : ByteArray} : sEq a b = true ↔ a = b := by
  unfold sEq
  rw [beq_iff_eq, ByteArray.toList_eq, ByteArray.toList_eq]
  constructor
  · intro h
    cases a; cases b
    simp at h
    rw [h]
  · rintro rfl; rfl
theorem bytesOf_length (a : ByteArray) : (bytesOf a).length = a.size := by unfold bytesOf; rw [List.length_map, Array.length_toList]; rfl
theorem bidx_eq (a : ByteArray) (i : Int) : bidx a i = idx (bytesOf a) i := by
  unfold bidx idx
  by_cases h : 0 ≤ i
  · rw [if_pos h, if_neg (by omega)]
    unfold bytesOf
    rw [List.getElem?_map, Array.getElem?_toList]
    rfl
  · rw [if_neg h, if_pos (by omega)]
end Go.Am
/- Numbers: digits in a base, the least one first; decimal texts. Plain, no program. -/
namespace Go.Am
open Go
set_option linter.unusedSimpArgs false
set_option linter.unusedVariables false
/-! ### Digits, the least one first -/
def valB (B : Int) : List Int → Int
  | [] => 0
  | d :: l => d + B * valB B l
def DigB (B : Int) (l : List Int) : Prop := ∀ d ∈ l, 0 ≤ d ∧ d < B
theorem DigB.nil (B : Int) : DigB B [] := fun d h => by simp at h
theorem DigB.cons {B d : Int} {l : List Int} (h : DigB B (d :: l)) : (0 ≤ d ∧ d < B) ∧ DigB B l := ⟨h d (by simp), fun x hx => h x (by simp [hx])⟩
theorem DigB.app {B : Int} {l m : List Int} (h : DigB B l) (k : DigB B m) : DigB B (l ++ m) := fun d hd => by
  rcases List.mem_append.1 hd with hd | hd
  · exact h d hd
  · exact k d hd
theorem valB_app (B : Int) : ∀ (l m : List Int), valB B (l ++ m) = valB B l + B ^ l.length * valB B m
  | [], m => by simp [valB]
  | d :: l, m => by
    simp only [List.cons_append, valB, valB_app B l m, List.length_cons, Int.pow_succ]
    rw [Int.mul_add, ← Int.mul_assoc, Int.mul_comm B (B ^ l.length), Int.add_assoc]
theorem valB_nonneg {B : Int} (hB : 0 < B) : ∀ (l : List Int), DigB B l → 0 ≤ valB B l
  | [], _ => Int.le_refl _
  | d :: l, h => by
    have h1 := (h.cons).1
    have h2 := valB_nonneg hB l h.cons.2
    have := Int.mul_nonneg (Int.le_of_lt hB) h2
    simp only [valB]; omega
theorem valB_lt {B : Int} (hB : 0 < B) : ∀ (l : List Int), DigB B l → valB B l < B ^ l.length
  | [], _ => by simp [valB]
  | d :: l, h => by
    have h1 := (h.cons).1
    have h2 := valB_lt hB l h.cons.2
    have h3 : B * (valB B l + 1) ≤ B * B ^ l.length := Int.mul_le_mul_of_nonneg_left (by omega) (Int.le_of_lt hB)
    rw [Int.mul_add, Int.mul_one] at h3
    simp only [valB, List.length_cons, Int.pow_succ]
    rw [Int.mul_comm (B ^ l.length) B]
    omega
/-- Without a leading nought. -/
def CanB (B : Int) (l : List Int) : Prop := DigB B l ∧ l.getLast? ≠ some 0
theorem CanB.tail {B d : Int} {l : List Int} (h : CanB B (d :: l)) : CanB B l := by
  refine ⟨h.1.cons.2, fun e => h.2 ?_⟩
  cases l with
  | nil => simp at e
  | cons x l => rw [List.getLast?_cons_cons]; exact e
theorem valB_pos {B : Int} (hB : 1 < B) : ∀ (l : List Int), CanB B l → l ≠ [] → 0 < valB B l
  | [], _, h => absurd rfl h
  | d :: l, h, _ => by
    have h1 := h.1.cons.1
    cases l with
    | nil =>
      have : d ≠ 0 := fun e => h.2 (by simp [e])
      simp only [valB]; omega
    | cons x l =>
      have h2 := valB_pos hB (x :: l) h.tail (by simp)
      have h3 : B * 1 ≤ B * valB B (x :: l) := Int.mul_le_mul_of_nonneg_left (by omega) (by omega)
      simp only [valB] at h2 h3 ⊢; omega
theorem digit_eq {B d e x y : Int} (hd : 0 ≤ d ∧ d < B) (he : 0 ≤ e ∧ e < B) (h : d + B * x = e + B * y) : d = e ∧ x = y := by
  have h1 : x = y := by
    rcases Int.lt_trichotomy x y with h2 | h2 | h2
    · have : B * (x + 1) ≤ B * y := Int.mul_le_mul_of_nonneg_left (by omega) (by omega)
      rw [Int.mul_add, Int.mul_one] at this; omega
    · exact h2
    · have : B * (y + 1) ≤ B * x := Int.mul_le_mul_of_nonneg_left (by omega) (by omega)
      rw [Int.mul_add, Int.mul_one] at this; omega
  subst h1
  exact ⟨by omega, rfl⟩
/-- The digits of a number are given by it. -/
theorem can_eq {B : Int} (hB : 1 < B) : ∀ (l m : List Int), CanB B l → CanB B m → valB B l = valB B m → l = m
  | [], [], _, _, _ => rfl
  | [], e :: m, _, h2, h => by
    have := valB_pos hB (e :: m) h2 (by simp)
    rw [← h] at this; simp [valB] at this
  | d :: l, [], h1, _, h => by
    have := valB_pos hB (d :: l) h1 (by simp)
    rw [h] at this; simp [valB] at this
  | d :: l, e :: m, h1, h2, h => by
    obtain ⟨rfl, h3⟩ := digit_eq h1.1.cons.1 h2.1.cons.1 h
    rw [can_eq hB l m h1.tail h2.tail h3]
/-! ### Decimal texts -/
def digT (c : Int) : Bool := decide (48 ≤ c) && decide (c ≤ 57)
/-- The digits of a text, the least one first. -/
def digsT (s : ByteArray) : List Int := ((bytesOf s).map (· - 48)).reverse
def numT (s : ByteArray) : Int := valB 10 (digsT s)
/-- A text is a canonical number. -/
def CanT (s : ByteArray) : Prop := s.size ≠ 0 ∧ (bytesOf s).all digT = true ∧ ((bytesOf s).head? = some 48 → s.size = 1)
theorem bytesOf_inj {a b : ByteArray} (h : bytesOf a = bytesOf b) : a = b := by
  unfold bytesOf at h
  have h1 : a.data.toList = b.data.toList := by
    have : Function.Injective fun b : UInt8 => (b.toNat : Int) := fun x y h => by
      have : x.toNat = y.toNat := by have h' : (x.toNat : Int) = (y.toNat : Int) := h; omega
      exact UInt8.toNat_inj.1 this
    exact List.map_inj_right (fun x y h => this h) |>.1 h
  cases a; cases b
  congr 1
  exact Array.toList_inj.1 h1
theorem digsT_dig {s : ByteArray} (h : (bytesOf s).all digT = true) : DigB 10 (digsT s) := by
  intro d hd
  unfold digsT at hd
  rw [List.mem_reverse, List.mem_map] at hd
  obtain ⟨c, hc, rfl⟩ := hd
  have := List.all_eq_true.1 h c hc
  simp only [digT, Bool.and_eq_true, decide_eq_true_eq] at this
  omega
theorem digsT_len (s : ByteArray) : (digsT s).length = s.size := by
  unfold digsT
  rw [List.length_reverse, List.length_map, bytesOf_length]
theorem digsT_inj {a b : ByteArray} (h : digsT a = digsT b) : a = b := by
  unfold digsT at h
  have h1 := List.reverse_inj.1 h
  exact bytesOf_inj (List.map_inj_right (fun x y h => by omega) |>.1 h1)
theorem canT_nought {s : ByteArray} (h : CanT s) (h0 : (bytesOf s).head? = some 48) : digsT s = [0] := by
  have h1 := h.2.2 h0
  have hl := bytesOf_length s
  rw [h1] at hl
  match hb : bytesOf s, hl with
  | [c], _ => rw [hb] at h0; simp at h0; subst h0; simp [digsT, hb]
theorem canT_can {s : ByteArray} (h : CanT s) (h0 : (bytesOf s).head? ≠ some 48) : CanB 10 (digsT s) := by
  refine ⟨digsT_dig h.2.1, fun e => h0 ?_⟩
  unfold digsT at e
  rw [List.getLast?_reverse, List.head?_map] at e
  cases hb : (bytesOf s).head? with
  | none => rw [hb] at e; cases e
  | some c => rw [hb] at e; simp at e; congr 1; omega
/-- A number has one canonical text. -/
theorem numT_inj {a b : ByteArray} (ha : CanT a) (hb : CanT b) (h : numT a = numT b) : a = b := by
  have pos : ∀ s : ByteArray, CanT s → (bytesOf s).head? ≠ some 48 → 0 < numT s := fun s hs h0 => valB_pos (by omega) _ (canT_can hs h0) (fun e => by
    have := digsT_len s
    rw [e] at this
    exact hs.1 this.symm)
  by_cases h1 : (bytesOf a).head? = some 48 <;> by_cases h2 : (bytesOf b).head? = some 48
  · exact digsT_inj (by rw [canT_nought ha h1, canT_nought hb h2])
  · have := pos b hb h2
    unfold numT at h this
    rw [canT_nought ha h1] at h
    simp [valB] at h; omega
  · have := pos a ha h1
    unfold numT at h this
    rw [canT_nought hb h2] at h
    simp [valB] at h; omega
  · exact digsT_inj (can_eq (by omega) _ _ (canT_can ha h1) (canT_can hb h2) h)
/-! ### Parts of texts -/
theorem bytesOf_extract (a : ByteArray) (i j : Nat) : bytesOf (a.extract i j) = ((bytesOf a).drop i).take (j - i) := by
  unfold bytesOf
  rw [ByteArray.data_extract, Array.toList_extract]
  simp [List.extract, List.map_drop, List.map_take]
theorem bytesOf_append (a b : ByteArray) : bytesOf (a ++ b) = bytesOf a ++ bytesOf b := by
  unfold bytesOf
  rw [ByteArray.data_append, Array.toList_append, List.map_append]
theorem bytesOf_str (xs : List Int) (h : ∀ x ∈ xs, 0 ≤ x ∧ x ≤ 255) : bytesOf (strOfNums xs) = xs := by
  unfold bytesOf
  rw [strOfNums_data, List.map_map]
  conv => rhs; rw [← List.map_id xs]
  apply List.map_congr_left
  intro x hx
  have := h x hx
  show ((UInt8.ofNat x.toNat).toNat : Int) = x
  rw [UInt8.toNat_ofNat']
  omega
theorem ssl_tail {s : ByteArray} {c : Int} {l : List Int} (h : bytesOf s = c :: l) : ∃ t, ssl s 1 (s.size : Int) = some t ∧ bytesOf t = l ∧ t.size = l.length := by
  have hn := bytesOf_length s
  rw [h] at hn
  simp at hn
  refine ⟨s.extract 1 s.size, ?_, ?_, ?_⟩
  · unfold ssl
    rw [if_pos (by omega)]
    simp
  · rw [bytesOf_extract, h]
    simp
    exact List.take_of_length_le (by omega)
  · rw [← bytesOf_length, bytesOf_extract, h]
    simp
    omega
theorem numT_cons {s t : ByteArray} {c : Int} (h : bytesOf s = c :: bytesOf t) : numT s = numT t + 10 ^ t.size * (c - 48) := by
  unfold numT digsT
  rw [h, List.map_cons, List.reverse_cons, valB_app]
  simp [valB, bytesOf_length]
end Go.Am
/- Graphs: connected parts, their numbers, closure of a matrix, ways. Plain, no program. -/
namespace Go.Am
open Go
set_option linter.unusedVariables false
set_option linter.unusedSimpArgs false
def Edg (l : List (Int × Int)) (U : Nat → Bool) (a b : Nat) : Prop := ∃ k, k < l.length ∧ U k = true ∧ (l.getD k (0, 0) = ((a : Int), (b : Int)) ∨ l.getD k (0, 0) = ((b : Int), (a : Int)))
inductive Con (l : List (Int × Int)) (U : Nat → Bool) : Nat → Nat → Prop
  | refl (a : Nat) : Con l U a a
  | tail {a b c : Nat} : Con l U a b → Edg l U b c → Con l U a c
structure Outer (l : List (Int × Int)) (U : Nat → Bool) (n : Nat) (cs : List Int) (m s : Nat) : Prop where
  len : cs.length = n
  rng : ∀ i < n, -1 ≤ cs.getD i 0 ∧ cs.getD i 0 < m
  done : ∀ i < s, i < n → 0 ≤ cs.getD i 0
  cls : ∀ i j, i < n → j < n → 0 ≤ cs.getD i 0 → (cs.getD i 0 = cs.getD j 0 ↔ Con l U i j)
  last : 0 < m → ∃ j < s, j < n ∧ cs.getD j 0 = (m : Int) - 1
  rgs : ∀ i < n, 0 < cs.getD i 0 → ∃ j < i, cs.getD j 0 = cs.getD i 0 - 1
  few : m ≤ s
structure Mid (l : List (Int × Int)) (U : Nat → Bool) (n : Nat) (base : List Int) (m s : Nat) (cs : List Int) : Prop where
  len : cs.length = n
  own : ∀ i < n, (cs.getD i 0 = m ∧ base.getD i 0 = -1 ∧ Con l U s i) ∨ cs.getD i 0 = base.getD i 0
  start : cs.getD s 0 = m
theorem getD_set {cs : List Int} {i j : Nat} {v : Int} (hi : i < cs.length) : (cs.set i v).getD j 0 = if j = i then v else cs.getD j 0 := by
  rw [List.getD_eq_getElem?_getD, List.getElem?_set]
  by_cases h : i = j
  · subst h; simp [hi]
  · rw [if_neg h, if_neg (fun e => h e.symm), List.getD_eq_getElem?_getD]
theorem Edg.symm {l : List (Int × Int)} {U : Nat → Bool} {a b : Nat} (h : Edg l U a b) : Edg l U b a := by
  obtain ⟨k, h1, h2, h3⟩ := h
  exact ⟨k, h1, h2, h3.symm⟩
theorem Con.trans {l : List (Int × Int)} {U : Nat → Bool} {a b c : Nat} (h : Con l U a b) (k : Con l U b c) : Con l U a c := by
  induction k with
  | refl => exact h
  | tail _ e ih => exact .tail ih e
theorem Con.symm {l : List (Int × Int)} {U : Nat → Bool} {a b : Nat} (h : Con l U a b) : Con l U b a := by
  induction h with
  | refl => exact .refl _
  | tail _ e ih => exact (Con.tail (.refl _) e.symm).trans ih
structure EqvOn (M : Nat → Nat → Bool) (n : Nat) : Prop where
  refl : ∀ a < n, M a a = true
  symm : ∀ a b, a < n → b < n → M a b = true → M b a = true
  trans : ∀ a b c, a < n → b < n → c < n → M a b = true → M b c = true → M a c = true
structure NumOk (M : Nat → Nat → Bool) (cs : List Int) (m i : Nat) : Prop where
  len : cs.length = i
  rng : ∀ a < i, 0 ≤ cs.getD a 0 ∧ cs.getD a 0 < m
  cls : ∀ a b, a < i → b < i → (cs.getD a 0 = cs.getD b 0 ↔ M a b = true)
  last : 0 < m → ∃ a < i, cs.getD a 0 = (m : Int) - 1
  rgs : ∀ a < i, 0 < cs.getD a 0 → ∃ b < a, cs.getD b 0 = cs.getD a 0 - 1
  few : m ≤ i
structure WOk (l : List (Int × Int)) (U : Nat → Bool) (n : Nat) (M : Nat → Nat → Bool) (m : Nat) : Prop where
  sound : ∀ a b, a < n → b < n → M a b = true → Con l U a b
  refl : ∀ a < n, M a a = true
  edge : ∀ a b, a < n → b < n → Edg l U a b → M a b = true
  tr : ∀ c < m, ∀ a b, a < n → b < n → M a c = true → M c b = true → M a b = true
/-- There is a walk of exactly k used lines from v to 'to'. -/
def Wk (l : List (Int × Int)) (U : Nat → Bool) (to : Nat) : Nat → Nat → Prop
  | 0, v => v = to
  | k + 1, v => ∃ w, Edg l U v w ∧ Wk l U to k w
structure FarOk (l : List (Int × Int)) (U : Nat → Bool) (n to : Nat) (fs : List Int) (d : Nat) : Prop where
  len : fs.length = n
  rng : ∀ v < n, -1 ≤ fs.getD v 0
  fnd : ∀ v < n, ∀ k : Nat, fs.getD v 0 = k → k ≤ d ∧ Wk l U to k v ∧ ∀ j < k, ¬ Wk l U to j v
  nof : ∀ v < n, fs.getD v 0 = -1 → ∀ j ≤ d, ¬ Wk l U to j v
/-- In the midst of a round: 'fs' the distances at its start, 'gs' now. -/
structure Rnd (l : List (Int × Int)) (U : Nat → Bool) (n to : Nat) (fs gs : List Int) (d : Nat) : Prop where
  len : gs.length = n
  old : ∀ v < n, gs.getD v 0 = fs.getD v 0 ∨ (fs.getD v 0 = -1 ∧ gs.getD v 0 = (d : Int) + 1 ∧ Wk l U to (d + 1) v)
def neg (n : Nat) (fs : List Int) : Nat := ((List.range n).filter fun v => fs.getD v 0 == -1).length
/-! ### Loops -/
theorem loop_inv {S R : Type} (n : Nat) (l : Nat → S → Int → Option R) (I : S → Nat → Prop) (Q : R → Prop)
    (h : ∀ k s (i : Nat), i < n → I s i → (∃ r, l (k + 1) s (i : Int) = some r ∧ Q r) ∨ ∃ s', I s' (i + 1) ∧ l (k + 1) s (i : Int) = l k s' ((i + 1 : Nat) : Int))
    (h0 : ∀ k s (i : Nat), i = n → I s i → ∃ r, l (k + 1) s (i : Int) = some r ∧ Q r) : ∀ k s, n < k → I s 0 → ∃ r, l k s 0 = some r ∧ Q r := by
  have key : ∀ d k s (i : Nat), n - i = d → i ≤ n → d < k → I s i → ∃ r, l k s (i : Int) = some r ∧ Q r := by
    intro d
    induction d with
    | zero =>
      intro k s i hd hi hk hI
      obtain ⟨k, rfl⟩ : ∃ m, k = m + 1 := ⟨k - 1, by omega⟩
      exact h0 k s i (by omega) hI
    | succ d ih =>
      intro k s i hd hi hk hI
      obtain ⟨k, rfl⟩ : ∃ m, k = m + 1 := ⟨k - 1, by omega⟩
      rcases h k s i (by omega) hI with h1 | ⟨s', h1, h2⟩
      · exact h1
      · rw [h2]; exact ih k s' (i + 1) (by omega) (by omega) (by omega) h1
  intro k s hk hI
  exact key n k s 0 (by omega) (Nat.zero_le _) hk hI
theorem loop_wf {S R : Type} (l : Nat → S → Option R) (I : S → Prop) (mu : S → Nat) (Q : R → Prop)
    (h : ∀ k s, I s → (∃ r, l (k + 1) s = some r ∧ Q r) ∨ ∃ s', I s' ∧ mu s' < mu s ∧ l (k + 1) s = l k s') : ∀ k s, mu s < k → I s → ∃ r, l k s = some r ∧ Q r := by
  intro k
  induction k with
  | zero => intro s h1; omega
  | succ k ih =>
    intro s h1 hI
    rcases h k s hI with h2 | ⟨s', h2, h3, h4⟩
    · exact h2
    · rw [h4]; exact ih s' (by omega) h2
/-! ### Lines as rows of two numbers -/
def two (p : Int × Int) : List Int := [p.1, p.2]
theorem idx_getD {cs : List Int} {a : Nat} (h : a < cs.length) : idx cs (a : Int) = some (cs.getD a 0) := by
  apply idx_nat
  simp [h, List.getD_eq_getElem?_getD]
/-! ### Ways, once more -/
end Go.Am
/- Plain lemmas: rules for typed functions over whole numbers; digits set in place; the guess of a digit of a quotient. -/
namespace Go.Am
open Go
set_option linter.unusedSimpArgs false
set_option linter.unusedVariables false
/-! ### Rules -/
theorem bsome {α β : Type} (a : α) (f : α → Option β) : Option.bind (some a) f = f a := (rfl)
theorem tu0a {β : Type} (g : Option β) (u : Unit) : tu0 g u = g := (rfl)
theorem tu1a {α β : Type} (g : α → Option β) (a : α) : tu1 g a = g a := (rfl)
theorem tu2a {α1 α2 β : Type} (g : α1 → α2 → Option β) (p : α1 × α2) : tu2 g p = g p.1 p.2 := (rfl)
theorem tu3a {α1 α2 α3 β : Type} (g : α1 → α2 → α3 → Option β) (p : α1 × α2 × α3) : tu3 g p = g p.1 p.2.1 p.2.2 := (rfl)
theorem tu4a {α1 α2 α3 α4 β : Type} (g : α1 → α2 → α3 → α4 → Option β) (p : α1 × α2 × α3 × α4) : tu4 g p = g p.1 p.2.1 p.2.2.1 p.2.2.2 := (rfl)
theorem tu5a {α1 α2 α3 α4 α5 β : Type} (g : α1 → α2 → α3 → α4 → α5 → Option β) (p : α1 × α2 × α3 × α4 × α5) : tu5 g p = g p.1 p.2.1 p.2.2.1 p.2.2.2.1 p.2.2.2.2 := (rfl)
theorem lta {α β : Type} (x : α) (f : α → Option β) : lt x f = f x := (rfl)
theorem bindSl {α β γ : Type} (a : α) (f : α → Option γ) (g : β → Option γ) : bindS (some (.inl a)) f g = f a := (rfl)
theorem bindSr {α β γ : Type} (b : β) (f : α → Option γ) (g : β → Option γ) : bindS (some (.inr b)) f g = g b := (rfl)
theorem outSl {α β γ : Type} (a : α) (f : α → Option γ) (g : β → Option γ) : outS (.inl a) f g = f a := (rfl)
theorem outSr {α β γ : Type} (b : β) (f : α → Option γ) (g : β → Option γ) : outS (.inr b) f g = g b := (rfl)
theorem beq_iff {α : Type} [BEq α] [LawfulBEq α] {a b : α} : ((a == b) = true) = (a = b) := propext beq_iff_eq
theorem bne_iff {a b : Int} : ((a != b) = true) = (a ≠ b) := by simp
theorem k64 {a : Int} (h1 : -9223372036854775808 ≤ a) (h2 : a ≤ 9223372036854775807) : kwrap .i64 a = a := kw h1 h2
theorem ku64 {a : Int} (h1 : 0 ≤ a) (h2 : a ≤ 18446744073709551615) : kwrap .u64 a = a := kwrap_in (by simp [krange]; omega)
theorem ku32 {a : Int} (h1 : 0 ≤ a) (h2 : a ≤ 4294967295) : kwrap .u32 a = a := kwrap_in (by simp [krange]; omega)
theorem ku8 {a : Int} (h1 : 0 ≤ a) (h2 : a ≤ 255) : kwrap .u8 a = a := kwrap_in (by simp [krange]; omega)
theorem i64w {a : Int} (h1 : -9223372036854775808 ≤ a) (h2 : a ≤ 9223372036854775807) : IntKind.wrap .i64 a = a := by rw [← kwrap_eq]; exact k64 h1 h2
theorem u64w {a : Int} (h1 : 0 ≤ a) (h2 : a ≤ 18446744073709551615) : IntKind.wrap .u64 a = a := by rw [← kwrap_eq]; exact ku64 h1 h2
theorem u32w {a : Int} (h1 : 0 ≤ a) (h2 : a ≤ 4294967295) : IntKind.wrap .u32 a = a := by rw [← kwrap_eq]; exact ku32 h1 h2
theorem u8w {a : Int} (h1 : 0 ≤ a) (h2 : a ≤ 255) : IntKind.wrap .u8 a = a := by rw [← kwrap_eq]; exact ku8 h1 h2
theorem idxI {xs : List Int} {j : Int} (h1 : 0 ≤ j) (h2 : j < (xs.length : Int)) : idx xs j = some (xs.getD j.toNat 0) := by
  unfold idx
  rw [if_neg (by omega), List.getD_eq_getElem?_getD, List.getElem?_eq_getElem (by omega)]
  rfl
theorem bidxI {s : ByteArray} {j : Int} (h1 : 0 ≤ j) (h2 : j < (s.size : Int)) : bidx s j = some ((bytesOf s).getD j.toNat 0) := by
  rw [bidx_eq]; exact idxI h1 (by rw [bytesOf_length]; exact h2)
theorem lslI {α : Type} {xs : List α} {l h : Int} (h1 : 0 ≤ l) (h2 : l ≤ h) (h3 : h ≤ (xs.length : Int)) : lsl xs l h = some ((xs.drop l.toNat).take (h.toNat - l.toNat)) := by unfold lsl; rw [if_pos ⟨h1, h2, h3⟩]
theorem sslI {s : ByteArray} {l h : Int} (h1 : 0 ≤ l) (h2 : l ≤ h) (h3 : h ≤ (s.size : Int)) : ssl s l h = some (s.extract l.toNat h.toNat) := by unfold ssl; rw [if_pos ⟨h1, h2, h3⟩]
theorem tdivI {a b : Int} (h : 0 ≤ a) : Int.tdiv a b = a / b := Int.tdiv_eq_ediv_of_nonneg h
theorem tmodI {a b : Int} (h : 0 ≤ a) : Int.tmod a b = a % b := Int.tmod_eq_emod_of_nonneg h
/-- A loop: it ends here with what is wanted, or one step keeps the invariant and comes nearer. -/
theorem loopW {S R : Type} (l : Nat → S → Option R) (I : S → Prop) (mu : S → Nat) (Q : R → Prop)
    (h : ∀ k s, I s → (∃ r, l (k + 1) s = some r ∧ Q r) ∨ ∃ s', l (k + 1) s = l k s' ∧ mu s' < mu s ∧ I s') {k : Nat} (s : S) (hk : mu s < k) (hI : I s) : ∃ r, l k s = some r ∧ Q r :=
  loop_wf l I mu Q (fun k s hs => (h k s hs).imp id fun ⟨s', a, b, c⟩ => ⟨s', c, b, a⟩) k s hk hI
/-! ### Digits set in place -/
theorem getD_dig {B : Int} (hB : 0 < B) {x : List Int} (h : DigB B x) (k : Nat) : 0 ≤ x.getD k 0 ∧ x.getD k 0 < B := by
  by_cases hk : k < x.length
  · rw [List.getD_eq_getElem?_getD, List.getElem?_eq_getElem hk]; exact h _ (List.getElem_mem hk)
  · rw [List.getD_eq_getElem?_getD, List.getElem?_eq_none (by omega)]; exact ⟨Int.le_refl _, hB⟩
theorem valB_set (B : Int) : ∀ (l : List Int) (p : Nat) (d : Int), p < l.length → valB B (l.set p d) = valB B l + B ^ p * (d - l.getD p 0)
  | [], p, d, h => by simp at h
  | x :: l, 0, d, _ => by simp [valB]; omega
  | x :: l, p + 1, d, h => by
    have := valB_set B l p d (by simpa using h)
    simp only [List.set_cons_succ, valB, this, List.getD_cons_succ, Int.pow_succ]
    grind
theorem DigB.set {B d : Int} {l : List Int} (h : DigB B l) (p : Nat) (hd : 0 ≤ d ∧ d < B) : DigB B (l.set p d) := fun x hx => by
  rcases List.mem_or_eq_of_mem_set hx with h1 | h1
  · exact h x h1
  · subst h1; exact hd
theorem DigB.take {B : Int} {l : List Int} (h : DigB B l) (k : Nat) : DigB B (l.take k) := fun x hx => h x (List.mem_of_mem_take hx)
theorem DigB.drop {B : Int} {l : List Int} (h : DigB B l) (k : Nat) : DigB B (l.drop k) := fun x hx => h x (List.mem_of_mem_drop hx)
theorem DigB.snoc {B d : Int} {l : List Int} (h : DigB B l) (hd : 0 ≤ d ∧ d < B) : DigB B (l ++ [d]) := h.app fun x hx => by simp at hx; omega
theorem valB_split (B : Int) (l : List Int) (k : Nat) (hk : k ≤ l.length) : valB B l = valB B (l.take k) + B ^ k * valB B (l.drop k) := by
  conv => lhs; rw [← List.take_append_drop k l]
  rw [valB_app, List.length_take, Nat.min_eq_left hk]
theorem valB_zeros (B : Int) (n : Nat) : valB B (List.replicate n 0) = 0 := by
  induction n with
  | zero => rfl
  | succ n ih => simp [List.replicate_succ, valB, ih]
theorem DigB.zeros {B : Int} (hB : 0 < B) (n : Nat) : DigB B (List.replicate n 0) := fun x hx => by
  rw [List.mem_replicate] at hx; omega
theorem valB_take (B : Int) (x : List Int) (k : Nat) : valB B (x.take (k + 1)) = valB B (x.take k) + B ^ k * x.getD k 0 := by
  by_cases h : k < x.length
  · have hx : x[k]? = some x[k] := List.getElem?_eq_getElem h
    rw [List.take_add_one, hx, valB_app, List.length_take, Nat.min_eq_left (by omega), List.getD_eq_getElem?_getD, hx]
    simp [valB]
  · rw [List.take_of_length_le (by omega), List.take_of_length_le (by omega), List.getD_eq_getElem?_getD, List.getElem?_eq_none (by omega)]
    simp
theorem valB_snoc (B : Int) (x : List Int) (d : Int) : valB B (x ++ [d]) = valB B x + B ^ x.length * d := by rw [valB_app]; simp [valB]
theorem last_split (l : List Int) (h : l ≠ []) : ∃ r d, l = r ++ [d] := by
  rcases List.eq_nil_or_concat l with rfl | ⟨r, d, rfl⟩
  · exact absurd rfl h
  · exact ⟨r, d, by simp⟩
theorem can_ge {B : Int} (hB : 1 < B) {l : List Int} (h : CanB B l) (h0 : l ≠ []) : B ^ (l.length - 1) ≤ valB B l := by
  obtain ⟨r, d, rfl⟩ := last_split l h0
  have hd : d ≠ 0 := fun e => h.2 (by simp [e])
  have hd2 := h.1 d (by simp)
  have hr := valB_nonneg (B := B) (by omega) r (fun x hx => h.1 x (by simp [hx]))
  have e : (r ++ [d]).length - 1 = r.length := by simp
  rw [valB_snoc, e]
  have h1 : B ^ r.length * 1 ≤ B ^ r.length * d := Int.mul_le_mul_of_nonneg_left (by omega) (Int.le_of_lt (Int.pow_pos (by omega)))
  omega
theorem ipow_le {B : Int} (hB : 0 < B) {i j : Nat} (h : i ≤ j) : B ^ i ≤ B ^ j := by
  obtain ⟨m, rfl⟩ : ∃ m, j = i + m := ⟨j - i, by omega⟩
  rw [Int.pow_add]
  have p1 : 0 < B ^ m := Int.pow_pos hB
  have p2 : 0 < B ^ i := Int.pow_pos hB
  have := Int.mul_le_mul_of_nonneg_left (show 1 ≤ B ^ m by omega) (Int.le_of_lt p2)
  omega
/-- Fewer digits, a smaller number. -/
theorem can_len {B : Int} (hB : 1 < B) {l m : List Int} (h : DigB B l) (hm : CanB B m) (hl : l.length < m.length) : valB B l < valB B m := by
  have h1 := valB_lt (B := B) (by omega) l h
  have h2 := can_ge hB hm (by intro e; subst e; simp at hl)
  have h3 : B ^ l.length ≤ B ^ (m.length - 1) := by
    obtain ⟨j, hj⟩ : ∃ j, m.length - 1 = l.length + j := ⟨m.length - 1 - l.length, by omega⟩
    rw [hj, Int.pow_add]
    have p1 : 0 < B ^ j := Int.pow_pos (by omega)
    have p2 : 0 < B ^ l.length := Int.pow_pos (by omega)
    have := Int.mul_le_mul_of_nonneg_left (show 1 ≤ B ^ j by omega) (Int.le_of_lt p2)
    omega
  omega
/-- A number with as many digits at most. -/
theorem can_len_le {B : Int} (hB : 1 < B) {l m : List Int} (h : CanB B l) (hm : DigB B m) (hv : valB B l ≤ valB B m) : l.length ≤ m.length := by
  refine Nat.not_lt.1 fun hl => ?_
  have := can_len hB hm h hl
  omega
theorem mul_le {a b c : Int} (hc : 0 ≤ c) (h : a ≤ b) : c * a ≤ c * b := Int.mul_le_mul_of_nonneg_left h hc
theorem mul_nn {a b : Int} (ha : 0 ≤ a) (hb : 0 ≤ b) : 0 ≤ a * b := Int.mul_nonneg ha hb
/-! ### The guess of a digit of a quotient -/
/-- The leading digits of a divisor and of what is divided; q is the true digit. -/
structure Kn (B P v1 v2 vl top u3 ul q : Int) : Prop where
  B1 : 1 < B
  P0 : 0 < P
  v1p : 1 ≤ v1
  v2p : 0 ≤ v2
  v2b : v2 < B
  vlp : 0 ≤ vl
  vlb : vl < P
  tp : 0 ≤ top
  u3p : 0 ≤ u3
  u3b : u3 < B
  ulp : 0 ≤ ul
  ulb : ul < P
  q0 : 0 ≤ q
  qB : q < B
  lo : q * (P * (B * v1 + v2) + vl) ≤ P * (B * top + u3) + ul
  hi : P * (B * top + u3) + ul < (q + 1) * (P * (B * v1 + v2) + vl)
section
variable {B P v1 v2 vl top u3 ul q g r : Int}
theorem Kn.first (h : Kn B P v1 v2 vl top u3 ul q) : q ≤ top / v1 := by
  obtain ⟨B1, P0, v1p, v2p, v2b, vlp, vlb, tp, u3p, u3b, ulp, ulb, q0, qB, lo, hi⟩ := h
  rw [Int.le_ediv_iff_mul_le (by omega)]
  refine Int.le_of_lt_add_one (Int.not_le.1 fun hc => ?_)
  have a1 := mul_le (Int.le_of_lt (Int.mul_pos P0 (show 0 < B by omega))) hc
  have a2 := mul_nn (Int.le_of_lt P0) (mul_nn q0 v2p)
  have a3 := mul_nn q0 vlp
  have a4 := mul_le (Int.le_of_lt P0) (show u3 ≤ B - 1 by omega)
  grind
theorem Kn.down (h : Kn B P v1 v2 vl top u3 ul q) (hr : top = g * v1 + r) (hg : 0 ≤ g) (hc : g * v2 > r * B + u3) : q < g := by
  obtain ⟨B1, P0, v1p, v2p, v2b, vlp, vlb, tp, u3p, u3b, ulp, ulb, q0, qB, lo, hi⟩ := h
  refine Int.not_le.1 fun hq => ?_
  have hV : 0 ≤ P * (B * v1 + v2) + vl := by
    have := mul_nn (Int.le_of_lt P0) (show 0 ≤ B * v1 + v2 from by have := mul_nn (show 0 ≤ B by omega) (show 0 ≤ v1 by omega); omega)
    omega
  have a1 := mul_le hV hq
  have a2 := mul_le (Int.le_of_lt P0) (show r * B + u3 + 1 ≤ g * v2 by omega)
  have a3 := mul_nn hg vlp
  subst hr
  grind
theorem Kn.exitA (h : Kn B P v1 v2 vl top u3 ul q) (hr : top = g * v1 + r) (hg : 0 ≤ g) (hB : g < B) (hc : g * v2 ≤ r * B + u3) : g ≤ q + 1 := by
  obtain ⟨B1, P0, v1p, v2p, v2b, vlp, vlb, tp, u3p, u3b, ulp, ulb, q0, qB, lo, hi⟩ := h
  refine Int.not_lt.1 fun hq => ?_
  have hV : 0 ≤ P * (B * v1 + v2) + vl := by
    have := mul_nn (Int.le_of_lt P0) (show 0 ≤ B * v1 + v2 from by have := mul_nn (show 0 ≤ B by omega) (show 0 ≤ v1 by omega); omega)
    omega
  have a1 := mul_le hV (show q + 1 ≤ g - 1 by omega)
  have a2 := mul_le (Int.le_of_lt P0) hc
  have a3 := mul_le hg (show vl ≤ P - 1 by omega)
  have a4 := mul_le (Int.le_of_lt P0) (show g ≤ B - 1 by omega)
  have a5 := mul_le (Int.le_of_lt (Int.mul_pos P0 (show 0 < B by omega))) v1p
  have a6 := mul_nn (Int.le_of_lt P0) v2p
  subst hr
  grind
theorem Kn.exitB (h : Kn B P v1 v2 vl top u3 ul q) (hr : top = g * v1 + r) (hg : 0 ≤ g) (hB : g ≤ B) (hc : B ≤ r) : g ≤ q := by
  obtain ⟨B1, P0, v1p, v2p, v2b, vlp, vlb, tp, u3p, u3b, ulp, ulb, q0, qB, lo, hi⟩ := h
  refine Int.not_lt.1 fun hq => ?_
  have hV : 0 ≤ P * (B * v1 + v2) + vl := by
    have := mul_nn (Int.le_of_lt P0) (show 0 ≤ B * v1 + v2 from by have := mul_nn (show 0 ≤ B by omega) (show 0 ≤ v1 by omega); omega)
    omega
  have a1 := mul_le hV (show q + 1 ≤ g by omega)
  have hPg := mul_nn (Int.le_of_lt P0) hg
  have a2 := mul_le hPg (show v2 ≤ B - 1 by omega)
  have a3 := mul_le hg (show vl ≤ P - 1 by omega)
  have a4 := mul_le (Int.le_of_lt (Int.mul_pos P0 (show 0 < B by omega))) (show g ≤ r by omega)
  have a6 := mul_nn (Int.le_of_lt P0) u3p
  subst hr
  grind
end
end Go.Am
