/- Typed functions with the same answers as the program's, and the walks that show it. -/
import Derived.Test.YtlmgdnhnpkgheaaDoorG3Z7
import Derived.Test.YtlmgdnhnpkgheaaDoorG2Z7
import Derived.Laws.Strings
namespace Go.Am.Tryd
open Go Go.Am Go.Proofs
set_option linter.unusedVariables false
set_option linter.unusedSimpArgs false
set_option maxRecDepth 10000

def g_nat_Compare (K : Nat) (p0 : ByteArray) (p1 : ByteArray) : Option (Int × Int) := ((g_nat_both K p0 p1).bind fun x1 => (if (x1.2.2 != 0) = true then some (0, x1.2.2) else ((g_nat_N_Cmp K x1.1 x1.2.1).bind fun x19 => some (x19, 0))))
set_option maxHeartbeats 4000000 in
theorem g_nat_Compare_ok (K : Nat) {G : GM} {H : AH} {L : List Pc} (p0 : ByteArray) (p1 : ByteArray) (O : Ow G H (L)) (r : Int × Int) (h : g_nat_Compare K p0 p1 = some r) :
  CR Tryd.prog 53 [(.string p0), (.string p1)] G H (L) (fun v G' _ => v = .tuple #[.int .i64 r.1, .int .i64 r.2]) := by
 unfold g_nat_Compare at h
 refine CR.of (calls_of_AW (n := 22) (fn := Tryd.f53) (R := fun v H' => ∃ G', Ow G' H' (L) ∧ G.le G' ∧ v = .tuple #[.int .i64 r.1, .int .i64 r.2]) (by kernel_rfl) rfl rfl ?_)
 refine .seq ?_
 refine .region ?_
 refine W.pure (v := (.int .i64 0)) rfl rfl (v_assign (oo rfl rfl)) ?_
 refine W.pure (v := (.int .i64 0)) rfl rfl (v_assign (oo rfl rfl)) ?_
 refine .nil ?_
 refine .seq ?_
 refine .region ?_
 refine W.pure (v := (.string p0)) rfl rfl (v_move (oo rfl rfl)) ?_
 refine W.pure (v := (.string p1)) rfl rfl (v_move (oo rfl rfl)) ?_
 obtain ⟨x1, i2, h3⟩ := bd_inv h
 refine W.lo rfl rfl (Lo.callP (ps := []) (ps' := []) rfl (fn := Tryd.f56) (by kernel_rfl) rfl (mc rfl (mc rfl mn)) O (fun L' O' => g_nat_both_ok K p0 p1 O' _ i2)) ?_
 rintro v14 H15 ⟨G4, O5, s6, sm13, ⟨w8, w10, rfl, f9, f11⟩⟩
 replace O5 : Ow G4 H15 (L) := O5
 refine W.pure (v := (.tuple #[w8, w10, (.int .i64 x1.2.2)])) rfl rfl (v_move (oo rfl rfl)) ?_
 refine W.pure (v := w8) rfl rfl (v_extract (oo rfl rfl) rfl) ?_
 refine W.pure (v := w10) rfl rfl (v_extract (oo rfl rfl) rfl) ?_
 refine W.pure (v := (.int .i64 x1.2.2)) rfl rfl (v_extract (oo rfl rfl) rfl) ?_
 refine W.pure (v := w8) rfl rfl (v_assign (oo rfl rfl)) ?_
 refine W.pure (v := w10) rfl rfl (v_assign (oo rfl rfl)) ?_
 refine W.pure (v := (.int .i64 x1.2.2)) rfl rfl (v_assign (oo rfl rfl)) ?_
 refine .nil ?_
 refine .seq ?_
 refine .seq ?_
 refine .region ?_
 refine W.pure (v := (.int .i64 x1.2.2)) rfl rfl (v_move (oo rfl rfl)) ?_
 refine W.pure (v := (.bool (x1.2.2 != 0))) rfl rfl (v_int (oo rfl rfl) (oo rfl rfl) rfl) ?_
 refine .nil ?_
 refine .cond (b := (x1.2.2 != 0)) rfl rfl (fun g16 => ?_) (fun g16 => ?_)
 ·have h17 := pos_inv g16 h3
  refine .seq ?_
  refine .region ?_
  refine W.pure (v := (.int .i64 x1.2.2)) rfl rfl (v_move (oo rfl rfl)) ?_
  refine W.pure (v := (.int .i64 0)) rfl rfl (v_assign (oo rfl rfl)) ?_
  refine W.pure (v := (.int .i64 x1.2.2)) rfl rfl (v_assign (oo rfl rfl)) ?_
  refine .nil ?_
  refine .ret ?_
  obtain rfl := Option.some.inj h17
  refine ret2R (P := Tryd.prog) (fn := Tryd.f53) (n := 22) (R := fun v H' => ∃ G', Ow G' H' (L) ∧ G.le G' ∧ v = .tuple #[.int .i64 (0, x1.2.2).1, .int .i64 (0, x1.2.2).2]) (v1 := (.int .i64 0)) (v2 := (.int .i64 x1.2.2)) (by rfl) (rr_tmp (by rfl) (by exact rfl)) (rr_tmp (by rfl) (by exact rfl)) ?_
  exact ⟨_, O5, s6, rfl⟩
 ·have h18 := neg_b g16 h3
  refine .skip ?_
  refine .seq ?_
  refine .region ?_
  refine W.pure (v := w8) rfl rfl (v_move (oo rfl rfl)) ?_
  refine W.pure (v := w10) rfl rfl (v_move (oo rfl rfl)) ?_
  obtain ⟨x19, i20, h21⟩ := bd_inv h18
  refine W.lo rfl rfl (Lo.callP (ps := []) (ps' := []) rfl (fn := Tryd.f59) (by kernel_rfl) rfl (mc rfl (mc rfl mn)) O5 (fun L' O' => g_nat_N_Cmp_ok K w8 x1.1 f9 w10 x1.2.1 f11 O' _ i20)) ?_
  rintro v28 H29 ⟨G22, O23, s24, sm27, rfl⟩
  replace O23 : Ow G22 H29 (L) := O23
  refine W.pure (v := (.int .i64 x19)) rfl rfl (v_assign (oo rfl rfl)) ?_
  refine W.pure (v := (.int .i64 0)) rfl rfl (v_assign (oo rfl rfl)) ?_
  refine .nil ?_
  refine .ret ?_
  obtain rfl := Option.some.inj h21
  refine ret2R (P := Tryd.prog) (fn := Tryd.f53) (n := 22) (R := fun v H' => ∃ G', Ow G' H' (L) ∧ G.le G' ∧ v = .tuple #[.int .i64 (x19, 0).1, .int .i64 (x19, 0).2]) (v1 := (.int .i64 x19)) (v2 := (.int .i64 0)) (by rfl) (rr_tmp (by rfl) (by exact rfl)) (rr_tmp (by rfl) (by exact rfl)) ?_
  exact ⟨_, O23, (GM.le.trans s6 s24), rfl⟩
def g_nat_Of_l0 (K : Nat) : Nat → List Int → Int → Option (List Int)
 | 0, _, _ => none
 | k + 1, x6, x7 => (if (decide (x7 > 0)) = true then (if List.length x6 + List.length [IntKind.wrap .u32 (Int.tmod x7 1000000000)] ≤ 16777216 then g_nat_Of_l0 K k (x6 ++ [IntKind.wrap .u32 (Int.tmod x7 1000000000)]) (kwrap .i64 (Int.tdiv x7 1000000000)) else none) else some x6)
def g_nat_Of (K : Nat) (p0 : Int) : Option (List Int) := (Option.bind (g_nat_Of_l0 K K [] p0) (tu1 fun x33 => some x33))
set_option maxHeartbeats 4000000 in
theorem g_nat_Of_ok (K : Nat) {G : GM} {H : AH} {L : List Pc} (p0 : Int) (O : Ow G H (L)) (r : List Int) (h : g_nat_Of K p0 = some r) :
  CRF Tryd.prog 71 [(.int .i64 p0)] G H (fun w0 => (eSl w0 108 (rI .u32) r :: L)) (fun w0 v G' => w0 = v) := by
 unfold g_nat_Of at h
 refine CRF.of (calls_of_AW (n := 15) (fn := Tryd.f71) (R := fun v H' => ∃ w0 G', Ow G' H' (eSl w0 108 (rI .u32) r :: L) ∧ G.le G' ∧ w0 = v) (by kernel_rfl) rfl rfl ?_)
 refine .seq ?_
 refine .region ?_
 refine W.pure (v := (.slice none 0 0)) rfl rfl (v_assign (oo rfl rfl)) ?_
 refine .nil ?_
 refine .seq ?_
 refine .region ?_
 refine W.pure (v := (.slice none 0 0)) rfl rfl (v_assign (oo rfl rfl)) ?_
 refine .nil ?_
 refine .seq ?_
 obtain ⟨q1, h2, h3⟩ := bd_inv h
 refine AW.midT (fun σ' H' => ∃ (y1 : List Int) (G' : GM), y1 = q1 ∧ Ow G' H' (eSl (σ' 3) 108 (rI .u32) y1 :: L) ∧ GM.le G G') ?_ ?_
 ·refine .block ?_
  have O4 := O.nilSl 108 (rI .u32)
  refine AW.loop (α := Nat) (fun k' σ' H' => ∃ (y1 : List Int) (y2 : Int) (G' : GM), g_nat_Of_l0 K k' y1 y2 = some q1 ∧ Ow G' H' (eSl (σ' 3) 108 (rI .u32) y1 :: L) ∧ GM.le G G' ∧ σ' 0 = .int .i64 y2) (fun k' => k') K ⟨[], p0, _, h2, O4, (GM.le.refl _), rfl⟩ ?_
  rintro k5
  rintro σ8 H9 fr10 ⟨x6, x7, G11, h14, O12, s13, t15⟩
  rcases k5 with _ | k5
  ·exact none_absurd h14
  rw [g_nat_Of_l0] at h14
  refine .seq ?_
  refine .seq ?_
  refine .region ?_
  refine W.pure (v := (.int .i64 x7)) rfl rfl (v_move (oo rfl t15)) ?_
  refine W.pure (v := (.bool (decide (x7 > 0)))) rfl rfl (v_int (oo rfl rfl) (oo rfl rfl) rfl) ?_
  refine .nil ?_
  refine .cond (b := decide (x7 > 0)) rfl rfl (fun g16 => ?_) (fun g16 => ?_)
  ·have h17 := pos_inv g16 h14
   refine .skip ?_
   refine .block ?_
   refine .seq ?_
   refine .region ?_
   refine W.pure (v := (σ8 3)) rfl rfl (v_move (oo rfl rfl)) ?_
   refine W.pure (v := (.int .i64 x7)) rfl rfl (v_move (oo rfl t15)) ?_
   refine W.pure (v := (.int .i64 (Int.tmod x7 1000000000))) rfl rfl (v_rem (by decide) (oo rfl rfl) (oo rfl rfl)) ?_
   refine W.pure (v := (.int .u32 (IntKind.wrap .u32 (Int.tmod x7 1000000000)))) rfl rfl (v_conv in3 in108 (oo rfl rfl)) ?_
   refine W.lo rfl rfl (Lo.buildSlice (r := (rI .u32)) (vs := [(.int .u32 (IntKind.wrap .u32 (Int.tmod x7 1000000000)))]) (xs := [IntKind.wrap .u32 (Int.tmod x7 1000000000)]) el64 ze108 sz108 (by kernel_rfl) rfl (qc rfl qn) rfl (.cons rfl .nil) O12) ?_
   rintro v20 H21 ⟨O18, sm19⟩
   obtain ⟨es23, e24, e25⟩ := src_own (j := 0) rfl O18
   obtain ⟨g26, h27⟩ := gd_inv h17
   refine W.lo rfl rfl (Lo.append (j := 1) (v := (σ8 3)) rfl rfl el64 ni64 ze108 sz108 by108 (by decide) (by decide) rfl e24 e25 g26 O18) ?_
   rintro v29 H30 ⟨O22, sm28⟩
   replace O22 : Ow G11 H30 (eSl v20 108 (rI .u32) [IntKind.wrap .u32 (Int.tmod x7 1000000000)] :: eSl v29 108 (rI .u32) (x6 ++ [IntKind.wrap .u32 (Int.tmod x7 1000000000)]) :: L) := O22
   refine W.pure (v := v29) rfl rfl (v_assign (oo rfl rfl)) ?_
   refine .nil ?_
   refine .region ?_
   refine W.pure (v := (.int .i64 x7)) rfl rfl (v_move (oo rfl t15)) ?_
   refine W.pure (v := (.int .i64 (kwrap .i64 (Int.tdiv x7 1000000000)))) rfl rfl (v_quo (by decide) (oo rfl rfl) (oo rfl rfl)) ?_
   refine W.pure (v := (.int .i64 (kwrap .i64 (Int.tdiv x7 1000000000)))) rfl rfl (v_assign (oo rfl rfl)) ?_
   refine .nil ?_
   have O31 : Ow G11 H30 (eSl v29 108 (rI .u32) (x6 ++ [IntKind.wrap .u32 (Int.tmod x7 1000000000)]) :: L) := O22.drop 0
   exact ⟨k5, Nat.lt_succ_self _, ⟨(x6 ++ [IntKind.wrap .u32 (Int.tmod x7 1000000000)]), kwrap .i64 (Int.tdiv x7 1000000000), _, h27, O31, s13, rfl⟩⟩
  ·have h32 := neg_b g16 h14
   refine .exit ?_
   obtain rfl := Option.some.inj h32
   exact ⟨x6, _, rfl, O12, s13⟩
 ·rintro σ34 H35 fr36 ⟨x33, G37, rfl, O38, s39⟩
  have h41 := tu1_inv h3
  refine .seq ?_
  refine .region ?_
  refine W.pure (v := (σ34 3)) rfl rfl (v_move (oo rfl rfl)) ?_
  refine W.pure (v := (σ34 3)) rfl rfl (v_assign (oo rfl rfl)) ?_
  refine .nil ?_
  refine .ret ?_
  obtain rfl := Option.some.inj h41
  refine ret1R (P := Tryd.prog) (fn := Tryd.f71) (n := 15) (R := fun v H' => ∃ w0 G', Ow G' H' (eSl w0 108 (rI .u32) x33 :: L) ∧ G.le G' ∧ w0 = v) (v1 := (σ34 3)) (by rfl) (rr_tmp (by rfl) (by exact rfl)) ?_
  exact ⟨(σ34 3), _, O38, s39, rfl⟩
def g_nat_N_Digits (K : Nat) (p0 : List Int) : Option Int := ((g_nat_N_Text K p0).bind fun x1 => some (x1.size : Int))
set_option maxHeartbeats 4000000 in
theorem g_nat_N_Digits_ok (K : Nat) {G : GM} {H : AH} {L : List Pc} (v0 : Value) (p0 : List Int) (hp0 : (rSl (rI .u32)).rep G [v0] p0) (O : Ow G H (L)) (r : Int) (h : g_nat_N_Digits K p0 = some r) :
  CR Tryd.prog 72 [v0] G H (L) (fun v G' _ => v = .int .i64 r) := by
 unfold g_nat_N_Digits at h
 refine CR.of (calls_of_AW (n := 6) (fn := Tryd.f72) (R := fun v H' => ∃ G', Ow G' H' (L) ∧ G.le G' ∧ v = .int .i64 r) (by kernel_rfl) rfl rfl ?_)
 refine .seq ?_
 refine .region ?_
 refine W.pure (v := (.int .i64 0)) rfl rfl (v_assign (oo rfl rfl)) ?_
 refine .nil ?_
 refine .seq ?_
 refine .region ?_
 refine W.pure (v := v0) rfl rfl (v_move (oo rfl rfl)) ?_
 obtain ⟨x1, i2, h3⟩ := bd_inv h
 refine W.lo rfl rfl (Lo.callP (ps := []) (ps' := []) rfl (fn := Tryd.f67) (by kernel_rfl) rfl (mc rfl mn) O (fun L' O' => g_nat_N_Text_ok K v0 p0 hp0 O' _ i2)) ?_
 rintro v10 H11 ⟨G4, O5, s6, sm9, rfl⟩
 replace O5 : Ow G4 H11 (L) := O5
 refine W.pure (v := (.int .i64 (x1.size : Int))) rfl rfl (len_str (oo rfl rfl) un9) ?_
 refine W.pure (v := (.int .i64 (x1.size : Int))) rfl rfl (v_assign (oo rfl rfl)) ?_
 refine .nil ?_
 refine .ret ?_
 obtain rfl := Option.some.inj h3
 refine ret1R (P := Tryd.prog) (fn := Tryd.f72) (n := 6) (R := fun v H' => ∃ G', Ow G' H' (L) ∧ G.le G' ∧ v = .int .i64 (x1.size : Int)) (v1 := (.int .i64 (x1.size : Int))) (by rfl) (rr_tmp (by rfl) (by exact rfl)) ?_
 exact ⟨_, O5, s6, rfl⟩
def g_nat_Power_l0 (K : Nat) (p1 : Int) (x35 : List Int) : Nat → List Int → Int → Option ((ByteArray × Int) ⊕ (List Int))
 | 0, _, _ => none
 | k + 1, x109, x110 => (if (decide (x110 < p1)) = true then ((g_nat_N_Mul K x109 x35).bind fun x122 => ((g_nat_N_Digits K x122).bind fun x135 => (if (decide (x135 > 2000)) = true then some (.inl ((⟨#[]⟩ : ByteArray), 2)) else g_nat_Power_l0 K p1 x35 k x122 (kwrap .i64 (x110 + 1))))) else some (.inr x109))
def g_nat_Power (K : Nat) (p0 : ByteArray) (p1 : Int) : Option (ByteArray × Int) := ((g_nat_Check K p0).bind fun x1 => (if (x1 != 0) = true then some ((⟨#[]⟩ : ByteArray), x1) else (Option.bind ((if (decide (p1 < 0)) = true then some true else some (decide (p1 > 10000)))) (tu1 fun x22 => (if x22 = true then some ((⟨#[]⟩ : ByteArray), 4) else ((g_nat_Read K p0).bind fun x35 => ((g_nat_Of K 1).bind fun x48 => ((g_nat_Of K 1).bind fun x61 => ((g_nat_N_Cmp K x35 x61).bind fun x82 => (if (decide (x82 ≤ 0)) = true then (if (p1 == 0) = true then some ((⟨#[49]⟩ : ByteArray), 0) else some (p0, 0)) else (bindS (g_nat_Power_l0 K p1 x35 K x48 0) (tu2 fun a177 a178 => some (a177, a178)) (tu1 fun x156 => ((g_nat_told K x156).bind fun x166 => some (x166.1, x166.2))))))))))))))
set_option maxHeartbeats 4000000 in
theorem g_nat_Power_ok (K : Nat) {G : GM} {H : AH} {L : List Pc} (p0 : ByteArray) (p1 : Int) (O : Ow G H (L)) (r : ByteArray × Int) (h : g_nat_Power K p0 p1 = some r) :
  CR Tryd.prog 30 [(.string p0), (.int .i64 p1)] G H (L) (fun v G' _ => v = .tuple #[.string r.1, .int .i64 r.2]) := by
 unfold g_nat_Power at h
 refine CR.of (calls_of_AW (n := 44) (fn := Tryd.f30) (R := fun v H' => ∃ G', Ow G' H' (L) ∧ G.le G' ∧ v = .tuple #[.string r.1, .int .i64 r.2]) (by kernel_rfl) rfl rfl ?_)
 refine .seq ?_
 refine .region ?_
 refine W.pure (v := (.string (⟨#[]⟩ : ByteArray))) rfl rfl (v_assign (oo rfl rfl)) ?_
 refine W.pure (v := (.int .i64 0)) rfl rfl (v_assign (oo rfl rfl)) ?_
 refine .nil ?_
 refine .seq ?_
 refine .seq ?_
 refine .region ?_
 refine W.pure (v := (.string p0)) rfl rfl (v_move (oo rfl rfl)) ?_
 obtain ⟨x1, i2, h3⟩ := bd_inv h
 refine W.lo rfl rfl (Lo.callP (ps := []) (ps' := []) rfl (fn := Tryd.f14) (by kernel_rfl) rfl (mc rfl mn) O (fun L' O' => g_nat_Check_ok K p0 O' _ i2)) ?_
 rintro v10 H11 ⟨G4, O5, s6, sm9, rfl⟩
 replace O5 : Ow G4 H11 (L) := O5
 refine W.pure (v := (.int .i64 x1)) rfl rfl (v_assign (oo rfl rfl)) ?_
 refine .nil ?_
 refine .seq ?_
 refine .region ?_
 refine W.pure (v := (.int .i64 x1)) rfl rfl (v_move (oo rfl rfl)) ?_
 refine W.pure (v := (.bool (x1 != 0))) rfl rfl (v_int (oo rfl rfl) (oo rfl rfl) rfl) ?_
 refine .nil ?_
 refine .cond (b := (x1 != 0)) rfl rfl (fun g12 => ?_) (fun g12 => ?_)
 ·have h13 := pos_inv g12 h3
  refine .seq ?_
  refine .region ?_
  refine W.pure (v := (.int .i64 x1)) rfl rfl (v_move (oo rfl rfl)) ?_
  refine W.pure (v := (.string (⟨#[]⟩ : ByteArray))) rfl rfl (v_assign (oo rfl rfl)) ?_
  refine W.pure (v := (.int .i64 x1)) rfl rfl (v_assign (oo rfl rfl)) ?_
  refine .nil ?_
  refine .ret ?_
  obtain rfl := Option.some.inj h13
  refine ret2R (P := Tryd.prog) (fn := Tryd.f30) (n := 44) (R := fun v H' => ∃ G', Ow G' H' (L) ∧ G.le G' ∧ v = .tuple #[.string ((⟨#[]⟩ : ByteArray), x1).1, .int .i64 ((⟨#[]⟩ : ByteArray), x1).2]) (v1 := (.string (⟨#[]⟩ : ByteArray))) (v2 := (.int .i64 x1)) (by rfl) (rr_tmp (by rfl) (by exact rfl)) (rr_tmp (by rfl) (by exact rfl)) ?_
  exact ⟨_, O5, s6, rfl⟩
 ·have h14 := neg_b g12 h3
  refine .skip ?_
  refine .seq ?_
  refine .seq ?_
  obtain ⟨q15, h16, h17⟩ := bd_inv h14
  refine AW.midT (fun σ' H' => ∃ (y1 : Bool) (G' : GM), y1 = q15 ∧ Ow G' H' (L) ∧ GM.le G4 G' ∧ σ' 19 = .bool y1) ?_ ?_
  ·refine .region ?_
   refine W.pure (v := (.int .i64 p1)) rfl rfl (v_move (oo rfl rfl)) ?_
   refine W.pure (v := (.bool (decide (p1 < 0)))) rfl rfl (v_int (oo rfl rfl) (oo rfl rfl) rfl) ?_
   refine W.pure (v := (.bool (decide (p1 < 0)))) rfl rfl (v_move (oo rfl rfl)) ?_
   refine W.splitAt (t := 16) (b := decide (p1 < 0)) rfl (fun g18 gv19 => ?_) (fun g18 gv19 => ?_)
   ·have h20 := pos_inv g18 h16
    refine W.skip (gk rfl rfl gv19 rfl) rfl ?_
    refine W.skip (gk rfl rfl gv19 rfl) rfl ?_
    refine W.pure (v := (.bool true)) rfl rfl (v_pickT (oo rfl gv19) (oo rfl rfl)) ?_
    refine .nil ?_
    obtain rfl := Option.some.inj h20
    exact ⟨true, _, rfl, O5, (GM.le.refl _), rfl⟩
   ·have h21 := neg_b g18 h16
    refine W.pure (v := (.int .i64 p1)) (gk rfl rfl gv19 rfl) rfl (v_move (oo rfl rfl)) ?_
    refine W.pure (v := (.bool (decide (p1 > 10000)))) (gk rfl rfl gv19 rfl) rfl (v_int (oo rfl rfl) (oo rfl rfl) rfl) ?_
    refine W.pure (v := (.bool (decide (p1 > 10000)))) rfl rfl (v_pickF (oo rfl gv19) (oo rfl rfl)) ?_
    refine .nil ?_
    obtain rfl := Option.some.inj h21
    exact ⟨decide (p1 > 10000), _, rfl, O5, (GM.le.refl _), rfl⟩
  ·rintro σ23 H24 fr25 ⟨x22, G26, rfl, O27, s28, t30⟩
   have h31 := tu1_inv h17
   refine .cond (b := x22) rfl t30 (fun g32 => ?_) (fun g32 => ?_)
   ·have h33 := pos_inv g32 h31
    refine .seq ?_
    refine .region ?_
    refine W.pure (v := (.string (⟨#[]⟩ : ByteArray))) rfl rfl (v_assign (oo rfl rfl)) ?_
    refine W.pure (v := (.int .i64 4)) rfl rfl (v_assign (oo rfl rfl)) ?_
    refine .nil ?_
    refine .ret ?_
    obtain rfl := Option.some.inj h33
    refine ret2R (P := Tryd.prog) (fn := Tryd.f30) (n := 44) (R := fun v H' => ∃ G', Ow G' H' (L) ∧ G.le G' ∧ v = .tuple #[.string ((⟨#[]⟩ : ByteArray), 4).1, .int .i64 ((⟨#[]⟩ : ByteArray), 4).2]) (v1 := (.string (⟨#[]⟩ : ByteArray))) (v2 := (.int .i64 4)) (by rfl) (rr_tmp (by rfl) (by exact rfl)) (rr_tmp (by rfl) (by exact rfl)) ?_
    exact ⟨_, O27, (GM.le.trans s6 s28), rfl⟩
   ·have h34 := neg_b g32 h31
    refine .skip ?_
    refine .seq ?_
    refine .region ?_
    refine W.pure (v := (.string p0)) rfl rfl (v_move (oo rfl ((fr25 0 rfl).trans rfl))) ?_
    obtain ⟨x35, i36, h37⟩ := bd_inv h34
    refine W.lo rfl rfl (Lo.callPF (ps := []) (pw := fun w => [eSl w 108 (rI .u32) x35]) rfl (fn := Tryd.f70) (by kernel_rfl) rfl (mc rfl mn) O27 (fun L' O' => g_nat_Read_ok K p0 O' _ i36)) ?_
    rintro v46 H47 ⟨w43, G38, O39, s40, sm45, rfl⟩
    replace O39 : Ow G38 H47 (eSl w43 108 (rI .u32) x35 :: L) := O39
    obtain ⟨x48, i49, h50⟩ := bd_inv h37
    refine W.lo rfl rfl (Lo.callPF (ps := []) (pw := fun w => [eSl w 108 (rI .u32) x48]) rfl (fn := Tryd.f71) (by kernel_rfl) rfl (mc rfl mn) O39 (fun L' O' => g_nat_Of_ok K 1 O' _ i49)) ?_
    rintro v59 H60 ⟨w56, G51, O52, s53, sm58, rfl⟩
    replace O52 : Ow G51 H60 (eSl w56 108 (rI .u32) x48 :: eSl w43 108 (rI .u32) x35 :: L) := O52
    refine W.pure (v := w43) rfl rfl (v_assign (oo rfl rfl)) ?_
    refine W.pure (v := w56) rfl rfl (v_assign (oo rfl rfl)) ?_
    refine .nil ?_
    refine .seq ?_
    refine .seq ?_
    refine .region ?_
    refine W.pure (v := w43) rfl rfl (v_move (oo rfl rfl)) ?_
    obtain ⟨x61, i62, h63⟩ := bd_inv h50
    refine W.lo rfl rfl (Lo.callPF (ps := []) (pw := fun w => [eSl w 108 (rI .u32) x61]) rfl (fn := Tryd.f71) (by kernel_rfl) rfl (mc rfl mn) O52 (fun L' O' => g_nat_Of_ok K 1 O' _ i62)) ?_
    rintro v72 H73 ⟨w69, G64, O65, s66, sm71, rfl⟩
    replace O65 : Ow G64 H73 (eSl w69 108 (rI .u32) x61 :: eSl w56 108 (rI .u32) x48 :: eSl w43 108 (rI .u32) x35 :: L) := O65
    obtain ⟨G74, O75, s76, f77⟩ := O65.frzSl (j := 2) rfl
    replace O75 : Ow G74 H73 (eSl w69 108 (rI .u32) x61 :: eSl w56 108 (rI .u32) x48 :: L) := O75
    obtain ⟨G78, O79, s80, f81⟩ := O75.frzSl (j := 0) rfl
    replace O79 : Ow G78 H73 (eSl w56 108 (rI .u32) x48 :: L) := O79
    obtain ⟨x82, i83, h84⟩ := bd_inv h63
    refine W.lo rfl rfl (Lo.callP (ps := []) (ps' := []) rfl (fn := Tryd.f59) (by kernel_rfl) rfl (mc rfl (mc rfl mn)) O79 (fun L' O' => g_nat_N_Cmp_ok K w43 x35 (RT.mono _ s80 f77) w69 x61 f81 O' _ i83)) ?_
    rintro v91 H92 ⟨G85, O86, s87, sm90, rfl⟩
    replace O86 : Ow G85 H92 (eSl w56 108 (rI .u32) x48 :: L) := O86
    refine W.pure (v := (.bool (decide (x82 ≤ 0)))) rfl rfl (v_int (oo rfl rfl) (oo rfl rfl) rfl) ?_
    refine .nil ?_
    refine .cond (b := decide (x82 ≤ 0)) rfl rfl (fun g93 => ?_) (fun g93 => ?_)
    ·have h94 := pos_inv g93 h84
     refine .seq ?_
     refine .seq ?_
     refine .region ?_
     refine W.pure (v := (.int .i64 p1)) rfl rfl (v_move (oo rfl ((fr25 1 rfl).trans rfl))) ?_
     refine W.pure (v := (.bool (p1 == 0))) rfl rfl (v_int (oo rfl rfl) (oo rfl rfl) rfl) ?_
     refine .nil ?_
     refine .cond (b := (p1 == 0)) rfl rfl (fun g95 => ?_) (fun g95 => ?_)
     ·have h96 := pos_inv g95 h94
      refine .seq ?_
      refine .region ?_
      refine W.pure (v := (.string (⟨#[49]⟩ : ByteArray))) rfl rfl (v_assign (oo rfl rfl)) ?_
      refine W.pure (v := (.int .i64 0)) rfl rfl (v_assign (oo rfl rfl)) ?_
      refine .nil ?_
      refine .ret ?_
      have O97 : Ow G85 H92 (L) := O86.drop 0
      obtain rfl := Option.some.inj h96
      refine ret2R (P := Tryd.prog) (fn := Tryd.f30) (n := 44) (R := fun v H' => ∃ G', Ow G' H' (L) ∧ G.le G' ∧ v = .tuple #[.string ((⟨#[49]⟩ : ByteArray), 0).1, .int .i64 ((⟨#[49]⟩ : ByteArray), 0).2]) (v1 := (.string (⟨#[49]⟩ : ByteArray))) (v2 := (.int .i64 0)) (by rfl) (rr_tmp (by rfl) (by exact rfl)) (rr_tmp (by rfl) (by exact rfl)) ?_
      exact ⟨_, O97, (GM.le.trans s6 (GM.le.trans s28 (GM.le.trans s40 (GM.le.trans s53 (GM.le.trans s66 (GM.le.trans s76 (GM.le.trans s80 s87))))))), rfl⟩
     ·have h98 := neg_b g95 h94
      refine .skip ?_
      refine .seq ?_
      refine .region ?_
      refine W.pure (v := (.string p0)) rfl rfl (v_move (oo rfl ((fr25 0 rfl).trans rfl))) ?_
      refine W.pure (v := (.string p0)) rfl rfl (v_assign (oo rfl rfl)) ?_
      refine W.pure (v := (.int .i64 0)) rfl rfl (v_assign (oo rfl rfl)) ?_
      refine .nil ?_
      refine .ret ?_
      have O99 : Ow G85 H92 (L) := O86.drop 0
      obtain rfl := Option.some.inj h98
      refine ret2R (P := Tryd.prog) (fn := Tryd.f30) (n := 44) (R := fun v H' => ∃ G', Ow G' H' (L) ∧ G.le G' ∧ v = .tuple #[.string (p0, 0).1, .int .i64 (p0, 0).2]) (v1 := (.string p0)) (v2 := (.int .i64 0)) (by rfl) (rr_tmp (by rfl) (by exact rfl)) (rr_tmp (by rfl) (by exact rfl)) ?_
      exact ⟨_, O99, (GM.le.trans s6 (GM.le.trans s28 (GM.le.trans s40 (GM.le.trans s53 (GM.le.trans s66 (GM.le.trans s76 (GM.le.trans s80 s87))))))), rfl⟩
    ·have h100 := neg_b g93 h84
     refine .skip ?_
     refine .seq ?_
     refine .seq ?_
     refine .region ?_
     refine W.pure (v := (.int .i64 p1)) rfl rfl (v_move (oo rfl ((fr25 1 rfl).trans rfl))) ?_
     refine W.pure (v := (.int .i64 0)) rfl rfl (v_move (oo rfl rfl)) ?_
     refine .nil ?_
     obtain ⟨G101, O102, s103, f104⟩ := O86.frzSl (j := 0) rfl
     replace O102 : Ow G101 H92 (L) := O102
     obtain ⟨q105, h106, h107⟩ := bindS_inv h100
     refine AW.midT (fun σ' H' => ∃ (y1 : List Int) (G' : GM), (.inr y1) = q105 ∧ Ow G' H' (L) ∧ GM.le G101 G' ∧ (rSl (rI .u32)).rep G' [σ' 8] y1) ?_ ?_
     ·refine .block ?_
      refine AW.loop (α := Nat) (fun k' σ' H' => ∃ (y1 : List Int) (y2 : Int) (G' : GM), g_nat_Power_l0 K p1 x35 k' y1 y2 = some q105 ∧ Ow G' H' (L) ∧ GM.le G101 G' ∧ (rSl (rI .u32)).rep G' [σ' 8] y1 ∧ σ' 31 = .int .i64 y2) (fun k' => k') K ⟨x48, 0, _, h106, O102, (GM.le.refl _), f104, rfl⟩ ?_
      rintro k108
      rintro σ111 H112 fr113 ⟨x109, x110, G114, h117, O115, s116, f118, t119⟩
      rcases k108 with _ | k108
      ·exact none_absurd h117
      rw [g_nat_Power_l0] at h117
      refine .seq ?_
      refine .region ?_
      refine W.pure (v := (.bool (decide (x110 < p1)))) rfl rfl (v_int (oo rfl t119) (oo rfl ((fr113 30 rfl).trans rfl)) rfl) ?_
      refine .nil ?_
      refine .seq ?_
      refine .cond (b := decide (x110 < p1)) rfl rfl (fun g120 => ?_) (fun g120 => ?_)
      ·have h121 := pos_inv g120 h117
       refine .skip ?_
       refine .seq ?_
       refine .block ?_
       refine .seq ?_
       refine .region ?_
       refine W.pure (v := (σ111 8)) rfl rfl (v_move (oo rfl rfl)) ?_
       refine W.pure (v := w43) rfl rfl (v_move (oo rfl ((fr113 7 rfl).trans rfl))) ?_
       obtain ⟨x122, i123, h124⟩ := bd_inv h121
       refine W.lo rfl rfl (Lo.callPF (ps := []) (pw := fun w => [eSl w 108 (rI .u32) x122]) rfl (fn := Tryd.f63) (by kernel_rfl) rfl (mc rfl (mc rfl mn)) O115 (fun L' O' => g_nat_N_Mul_ok K (σ111 8) x109 f118 w43 x35 (RT.mono _ (GM.le.trans s80 (GM.le.trans s87 (GM.le.trans s103 s116))) f77) O' _ i123)) ?_
       rintro v133 H134 ⟨w130, G125, O126, s127, sm132, rfl⟩
       replace O126 : Ow G125 H134 (eSl w130 108 (rI .u32) x122 :: L) := O126
       refine W.pure (v := w130) rfl rfl (v_assign (oo rfl rfl)) ?_
       refine .nil ?_
       refine .seq ?_
       refine .region ?_
       refine W.pure (v := w130) rfl rfl (v_move (oo rfl rfl)) ?_
       obtain ⟨x135, i136, h137⟩ := bd_inv h124
       refine W.lo rfl rfl (Lo.callB (j := 0) rfl rfl (fn := Tryd.f72) (by kernel_rfl) rfl (mc rfl mn) O126 (fun G' L' hG O' hB => g_nat_N_Digits_ok K w130 x122 hB O' _ i136)) ?_
       rintro v144 H145 ⟨G138, O139, s140, sm143, rfl⟩
       replace O139 : Ow G138 H145 (eSl w130 108 (rI .u32) x122 :: L) := O139
       refine W.pure (v := (.bool (decide (x135 > 2000)))) rfl rfl (v_int (oo rfl rfl) (oo rfl rfl) rfl) ?_
       refine .nil ?_
       refine .cond (b := decide (x135 > 2000)) rfl rfl (fun g146 => ?_) (fun g146 => ?_)
       ·have h147 := pos_inv g146 h137
        refine .seq ?_
        refine .region ?_
        refine W.pure (v := (.string (⟨#[]⟩ : ByteArray))) rfl rfl (v_assign (oo rfl rfl)) ?_
        refine W.pure (v := (.int .i64 2)) rfl rfl (v_assign (oo rfl rfl)) ?_
        refine .nil ?_
        refine .ret ?_
        have O148 : Ow G138 H145 (L) := O139.drop 0
        obtain rfl := Option.some.inj h147
        have h149 := tu2_inv (outS_l h107)
        obtain rfl := Option.some.inj h149
        refine ret2R (P := Tryd.prog) (fn := Tryd.f30) (n := 44) (R := fun v H' => ∃ G', Ow G' H' (L) ∧ G.le G' ∧ v = .tuple #[.string ((⟨#[]⟩ : ByteArray), 2).1, .int .i64 ((⟨#[]⟩ : ByteArray), 2).2]) (v1 := (.string (⟨#[]⟩ : ByteArray))) (v2 := (.int .i64 2)) (by rfl) (rr_tmp (by rfl) (by exact rfl)) (rr_tmp (by rfl) (by exact rfl)) ?_
        exact ⟨_, O148, (GM.le.trans s6 (GM.le.trans s28 (GM.le.trans s40 (GM.le.trans s53 (GM.le.trans s66 (GM.le.trans s76 (GM.le.trans s80 (GM.le.trans s87 (GM.le.trans s103 (GM.le.trans s116 (GM.le.trans s127 s140))))))))))), rfl⟩
       ·have h150 := neg_b g146 h137
        refine .skip ?_
        refine .region ?_
        refine W.pure (v := (.int .i64 (kwrap .i64 (x110 + 1)))) rfl rfl (v_int (oo rfl t119) (oo rfl rfl) rfl) ?_
        refine W.pure (v := (.int .i64 (kwrap .i64 (x110 + 1)))) rfl rfl (v_move (oo rfl rfl)) ?_
        refine .nil ?_
        obtain ⟨G151, O152, s153, f154⟩ := O139.frzSl (j := 0) rfl
        replace O152 : Ow G151 H145 (L) := O152
        exact ⟨k108, Nat.lt_succ_self _, ⟨x122, kwrap .i64 (x110 + 1), _, h150, O152, (GM.le.trans s116 (GM.le.trans s127 (GM.le.trans s140 s153))), f154, rfl⟩⟩
      ·have h155 := neg_b g120 h117
       refine .exit ?_
       obtain rfl := Option.some.inj h155
       exact ⟨x109, _, rfl, O115, s116, f118⟩
     ·rintro σ157 H158 fr159 ⟨x156, G160, rfl, O161, s162, f164⟩
      have h165 := tu1_inv (outS_r h107)
      refine .seq ?_
      refine .region ?_
      refine W.pure (v := (σ157 8)) rfl rfl (v_move (oo rfl rfl)) ?_
      obtain ⟨x166, i167, h168⟩ := bd_inv h165
      refine W.lo rfl rfl (Lo.callP (ps := []) (ps' := []) rfl (fn := Tryd.f57) (by kernel_rfl) rfl (mc rfl mn) O161 (fun L' O' => g_nat_told_ok K (σ157 8) x156 f164 O' _ i167)) ?_
      rintro v175 H176 ⟨G169, O170, s171, sm174, rfl⟩
      replace O170 : Ow G169 H176 (L) := O170
      refine W.pure (v := (.string x166.1)) rfl rfl (v_extract (oo rfl rfl) rfl) ?_
      refine W.pure (v := (.int .i64 x166.2)) rfl rfl (v_extract (oo rfl rfl) rfl) ?_
      refine W.pure (v := (.string x166.1)) rfl rfl (v_assign (oo rfl rfl)) ?_
      refine W.pure (v := (.int .i64 x166.2)) rfl rfl (v_assign (oo rfl rfl)) ?_
      refine .nil ?_
      refine .ret ?_
      obtain rfl := Option.some.inj h168
      refine ret2R (P := Tryd.prog) (fn := Tryd.f30) (n := 44) (R := fun v H' => ∃ G', Ow G' H' (L) ∧ G.le G' ∧ v = .tuple #[.string (x166.1, x166.2).1, .int .i64 (x166.1, x166.2).2]) (v1 := (.string x166.1)) (v2 := (.int .i64 x166.2)) (by rfl) (rr_tmp (by rfl) (by exact rfl)) (rr_tmp (by rfl) (by exact rfl)) ?_
      exact ⟨_, O170, (GM.le.trans s6 (GM.le.trans s28 (GM.le.trans s40 (GM.le.trans s53 (GM.le.trans s66 (GM.le.trans s76 (GM.le.trans s80 (GM.le.trans s87 (GM.le.trans s103 (GM.le.trans s162 s171)))))))))), rfl⟩
def g_strings_Repeat (K : Nat) (p0 : ByteArray) (p1 : Int) : Option ByteArray := (if (p1 == 0) = true then some (⟨#[]⟩ : ByteArray) else (if (p1 == 1) = true then some p0 else (if (decide (p1 < 0)) = true then none else none)))
set_option maxHeartbeats 4000000 in
theorem g_strings_Repeat_ok (K : Nat) {G : GM} {H : AH} {L : List Pc} (p0 : ByteArray) (p1 : Int) (O : Ow G H (L)) (r : ByteArray) (h : g_strings_Repeat K p0 p1 = some r) :
  CR Tryd.prog 98 [(.string p0), (.int .i64 p1)] G H (L) (fun v G' _ => v = .string r) := by
 unfold g_strings_Repeat at h
 refine CR.of (calls_of_AW (n := 125) (fn := Tryd.f98) (R := fun v H' => ∃ G', Ow G' H' (L) ∧ G.le G' ∧ v = .string r) (by kernel_rfl) rfl rfl ?_)
 refine .seq ?_
 refine .region ?_
 refine W.pure (v := (.string (⟨#[]⟩ : ByteArray))) rfl rfl (v_assign (oo rfl rfl)) ?_
 refine .nil ?_
 refine .seq ?_
 refine .seq ?_
 refine .region ?_
 refine W.pure (v := (.int .i64 p1)) rfl rfl (v_move (oo rfl rfl)) ?_
 refine .nil ?_
 refine .block ?_
 refine .seq ?_
 refine .region ?_
 refine W.pure (v := (.bool (p1 == 0))) rfl rfl (v_int (oo rfl rfl) (oo rfl rfl) rfl) ?_
 refine W.pure (v := (.bool (p1 == 0))) rfl rfl (v_assign (oo rfl rfl)) ?_
 refine .nil ?_
 refine .cond (b := (p1 == 0)) rfl rfl (fun g1 => ?_) (fun g1 => ?_)
 ·have h2 := pos_inv g1 h
  refine .seq ?_
  refine .region ?_
  refine W.pure (v := (.string (⟨#[]⟩ : ByteArray))) rfl rfl (v_assign (oo rfl rfl)) ?_
  refine .nil ?_
  refine .ret ?_
  obtain rfl := Option.some.inj h2
  refine ret1R (P := Tryd.prog) (fn := Tryd.f98) (n := 125) (R := fun v H' => ∃ G', Ow G' H' (L) ∧ G.le G' ∧ v = .string (⟨#[]⟩ : ByteArray)) (v1 := (.string (⟨#[]⟩ : ByteArray))) (by rfl) (rr_tmp (by rfl) (by exact rfl)) ?_
  exact ⟨_, O, (GM.le.refl _), rfl⟩
 ·have h3 := neg_b g1 h
  refine .seq ?_
  refine .region ?_
  refine W.pure (v := (.bool (p1 == 1))) rfl rfl (v_int (oo rfl rfl) (oo rfl rfl) rfl) ?_
  refine W.pure (v := (.bool (p1 == 1))) rfl rfl (v_assign (oo rfl rfl)) ?_
  refine .nil ?_
  refine .cond (b := (p1 == 1)) rfl rfl (fun g4 => ?_) (fun g4 => ?_)
  ·have h5 := pos_inv g4 h3
   refine .seq ?_
   refine .region ?_
   refine W.pure (v := (.string p0)) rfl rfl (v_move (oo rfl rfl)) ?_
   refine W.pure (v := (.string p0)) rfl rfl (v_assign (oo rfl rfl)) ?_
   refine .nil ?_
   refine .ret ?_
   obtain rfl := Option.some.inj h5
   refine ret1R (P := Tryd.prog) (fn := Tryd.f98) (n := 125) (R := fun v H' => ∃ G', Ow G' H' (L) ∧ G.le G' ∧ v = .string p0) (v1 := (.string p0)) (by rfl) (rr_tmp (by rfl) (by exact rfl)) ?_
   exact ⟨_, O, (GM.le.refl _), rfl⟩
  ·have h6 := neg_b g4 h3
   refine .skip ?_
   refine .seq ?_
   refine .seq ?_
   refine .region ?_
   refine W.pure (v := (.int .i64 p1)) rfl rfl (v_move (oo rfl rfl)) ?_
   refine W.pure (v := (.bool (decide (p1 < 0)))) rfl rfl (v_int (oo rfl rfl) (oo rfl rfl) rfl) ?_
   refine .nil ?_
   refine .cond (b := decide (p1 < 0)) rfl rfl (fun g7 => ?_) (fun g7 => ?_)
   ·have h8 := pos_inv g7 h6
    refine .region ?_
    exact gap h8
   ·have h9 := neg_b g7 h6
    refine .skip ?_
    refine .seq ?_
    refine .region ?_
    refine W.pure (v := (.string p0)) rfl rfl (v_move (oo rfl rfl)) ?_
    refine W.pure (v := (.int .i64 (p0.size : Int))) rfl rfl (len_str (oo rfl rfl) un9) ?_
    refine W.pure (v := (.int .u64 (IntKind.wrap .u64 (p0.size : Int)))) rfl rfl (v_conv in3 in118 (oo rfl rfl)) ?_
    refine W.pure (v := (.int .i64 p1)) rfl rfl (v_move (oo rfl rfl)) ?_
    refine W.pure (v := (.int .u64 (IntKind.wrap .u64 p1))) rfl rfl (v_conv in3 in118 (oo rfl rfl)) ?_
    exact gap h9
def g_nat_Root_l0 (K : Nat) (x15 : List Int) : Nat → List Int → Option (ByteArray × Int)
 | 0, _ => none
 | k + 1, x70 => ((g_nat_N_Div K x15 x70).bind fun x79 => ((g_nat_N_Add K x70 x79.1).bind fun x94 => ((g_nat_N_short K x94 2).bind fun x111 => ((g_nat_N_Cmp K x111.1 x70).bind fun x126 => (if (decide (x126 ≥ 0)) = true then ((g_nat_N_Text K x70).bind fun x139 => some (x139, 0)) else g_nat_Root_l0 K x15 k x111.1)))))
def g_nat_Root (K : Nat) (p0 : ByteArray) : Option (ByteArray × Int) := ((g_nat_Check K p0).bind fun x1 => (if (x1 != 0) = true then some ((⟨#[]⟩ : ByteArray), x1) else ((g_nat_Read K p0).bind fun x15 => (if ((List.length x15 : Int) == 0) = true then some ((⟨#[48]⟩ : ByteArray), 0) else ((g_strings_Repeat K (⟨#[48]⟩ : ByteArray) (kwrap .i64 (Int.tdiv (kwrap .i64 ((p0.size : Int) + 1)) 2))).bind fun x32 => (if ((⟨#[49]⟩ : ByteArray)).size + (x32).size ≤ 4611686018427387904 then ((g_nat_Read K ((⟨#[49]⟩ : ByteArray) ++ x32)).bind fun x45 => (g_nat_Root_l0 K x15 K x45).bind (tu2 fun a152 a153 => some (a152, a153))) else none))))))
set_option maxHeartbeats 4000000 in
theorem g_nat_Root_ok (K : Nat) {G : GM} {H : AH} {L : List Pc} (p0 : ByteArray) (O : Ow G H (L)) (r : ByteArray × Int) (h : g_nat_Root K p0 = some r) :
  CR Tryd.prog 54 [(.string p0)] G H (L) (fun v G' _ => v = .tuple #[.string r.1, .int .i64 r.2]) := by
 unfold g_nat_Root at h
 refine CR.of (calls_of_AW (n := 48) (fn := Tryd.f54) (R := fun v H' => ∃ G', Ow G' H' (L) ∧ G.le G' ∧ v = .tuple #[.string r.1, .int .i64 r.2]) (by kernel_rfl) rfl rfl ?_)
 refine .seq ?_
 refine .region ?_
 refine W.pure (v := (.string (⟨#[]⟩ : ByteArray))) rfl rfl (v_assign (oo rfl rfl)) ?_
 refine W.pure (v := (.int .i64 0)) rfl rfl (v_assign (oo rfl rfl)) ?_
 refine .nil ?_
 refine .seq ?_
 refine .seq ?_
 refine .region ?_
 refine W.pure (v := (.string p0)) rfl rfl (v_move (oo rfl rfl)) ?_
 obtain ⟨x1, i2, h3⟩ := bd_inv h
 refine W.lo rfl rfl (Lo.callP (ps := []) (ps' := []) rfl (fn := Tryd.f14) (by kernel_rfl) rfl (mc rfl mn) O (fun L' O' => g_nat_Check_ok K p0 O' _ i2)) ?_
 rintro v10 H11 ⟨G4, O5, s6, sm9, rfl⟩
 replace O5 : Ow G4 H11 (L) := O5
 refine W.pure (v := (.int .i64 x1)) rfl rfl (v_assign (oo rfl rfl)) ?_
 refine .nil ?_
 refine .seq ?_
 refine .region ?_
 refine W.pure (v := (.int .i64 x1)) rfl rfl (v_move (oo rfl rfl)) ?_
 refine W.pure (v := (.bool (x1 != 0))) rfl rfl (v_int (oo rfl rfl) (oo rfl rfl) rfl) ?_
 refine .nil ?_
 refine .cond (b := (x1 != 0)) rfl rfl (fun g12 => ?_) (fun g12 => ?_)
 ·have h13 := pos_inv g12 h3
  refine .seq ?_
  refine .region ?_
  refine W.pure (v := (.int .i64 x1)) rfl rfl (v_move (oo rfl rfl)) ?_
  refine W.pure (v := (.string (⟨#[]⟩ : ByteArray))) rfl rfl (v_assign (oo rfl rfl)) ?_
  refine W.pure (v := (.int .i64 x1)) rfl rfl (v_assign (oo rfl rfl)) ?_
  refine .nil ?_
  refine .ret ?_
  obtain rfl := Option.some.inj h13
  refine ret2R (P := Tryd.prog) (fn := Tryd.f54) (n := 48) (R := fun v H' => ∃ G', Ow G' H' (L) ∧ G.le G' ∧ v = .tuple #[.string ((⟨#[]⟩ : ByteArray), x1).1, .int .i64 ((⟨#[]⟩ : ByteArray), x1).2]) (v1 := (.string (⟨#[]⟩ : ByteArray))) (v2 := (.int .i64 x1)) (by rfl) (rr_tmp (by rfl) (by exact rfl)) (rr_tmp (by rfl) (by exact rfl)) ?_
  exact ⟨_, O5, s6, rfl⟩
 ·have h14 := neg_b g12 h3
  refine .skip ?_
  refine .seq ?_
  refine .region ?_
  refine W.pure (v := (.string p0)) rfl rfl (v_move (oo rfl rfl)) ?_
  obtain ⟨x15, i16, h17⟩ := bd_inv h14
  refine W.lo rfl rfl (Lo.callPF (ps := []) (pw := fun w => [eSl w 108 (rI .u32) x15]) rfl (fn := Tryd.f70) (by kernel_rfl) rfl (mc rfl mn) O5 (fun L' O' => g_nat_Read_ok K p0 O' _ i16)) ?_
  rintro v26 H27 ⟨w23, G18, O19, s20, sm25, rfl⟩
  replace O19 : Ow G18 H27 (eSl w23 108 (rI .u32) x15 :: L) := O19
  refine W.pure (v := w23) rfl rfl (v_assign (oo rfl rfl)) ?_
  refine .nil ?_
  refine .seq ?_
  refine .seq ?_
  refine .region ?_
  refine W.pure (v := w23) rfl rfl (v_move (oo rfl rfl)) ?_
  refine W.pure (v := (.int .i64 (List.length x15 : Int))) rfl rfl (len_sl (oo rfl rfl) (O19.slLen (j := 0) rfl) (elemT_inv el64)) ?_
  refine W.pure (v := (.bool ((List.length x15 : Int) == 0))) rfl rfl (v_int (oo rfl rfl) (oo rfl rfl) rfl) ?_
  refine .nil ?_
  refine .cond (b := ((List.length x15 : Int) == 0)) rfl rfl (fun g28 => ?_) (fun g28 => ?_)
  ·have h29 := pos_inv g28 h17
   refine .seq ?_
   refine .region ?_
   refine W.pure (v := (.string (⟨#[48]⟩ : ByteArray))) rfl rfl (v_assign (oo rfl rfl)) ?_
   refine W.pure (v := (.int .i64 0)) rfl rfl (v_assign (oo rfl rfl)) ?_
   refine .nil ?_
   refine .ret ?_
   have O30 : Ow G18 H27 (L) := O19.drop 0
   obtain rfl := Option.some.inj h29
   refine ret2R (P := Tryd.prog) (fn := Tryd.f54) (n := 48) (R := fun v H' => ∃ G', Ow G' H' (L) ∧ G.le G' ∧ v = .tuple #[.string ((⟨#[48]⟩ : ByteArray), 0).1, .int .i64 ((⟨#[48]⟩ : ByteArray), 0).2]) (v1 := (.string (⟨#[48]⟩ : ByteArray))) (v2 := (.int .i64 0)) (by rfl) (rr_tmp (by rfl) (by exact rfl)) (rr_tmp (by rfl) (by exact rfl)) ?_
   exact ⟨_, O30, (GM.le.trans s6 s20), rfl⟩
  ·have h31 := neg_b g28 h17
   refine .skip ?_
   refine .seq ?_
   refine .region ?_
   refine W.pure (v := (.string p0)) rfl rfl (v_move (oo rfl rfl)) ?_
   refine W.pure (v := (.int .i64 (p0.size : Int))) rfl rfl (len_str (oo rfl rfl) un9) ?_
   refine W.pure (v := (.int .i64 (kwrap .i64 ((p0.size : Int) + 1)))) rfl rfl (v_int (oo rfl rfl) (oo rfl rfl) rfl) ?_
   refine W.pure (v := (.int .i64 (kwrap .i64 (Int.tdiv (kwrap .i64 ((p0.size : Int) + 1)) 2)))) rfl rfl (v_quo (by decide) (oo rfl rfl) (oo rfl rfl)) ?_
   obtain ⟨x32, i33, h34⟩ := bd_inv h31
   refine W.lo rfl rfl (Lo.callP (ps := []) (ps' := []) rfl (fn := Tryd.f98) (by kernel_rfl) rfl (mc rfl (mc rfl mn)) O19 (fun L' O' => g_strings_Repeat_ok K (⟨#[48]⟩ : ByteArray) (kwrap .i64 (Int.tdiv (kwrap .i64 ((p0.size : Int) + 1)) 2)) O' _ i33)) ?_
   rintro v41 H42 ⟨G35, O36, s37, sm40, rfl⟩
   replace O36 : Ow G35 H42 (eSl w23 108 (rI .u32) x15 :: L) := O36
   obtain ⟨g43, h44⟩ := gd_inv h34
   refine W.pure (v := (.string ((⟨#[49]⟩ : ByteArray) ++ x32))) rfl rfl (vs_add g43 (oo rfl rfl) (oo rfl rfl)) ?_
   obtain ⟨x45, i46, h47⟩ := bd_inv h44
   refine W.lo rfl rfl (Lo.callPF (ps := []) (pw := fun w => [eSl w 108 (rI .u32) x45]) rfl (fn := Tryd.f70) (by kernel_rfl) rfl (mc rfl mn) O36 (fun L' O' => g_nat_Read_ok K ((⟨#[49]⟩ : ByteArray) ++ x32) O' _ i46)) ?_
   rintro v56 H57 ⟨w53, G48, O49, s50, sm55, rfl⟩
   replace O49 : Ow G48 H57 (eSl w53 108 (rI .u32) x45 :: eSl w23 108 (rI .u32) x15 :: L) := O49
   refine W.pure (v := w53) rfl rfl (v_assign (oo rfl rfl)) ?_
   refine .nil ?_
   obtain ⟨G58, O59, s60, f61⟩ := O49.frzSl (j := 0) rfl
   replace O59 : Ow G58 H57 (eSl w23 108 (rI .u32) x15 :: L) := O59
   obtain ⟨G62, O63, s64, f65⟩ := O59.frzSl (j := 0) rfl
   replace O63 : Ow G62 H57 (L) := O63
   obtain ⟨q66, h67, h68⟩ := bd_inv h47
   refine AW.midT (fun _ _ => False) ?_ (fun _ _ _ hf => hf.elim)
   refine .block ?_
   refine AW.loop (α := Nat) (fun k' σ' H' => ∃ (y1 : List Int) (G' : GM), g_nat_Root_l0 K x15 k' y1 = some q66 ∧ Ow G' H' (L) ∧ GM.le G62 G' ∧ (rSl (rI .u32)).rep G' [σ' 6] y1) (fun k' => k') K ⟨x45, _, h67, O63, (GM.le.refl _), (RT.mono _ s64 f61)⟩ ?_
   rintro k69
   rintro σ71 H72 fr73 ⟨x70, G74, h77, O75, s76, f78⟩
   rcases k69 with _ | k69
   ·exact none_absurd h77
   rw [g_nat_Root_l0] at h77
   refine .block ?_
   refine .seq ?_
   refine .region ?_
   refine W.pure (v := w23) rfl rfl (v_move (oo rfl ((fr73 5 rfl).trans rfl))) ?_
   refine W.pure (v := (σ71 6)) rfl rfl (v_move (oo rfl rfl)) ?_
   obtain ⟨x79, i80, h81⟩ := bd_inv h77
   refine W.lo rfl rfl (Lo.callP (ps := []) (ps' := []) rfl (fn := Tryd.f66) (by kernel_rfl) rfl (mc rfl (mc rfl mn)) O75 (fun L' O' => g_nat_N_Div_ok K w23 x15 (RT.mono _ s76 f65) (σ71 6) x70 f78 O' _ i80)) ?_
   rintro v92 H93 ⟨G82, O83, s84, sm91, ⟨w86, w88, rfl, f87, f89⟩⟩
   replace O83 : Ow G82 H93 (L) := O83
   refine W.pure (v := (.tuple #[w86, w88])) rfl rfl (v_move (oo rfl rfl)) ?_
   refine W.pure (v := w86) rfl rfl (v_extract (oo rfl rfl) rfl) ?_
   refine W.pure (v := w88) rfl rfl (v_extract (oo rfl rfl) rfl) ?_
   refine W.pure (v := w86) rfl rfl (v_assign (oo rfl rfl)) ?_
   refine W.pure (v := w88) rfl rfl (v_assign (oo rfl rfl)) ?_
   refine .nil ?_
   refine .seq ?_
   refine .region ?_
   refine W.pure (v := (σ71 6)) rfl rfl (v_move (oo rfl rfl)) ?_
   refine W.pure (v := w86) rfl rfl (v_move (oo rfl rfl)) ?_
   obtain ⟨x94, i95, h96⟩ := bd_inv h81
   refine W.lo rfl rfl (Lo.callPF (ps := []) (pw := fun w => [eSl w 108 (rI .u32) x94]) rfl (fn := Tryd.f58) (by kernel_rfl) rfl (mc rfl (mc rfl mn)) O83 (fun L' O' => g_nat_N_Add_ok K (σ71 6) x70 (RT.mono _ s84 f78) w86 x79.1 f87 O' _ i95)) ?_
   rintro v105 H106 ⟨w102, G97, O98, s99, sm104, rfl⟩
   replace O98 : Ow G97 H106 (eSl w102 108 (rI .u32) x94 :: L) := O98
   obtain ⟨G107, O108, s109, f110⟩ := O98.frzSl (j := 0) rfl
   replace O108 : Ow G107 H106 (L) := O108
   obtain ⟨x111, i112, h113⟩ := bd_inv h96
   refine W.lo rfl rfl (Lo.callP (ps := []) (ps' := []) rfl (fn := Tryd.f99) (by kernel_rfl) rfl (mc rfl (mc rfl mn)) O108 (fun L' O' => g_nat_N_short_ok K w102 x94 f110 2 O' _ i112)) ?_
   rintro v124 H125 ⟨G114, O115, s116, sm123, ⟨w118, w120, rfl, f119, f121⟩⟩
   replace O115 : Ow G114 H125 (L) := O115
   refine W.pure (v := (.tuple #[w118, w120])) rfl rfl (v_move (oo rfl rfl)) ?_
   refine W.pure (v := w118) rfl rfl (v_extract (oo rfl rfl) rfl) ?_
   refine W.pure (v := w120) rfl rfl (v_extract (oo rfl rfl) rfl) ?_
   refine W.pure (v := w118) rfl rfl (v_assign (oo rfl rfl)) ?_
   refine W.pure (v := w120) rfl rfl (v_assign (oo rfl rfl)) ?_
   refine .nil ?_
   refine .seq ?_
   refine .seq ?_
   refine .region ?_
   refine W.pure (v := w118) rfl rfl (v_move (oo rfl rfl)) ?_
   refine W.pure (v := (σ71 6)) rfl rfl (v_move (oo rfl rfl)) ?_
   obtain ⟨x126, i127, h128⟩ := bd_inv h113
   refine W.lo rfl rfl (Lo.callP (ps := []) (ps' := []) rfl (fn := Tryd.f59) (by kernel_rfl) rfl (mc rfl (mc rfl mn)) O115 (fun L' O' => g_nat_N_Cmp_ok K w118 x111.1 f119 (σ71 6) x70 (RT.mono _ (GM.le.trans s84 (GM.le.trans s99 (GM.le.trans s109 s116))) f78) O' _ i127)) ?_
   rintro v135 H136 ⟨G129, O130, s131, sm134, rfl⟩
   replace O130 : Ow G129 H136 (L) := O130
   refine W.pure (v := (.bool (decide (x126 ≥ 0)))) rfl rfl (v_int (oo rfl rfl) (oo rfl rfl) rfl) ?_
   refine .nil ?_
   refine .cond (b := decide (x126 ≥ 0)) rfl rfl (fun g137 => ?_) (fun g137 => ?_)
   ·have h138 := pos_inv g137 h128
    refine .seq ?_
    refine .region ?_
    refine W.pure (v := (σ71 6)) rfl rfl (v_move (oo rfl rfl)) ?_
    obtain ⟨x139, i140, h141⟩ := bd_inv h138
    refine W.lo rfl rfl (Lo.callP (ps := []) (ps' := []) rfl (fn := Tryd.f67) (by kernel_rfl) rfl (mc rfl mn) O130 (fun L' O' => g_nat_N_Text_ok K (σ71 6) x70 (RT.mono _ (GM.le.trans s84 (GM.le.trans s99 (GM.le.trans s109 (GM.le.trans s116 s131)))) f78) O' _ i140)) ?_
    rintro v148 H149 ⟨G142, O143, s144, sm147, rfl⟩
    replace O143 : Ow G142 H149 (L) := O143
    refine W.pure (v := (.string x139)) rfl rfl (v_assign (oo rfl rfl)) ?_
    refine W.pure (v := (.int .i64 0)) rfl rfl (v_assign (oo rfl rfl)) ?_
    refine .nil ?_
    refine .ret ?_
    obtain rfl := Option.some.inj h141
    have h150 := tu2_inv h68
    obtain rfl := Option.some.inj h150
    refine ret2R (P := Tryd.prog) (fn := Tryd.f54) (n := 48) (R := fun v H' => ∃ G', Ow G' H' (L) ∧ G.le G' ∧ v = .tuple #[.string (x139, 0).1, .int .i64 (x139, 0).2]) (v1 := (.string x139)) (v2 := (.int .i64 0)) (by rfl) (rr_tmp (by rfl) (by exact rfl)) (rr_tmp (by rfl) (by exact rfl)) ?_
    exact ⟨_, O143, (GM.le.trans s6 (GM.le.trans s20 (GM.le.trans s37 (GM.le.trans s50 (GM.le.trans s60 (GM.le.trans s64 (GM.le.trans s76 (GM.le.trans s84 (GM.le.trans s99 (GM.le.trans s109 (GM.le.trans s116 (GM.le.trans s131 s144)))))))))))), rfl⟩
   ·have h151 := neg_b g137 h128
    refine .skip ?_
    refine .region ?_
    refine W.pure (v := w118) rfl rfl (v_move (oo rfl rfl)) ?_
    refine W.pure (v := w118) rfl rfl (v_assign (oo rfl rfl)) ?_
    refine .nil ?_
    exact ⟨k69, Nat.lt_succ_self _, ⟨x111.1, _, h151, O130, (GM.le.trans s76 (GM.le.trans s84 (GM.le.trans s99 (GM.le.trans s109 (GM.le.trans s116 s131))))), (RT.mono _ s131 f119)⟩⟩
def g_slices_IndexFunc_api_Errno_api_Errno_l0 (K : Nat) (p0 : List Int) (p1 : Int → Option Bool) : Nat → Int → Option (Int ⊕ Unit)
 | 0, _ => none
 | k + 1, x5 => (if (decide (x5 < (List.length p0 : Int))) = true then ((idx p0 x5).bind fun x16 => ((p1 x16).bind fun x20 => (if x20 = true then some (.inl x5) else g_slices_IndexFunc_api_Errno_api_Errno_l0 K p0 p1 k (kwrap .i64 (x5 + 1))))) else some (.inr ()))
def g_slices_IndexFunc_api_Errno_api_Errno (K : Nat) (p0 : List Int) (p1 : Int → Option Bool) : Option Int := (bindS (g_slices_IndexFunc_api_Errno_api_Errno_l0 K p0 p1 K 0) (tu1 fun a42 => some a42) (tu0 (some (-1))))
set_option maxHeartbeats 4000000 in
theorem g_slices_IndexFunc_api_Errno_api_Errno_ok (K : Nat) {G : GM} {H : AH} {L : List Pc} (v0 : Value) (p0 : List Int) (hp0 : (rSl (rI .i64)).rep G [v0] p0) (v1 : Value) (p1 : Int → Option Bool) (hp1 : FnOk Tryd.prog G v1 (fun _ vs (x : (Int)) => vs = [.int .i64 x]) (fun _ v (rr : (Bool)) => v = .bool rr) p1) (O : Ow G H (L)) (r : Int) (h : g_slices_IndexFunc_api_Errno_api_Errno K p0 p1 = some r) :
  CR Tryd.prog 119 [v0, v1] G H (L) (fun v G' _ => v = .int .i64 r) := by
 unfold g_slices_IndexFunc_api_Errno_api_Errno at h
 refine CR.of (calls_of_AW (n := 19) (fn := Tryd.f119) (R := fun v H' => ∃ G', Ow G' H' (L) ∧ G.le G' ∧ v = .int .i64 r) (by kernel_rfl) rfl rfl ?_)
 refine .seq ?_
 refine .region ?_
 refine W.pure (v := (.int .i64 0)) rfl rfl (v_assign (oo rfl rfl)) ?_
 refine .nil ?_
 refine .seq ?_
 refine .seq ?_
 refine .region ?_
 refine W.pure (v := v0) rfl rfl (v_move (oo rfl rfl)) ?_
 refine W.pure (v := (.int .i64 (List.length p0 : Int))) rfl rfl (len_sl (oo rfl rfl) (sl_len hp0) (elemT_inv el70)) ?_
 refine W.pure (v := (.int .i64 0)) rfl rfl (v_move (oo rfl rfl)) ?_
 refine .nil ?_
 obtain ⟨q1, h2, h3⟩ := bindS_inv h
 refine AW.midT (fun σ' H' => ∃  (G' : GM), (.inr ()) = q1 ∧ Ow G' H' (L) ∧ GM.le G G') ?_ ?_
 ·refine .block ?_
  refine AW.loop (α := Nat) (fun k' σ' H' => ∃ (y1 : Int) (G' : GM), g_slices_IndexFunc_api_Errno_api_Errno_l0 K p0 p1 k' y1 = some q1 ∧ Ow G' H' (L) ∧ GM.le G G' ∧ σ' 8 = .int .i64 y1) (fun k' => k') K ⟨0, _, h2, O, (GM.le.refl _), rfl⟩ ?_
  rintro k4
  rintro σ6 H7 fr8 ⟨x5, G9, h12, O10, s11, t13⟩
  rcases k4 with _ | k4
  ·exact none_absurd h12
  rw [g_slices_IndexFunc_api_Errno_api_Errno_l0] at h12
  refine .seq ?_
  refine .region ?_
  refine W.pure (v := (.bool (decide (x5 < (List.length p0 : Int))))) rfl rfl (v_int (oo rfl t13) (oo rfl ((fr8 7 rfl).trans rfl)) rfl) ?_
  refine .nil ?_
  refine .seq ?_
  refine .cond (b := decide (x5 < (List.length p0 : Int))) rfl rfl (fun g14 => ?_) (fun g14 => ?_)
  ·have h15 := pos_inv g14 h12
   refine .skip ?_
   refine .seq ?_
   refine .block ?_
   refine .seq ?_
   refine .region ?_
   refine W.pure (v := (.int .i64 x5)) rfl rfl (v_move (oo rfl t13)) ?_
   refine W.pure (v := (.int .i64 x5)) rfl rfl (v_assign (oo rfl rfl)) ?_
   refine .nil ?_
   refine .seq ?_
   refine .region ?_
   refine W.pure (v := v1) rfl rfl (v_move (oo rfl ((fr8 1 rfl).trans rfl))) ?_
   refine W.pure (v := v0) rfl rfl (v_move (oo rfl ((fr8 0 rfl).trans rfl))) ?_
   refine W.pure (v := (.int .i64 x5)) rfl rfl (v_move (oo rfl rfl)) ?_
   obtain ⟨x16, i17, h18⟩ := bd_inv h15
   have j19 := idx_inv i17
   refine W.pure (v := (selem v0 (Int.toNat x5 * 1))) rfl rfl (v_idx el70 sz23 (oo rfl rfl) (oo rfl rfl) (sl_len (RT.mono _ s11 hp0)) j19.1 j19.2.1) ?_
   refine W.load1 (v := (.int .i64 x16)) (r := []) rfl rfl ag23 (pt_px rfl (At.int (At.le (At.le (sl_idx hp0 j19.2.2) s11 s11) (GM.le.refl _) O10.fro))) ?_
   obtain ⟨x20, i21, h22⟩ := bd_inv h18
   refine W.lo rfl rfl (Lo.callF (x0 := x16) rfl rfl (FnOk.le hp1 s11) (mc rfl mn) rfl i21 O10) ?_
   rintro v27 H28 ⟨G23, O24, s25, sm26, rfl⟩
   refine .nil ?_
   refine .cond (b := x20) rfl rfl (fun g29 => ?_) (fun g29 => ?_)
   ·have h30 := pos_inv g29 h22
    refine .seq ?_
    refine .region ?_
    refine W.pure (v := (.int .i64 x5)) rfl rfl (v_move (oo rfl rfl)) ?_
    refine W.pure (v := (.int .i64 x5)) rfl rfl (v_assign (oo rfl rfl)) ?_
    refine .nil ?_
    refine .ret ?_
    obtain rfl := Option.some.inj h30
    have h31 := tu1_inv (outS_l h3)
    obtain rfl := Option.some.inj h31
    refine ret1R (P := Tryd.prog) (fn := Tryd.f119) (n := 19) (R := fun v H' => ∃ G', Ow G' H' (L) ∧ G.le G' ∧ v = .int .i64 x5) (v1 := (.int .i64 x5)) (by rfl) (rr_tmp (by rfl) (by exact rfl)) ?_
    exact ⟨_, O24, (GM.le.trans s11 s25), rfl⟩
   ·have h32 := neg_b g29 h22
    refine .skip ?_
    refine .region ?_
    refine W.pure (v := (.int .i64 (kwrap .i64 (x5 + 1)))) rfl rfl (v_int (oo rfl t13) (oo rfl rfl) rfl) ?_
    refine W.pure (v := (.int .i64 (kwrap .i64 (x5 + 1)))) rfl rfl (v_move (oo rfl rfl)) ?_
    refine .nil ?_
    exact ⟨k4, Nat.lt_succ_self _, ⟨kwrap .i64 (x5 + 1), _, h32, O24, (GM.le.trans s11 s25), rfl⟩⟩
  ·have h33 := neg_b g14 h12
   refine .exit ?_
   obtain rfl := Option.some.inj h33
   exact ⟨_, rfl, O10, s11⟩
 ·rintro σ34 H35 fr36 ⟨G37, rfl, O38, s39⟩
  have h41 := tu0_inv (outS_r h3)
  refine .seq ?_
  refine .region ?_
  refine W.pure (v := (.int .i64 (-1))) rfl rfl (v_assign (oo rfl rfl)) ?_
  refine .nil ?_
  refine .ret ?_
  obtain rfl := Option.some.inj h41
  refine ret1R (P := Tryd.prog) (fn := Tryd.f119) (n := 19) (R := fun v H' => ∃ G', Ow G' H' (L) ∧ G.le G' ∧ v = .int .i64 (-1)) (v1 := (.int .i64 (-1))) (by rfl) (rr_tmp (by rfl) (by exact rfl)) ?_
  exact ⟨_, O38, s39, rfl⟩
def g_slices_ContainsFunc_api_Errno_api_Errno (K : Nat) (p0 : List Int) (p1 : Int → Option Bool) : Option Bool := ((g_slices_IndexFunc_api_Errno_api_Errno K p0 p1).bind fun x1 => some (decide (x1 ≥ 0)))
set_option maxHeartbeats 4000000 in
theorem g_slices_ContainsFunc_api_Errno_api_Errno_ok (K : Nat) {G : GM} {H : AH} {L : List Pc} (v0 : Value) (p0 : List Int) (hp0 : (rSl (rI .i64)).rep G [v0] p0) (v1 : Value) (p1 : Int → Option Bool) (hp1 : FnOk Tryd.prog G v1 (fun _ vs (x : (Int)) => vs = [.int .i64 x]) (fun _ v (rr : (Bool)) => v = .bool rr) p1) (O : Ow G H (L)) (r : Bool) (h : g_slices_ContainsFunc_api_Errno_api_Errno K p0 p1 = some r) :
  CR Tryd.prog 100 [v0, v1] G H (L) (fun v G' _ => v = .bool r) := by
 unfold g_slices_ContainsFunc_api_Errno_api_Errno at h
 refine CR.of (calls_of_AW (n := 9) (fn := Tryd.f100) (R := fun v H' => ∃ G', Ow G' H' (L) ∧ G.le G' ∧ v = .bool r) (by kernel_rfl) rfl rfl ?_)
 refine .seq ?_
 refine .region ?_
 refine W.pure (v := (.bool false)) rfl rfl (v_assign (oo rfl rfl)) ?_
 refine .nil ?_
 refine .seq ?_
 refine .region ?_
 refine W.pure (v := v0) rfl rfl (v_move (oo rfl rfl)) ?_
 refine W.pure (v := v1) rfl rfl (v_move (oo rfl rfl)) ?_
 obtain ⟨x1, i2, h3⟩ := bd_inv h
 refine W.lo rfl rfl (Lo.callP (ps := []) (ps' := []) rfl (fn := Tryd.f119) (by kernel_rfl) rfl (mc rfl (mc rfl mn)) O (fun L' O' => g_slices_IndexFunc_api_Errno_api_Errno_ok K v0 p0 hp0 v1 p1 hp1 O' _ i2)) ?_
 rintro v10 H11 ⟨G4, O5, s6, sm9, rfl⟩
 replace O5 : Ow G4 H11 (L) := O5
 refine W.pure (v := (.bool (decide (x1 ≥ 0)))) rfl rfl (v_int (oo rfl rfl) (oo rfl rfl) rfl) ?_
 refine W.pure (v := (.bool (decide (x1 ≥ 0)))) rfl rfl (v_assign (oo rfl rfl)) ?_
 refine .nil ?_
 refine .ret ?_
 obtain rfl := Option.some.inj h3
 refine ret1R (P := Tryd.prog) (fn := Tryd.f100) (n := 9) (R := fun v H' => ∃ G', Ow G' H' (L) ∧ G.le G' ∧ v = .bool (decide (x1 ≥ 0))) (v1 := (.bool (decide (x1 ≥ 0)))) (by rfl) (rr_tmp (by rfl) (by exact rfl)) ?_
 exact ⟨_, O5, s6, rfl⟩
def g_law_fine_1 (K : Nat) (p0 : Int) : Option Bool := some (p0 != 0)
set_option maxHeartbeats 4000000 in
theorem g_law_fine_1_ok (K : Nat) {G : GM} {H : AH} {L : List Pc} (p0 : Int) (O : Ow G H (L)) (r : Bool) (h : g_law_fine_1 K p0 = some r) :
  CR Tryd.prog 101 [(.int .i64 p0)] G H (L) (fun v G' _ => v = .bool r) := by
 unfold g_law_fine_1 at h
 refine CR.of (calls_of_AW (n := 5) (fn := Tryd.f101) (R := fun v H' => ∃ G', Ow G' H' (L) ∧ G.le G' ∧ v = .bool r) (by kernel_rfl) rfl rfl ?_)
 refine .seq ?_
 refine .region ?_
 refine W.pure (v := (.bool false)) rfl rfl (v_assign (oo rfl rfl)) ?_
 refine .nil ?_
 refine .seq ?_
 refine .region ?_
 refine W.pure (v := (.int .i64 p0)) rfl rfl (v_move (oo rfl rfl)) ?_
 refine W.pure (v := (.bool (p0 != 0))) rfl rfl (v_int (oo rfl rfl) (oo rfl rfl) rfl) ?_
 refine W.pure (v := (.bool (p0 != 0))) rfl rfl (v_assign (oo rfl rfl)) ?_
 refine .nil ?_
 refine .ret ?_
 obtain rfl := Option.some.inj h
 refine ret1R (P := Tryd.prog) (fn := Tryd.f101) (n := 5) (R := fun v H' => ∃ G', Ow G' H' (L) ∧ G.le G' ∧ v = .bool (p0 != 0)) (v1 := (.bool (p0 != 0))) (by rfl) (rr_tmp (by rfl) (by exact rfl)) ?_
 exact ⟨_, O, (GM.le.refl _), rfl⟩
def g_law_fine (K : Nat) (p0 : List Int) : Option Bool := ((g_slices_ContainsFunc_api_Errno_api_Errno K p0 (fun x => g_law_fine_1 K x)).bind fun x1 => some (!x1))
set_option maxHeartbeats 4000000 in
theorem g_law_fine_ok (K : Nat) {G : GM} {H : AH} {L : List Pc} (v0 : Value) (p0 : List Int) (hp0 : (rSl (rI .i64)).rep G [v0] p0) (O : Ow G H (L)) (r : Bool) (h : g_law_fine K p0 = some r) :
  CR Tryd.prog 55 [v0] G H (L) (fun v G' _ => v = .bool r) := by
 unfold g_law_fine at h
 refine CR.of (calls_of_AW (n := 6) (fn := Tryd.f55) (R := fun v H' => ∃ G', Ow G' H' (L) ∧ G.le G' ∧ v = .bool r) (by kernel_rfl) rfl rfl ?_)
 refine .seq ?_
 refine .region ?_
 refine W.pure (v := (.bool false)) rfl rfl (v_assign (oo rfl rfl)) ?_
 refine .nil ?_
 refine .seq ?_
 refine .region ?_
 refine W.pure (v := v0) rfl rfl (v_move (oo rfl rfl)) ?_
 obtain ⟨x1, i2, h3⟩ := bd_inv h
 refine W.lo rfl rfl (Lo.callP (ps := []) (ps' := []) rfl (fn := Tryd.f100) (by kernel_rfl) rfl (mc rfl (mc rfl mn)) O (fun L' O' => g_slices_ContainsFunc_api_Errno_api_Errno_ok K v0 p0 hp0 (.func (.func 101) #[] #[]) (fun x => g_law_fine_1 K x) ⟨101, _, _, Tryd.f101, rfl, by kernel_rfl, rfl, fun G1 H L vs x r hG O hA hF => by obtain rfl := hA; exact g_law_fine_1_ok K x O _ hF⟩ O' _ i2)) ?_
 rintro v10 H11 ⟨G4, O5, s6, sm9, rfl⟩
 replace O5 : Ow G4 H11 (L) := O5
 refine W.pure (v := (.bool (!x1))) rfl rfl (bool_not (a := x1) (oo rfl rfl)) ?_
 refine W.pure (v := (.bool (!x1))) rfl rfl (v_assign (oo rfl rfl)) ?_
 refine .nil ?_
 refine .ret ?_
 obtain rfl := Option.some.inj h3
 refine ret1R (P := Tryd.prog) (fn := Tryd.f55) (n := 6) (R := fun v H' => ∃ G', Ow G' H' (L) ∧ G.le G' ∧ v = .bool (!x1)) (v1 := (.bool (!x1))) (by rfl) (rr_tmp (by rfl) (by exact rfl)) ?_
 exact ⟨_, O5, s6, rfl⟩
def g_law_natFact (K : Nat) : Option Bool := ((g_nat_Add K (⟨#[57, 57, 57, 57, 57, 57, 57, 57, 57]⟩ : ByteArray) (⟨#[49]⟩ : ByteArray)).bind fun x1 => ((g_nat_Sub K (⟨#[49, 48, 48, 48, 48, 48, 48, 48, 48, 48]⟩ : ByteArray) (⟨#[49]⟩ : ByteArray)).bind fun x12 => ((g_nat_Mul K (⟨#[49, 48, 48, 48, 48, 48, 48, 48, 48, 48]⟩ : ByteArray) (⟨#[49, 48, 48, 48, 48, 48, 48, 48, 48, 48]⟩ : ByteArray)).bind fun x23 => ((g_nat_Divide K (⟨#[49, 55]⟩ : ByteArray) (⟨#[53]⟩ : ByteArray)).bind fun x34 => ((g_nat_Gcd K (⟨#[49, 50]⟩ : ByteArray) (⟨#[49, 56]⟩ : ByteArray)).bind fun x45 => ((g_nat_Compare K (⟨#[57]⟩ : ByteArray) (⟨#[49, 48]⟩ : ByteArray)).bind fun x56 => ((g_nat_Power K (⟨#[50]⟩ : ByteArray) 10).bind fun x67 => ((g_nat_Root K (⟨#[57, 57]⟩ : ByteArray)).bind fun x78 => (Option.bind (((g_law_fine K [x1.2, x12.2, x23.2, x34.2.2, x45.2, x56.2, x67.2, x78.2]).bind fun x96 => (if x96 = true then (lt (sEq x1.1 (⟨#[49, 48, 48, 48, 48, 48, 48, 48, 48, 48]⟩ : ByteArray)) fun x110 => (if x110 = true then (lt (sEq x12.1 (⟨#[57, 57, 57, 57, 57, 57, 57, 57, 57]⟩ : ByteArray)) fun x116 => (if x116 = true then (lt (sEq x23.1 (⟨#[49, 48, 48, 48, 48, 48, 48, 48, 48, 48, 48, 48, 48, 48, 48, 48, 48, 48, 48]⟩ : ByteArray)) fun x122 => (if x122 = true then (if (sEq x34.1 (⟨#[51]⟩ : ByteArray)) = true then (if (sEq x34.2.1 (⟨#[50]⟩ : ByteArray)) = true then (if (sEq x45.1 (⟨#[54]⟩ : ByteArray)) = true then (if (x56.1 == (-1)) = true then (if (sEq x67.1 (⟨#[49, 48, 50, 52]⟩ : ByteArray)) = true then (if (sEq x78.1 (⟨#[57]⟩ : ByteArray)) = true then ((g_nat_Check K (⟨#[48, 48, 55]⟩ : ByteArray)).bind fun x146 => some (x146 == 5)) else some false) else some false) else some false) else some false) else some false) else some false) else some false)) else some false)) else some false)) else some false))) (tu1 fun x178 => some x178))))))))))
set_option maxHeartbeats 4000000 in
theorem g_law_natFact_ok (K : Nat) {G : GM} {H : AH} {L : List Pc}  (O : Ow G H (L)) (r : Bool) (h : g_law_natFact K = some r) :
  CR Tryd.prog 13 [] G H (L) (fun v G' _ => v = .bool r) := by
 unfold g_law_natFact at h
 refine CR.of (calls_of_AW (n := 101) (fn := Tryd.f13) (R := fun v H' => ∃ G', Ow G' H' (L) ∧ G.le G' ∧ v = .bool r) (by kernel_rfl) rfl rfl ?_)
 refine .seq ?_
 refine .region ?_
 refine W.pure (v := (.bool false)) rfl rfl (v_assign (oo rfl rfl)) ?_
 refine .nil ?_
 refine .seq ?_
 refine .region ?_
 obtain ⟨x1, i2, h3⟩ := bd_inv h
 refine W.lo rfl rfl (Lo.callP (ps := []) (ps' := []) rfl (fn := Tryd.f16) (by kernel_rfl) rfl (mc rfl (mc rfl mn)) O (fun L' O' => g_nat_Add_ok K (⟨#[57, 57, 57, 57, 57, 57, 57, 57, 57]⟩ : ByteArray) (⟨#[49]⟩ : ByteArray) O' _ i2)) ?_
 rintro v10 H11 ⟨G4, O5, s6, sm9, rfl⟩
 replace O5 : Ow G4 H11 (L) := O5
 refine W.pure (v := (.tuple #[(.string x1.1), (.int .i64 x1.2)])) rfl rfl (v_move (oo rfl rfl)) ?_
 refine W.pure (v := (.string x1.1)) rfl rfl (v_extract (oo rfl rfl) rfl) ?_
 refine W.pure (v := (.int .i64 x1.2)) rfl rfl (v_extract (oo rfl rfl) rfl) ?_
 refine W.pure (v := (.string x1.1)) rfl rfl (v_assign (oo rfl rfl)) ?_
 refine W.pure (v := (.int .i64 x1.2)) rfl rfl (v_assign (oo rfl rfl)) ?_
 refine .nil ?_
 refine .seq ?_
 refine .region ?_
 obtain ⟨x12, i13, h14⟩ := bd_inv h3
 refine W.lo rfl rfl (Lo.callP (ps := []) (ps' := []) rfl (fn := Tryd.f17) (by kernel_rfl) rfl (mc rfl (mc rfl mn)) O5 (fun L' O' => g_nat_Sub_ok K (⟨#[49, 48, 48, 48, 48, 48, 48, 48, 48, 48]⟩ : ByteArray) (⟨#[49]⟩ : ByteArray) O' _ i13)) ?_
 rintro v21 H22 ⟨G15, O16, s17, sm20, rfl⟩
 replace O16 : Ow G15 H22 (L) := O16
 refine W.pure (v := (.tuple #[(.string x12.1), (.int .i64 x12.2)])) rfl rfl (v_move (oo rfl rfl)) ?_
 refine W.pure (v := (.string x12.1)) rfl rfl (v_extract (oo rfl rfl) rfl) ?_
 refine W.pure (v := (.int .i64 x12.2)) rfl rfl (v_extract (oo rfl rfl) rfl) ?_
 refine W.pure (v := (.string x12.1)) rfl rfl (v_assign (oo rfl rfl)) ?_
 refine W.pure (v := (.int .i64 x12.2)) rfl rfl (v_assign (oo rfl rfl)) ?_
 refine .nil ?_
 refine .seq ?_
 refine .region ?_
 obtain ⟨x23, i24, h25⟩ := bd_inv h14
 refine W.lo rfl rfl (Lo.callP (ps := []) (ps' := []) rfl (fn := Tryd.f23) (by kernel_rfl) rfl (mc rfl (mc rfl mn)) O16 (fun L' O' => g_nat_Mul_ok K (⟨#[49, 48, 48, 48, 48, 48, 48, 48, 48, 48]⟩ : ByteArray) (⟨#[49, 48, 48, 48, 48, 48, 48, 48, 48, 48]⟩ : ByteArray) O' _ i24)) ?_
 rintro v32 H33 ⟨G26, O27, s28, sm31, rfl⟩
 replace O27 : Ow G26 H33 (L) := O27
 refine W.pure (v := (.tuple #[(.string x23.1), (.int .i64 x23.2)])) rfl rfl (v_move (oo rfl rfl)) ?_
 refine W.pure (v := (.string x23.1)) rfl rfl (v_extract (oo rfl rfl) rfl) ?_
 refine W.pure (v := (.int .i64 x23.2)) rfl rfl (v_extract (oo rfl rfl) rfl) ?_
 refine W.pure (v := (.string x23.1)) rfl rfl (v_assign (oo rfl rfl)) ?_
 refine W.pure (v := (.int .i64 x23.2)) rfl rfl (v_assign (oo rfl rfl)) ?_
 refine .nil ?_
 refine .seq ?_
 refine .region ?_
 obtain ⟨x34, i35, h36⟩ := bd_inv h25
 refine W.lo rfl rfl (Lo.callP (ps := []) (ps' := []) rfl (fn := Tryd.f26) (by kernel_rfl) rfl (mc rfl (mc rfl mn)) O27 (fun L' O' => g_nat_Divide_ok K (⟨#[49, 55]⟩ : ByteArray) (⟨#[53]⟩ : ByteArray) O' _ i35)) ?_
 rintro v43 H44 ⟨G37, O38, s39, sm42, rfl⟩
 replace O38 : Ow G37 H44 (L) := O38
 refine W.pure (v := (.tuple #[(.string x34.1), (.string x34.2.1), (.int .i64 x34.2.2)])) rfl rfl (v_move (oo rfl rfl)) ?_
 refine W.pure (v := (.string x34.1)) rfl rfl (v_extract (oo rfl rfl) rfl) ?_
 refine W.pure (v := (.string x34.2.1)) rfl rfl (v_extract (oo rfl rfl) rfl) ?_
 refine W.pure (v := (.int .i64 x34.2.2)) rfl rfl (v_extract (oo rfl rfl) rfl) ?_
 refine W.pure (v := (.string x34.1)) rfl rfl (v_assign (oo rfl rfl)) ?_
 refine W.pure (v := (.string x34.2.1)) rfl rfl (v_assign (oo rfl rfl)) ?_
 refine W.pure (v := (.int .i64 x34.2.2)) rfl rfl (v_assign (oo rfl rfl)) ?_
 refine .nil ?_
 refine .seq ?_
 refine .region ?_
 obtain ⟨x45, i46, h47⟩ := bd_inv h36
 refine W.lo rfl rfl (Lo.callP (ps := []) (ps' := []) rfl (fn := Tryd.f27) (by kernel_rfl) rfl (mc rfl (mc rfl mn)) O38 (fun L' O' => g_nat_Gcd_ok K (⟨#[49, 50]⟩ : ByteArray) (⟨#[49, 56]⟩ : ByteArray) O' _ i46)) ?_
 rintro v54 H55 ⟨G48, O49, s50, sm53, rfl⟩
 replace O49 : Ow G48 H55 (L) := O49
 refine W.pure (v := (.tuple #[(.string x45.1), (.int .i64 x45.2)])) rfl rfl (v_move (oo rfl rfl)) ?_
 refine W.pure (v := (.string x45.1)) rfl rfl (v_extract (oo rfl rfl) rfl) ?_
 refine W.pure (v := (.int .i64 x45.2)) rfl rfl (v_extract (oo rfl rfl) rfl) ?_
 refine W.pure (v := (.string x45.1)) rfl rfl (v_assign (oo rfl rfl)) ?_
 refine W.pure (v := (.int .i64 x45.2)) rfl rfl (v_assign (oo rfl rfl)) ?_
 refine .nil ?_
 refine .seq ?_
 refine .region ?_
 obtain ⟨x56, i57, h58⟩ := bd_inv h47
 refine W.lo rfl rfl (Lo.callP (ps := []) (ps' := []) rfl (fn := Tryd.f53) (by kernel_rfl) rfl (mc rfl (mc rfl mn)) O49 (fun L' O' => g_nat_Compare_ok K (⟨#[57]⟩ : ByteArray) (⟨#[49, 48]⟩ : ByteArray) O' _ i57)) ?_
 rintro v65 H66 ⟨G59, O60, s61, sm64, rfl⟩
 replace O60 : Ow G59 H66 (L) := O60
 refine W.pure (v := (.tuple #[(.int .i64 x56.1), (.int .i64 x56.2)])) rfl rfl (v_move (oo rfl rfl)) ?_
 refine W.pure (v := (.int .i64 x56.1)) rfl rfl (v_extract (oo rfl rfl) rfl) ?_
 refine W.pure (v := (.int .i64 x56.2)) rfl rfl (v_extract (oo rfl rfl) rfl) ?_
 refine W.pure (v := (.int .i64 x56.1)) rfl rfl (v_assign (oo rfl rfl)) ?_
 refine W.pure (v := (.int .i64 x56.2)) rfl rfl (v_assign (oo rfl rfl)) ?_
 refine .nil ?_
 refine .seq ?_
 refine .region ?_
 obtain ⟨x67, i68, h69⟩ := bd_inv h58
 refine W.lo rfl rfl (Lo.callP (ps := []) (ps' := []) rfl (fn := Tryd.f30) (by kernel_rfl) rfl (mc rfl (mc rfl mn)) O60 (fun L' O' => g_nat_Power_ok K (⟨#[50]⟩ : ByteArray) 10 O' _ i68)) ?_
 rintro v76 H77 ⟨G70, O71, s72, sm75, rfl⟩
 replace O71 : Ow G70 H77 (L) := O71
 refine W.pure (v := (.tuple #[(.string x67.1), (.int .i64 x67.2)])) rfl rfl (v_move (oo rfl rfl)) ?_
 refine W.pure (v := (.string x67.1)) rfl rfl (v_extract (oo rfl rfl) rfl) ?_
 refine W.pure (v := (.int .i64 x67.2)) rfl rfl (v_extract (oo rfl rfl) rfl) ?_
 refine W.pure (v := (.string x67.1)) rfl rfl (v_assign (oo rfl rfl)) ?_
 refine W.pure (v := (.int .i64 x67.2)) rfl rfl (v_assign (oo rfl rfl)) ?_
 refine .nil ?_
 refine .seq ?_
 refine .region ?_
 obtain ⟨x78, i79, h80⟩ := bd_inv h69
 refine W.lo rfl rfl (Lo.callP (ps := []) (ps' := []) rfl (fn := Tryd.f54) (by kernel_rfl) rfl (mc rfl mn) O71 (fun L' O' => g_nat_Root_ok K (⟨#[57, 57]⟩ : ByteArray) O' _ i79)) ?_
 rintro v87 H88 ⟨G81, O82, s83, sm86, rfl⟩
 replace O82 : Ow G81 H88 (L) := O82
 refine W.pure (v := (.tuple #[(.string x78.1), (.int .i64 x78.2)])) rfl rfl (v_move (oo rfl rfl)) ?_
 refine W.pure (v := (.string x78.1)) rfl rfl (v_extract (oo rfl rfl) rfl) ?_
 refine W.pure (v := (.int .i64 x78.2)) rfl rfl (v_extract (oo rfl rfl) rfl) ?_
 refine W.pure (v := (.string x78.1)) rfl rfl (v_assign (oo rfl rfl)) ?_
 refine W.pure (v := (.int .i64 x78.2)) rfl rfl (v_assign (oo rfl rfl)) ?_
 refine .nil ?_
 refine .seq ?_
 obtain ⟨q89, h90, h91⟩ := bd_inv h80
 refine AW.midT (fun σ' H' => ∃ (y1 : Bool) (G' : GM), y1 = q89 ∧ Ow G' H' (L) ∧ GM.le G81 G' ∧ σ' 0 = .bool y1) ?_ ?_
 ·refine .region ?_
  refine W.pure (v := (.int .i64 x1.2)) rfl rfl (v_move (oo rfl rfl)) ?_
  refine W.pure (v := (.int .i64 x12.2)) rfl rfl (v_move (oo rfl rfl)) ?_
  refine W.pure (v := (.int .i64 x23.2)) rfl rfl (v_move (oo rfl rfl)) ?_
  refine W.pure (v := (.int .i64 x34.2.2)) rfl rfl (v_move (oo rfl rfl)) ?_
  refine W.pure (v := (.int .i64 x45.2)) rfl rfl (v_move (oo rfl rfl)) ?_
  refine W.pure (v := (.int .i64 x56.2)) rfl rfl (v_move (oo rfl rfl)) ?_
  refine W.pure (v := (.int .i64 x67.2)) rfl rfl (v_move (oo rfl rfl)) ?_
  refine W.pure (v := (.int .i64 x78.2)) rfl rfl (v_move (oo rfl rfl)) ?_
  refine W.lo rfl rfl (Lo.buildSlice (r := (rI .i64)) (vs := [(.int .i64 x1.2), (.int .i64 x12.2), (.int .i64 x23.2), (.int .i64 x34.2.2), (.int .i64 x45.2), (.int .i64 x56.2), (.int .i64 x67.2), (.int .i64 x78.2)]) (xs := [x1.2, x12.2, x23.2, x34.2.2, x45.2, x56.2, x67.2, x78.2]) el70 ze23 sz23 (by kernel_rfl) rfl (qc rfl (qc rfl (qc rfl (qc rfl (qc rfl (qc rfl (qc rfl (qc rfl qn)))))))) rfl (.cons rfl (.cons rfl (.cons rfl (.cons rfl (.cons rfl (.cons rfl (.cons rfl (.cons rfl .nil)))))))) O82) ?_
  rintro v94 H95 ⟨O92, sm93⟩
  obtain ⟨x96, i97, h98⟩ := bd_inv h90
  refine W.lo rfl rfl (Lo.callB (j := 0) rfl rfl (fn := Tryd.f55) (by kernel_rfl) rfl (mc rfl mn) O92 (fun G' L' hG O' hB => g_law_fine_ok K v94 [x1.2, x12.2, x23.2, x34.2.2, x45.2, x56.2, x67.2, x78.2] hB O' _ i97)) ?_
  rintro v105 H106 ⟨G99, O100, s101, sm104, rfl⟩
  replace O100 : Ow G99 H106 (eSl v94 23 (rI .i64) [x1.2, x12.2, x23.2, x34.2.2, x45.2, x56.2, x67.2, x78.2] :: L) := O100
  refine W.pure (v := (.bool x96)) rfl rfl (v_move (oo rfl rfl)) ?_
  refine W.splitAt (t := 61) (b := x96) rfl (fun g107 gv108 => ?_) (fun g107 gv108 => ?_)
  ·have h109 := pos_inv g107 h98
   refine W.pure (v := (.string x1.1)) (gk rfl rfl gv108 rfl) rfl (v_move (oo rfl rfl)) ?_
   refine W.pure (v := (.bool (sEq x1.1 (⟨#[49, 48, 48, 48, 48, 48, 48, 48, 48, 48]⟩ : ByteArray)))) (gk rfl rfl gv108 rfl) rfl (vs_eql (oo rfl rfl) (oo rfl rfl)) ?_
   obtain ⟨x110, e111, h112⟩ := lt_inv h109
   refine W.pure (v := (.bool x110)) rfl rfl (v_pickT (oo rfl gv108) (oo rfl (congrArg (Value.bool) e111))) ?_
   refine W.pure (v := (.bool x110)) rfl rfl (v_move (oo rfl rfl)) ?_
   refine W.splitAt (t := 65) (b := x110) rfl (fun g113 gv114 => ?_) (fun g113 gv114 => ?_)
   ·have h115 := pos_inv g113 h112
    refine W.pure (v := (.string x12.1)) (gk rfl rfl gv114 rfl) rfl (v_move (oo rfl rfl)) ?_
    refine W.pure (v := (.bool (sEq x12.1 (⟨#[57, 57, 57, 57, 57, 57, 57, 57, 57]⟩ : ByteArray)))) (gk rfl rfl gv114 rfl) rfl (vs_eql (oo rfl rfl) (oo rfl rfl)) ?_
    obtain ⟨x116, e117, h118⟩ := lt_inv h115
    refine W.pure (v := (.bool x116)) rfl rfl (v_pickT (oo rfl gv114) (oo rfl (congrArg (Value.bool) e117))) ?_
    refine W.pure (v := (.bool x116)) rfl rfl (v_move (oo rfl rfl)) ?_
    refine W.splitAt (t := 69) (b := x116) rfl (fun g119 gv120 => ?_) (fun g119 gv120 => ?_)
    ·have h121 := pos_inv g119 h118
     refine W.pure (v := (.string x23.1)) (gk rfl rfl gv120 rfl) rfl (v_move (oo rfl rfl)) ?_
     refine W.pure (v := (.bool (sEq x23.1 (⟨#[49, 48, 48, 48, 48, 48, 48, 48, 48, 48, 48, 48, 48, 48, 48, 48, 48, 48, 48]⟩ : ByteArray)))) (gk rfl rfl gv120 rfl) rfl (vs_eql (oo rfl rfl) (oo rfl rfl)) ?_
     obtain ⟨x122, e123, h124⟩ := lt_inv h121
     refine W.pure (v := (.bool x122)) rfl rfl (v_pickT (oo rfl gv120) (oo rfl (congrArg (Value.bool) e123))) ?_
     refine W.pure (v := (.bool x122)) rfl rfl (v_move (oo rfl rfl)) ?_
     refine W.splitAt (t := 73) (b := x122) rfl (fun g125 gv126 => ?_) (fun g125 gv126 => ?_)
     ·have h127 := pos_inv g125 h124
      refine W.pure (v := (.string x34.1)) (gk rfl rfl gv126 rfl) rfl (v_move (oo rfl rfl)) ?_
      refine W.pure (v := (.bool (sEq x34.1 (⟨#[51]⟩ : ByteArray)))) (gk rfl rfl gv126 rfl) rfl (vs_eql (oo rfl rfl) (oo rfl rfl)) ?_
      refine W.pure (v := (.bool (sEq x34.1 (⟨#[51]⟩ : ByteArray)))) rfl rfl (v_pickT (oo rfl gv126) (oo rfl rfl)) ?_
      refine W.pure (v := (.bool (sEq x34.1 (⟨#[51]⟩ : ByteArray)))) rfl rfl (v_move (oo rfl rfl)) ?_
      refine W.splitAt (t := 77) (b := sEq x34.1 (⟨#[51]⟩ : ByteArray)) rfl (fun g128 gv129 => ?_) (fun g128 gv129 => ?_)
      ·have h130 := pos_inv g128 h127
       refine W.pure (v := (.string x34.2.1)) (gk rfl rfl gv129 rfl) rfl (v_move (oo rfl rfl)) ?_
       refine W.pure (v := (.bool (sEq x34.2.1 (⟨#[50]⟩ : ByteArray)))) (gk rfl rfl gv129 rfl) rfl (vs_eql (oo rfl rfl) (oo rfl rfl)) ?_
       refine W.pure (v := (.bool (sEq x34.2.1 (⟨#[50]⟩ : ByteArray)))) rfl rfl (v_pickT (oo rfl gv129) (oo rfl rfl)) ?_
       refine W.pure (v := (.bool (sEq x34.2.1 (⟨#[50]⟩ : ByteArray)))) rfl rfl (v_move (oo rfl rfl)) ?_
       refine W.splitAt (t := 81) (b := sEq x34.2.1 (⟨#[50]⟩ : ByteArray)) rfl (fun g131 gv132 => ?_) (fun g131 gv132 => ?_)
       ·have h133 := pos_inv g131 h130
        refine W.pure (v := (.string x45.1)) (gk rfl rfl gv132 rfl) rfl (v_move (oo rfl rfl)) ?_
        refine W.pure (v := (.bool (sEq x45.1 (⟨#[54]⟩ : ByteArray)))) (gk rfl rfl gv132 rfl) rfl (vs_eql (oo rfl rfl) (oo rfl rfl)) ?_
        refine W.pure (v := (.bool (sEq x45.1 (⟨#[54]⟩ : ByteArray)))) rfl rfl (v_pickT (oo rfl gv132) (oo rfl rfl)) ?_
        refine W.pure (v := (.bool (sEq x45.1 (⟨#[54]⟩ : ByteArray)))) rfl rfl (v_move (oo rfl rfl)) ?_
        refine W.splitAt (t := 85) (b := sEq x45.1 (⟨#[54]⟩ : ByteArray)) rfl (fun g134 gv135 => ?_) (fun g134 gv135 => ?_)
        ·have h136 := pos_inv g134 h133
         refine W.pure (v := (.int .i64 x56.1)) (gk rfl rfl gv135 rfl) rfl (v_move (oo rfl rfl)) ?_
         refine W.pure (v := (.bool (x56.1 == (-1)))) (gk rfl rfl gv135 rfl) rfl (v_int (oo rfl rfl) (oo rfl rfl) rfl) ?_
         refine W.pure (v := (.bool (x56.1 == (-1)))) rfl rfl (v_pickT (oo rfl gv135) (oo rfl rfl)) ?_
         refine W.pure (v := (.bool (x56.1 == (-1)))) rfl rfl (v_move (oo rfl rfl)) ?_
         refine W.splitAt (t := 89) (b := (x56.1 == (-1))) rfl (fun g137 gv138 => ?_) (fun g137 gv138 => ?_)
         ·have h139 := pos_inv g137 h136
          refine W.pure (v := (.string x67.1)) (gk rfl rfl gv138 rfl) rfl (v_move (oo rfl rfl)) ?_
          refine W.pure (v := (.bool (sEq x67.1 (⟨#[49, 48, 50, 52]⟩ : ByteArray)))) (gk rfl rfl gv138 rfl) rfl (vs_eql (oo rfl rfl) (oo rfl rfl)) ?_
          refine W.pure (v := (.bool (sEq x67.1 (⟨#[49, 48, 50, 52]⟩ : ByteArray)))) rfl rfl (v_pickT (oo rfl gv138) (oo rfl rfl)) ?_
          refine W.pure (v := (.bool (sEq x67.1 (⟨#[49, 48, 50, 52]⟩ : ByteArray)))) rfl rfl (v_move (oo rfl rfl)) ?_
          refine W.splitAt (t := 93) (b := sEq x67.1 (⟨#[49, 48, 50, 52]⟩ : ByteArray)) rfl (fun g140 gv141 => ?_) (fun g140 gv141 => ?_)
          ·have h142 := pos_inv g140 h139
           refine W.pure (v := (.string x78.1)) (gk rfl rfl gv141 rfl) rfl (v_move (oo rfl rfl)) ?_
           refine W.pure (v := (.bool (sEq x78.1 (⟨#[57]⟩ : ByteArray)))) (gk rfl rfl gv141 rfl) rfl (vs_eql (oo rfl rfl) (oo rfl rfl)) ?_
           refine W.pure (v := (.bool (sEq x78.1 (⟨#[57]⟩ : ByteArray)))) rfl rfl (v_pickT (oo rfl gv141) (oo rfl rfl)) ?_
           refine W.pure (v := (.bool (sEq x78.1 (⟨#[57]⟩ : ByteArray)))) rfl rfl (v_move (oo rfl rfl)) ?_
           refine W.splitAt (t := 97) (b := sEq x78.1 (⟨#[57]⟩ : ByteArray)) rfl (fun g143 gv144 => ?_) (fun g143 gv144 => ?_)
           ·have h145 := pos_inv g143 h142
            obtain ⟨x146, i147, h148⟩ := bd_inv h145
            refine W.lo (gk rfl rfl gv144 rfl) rfl (Lo.callP (ps := []) (ps' := []) rfl (fn := Tryd.f14) (by kernel_rfl) rfl (mc rfl mn) O100 (fun L' O' => g_nat_Check_ok K (⟨#[48, 48, 55]⟩ : ByteArray) O' _ i147)) ?_
            rintro v155 H156 ⟨G149, O150, s151, sm154, rfl⟩
            replace O150 : Ow G149 H156 (eSl v94 23 (rI .i64) [x1.2, x12.2, x23.2, x34.2.2, x45.2, x56.2, x67.2, x78.2] :: L) := O150
            refine W.pure (v := (.bool (x146 == 5))) (gk rfl rfl gv144 rfl) rfl (v_int (oo rfl rfl) (oo rfl rfl) rfl) ?_
            refine W.pure (v := (.bool (x146 == 5))) rfl rfl (v_pickT (oo rfl gv144) (oo rfl rfl)) ?_
            refine W.pure (v := (.bool (x146 == 5))) rfl rfl (v_assign (oo rfl rfl)) ?_
            refine .nil ?_
            have O157 : Ow G149 H156 (L) := O150.drop 0
            obtain rfl := Option.some.inj h148
            exact ⟨(x146 == 5), _, rfl, O157, (GM.le.trans s101 s151), rfl⟩
           ·have h158 := neg_b g143 h142
            refine W.skip (gk rfl rfl gv144 rfl) rfl ?_
            refine W.skip (gk rfl rfl gv144 rfl) rfl ?_
            refine W.pure (v := (.bool false)) rfl rfl (v_pickF (oo rfl gv144) (oo rfl rfl)) ?_
            refine W.pure (v := (.bool false)) rfl rfl (v_assign (oo rfl rfl)) ?_
            refine .nil ?_
            have O159 : Ow G99 H106 (L) := O100.drop 0
            obtain rfl := Option.some.inj h158
            exact ⟨false, _, rfl, O159, s101, rfl⟩
          ·have h160 := neg_b g140 h139
           refine W.skip (gk rfl rfl gv141 rfl) rfl ?_
           refine W.skip (gk rfl rfl gv141 rfl) rfl ?_
           refine W.pure (v := (.bool false)) rfl rfl (v_pickF (oo rfl gv141) (oo rfl rfl)) ?_
           refine W.pure (v := (.bool false)) rfl rfl (v_move (oo rfl rfl)) ?_
           refine W.skip (gk rfl rfl rfl rfl) rfl ?_
           refine W.skip (gk rfl rfl rfl rfl) rfl ?_
           refine W.pure (v := (.bool false)) rfl rfl (v_pickF (oo rfl rfl) (oo rfl rfl)) ?_
           refine W.pure (v := (.bool false)) rfl rfl (v_assign (oo rfl rfl)) ?_
           refine .nil ?_
           have O161 : Ow G99 H106 (L) := O100.drop 0
           obtain rfl := Option.some.inj h160
           exact ⟨false, _, rfl, O161, s101, rfl⟩
         ·have h162 := neg_b g137 h136
          refine W.skip (gk rfl rfl gv138 rfl) rfl ?_
          refine W.skip (gk rfl rfl gv138 rfl) rfl ?_
          refine W.pure (v := (.bool false)) rfl rfl (v_pickF (oo rfl gv138) (oo rfl rfl)) ?_
          refine W.pure (v := (.bool false)) rfl rfl (v_move (oo rfl rfl)) ?_
          refine W.skip (gk rfl rfl rfl rfl) rfl ?_
          refine W.skip (gk rfl rfl rfl rfl) rfl ?_
          refine W.pure (v := (.bool false)) rfl rfl (v_pickF (oo rfl rfl) (oo rfl rfl)) ?_
          refine W.pure (v := (.bool false)) rfl rfl (v_move (oo rfl rfl)) ?_
          refine W.skip (gk rfl rfl rfl rfl) rfl ?_
          refine W.skip (gk rfl rfl rfl rfl) rfl ?_
          refine W.pure (v := (.bool false)) rfl rfl (v_pickF (oo rfl rfl) (oo rfl rfl)) ?_
          refine W.pure (v := (.bool false)) rfl rfl (v_assign (oo rfl rfl)) ?_
          refine .nil ?_
          have O163 : Ow G99 H106 (L) := O100.drop 0
          obtain rfl := Option.some.inj h162
          exact ⟨false, _, rfl, O163, s101, rfl⟩
        ·have h164 := neg_b g134 h133
         refine W.skip (gk rfl rfl gv135 rfl) rfl ?_
         refine W.skip (gk rfl rfl gv135 rfl) rfl ?_
         refine W.pure (v := (.bool false)) rfl rfl (v_pickF (oo rfl gv135) (oo rfl rfl)) ?_
         refine W.pure (v := (.bool false)) rfl rfl (v_move (oo rfl rfl)) ?_
         refine W.skip (gk rfl rfl rfl rfl) rfl ?_
         refine W.skip (gk rfl rfl rfl rfl) rfl ?_
         refine W.pure (v := (.bool false)) rfl rfl (v_pickF (oo rfl rfl) (oo rfl rfl)) ?_
         refine W.pure (v := (.bool false)) rfl rfl (v_move (oo rfl rfl)) ?_
         refine W.skip (gk rfl rfl rfl rfl) rfl ?_
         refine W.skip (gk rfl rfl rfl rfl) rfl ?_
         refine W.pure (v := (.bool false)) rfl rfl (v_pickF (oo rfl rfl) (oo rfl rfl)) ?_
         refine W.pure (v := (.bool false)) rfl rfl (v_move (oo rfl rfl)) ?_
         refine W.skip (gk rfl rfl rfl rfl) rfl ?_
         refine W.skip (gk rfl rfl rfl rfl) rfl ?_
         refine W.pure (v := (.bool false)) rfl rfl (v_pickF (oo rfl rfl) (oo rfl rfl)) ?_
         refine W.pure (v := (.bool false)) rfl rfl (v_assign (oo rfl rfl)) ?_
         refine .nil ?_
         have O165 : Ow G99 H106 (L) := O100.drop 0
         obtain rfl := Option.some.inj h164
         exact ⟨false, _, rfl, O165, s101, rfl⟩
       ·have h166 := neg_b g131 h130
        refine W.skip (gk rfl rfl gv132 rfl) rfl ?_
        refine W.skip (gk rfl rfl gv132 rfl) rfl ?_
        refine W.pure (v := (.bool false)) rfl rfl (v_pickF (oo rfl gv132) (oo rfl rfl)) ?_
        refine W.pure (v := (.bool false)) rfl rfl (v_move (oo rfl rfl)) ?_
        refine W.skip (gk rfl rfl rfl rfl) rfl ?_
        refine W.skip (gk rfl rfl rfl rfl) rfl ?_
        refine W.pure (v := (.bool false)) rfl rfl (v_pickF (oo rfl rfl) (oo rfl rfl)) ?_
        refine W.pure (v := (.bool false)) rfl rfl (v_move (oo rfl rfl)) ?_
        refine W.skip (gk rfl rfl rfl rfl) rfl ?_
        refine W.skip (gk rfl rfl rfl rfl) rfl ?_
        refine W.pure (v := (.bool false)) rfl rfl (v_pickF (oo rfl rfl) (oo rfl rfl)) ?_
        refine W.pure (v := (.bool false)) rfl rfl (v_move (oo rfl rfl)) ?_
        refine W.skip (gk rfl rfl rfl rfl) rfl ?_
        refine W.skip (gk rfl rfl rfl rfl) rfl ?_
        refine W.pure (v := (.bool false)) rfl rfl (v_pickF (oo rfl rfl) (oo rfl rfl)) ?_
        refine W.pure (v := (.bool false)) rfl rfl (v_move (oo rfl rfl)) ?_
        refine W.skip (gk rfl rfl rfl rfl) rfl ?_
        refine W.skip (gk rfl rfl rfl rfl) rfl ?_
        refine W.pure (v := (.bool false)) rfl rfl (v_pickF (oo rfl rfl) (oo rfl rfl)) ?_
        refine W.pure (v := (.bool false)) rfl rfl (v_assign (oo rfl rfl)) ?_
        refine .nil ?_
        have O167 : Ow G99 H106 (L) := O100.drop 0
        obtain rfl := Option.some.inj h166
        exact ⟨false, _, rfl, O167, s101, rfl⟩
      ·have h168 := neg_b g128 h127
       refine W.skip (gk rfl rfl gv129 rfl) rfl ?_
       refine W.skip (gk rfl rfl gv129 rfl) rfl ?_
       refine W.pure (v := (.bool false)) rfl rfl (v_pickF (oo rfl gv129) (oo rfl rfl)) ?_
       refine W.pure (v := (.bool false)) rfl rfl (v_move (oo rfl rfl)) ?_
       refine W.skip (gk rfl rfl rfl rfl) rfl ?_
       refine W.skip (gk rfl rfl rfl rfl) rfl ?_
       refine W.pure (v := (.bool false)) rfl rfl (v_pickF (oo rfl rfl) (oo rfl rfl)) ?_
       refine W.pure (v := (.bool false)) rfl rfl (v_move (oo rfl rfl)) ?_
       refine W.skip (gk rfl rfl rfl rfl) rfl ?_
       refine W.skip (gk rfl rfl rfl rfl) rfl ?_
       refine W.pure (v := (.bool false)) rfl rfl (v_pickF (oo rfl rfl) (oo rfl rfl)) ?_
       refine W.pure (v := (.bool false)) rfl rfl (v_move (oo rfl rfl)) ?_
       refine W.skip (gk rfl rfl rfl rfl) rfl ?_
       refine W.skip (gk rfl rfl rfl rfl) rfl ?_
       refine W.pure (v := (.bool false)) rfl rfl (v_pickF (oo rfl rfl) (oo rfl rfl)) ?_
       refine W.pure (v := (.bool false)) rfl rfl (v_move (oo rfl rfl)) ?_
       refine W.skip (gk rfl rfl rfl rfl) rfl ?_
       refine W.skip (gk rfl rfl rfl rfl) rfl ?_
       refine W.pure (v := (.bool false)) rfl rfl (v_pickF (oo rfl rfl) (oo rfl rfl)) ?_
       refine W.pure (v := (.bool false)) rfl rfl (v_move (oo rfl rfl)) ?_
       refine W.skip (gk rfl rfl rfl rfl) rfl ?_
       refine W.skip (gk rfl rfl rfl rfl) rfl ?_
       refine W.pure (v := (.bool false)) rfl rfl (v_pickF (oo rfl rfl) (oo rfl rfl)) ?_
       refine W.pure (v := (.bool false)) rfl rfl (v_assign (oo rfl rfl)) ?_
       refine .nil ?_
       have O169 : Ow G99 H106 (L) := O100.drop 0
       obtain rfl := Option.some.inj h168
       exact ⟨false, _, rfl, O169, s101, rfl⟩
     ·have h170 := neg_b g125 h124
      refine W.skip (gk rfl rfl gv126 rfl) rfl ?_
      refine W.skip (gk rfl rfl gv126 rfl) rfl ?_
      refine W.pure (v := (.bool false)) rfl rfl (v_pickF (oo rfl gv126) (oo rfl rfl)) ?_
      refine W.pure (v := (.bool false)) rfl rfl (v_move (oo rfl rfl)) ?_
      refine W.skip (gk rfl rfl rfl rfl) rfl ?_
      refine W.skip (gk rfl rfl rfl rfl) rfl ?_
      refine W.pure (v := (.bool false)) rfl rfl (v_pickF (oo rfl rfl) (oo rfl rfl)) ?_
      refine W.pure (v := (.bool false)) rfl rfl (v_move (oo rfl rfl)) ?_
      refine W.skip (gk rfl rfl rfl rfl) rfl ?_
      refine W.skip (gk rfl rfl rfl rfl) rfl ?_
      refine W.pure (v := (.bool false)) rfl rfl (v_pickF (oo rfl rfl) (oo rfl rfl)) ?_
      refine W.pure (v := (.bool false)) rfl rfl (v_move (oo rfl rfl)) ?_
      refine W.skip (gk rfl rfl rfl rfl) rfl ?_
      refine W.skip (gk rfl rfl rfl rfl) rfl ?_
      refine W.pure (v := (.bool false)) rfl rfl (v_pickF (oo rfl rfl) (oo rfl rfl)) ?_
      refine W.pure (v := (.bool false)) rfl rfl (v_move (oo rfl rfl)) ?_
      refine W.skip (gk rfl rfl rfl rfl) rfl ?_
      refine W.skip (gk rfl rfl rfl rfl) rfl ?_
      refine W.pure (v := (.bool false)) rfl rfl (v_pickF (oo rfl rfl) (oo rfl rfl)) ?_
      refine W.pure (v := (.bool false)) rfl rfl (v_move (oo rfl rfl)) ?_
      refine W.skip (gk rfl rfl rfl rfl) rfl ?_
      refine W.skip (gk rfl rfl rfl rfl) rfl ?_
      refine W.pure (v := (.bool false)) rfl rfl (v_pickF (oo rfl rfl) (oo rfl rfl)) ?_
      refine W.pure (v := (.bool false)) rfl rfl (v_move (oo rfl rfl)) ?_
      refine W.skip (gk rfl rfl rfl rfl) rfl ?_
      refine W.skip (gk rfl rfl rfl rfl) rfl ?_
      refine W.pure (v := (.bool false)) rfl rfl (v_pickF (oo rfl rfl) (oo rfl rfl)) ?_
      refine W.pure (v := (.bool false)) rfl rfl (v_assign (oo rfl rfl)) ?_
      refine .nil ?_
      have O171 : Ow G99 H106 (L) := O100.drop 0
      obtain rfl := Option.some.inj h170
      exact ⟨false, _, rfl, O171, s101, rfl⟩
    ·have h172 := neg_b g119 h118
     refine W.skip (gk rfl rfl gv120 rfl) rfl ?_
     refine W.skip (gk rfl rfl gv120 rfl) rfl ?_
     refine W.pure (v := (.bool false)) rfl rfl (v_pickF (oo rfl gv120) (oo rfl rfl)) ?_
     refine W.pure (v := (.bool false)) rfl rfl (v_move (oo rfl rfl)) ?_
     refine W.skip (gk rfl rfl rfl rfl) rfl ?_
     refine W.skip (gk rfl rfl rfl rfl) rfl ?_
     refine W.pure (v := (.bool false)) rfl rfl (v_pickF (oo rfl rfl) (oo rfl rfl)) ?_
     refine W.pure (v := (.bool false)) rfl rfl (v_move (oo rfl rfl)) ?_
     refine W.skip (gk rfl rfl rfl rfl) rfl ?_
     refine W.skip (gk rfl rfl rfl rfl) rfl ?_
     refine W.pure (v := (.bool false)) rfl rfl (v_pickF (oo rfl rfl) (oo rfl rfl)) ?_
     refine W.pure (v := (.bool false)) rfl rfl (v_move (oo rfl rfl)) ?_
     refine W.skip (gk rfl rfl rfl rfl) rfl ?_
     refine W.skip (gk rfl rfl rfl rfl) rfl ?_
     refine W.pure (v := (.bool false)) rfl rfl (v_pickF (oo rfl rfl) (oo rfl rfl)) ?_
     refine W.pure (v := (.bool false)) rfl rfl (v_move (oo rfl rfl)) ?_
     refine W.skip (gk rfl rfl rfl rfl) rfl ?_
     refine W.skip (gk rfl rfl rfl rfl) rfl ?_
     refine W.pure (v := (.bool false)) rfl rfl (v_pickF (oo rfl rfl) (oo rfl rfl)) ?_
     refine W.pure (v := (.bool false)) rfl rfl (v_move (oo rfl rfl)) ?_
     refine W.skip (gk rfl rfl rfl rfl) rfl ?_
     refine W.skip (gk rfl rfl rfl rfl) rfl ?_
     refine W.pure (v := (.bool false)) rfl rfl (v_pickF (oo rfl rfl) (oo rfl rfl)) ?_
     refine W.pure (v := (.bool false)) rfl rfl (v_move (oo rfl rfl)) ?_
     refine W.skip (gk rfl rfl rfl rfl) rfl ?_
     refine W.skip (gk rfl rfl rfl rfl) rfl ?_
     refine W.pure (v := (.bool false)) rfl rfl (v_pickF (oo rfl rfl) (oo rfl rfl)) ?_
     refine W.pure (v := (.bool false)) rfl rfl (v_move (oo rfl rfl)) ?_
     refine W.skip (gk rfl rfl rfl rfl) rfl ?_
     refine W.skip (gk rfl rfl rfl rfl) rfl ?_
     refine W.pure (v := (.bool false)) rfl rfl (v_pickF (oo rfl rfl) (oo rfl rfl)) ?_
     refine W.pure (v := (.bool false)) rfl rfl (v_assign (oo rfl rfl)) ?_
     refine .nil ?_
     have O173 : Ow G99 H106 (L) := O100.drop 0
     obtain rfl := Option.some.inj h172
     exact ⟨false, _, rfl, O173, s101, rfl⟩
   ·have h174 := neg_b g113 h112
    refine W.skip (gk rfl rfl gv114 rfl) rfl ?_
    refine W.skip (gk rfl rfl gv114 rfl) rfl ?_
    refine W.pure (v := (.bool false)) rfl rfl (v_pickF (oo rfl gv114) (oo rfl rfl)) ?_
    refine W.pure (v := (.bool false)) rfl rfl (v_move (oo rfl rfl)) ?_
    refine W.skip (gk rfl rfl rfl rfl) rfl ?_
    refine W.skip (gk rfl rfl rfl rfl) rfl ?_
    refine W.pure (v := (.bool false)) rfl rfl (v_pickF (oo rfl rfl) (oo rfl rfl)) ?_
    refine W.pure (v := (.bool false)) rfl rfl (v_move (oo rfl rfl)) ?_
    refine W.skip (gk rfl rfl rfl rfl) rfl ?_
    refine W.skip (gk rfl rfl rfl rfl) rfl ?_
    refine W.pure (v := (.bool false)) rfl rfl (v_pickF (oo rfl rfl) (oo rfl rfl)) ?_
    refine W.pure (v := (.bool false)) rfl rfl (v_move (oo rfl rfl)) ?_
    refine W.skip (gk rfl rfl rfl rfl) rfl ?_
    refine W.skip (gk rfl rfl rfl rfl) rfl ?_
    refine W.pure (v := (.bool false)) rfl rfl (v_pickF (oo rfl rfl) (oo rfl rfl)) ?_
    refine W.pure (v := (.bool false)) rfl rfl (v_move (oo rfl rfl)) ?_
    refine W.skip (gk rfl rfl rfl rfl) rfl ?_
    refine W.skip (gk rfl rfl rfl rfl) rfl ?_
    refine W.pure (v := (.bool false)) rfl rfl (v_pickF (oo rfl rfl) (oo rfl rfl)) ?_
    refine W.pure (v := (.bool false)) rfl rfl (v_move (oo rfl rfl)) ?_
    refine W.skip (gk rfl rfl rfl rfl) rfl ?_
    refine W.skip (gk rfl rfl rfl rfl) rfl ?_
    refine W.pure (v := (.bool false)) rfl rfl (v_pickF (oo rfl rfl) (oo rfl rfl)) ?_
    refine W.pure (v := (.bool false)) rfl rfl (v_move (oo rfl rfl)) ?_
    refine W.skip (gk rfl rfl rfl rfl) rfl ?_
    refine W.skip (gk rfl rfl rfl rfl) rfl ?_
    refine W.pure (v := (.bool false)) rfl rfl (v_pickF (oo rfl rfl) (oo rfl rfl)) ?_
    refine W.pure (v := (.bool false)) rfl rfl (v_move (oo rfl rfl)) ?_
    refine W.skip (gk rfl rfl rfl rfl) rfl ?_
    refine W.skip (gk rfl rfl rfl rfl) rfl ?_
    refine W.pure (v := (.bool false)) rfl rfl (v_pickF (oo rfl rfl) (oo rfl rfl)) ?_
    refine W.pure (v := (.bool false)) rfl rfl (v_move (oo rfl rfl)) ?_
    refine W.skip (gk rfl rfl rfl rfl) rfl ?_
    refine W.skip (gk rfl rfl rfl rfl) rfl ?_
    refine W.pure (v := (.bool false)) rfl rfl (v_pickF (oo rfl rfl) (oo rfl rfl)) ?_
    refine W.pure (v := (.bool false)) rfl rfl (v_assign (oo rfl rfl)) ?_
    refine .nil ?_
    have O175 : Ow G99 H106 (L) := O100.drop 0
    obtain rfl := Option.some.inj h174
    exact ⟨false, _, rfl, O175, s101, rfl⟩
  ·have h176 := neg_b g107 h98
   refine W.skip (gk rfl rfl gv108 rfl) rfl ?_
   refine W.skip (gk rfl rfl gv108 rfl) rfl ?_
   refine W.pure (v := (.bool false)) rfl rfl (v_pickF (oo rfl gv108) (oo rfl rfl)) ?_
   refine W.pure (v := (.bool false)) rfl rfl (v_move (oo rfl rfl)) ?_
   refine W.skip (gk rfl rfl rfl rfl) rfl ?_
   refine W.skip (gk rfl rfl rfl rfl) rfl ?_
   refine W.pure (v := (.bool false)) rfl rfl (v_pickF (oo rfl rfl) (oo rfl rfl)) ?_
   refine W.pure (v := (.bool false)) rfl rfl (v_move (oo rfl rfl)) ?_
   refine W.skip (gk rfl rfl rfl rfl) rfl ?_
   refine W.skip (gk rfl rfl rfl rfl) rfl ?_
   refine W.pure (v := (.bool false)) rfl rfl (v_pickF (oo rfl rfl) (oo rfl rfl)) ?_
   refine W.pure (v := (.bool false)) rfl rfl (v_move (oo rfl rfl)) ?_
   refine W.skip (gk rfl rfl rfl rfl) rfl ?_
   refine W.skip (gk rfl rfl rfl rfl) rfl ?_
   refine W.pure (v := (.bool false)) rfl rfl (v_pickF (oo rfl rfl) (oo rfl rfl)) ?_
   refine W.pure (v := (.bool false)) rfl rfl (v_move (oo rfl rfl)) ?_
   refine W.skip (gk rfl rfl rfl rfl) rfl ?_
   refine W.skip (gk rfl rfl rfl rfl) rfl ?_
   refine W.pure (v := (.bool false)) rfl rfl (v_pickF (oo rfl rfl) (oo rfl rfl)) ?_
   refine W.pure (v := (.bool false)) rfl rfl (v_move (oo rfl rfl)) ?_
   refine W.skip (gk rfl rfl rfl rfl) rfl ?_
   refine W.skip (gk rfl rfl rfl rfl) rfl ?_
   refine W.pure (v := (.bool false)) rfl rfl (v_pickF (oo rfl rfl) (oo rfl rfl)) ?_
   refine W.pure (v := (.bool false)) rfl rfl (v_move (oo rfl rfl)) ?_
   refine W.skip (gk rfl rfl rfl rfl) rfl ?_
   refine W.skip (gk rfl rfl rfl rfl) rfl ?_
   refine W.pure (v := (.bool false)) rfl rfl (v_pickF (oo rfl rfl) (oo rfl rfl)) ?_
   refine W.pure (v := (.bool false)) rfl rfl (v_move (oo rfl rfl)) ?_
   refine W.skip (gk rfl rfl rfl rfl) rfl ?_
   refine W.skip (gk rfl rfl rfl rfl) rfl ?_
   refine W.pure (v := (.bool false)) rfl rfl (v_pickF (oo rfl rfl) (oo rfl rfl)) ?_
   refine W.pure (v := (.bool false)) rfl rfl (v_move (oo rfl rfl)) ?_
   refine W.skip (gk rfl rfl rfl rfl) rfl ?_
   refine W.skip (gk rfl rfl rfl rfl) rfl ?_
   refine W.pure (v := (.bool false)) rfl rfl (v_pickF (oo rfl rfl) (oo rfl rfl)) ?_
   refine W.pure (v := (.bool false)) rfl rfl (v_move (oo rfl rfl)) ?_
   refine W.skip (gk rfl rfl rfl rfl) rfl ?_
   refine W.skip (gk rfl rfl rfl rfl) rfl ?_
   refine W.pure (v := (.bool false)) rfl rfl (v_pickF (oo rfl rfl) (oo rfl rfl)) ?_
   refine W.pure (v := (.bool false)) rfl rfl (v_assign (oo rfl rfl)) ?_
   refine .nil ?_
   have O177 : Ow G99 H106 (L) := O100.drop 0
   obtain rfl := Option.some.inj h176
   exact ⟨false, _, rfl, O177, s101, rfl⟩
 ·rintro σ179 H180 fr181 ⟨x178, G182, rfl, O183, s184, t186⟩
  have h187 := tu1_inv h91
  refine .ret ?_
  obtain rfl := Option.some.inj h187
  refine ret1R (P := Tryd.prog) (fn := Tryd.f13) (n := 101) (R := fun v H' => ∃ G', Ow G' H' (L) ∧ G.le G' ∧ v = .bool x178) (v1 := (.bool x178)) (by rfl) (rr_tmp (by rfl) (by exact t186)) ?_
  exact ⟨_, O183, (GM.le.trans s6 (GM.le.trans s17 (GM.le.trans s28 (GM.le.trans s39 (GM.le.trans s50 (GM.le.trans s61 (GM.le.trans s72 (GM.le.trans s83 s184)))))))), rfl⟩
def g_R_NatError_l0 (K : Nat) (p0 : ByteArray) : Nat → Int → Option (Int ⊕ Unit)
 | 0, _ => none
 | k + 1, x8 => (if (decide (x8 < (p0.size : Int))) = true then (Option.bind (((bidx p0 x8).bind fun x22 => (if (decide (x22 < 48)) = true then some true else ((bidx p0 x8).bind fun x29 => some (decide (x29 > 57)))))) (tu1 fun x32 => (if x32 = true then some (.inl 5) else g_R_NatError_l0 K p0 k (kwrap .i64 (x8 + 1))))) else some (.inr ()))
def g_R_NatError (K : Nat) (p0 : ByteArray) : Option Int := (if ((p0.size : Int) == 0) = true then some 5 else (bindS (g_R_NatError_l0 K p0 K 0) (tu1 fun a81 => some a81) (tu0 (Option.bind ((if (decide ((p0.size : Int) > 1)) = true then ((bidx p0 0).bind fun x61 => some (x61 == 48)) else some false)) (tu1 fun x65 => (if x65 = true then some 5 else (if (decide ((p0.size : Int) > 2000)) = true then some 2 else some 0)))))))
set_option maxHeartbeats 4000000 in
theorem g_R_NatError_ok (K : Nat) {G : GM} {H : AH} {L : List Pc} (p0 : ByteArray) (O : Ow G H (L)) (r : Int) (h : g_R_NatError K p0 = some r) :
  CR Tryd.prog 15 [(.string p0)] G H (L) (fun v G' _ => v = .int .i64 r) := by
 unfold g_R_NatError at h
 refine CR.of (calls_of_AW (n := 34) (fn := Tryd.f15) (R := fun v H' => ∃ G', Ow G' H' (L) ∧ G.le G' ∧ v = .int .i64 r) (by kernel_rfl) rfl rfl ?_)
 refine .seq ?_
 refine .region ?_
 refine W.pure (v := (.int .i64 0)) rfl rfl (v_assign (oo rfl rfl)) ?_
 refine .nil ?_
 refine .seq ?_
 refine .seq ?_
 refine .region ?_
 refine W.pure (v := (.string p0)) rfl rfl (v_move (oo rfl rfl)) ?_
 refine W.pure (v := (.int .i64 (p0.size : Int))) rfl rfl (len_str (oo rfl rfl) un9) ?_
 refine W.pure (v := (.bool ((p0.size : Int) == 0))) rfl rfl (v_int (oo rfl rfl) (oo rfl rfl) rfl) ?_
 refine .nil ?_
 refine .cond (b := ((p0.size : Int) == 0)) rfl rfl (fun g1 => ?_) (fun g1 => ?_)
 ·have h2 := pos_inv g1 h
  refine .seq ?_
  refine .region ?_
  refine W.pure (v := (.int .i64 5)) rfl rfl (v_assign (oo rfl rfl)) ?_
  refine .nil ?_
  refine .ret ?_
  obtain rfl := Option.some.inj h2
  refine ret1R (P := Tryd.prog) (fn := Tryd.f15) (n := 34) (R := fun v H' => ∃ G', Ow G' H' (L) ∧ G.le G' ∧ v = .int .i64 5) (v1 := (.int .i64 5)) (by rfl) (rr_tmp (by rfl) (by exact rfl)) ?_
  exact ⟨_, O, (GM.le.refl _), rfl⟩
 ·have h3 := neg_b g1 h
  refine .skip ?_
  refine .seq ?_
  refine .seq ?_
  refine .region ?_
  refine W.pure (v := (.int .i64 0)) rfl rfl (v_assign (oo rfl rfl)) ?_
  refine .nil ?_
  obtain ⟨q4, h5, h6⟩ := bindS_inv h3
  refine AW.midT (fun σ' H' => ∃  (G' : GM), (.inr ()) = q4 ∧ Ow G' H' (L) ∧ GM.le G G') ?_ ?_
  ·refine .block ?_
   refine AW.loop (α := Nat) (fun k' σ' H' => ∃ (y1 : Int) (G' : GM), g_R_NatError_l0 K p0 k' y1 = some q4 ∧ Ow G' H' (L) ∧ GM.le G G' ∧ σ' 3 = .int .i64 y1) (fun k' => k') K ⟨0, _, h5, O, (GM.le.refl _), rfl⟩ ?_
   rintro k7
   rintro σ9 H10 fr11 ⟨x8, G12, h15, O13, s14, t16⟩
   rcases k7 with _ | k7
   ·exact none_absurd h15
   rw [g_R_NatError_l0] at h15
   refine .seq ?_
   refine .seq ?_
   refine .region ?_
   refine W.pure (v := (.int .i64 x8)) rfl rfl (v_move (oo rfl t16)) ?_
   refine W.pure (v := (.string p0)) rfl rfl (v_move (oo rfl ((fr11 0 rfl).trans rfl))) ?_
   refine W.pure (v := (.int .i64 (p0.size : Int))) rfl rfl (len_str (oo rfl rfl) un9) ?_
   refine W.pure (v := (.bool (decide (x8 < (p0.size : Int))))) rfl rfl (v_int (oo rfl rfl) (oo rfl rfl) rfl) ?_
   refine .nil ?_
   refine .cond (b := decide (x8 < (p0.size : Int))) rfl rfl (fun g17 => ?_) (fun g17 => ?_)
   ·have h18 := pos_inv g17 h15
    refine .skip ?_
    refine .seq ?_
    refine .block ?_
    refine .seq ?_
    obtain ⟨q19, h20, h21⟩ := bd_inv h18
    refine AW.midT (fun σ' H' => ∃ (y1 : Bool) (G' : GM), y1 = q19 ∧ Ow G' H' (L) ∧ GM.le G12 G' ∧ σ' 22 = .bool y1) ?_ ?_
    ·refine .region ?_
     refine W.pure (v := (.string p0)) rfl rfl (v_move (oo rfl ((fr11 0 rfl).trans rfl))) ?_
     refine W.pure (v := (.int .i64 x8)) rfl rfl (v_move (oo rfl t16)) ?_
     obtain ⟨x22, i23, h24⟩ := bd_inv h20
     refine W.pure (v := (.int .u8 x22)) rfl rfl (v_sidx un9 (oo rfl rfl) (oo rfl rfl) i23) ?_
     refine W.pure (v := (.bool (decide (x22 < 48)))) rfl rfl (v_int (oo rfl rfl) (oo rfl rfl) rfl) ?_
     refine W.pure (v := (.bool (decide (x22 < 48)))) rfl rfl (v_move (oo rfl rfl)) ?_
     refine W.splitAt (t := 17) (b := decide (x22 < 48)) rfl (fun g25 gv26 => ?_) (fun g25 gv26 => ?_)
     ·have h27 := pos_inv g25 h24
      refine W.skip (gk rfl rfl gv26 rfl) rfl ?_
      refine W.skip (gk rfl rfl gv26 rfl) rfl ?_
      refine W.skip (gk rfl rfl gv26 rfl) rfl ?_
      refine W.skip (gk rfl rfl gv26 rfl) rfl ?_
      refine W.pure (v := (.bool true)) rfl rfl (v_pickT (oo rfl gv26) (oo rfl rfl)) ?_
      refine .nil ?_
      obtain rfl := Option.some.inj h27
      exact ⟨true, _, rfl, O13, (GM.le.refl _), rfl⟩
     ·have h28 := neg_b g25 h24
      refine W.pure (v := (.string p0)) (gk rfl rfl gv26 rfl) rfl (v_move (oo rfl ((fr11 0 rfl).trans rfl))) ?_
      refine W.pure (v := (.int .i64 x8)) (gk rfl rfl gv26 rfl) rfl (v_move (oo rfl t16)) ?_
      obtain ⟨x29, i30, h31⟩ := bd_inv h28
      refine W.pure (v := (.int .u8 x29)) (gk rfl rfl gv26 rfl) rfl (v_sidx un9 (oo rfl rfl) (oo rfl rfl) i30) ?_
      refine W.pure (v := (.bool (decide (x29 > 57)))) (gk rfl rfl gv26 rfl) rfl (v_int (oo rfl rfl) (oo rfl rfl) rfl) ?_
      refine W.pure (v := (.bool (decide (x29 > 57)))) rfl rfl (v_pickF (oo rfl gv26) (oo rfl rfl)) ?_
      refine .nil ?_
      obtain rfl := Option.some.inj h31
      exact ⟨decide (x29 > 57), _, rfl, O13, (GM.le.refl _), rfl⟩
    ·rintro σ33 H34 fr35 ⟨x32, G36, rfl, O37, s38, t40⟩
     have h41 := tu1_inv h21
     refine .cond (b := x32) rfl t40 (fun g42 => ?_) (fun g42 => ?_)
     ·have h43 := pos_inv g42 h41
      refine .seq ?_
      refine .region ?_
      refine W.pure (v := (.int .i64 5)) rfl rfl (v_assign (oo rfl rfl)) ?_
      refine .nil ?_
      refine .ret ?_
      obtain rfl := Option.some.inj h43
      have h44 := tu1_inv (outS_l h6)
      obtain rfl := Option.some.inj h44
      refine ret1R (P := Tryd.prog) (fn := Tryd.f15) (n := 34) (R := fun v H' => ∃ G', Ow G' H' (L) ∧ G.le G' ∧ v = .int .i64 5) (v1 := (.int .i64 5)) (by rfl) (rr_tmp (by rfl) (by exact rfl)) ?_
      exact ⟨_, O37, (GM.le.trans s14 s38), rfl⟩
     ·have h45 := neg_b g42 h41
      refine .skip ?_
      refine .region ?_
      refine W.pure (v := (.int .i64 x8)) rfl rfl (v_move (oo rfl ((fr35 3 rfl).trans t16))) ?_
      refine W.pure (v := (.int .i64 (kwrap .i64 (x8 + 1)))) rfl rfl (v_int (oo rfl rfl) (oo rfl rfl) rfl) ?_
      refine W.pure (v := (.int .i64 (kwrap .i64 (x8 + 1)))) rfl rfl (v_assign (oo rfl rfl)) ?_
      refine .nil ?_
      exact ⟨k7, Nat.lt_succ_self _, ⟨kwrap .i64 (x8 + 1), _, h45, O37, (GM.le.trans s14 s38), rfl⟩⟩
   ·have h46 := neg_b g17 h15
    refine .exit ?_
    obtain rfl := Option.some.inj h46
    exact ⟨_, rfl, O13, s14⟩
  ·rintro σ47 H48 fr49 ⟨G50, rfl, O51, s52⟩
   have h54 := tu0_inv (outS_r h6)
   refine .seq ?_
   refine .seq ?_
   obtain ⟨q55, h56, h57⟩ := bd_inv h54
   refine AW.midT (fun σ' H' => ∃ (y1 : Bool) (G' : GM), y1 = q55 ∧ Ow G' H' (L) ∧ GM.le G50 G' ∧ σ' 30 = .bool y1) ?_ ?_
   ·refine .region ?_
    refine W.pure (v := (.string p0)) rfl rfl (v_move (oo rfl ((fr49 0 rfl).trans rfl))) ?_
    refine W.pure (v := (.int .i64 (p0.size : Int))) rfl rfl (len_str (oo rfl rfl) un9) ?_
    refine W.pure (v := (.bool (decide ((p0.size : Int) > 1)))) rfl rfl (v_int (oo rfl rfl) (oo rfl rfl) rfl) ?_
    refine W.pure (v := (.bool (decide ((p0.size : Int) > 1)))) rfl rfl (v_move (oo rfl rfl)) ?_
    refine W.splitAt (t := 26) (b := decide ((p0.size : Int) > 1)) rfl (fun g58 gv59 => ?_) (fun g58 gv59 => ?_)
    ·have h60 := pos_inv g58 h56
     refine W.pure (v := (.string p0)) (gk rfl rfl gv59 rfl) rfl (v_move (oo rfl ((fr49 0 rfl).trans rfl))) ?_
     obtain ⟨x61, i62, h63⟩ := bd_inv h60
     refine W.pure (v := (.int .u8 x61)) (gk rfl rfl gv59 rfl) rfl (v_sidx un9 (oo rfl rfl) (oo rfl rfl) i62) ?_
     refine W.pure (v := (.bool (x61 == 48))) (gk rfl rfl gv59 rfl) rfl (v_int (oo rfl rfl) (oo rfl rfl) rfl) ?_
     refine W.pure (v := (.bool (x61 == 48))) rfl rfl (v_pickT (oo rfl gv59) (oo rfl rfl)) ?_
     refine .nil ?_
     obtain rfl := Option.some.inj h63
     exact ⟨(x61 == 48), _, rfl, O51, (GM.le.refl _), rfl⟩
    ·have h64 := neg_b g58 h56
     refine W.skip (gk rfl rfl gv59 rfl) rfl ?_
     refine W.skip (gk rfl rfl gv59 rfl) rfl ?_
     refine W.skip (gk rfl rfl gv59 rfl) rfl ?_
     refine W.pure (v := (.bool false)) rfl rfl (v_pickF (oo rfl gv59) (oo rfl rfl)) ?_
     refine .nil ?_
     obtain rfl := Option.some.inj h64
     exact ⟨false, _, rfl, O51, (GM.le.refl _), rfl⟩
   ·rintro σ66 H67 fr68 ⟨x65, G69, rfl, O70, s71, t73⟩
    have h74 := tu1_inv h57
    refine .cond (b := x65) rfl t73 (fun g75 => ?_) (fun g75 => ?_)
    ·have h76 := pos_inv g75 h74
     refine .seq ?_
     refine .region ?_
     refine W.pure (v := (.int .i64 5)) rfl rfl (v_assign (oo rfl rfl)) ?_
     refine .nil ?_
     refine .ret ?_
     obtain rfl := Option.some.inj h76
     refine ret1R (P := Tryd.prog) (fn := Tryd.f15) (n := 34) (R := fun v H' => ∃ G', Ow G' H' (L) ∧ G.le G' ∧ v = .int .i64 5) (v1 := (.int .i64 5)) (by rfl) (rr_tmp (by rfl) (by exact rfl)) ?_
     exact ⟨_, O70, (GM.le.trans s52 s71), rfl⟩
    ·have h77 := neg_b g75 h74
     refine .skip ?_
     refine .seq ?_
     refine .seq ?_
     refine .region ?_
     refine W.pure (v := (.string p0)) rfl rfl (v_move (oo rfl ((fr68 0 rfl).trans ((fr49 0 rfl).trans rfl)))) ?_
     refine W.pure (v := (.int .i64 (p0.size : Int))) rfl rfl (len_str (oo rfl rfl) un9) ?_
     refine W.pure (v := (.bool (decide ((p0.size : Int) > 2000)))) rfl rfl (v_int (oo rfl rfl) (oo rfl rfl) rfl) ?_
     refine .nil ?_
     refine .cond (b := decide ((p0.size : Int) > 2000)) rfl rfl (fun g78 => ?_) (fun g78 => ?_)
     ·have h79 := pos_inv g78 h77
      refine .seq ?_
      refine .region ?_
      refine W.pure (v := (.int .i64 2)) rfl rfl (v_assign (oo rfl rfl)) ?_
      refine .nil ?_
      refine .ret ?_
      obtain rfl := Option.some.inj h79
      refine ret1R (P := Tryd.prog) (fn := Tryd.f15) (n := 34) (R := fun v H' => ∃ G', Ow G' H' (L) ∧ G.le G' ∧ v = .int .i64 2) (v1 := (.int .i64 2)) (by rfl) (rr_tmp (by rfl) (by exact rfl)) ?_
      exact ⟨_, O70, (GM.le.trans s52 s71), rfl⟩
     ·have h80 := neg_b g78 h77
      refine .skip ?_
      refine .seq ?_
      refine .region ?_
      refine W.pure (v := (.int .i64 0)) rfl rfl (v_assign (oo rfl rfl)) ?_
      refine .nil ?_
      refine .ret ?_
      obtain rfl := Option.some.inj h80
      refine ret1R (P := Tryd.prog) (fn := Tryd.f15) (n := 34) (R := fun v H' => ∃ G', Ow G' H' (L) ∧ G.le G' ∧ v = .int .i64 0) (v1 := (.int .i64 0)) (by rfl) (rr_tmp (by rfl) (by exact rfl)) ?_
      exact ⟨_, O70, (GM.le.trans s52 s71), rfl⟩
def g_R_digit (K : Nat) (p0 : ByteArray) (p1 : Int) : Option Int := (if (decide (p1 < (p0.size : Int))) = true then ((bidx p0 (kwrap .i64 ((kwrap .i64 ((p0.size : Int) - 1)) - p1))).bind fun x3 => some (IntKind.wrap .i64 (kwrap .u8 (x3 - 48)))) else some 0)
set_option maxHeartbeats 4000000 in
theorem g_R_digit_ok (K : Nat) {G : GM} {H : AH} {L : List Pc} (p0 : ByteArray) (p1 : Int) (O : Ow G H (L)) (r : Int) (h : g_R_digit K p0 p1 = some r) :
  CR Tryd.prog 61 [(.string p0), (.int .i64 p1)] G H (L) (fun v G' _ => v = .int .i64 r) := by
 unfold g_R_digit at h
 refine CR.of (calls_of_AW (n := 18) (fn := Tryd.f61) (R := fun v H' => ∃ G', Ow G' H' (L) ∧ G.le G' ∧ v = .int .i64 r) (by kernel_rfl) rfl rfl ?_)
 refine .seq ?_
 refine .region ?_
 refine W.pure (v := (.int .i64 0)) rfl rfl (v_assign (oo rfl rfl)) ?_
 refine .nil ?_
 refine .seq ?_
 refine .seq ?_
 refine .region ?_
 refine W.pure (v := (.int .i64 p1)) rfl rfl (v_move (oo rfl rfl)) ?_
 refine W.pure (v := (.string p0)) rfl rfl (v_move (oo rfl rfl)) ?_
 refine W.pure (v := (.int .i64 (p0.size : Int))) rfl rfl (len_str (oo rfl rfl) un9) ?_
 refine W.pure (v := (.bool (decide (p1 < (p0.size : Int))))) rfl rfl (v_int (oo rfl rfl) (oo rfl rfl) rfl) ?_
 refine .nil ?_
 refine .cond (b := decide (p1 < (p0.size : Int))) rfl rfl (fun g1 => ?_) (fun g1 => ?_)
 ·have h2 := pos_inv g1 h
  refine .seq ?_
  refine .region ?_
  refine W.pure (v := (.string p0)) rfl rfl (v_move (oo rfl rfl)) ?_
  refine W.pure (v := (.string p0)) rfl rfl (v_move (oo rfl rfl)) ?_
  refine W.pure (v := (.int .i64 (p0.size : Int))) rfl rfl (len_str (oo rfl rfl) un9) ?_
  refine W.pure (v := (.int .i64 (kwrap .i64 ((p0.size : Int) - 1)))) rfl rfl (v_int (oo rfl rfl) (oo rfl rfl) rfl) ?_
  refine W.pure (v := (.int .i64 p1)) rfl rfl (v_move (oo rfl rfl)) ?_
  refine W.pure (v := (.int .i64 (kwrap .i64 ((kwrap .i64 ((p0.size : Int) - 1)) - p1)))) rfl rfl (v_int (oo rfl rfl) (oo rfl rfl) rfl) ?_
  obtain ⟨x3, i4, h5⟩ := bd_inv h2
  refine W.pure (v := (.int .u8 x3)) rfl rfl (v_sidx un9 (oo rfl rfl) (oo rfl rfl) i4) ?_
  refine W.pure (v := (.int .u8 (kwrap .u8 (x3 - 48)))) rfl rfl (v_int (oo rfl rfl) (oo rfl rfl) rfl) ?_
  refine W.pure (v := (.int .i64 (IntKind.wrap .i64 (kwrap .u8 (x3 - 48))))) rfl rfl (v_conv in5 in3 (oo rfl rfl)) ?_
  refine W.pure (v := (.int .i64 (IntKind.wrap .i64 (kwrap .u8 (x3 - 48))))) rfl rfl (v_assign (oo rfl rfl)) ?_
  refine .nil ?_
  refine .ret ?_
  obtain rfl := Option.some.inj h5
  refine ret1R (P := Tryd.prog) (fn := Tryd.f61) (n := 18) (R := fun v H' => ∃ G', Ow G' H' (L) ∧ G.le G' ∧ v = .int .i64 (IntKind.wrap .i64 (kwrap .u8 (x3 - 48)))) (v1 := (.int .i64 (IntKind.wrap .i64 (kwrap .u8 (x3 - 48))))) (by rfl) (rr_tmp (by rfl) (by exact rfl)) ?_
  exact ⟨_, O, (GM.le.refl _), rfl⟩
 ·have h6 := neg_b g1 h
  refine .skip ?_
  refine .seq ?_
  refine .region ?_
  refine W.pure (v := (.int .i64 0)) rfl rfl (v_assign (oo rfl rfl)) ?_
  refine .nil ?_
  refine .ret ?_
  obtain rfl := Option.some.inj h6
  refine ret1R (P := Tryd.prog) (fn := Tryd.f61) (n := 18) (R := fun v H' => ∃ G', Ow G' H' (L) ∧ G.le G' ∧ v = .int .i64 0) (v1 := (.int .i64 0)) (by rfl) (rr_tmp (by rfl) (by exact rfl)) ?_
  exact ⟨_, O, (GM.le.refl _), rfl⟩
def g_R_strip_l0 (K : Nat) : Nat → ByteArray → Option (ByteArray)
 | 0, _ => none
 | k + 1, x5 => (Option.bind ((if (decide ((x5.size : Int) > 1)) = true then ((bidx x5 0).bind fun x20 => some (x20 == 48)) else some false)) (tu1 fun x24 => (if x24 = true then ((ssl x5 1 (x5.size : Int)).bind fun x36 => g_R_strip_l0 K k x36) else some x5)))
def g_R_strip (K : Nat) (p0 : ByteArray) : Option ByteArray := (Option.bind (g_R_strip_l0 K K p0) (tu1 fun x40 => some x40))
set_option maxHeartbeats 4000000 in
theorem g_R_strip_ok (K : Nat) {G : GM} {H : AH} {L : List Pc} (p0 : ByteArray) (O : Ow G H (L)) (r : ByteArray) (h : g_R_strip K p0 = some r) :
  CR Tryd.prog 69 [(.string p0)] G H (L) (fun v G' _ => v = .string r) := by
 unfold g_R_strip at h
 refine CR.of (calls_of_AW (n := 14) (fn := Tryd.f69) (R := fun v H' => ∃ G', Ow G' H' (L) ∧ G.le G' ∧ v = .string r) (by kernel_rfl) rfl rfl ?_)
 refine .seq ?_
 refine .region ?_
 refine W.pure (v := (.string (⟨#[]⟩ : ByteArray))) rfl rfl (v_assign (oo rfl rfl)) ?_
 refine .nil ?_
 refine .seq ?_
 obtain ⟨q1, h2, h3⟩ := bd_inv h
 refine AW.midT (fun σ' H' => ∃ (y1 : ByteArray) (G' : GM), y1 = q1 ∧ Ow G' H' (L) ∧ GM.le G G' ∧ σ' 0 = .string y1) ?_ ?_
 ·refine .block ?_
  refine AW.loop (α := Nat) (fun k' σ' H' => ∃ (y1 : ByteArray) (G' : GM), g_R_strip_l0 K k' y1 = some q1 ∧ Ow G' H' (L) ∧ GM.le G G' ∧ σ' 0 = .string y1) (fun k' => k') K ⟨p0, _, h2, O, (GM.le.refl _), rfl⟩ ?_
  rintro k4
  rintro σ6 H7 fr8 ⟨x5, G9, h12, O10, s11, t13⟩
  rcases k4 with _ | k4
  ·exact none_absurd h12
  rw [g_R_strip_l0] at h12
  refine .seq ?_
  refine .seq ?_
  obtain ⟨q14, h15, h16⟩ := bd_inv h12
  refine AW.midT (fun σ' H' => ∃ (y1 : Bool) (G' : GM), y1 = q14 ∧ Ow G' H' (L) ∧ GM.le G9 G' ∧ σ' 10 = .bool y1) ?_ ?_
  ·refine .region ?_
   refine W.pure (v := (.string x5)) rfl rfl (v_move (oo rfl t13)) ?_
   refine W.pure (v := (.int .i64 (x5.size : Int))) rfl rfl (len_str (oo rfl rfl) un9) ?_
   refine W.pure (v := (.bool (decide ((x5.size : Int) > 1)))) rfl rfl (v_int (oo rfl rfl) (oo rfl rfl) rfl) ?_
   refine W.pure (v := (.bool (decide ((x5.size : Int) > 1)))) rfl rfl (v_move (oo rfl rfl)) ?_
   refine W.splitAt (t := 6) (b := decide ((x5.size : Int) > 1)) rfl (fun g17 gv18 => ?_) (fun g17 gv18 => ?_)
   ·have h19 := pos_inv g17 h15
    refine W.pure (v := (.string x5)) (gk rfl rfl gv18 rfl) rfl (v_move (oo rfl t13)) ?_
    obtain ⟨x20, i21, h22⟩ := bd_inv h19
    refine W.pure (v := (.int .u8 x20)) (gk rfl rfl gv18 rfl) rfl (v_sidx un9 (oo rfl rfl) (oo rfl rfl) i21) ?_
    refine W.pure (v := (.bool (x20 == 48))) (gk rfl rfl gv18 rfl) rfl (v_int (oo rfl rfl) (oo rfl rfl) rfl) ?_
    refine W.pure (v := (.bool (x20 == 48))) rfl rfl (v_pickT (oo rfl gv18) (oo rfl rfl)) ?_
    refine .nil ?_
    obtain rfl := Option.some.inj h22
    exact ⟨(x20 == 48), _, rfl, O10, (GM.le.refl _), rfl⟩
   ·have h23 := neg_b g17 h15
    refine W.skip (gk rfl rfl gv18 rfl) rfl ?_
    refine W.skip (gk rfl rfl gv18 rfl) rfl ?_
    refine W.skip (gk rfl rfl gv18 rfl) rfl ?_
    refine W.pure (v := (.bool false)) rfl rfl (v_pickF (oo rfl gv18) (oo rfl rfl)) ?_
    refine .nil ?_
    obtain rfl := Option.some.inj h23
    exact ⟨false, _, rfl, O10, (GM.le.refl _), rfl⟩
  ·rintro σ25 H26 fr27 ⟨x24, G28, rfl, O29, s30, t32⟩
   have h33 := tu1_inv h16
   refine .cond (b := x24) rfl t32 (fun g34 => ?_) (fun g34 => ?_)
   ·have h35 := pos_inv g34 h33
    refine .skip ?_
    refine .block ?_
    refine .region ?_
    refine W.pure (v := (.string x5)) rfl rfl (v_move (oo rfl ((fr27 0 rfl).trans t13))) ?_
    obtain ⟨x36, i37, h38⟩ := bd_inv h35
    refine W.pure (v := (.string x36)) rfl rfl (v_sslL un9 (oo rfl rfl) (oo rfl rfl) i37) ?_
    refine W.pure (v := (.string x36)) rfl rfl (v_assign (oo rfl rfl)) ?_
    refine .nil ?_
    exact ⟨k4, Nat.lt_succ_self _, ⟨x36, _, h38, O29, (GM.le.trans s11 s30), rfl⟩⟩
   ·have h39 := neg_b g34 h33
    refine .exit ?_
    obtain rfl := Option.some.inj h39
    exact ⟨x5, _, rfl, O29, (GM.le.trans s11 s30), ((fr27 0 rfl).trans t13)⟩
 ·rintro σ41 H42 fr43 ⟨x40, G44, rfl, O45, s46, t48⟩
  have h49 := tu1_inv h3
  refine .seq ?_
  refine .region ?_
  refine W.pure (v := (.string x40)) rfl rfl (v_move (oo rfl t48)) ?_
  refine W.pure (v := (.string x40)) rfl rfl (v_assign (oo rfl rfl)) ?_
  refine .nil ?_
  refine .ret ?_
  obtain rfl := Option.some.inj h49
  refine ret1R (P := Tryd.prog) (fn := Tryd.f69) (n := 14) (R := fun v H' => ∃ G', Ow G' H' (L) ∧ G.le G' ∧ v = .string x40) (v1 := (.string x40)) (by rfl) (rr_tmp (by rfl) (by exact rfl)) ?_
  exact ⟨_, O45, s46, rfl⟩
def g_R_text_l0 (K : Nat) (p0 : List Int) : Nat → List Int → Int → Option (List Int)
 | 0, _, _ => none
 | k + 1, x11, x12 => (if (decide (x12 < (List.length p0 : Int))) = true then ((idx p0 x12).bind fun x23 => ((idx x11 (kwrap .i64 ((kwrap .i64 ((List.length p0 : Int) - 1)) - x12))).bind fun x27 => g_R_text_l0 K p0 k (List.set x11 (Int.toNat (kwrap .i64 ((kwrap .i64 ((List.length p0 : Int) - 1)) - x12))) (IntKind.wrap .u8 (kwrap .i64 ((48 : Int) + x23)))) (kwrap .i64 (x12 + 1)))) else some x11)
def g_R_text (K : Nat) (p0 : List Int) : Option ByteArray := (if 0 ≤ (List.length p0 : Int) ∧ (List.length p0 : Int) ≤ (List.length p0 : Int) ∧ (List.length p0 : Int) ≤ 16777216 then (Option.bind (g_R_text_l0 K p0 K (List.replicate (Int.toNat (List.length p0 : Int)) 0) 0) (tu1 fun x36 => (if 0 < List.length x36 then (if ((⟨#[48]⟩ : ByteArray)).size + ((strOfNums x36)).size ≤ 4611686018427387904 then ((g_R_strip K ((⟨#[48]⟩ : ByteArray) ++ (strOfNums x36))).bind fun x52 => some x52) else none) else none))) else none)
set_option maxHeartbeats 4000000 in
theorem g_R_text_ok (K : Nat) {G : GM} {H : AH} {L : List Pc} (v0 : Value) (p0 : List Int) (hp0 : (rSl (rI .i64)).rep G [v0] p0) (O : Ow G H (L)) (r : ByteArray) (h : g_R_text K p0 = some r) :
  CR Tryd.prog 62 [v0] G H (L) (fun v G' _ => v = .string r) := by
 unfold g_R_text at h
 refine CR.of (calls_of_AW (n := 31) (fn := Tryd.f62) (R := fun v H' => ∃ G', Ow G' H' (L) ∧ G.le G' ∧ v = .string r) (by kernel_rfl) rfl rfl ?_)
 refine .seq ?_
 refine .region ?_
 refine W.pure (v := (.string (⟨#[]⟩ : ByteArray))) rfl rfl (v_assign (oo rfl rfl)) ?_
 refine .nil ?_
 refine .seq ?_
 refine .region ?_
 refine W.pure (v := v0) rfl rfl (v_move (oo rfl rfl)) ?_
 refine W.pure (v := (.int .i64 (List.length p0 : Int))) rfl rfl (len_sl (oo rfl rfl) (sl_len hp0) (elemT_inv el71)) ?_
 obtain ⟨g2, h3⟩ := gd_inv h
 refine W.lo rfl rfl (Lo.makeSlice (r := (rI .u8)) (x0 := 0) (a := (List.length p0 : Int)) (c := (List.length p0 : Int)) rfl el62 ze5 sz5 (by kernel_rfl) rfl by5 (by decide) rfl rfl g2 (zI .u8) O) ?_
 rintro v5 H6 ⟨O1, sm4⟩
 refine W.pure (v := v5) rfl rfl (v_assign (oo rfl rfl)) ?_
 refine .nil ?_
 refine .seq ?_
 refine .seq ?_
 refine .region ?_
 refine W.pure (v := v0) rfl rfl (v_move (oo rfl rfl)) ?_
 refine W.pure (v := (.int .i64 (List.length p0 : Int))) rfl rfl (len_sl (oo rfl rfl) (sl_len hp0) (elemT_inv el71)) ?_
 refine W.pure (v := (.int .i64 0)) rfl rfl (v_move (oo rfl rfl)) ?_
 refine .nil ?_
 obtain ⟨q7, h8, h9⟩ := bd_inv h3
 refine AW.midT (fun σ' H' => ∃ (y1 : List Int) (G' : GM), y1 = q7 ∧ Ow G' H' (eSl v5 5 (rI .u8) y1 :: L) ∧ GM.le G G') ?_ ?_
 ·refine .block ?_
  refine AW.loop (α := Nat) (fun k' σ' H' => ∃ (y1 : List Int) (y2 : Int) (G' : GM), g_R_text_l0 K p0 k' y1 y2 = some q7 ∧ Ow G' H' (eSl v5 5 (rI .u8) y1 :: L) ∧ GM.le G G' ∧ σ' 11 = .int .i64 y2) (fun k' => k') K ⟨(List.replicate (Int.toNat (List.length p0 : Int)) 0), 0, _, h8, O1, (GM.le.refl _), rfl⟩ ?_
  rintro k10
  rintro σ13 H14 fr15 ⟨x11, x12, G16, h19, O17, s18, t20⟩
  rcases k10 with _ | k10
  ·exact none_absurd h19
  rw [g_R_text_l0] at h19
  refine .seq ?_
  refine .region ?_
  refine W.pure (v := (.bool (decide (x12 < (List.length p0 : Int))))) rfl rfl (v_int (oo rfl t20) (oo rfl ((fr15 10 rfl).trans rfl)) rfl) ?_
  refine .nil ?_
  refine .seq ?_
  refine .cond (b := decide (x12 < (List.length p0 : Int))) rfl rfl (fun g21 => ?_) (fun g21 => ?_)
  ·have h22 := pos_inv g21 h19
   refine .skip ?_
   refine .seq ?_
   refine .block ?_
   refine .seq ?_
   refine .region ?_
   refine W.pure (v := (.int .i64 x12)) rfl rfl (v_move (oo rfl t20)) ?_
   obtain ⟨x23, i24, h25⟩ := bd_inv h22
   have j26 := idx_inv i24
   refine W.pure (v := (selem v0 (Int.toNat x12 * 1))) rfl rfl (v_idx el71 sz3 (oo rfl ((fr15 9 rfl).trans rfl)) (oo rfl t20) (sl_len (RT.mono _ s18 hp0)) j26.1 j26.2.1) ?_
   refine W.load1 (v := (.int .i64 x23)) (r := []) rfl rfl ag3 (pt_px rfl (At.int (At.le (At.le (sl_idx hp0 j26.2.2) s18 s18) (GM.le.refl _) O17.fro))) ?_
   refine W.pure (v := (.int .i64 x12)) rfl rfl (v_assign (oo rfl rfl)) ?_
   refine W.pure (v := (.int .i64 x23)) rfl rfl (v_assign (oo rfl rfl)) ?_
   refine .nil ?_
   refine .region ?_
   refine W.pure (v := v5) rfl rfl (v_move (oo rfl ((fr15 3 rfl).trans rfl))) ?_
   refine W.pure (v := v0) rfl rfl (v_move (oo rfl ((fr15 0 rfl).trans rfl))) ?_
   refine W.pure (v := (.int .i64 (List.length p0 : Int))) rfl rfl (len_sl (oo rfl rfl) (sl_len (RT.mono _ s18 hp0)) (elemT_inv el71)) ?_
   refine W.pure (v := (.int .i64 (kwrap .i64 ((List.length p0 : Int) - 1)))) rfl rfl (v_int (oo rfl rfl) (oo rfl rfl) rfl) ?_
   refine W.pure (v := (.int .i64 x12)) rfl rfl (v_move (oo rfl rfl)) ?_
   refine W.pure (v := (.int .i64 (kwrap .i64 ((kwrap .i64 ((List.length p0 : Int) - 1)) - x12)))) rfl rfl (v_int (oo rfl rfl) (oo rfl rfl) rfl) ?_
   refine W.pure (v := (.int .i64 x23)) rfl rfl (v_move (oo rfl rfl)) ?_
   refine W.pure (v := (.int .i64 (kwrap .i64 ((48 : Int) + x23)))) rfl rfl (v_int (oo rfl rfl) (oo rfl rfl) rfl) ?_
   refine W.pure (v := (.int .u8 (IntKind.wrap .u8 (kwrap .i64 ((48 : Int) + x23))))) rfl rfl (v_conv in3 in5 (oo rfl rfl)) ?_
   obtain ⟨x27, i28, h29⟩ := bd_inv h25
   have j30 := idx_inv i28
   refine W.pure (v := (selem v5 (Int.toNat (kwrap .i64 ((kwrap .i64 ((List.length p0 : Int) - 1)) - x12)) * 1))) rfl rfl (v_idx el62 sz5 (oo rfl rfl) (oo rfl rfl) (O17.slLen (j := 0) rfl) j30.1 j30.2.1) ?_
   refine W.lo rfl rfl (Lo.storeSl0 (j := 0) (y0 := IntKind.wrap .u8 (kwrap .i64 ((48 : Int) + x23))) (v := (.int .u8 (IntKind.wrap .u8 (kwrap .i64 ((48 : Int) + x23))))) rfl j30.2.2  rfl sz5 rfl rfl rfl O17) ?_
   rintro v33 H34 ⟨O31, sm32⟩
   replace O31 : Ow G16 H34 (eSl v5 5 (rI .u8) (List.set x11 (Int.toNat (kwrap .i64 ((kwrap .i64 ((List.length p0 : Int) - 1)) - x12))) (IntKind.wrap .u8 (kwrap .i64 ((48 : Int) + x23)))) :: L) := O31
   refine .nil ?_
   refine .region ?_
   refine W.pure (v := (.int .i64 (kwrap .i64 (x12 + 1)))) rfl rfl (v_int (oo rfl t20) (oo rfl rfl) rfl) ?_
   refine W.pure (v := (.int .i64 (kwrap .i64 (x12 + 1)))) rfl rfl (v_move (oo rfl rfl)) ?_
   refine .nil ?_
   exact ⟨k10, Nat.lt_succ_self _, ⟨(List.set x11 (Int.toNat (kwrap .i64 ((kwrap .i64 ((List.length p0 : Int) - 1)) - x12))) (IntKind.wrap .u8 (kwrap .i64 ((48 : Int) + x23)))), kwrap .i64 (x12 + 1), _, h29, O31, s18, rfl⟩⟩
  ·have h35 := neg_b g21 h19
   refine .exit ?_
   obtain rfl := Option.some.inj h35
   exact ⟨x11, _, rfl, O17, s18⟩
 ·rintro σ37 H38 fr39 ⟨x36, G40, rfl, O41, s42⟩
  have h44 := tu1_inv h9
  refine .seq ?_
  refine .region ?_
  refine W.pure (v := v5) rfl rfl (v_move (oo rfl ((fr39 3 rfl).trans rfl))) ?_
  obtain ⟨es45, e46, e47⟩ := src_own (j := 0) rfl O41
  obtain ⟨g48, h49⟩ := gd_inv h44
  refine W.bytesStr rfl rfl el62 in5 un9 e46 e47 g48 ?_
  obtain ⟨g50, h51⟩ := gd_inv h49
  refine W.pure (v := (.string ((⟨#[48]⟩ : ByteArray) ++ (strOfNums x36)))) rfl rfl (vs_add g50 (oo rfl rfl) (oo rfl rfl)) ?_
  obtain ⟨x52, i53, h54⟩ := bd_inv h51
  refine W.lo rfl rfl (Lo.callP (ps := []) (ps' := []) rfl (fn := Tryd.f69) (by kernel_rfl) rfl (mc rfl mn) O41 (fun L' O' => g_R_strip_ok K ((⟨#[48]⟩ : ByteArray) ++ (strOfNums x36)) O' _ i53)) ?_
  rintro v61 H62 ⟨G55, O56, s57, sm60, rfl⟩
  replace O56 : Ow G55 H62 (eSl v5 5 (rI .u8) x36 :: L) := O56
  refine W.pure (v := (.string x52)) rfl rfl (v_assign (oo rfl rfl)) ?_
  refine .nil ?_
  refine .ret ?_
  have O63 : Ow G55 H62 (L) := O56.drop 0
  obtain rfl := Option.some.inj h54
  refine ret1R (P := Tryd.prog) (fn := Tryd.f62) (n := 31) (R := fun v H' => ∃ G', Ow G' H' (L) ∧ G.le G' ∧ v = .string x52) (v1 := (.string x52)) (by rfl) (rr_tmp (by rfl) (by exact rfl)) ?_
  exact ⟨_, O63, (GM.le.trans s42 s57), rfl⟩
def g_R_NatMul_l2 (K : Nat) (p1 : ByteArray) (x15 : Int) (x26 : Int) : Nat → List Int → Int → Option (List Int)
 | 0, _, _ => none
 | k + 1, x41, x42 => (if (decide (x42 < (p1.size : Int))) = true then ((idx x41 (kwrap .i64 (x15 + x42))).bind fun x58 => ((g_R_digit K p1 x42).bind fun x62 => ((idx x41 (kwrap .i64 (x15 + x42))).bind fun x73 => g_R_NatMul_l2 K p1 x15 x26 k (List.set x41 (Int.toNat (kwrap .i64 (x15 + x42))) (kwrap .i64 (x58 + (kwrap .i64 (x26 * x62))))) (kwrap .i64 (x42 + 1))))) else some x41)
def g_R_NatMul_l4 (K : Nat) (x91 : List Int) : Nat → List Int → Int → Option (List Int)
 | 0, _, _ => none
 | k + 1, x102, x103 => (if (decide (x103 < (List.length x91 : Int))) = true then (Option.bind (((idx x102 x103).bind fun x117 => (if (decide (x117 > 9)) = true then ((idx x102 (kwrap .i64 (x103 + 1))).bind fun x128 => ((idx x102 x103).bind fun x132 => ((idx x102 (kwrap .i64 (x103 + 1))).bind fun x136 => ((idx (List.set x102 (Int.toNat (kwrap .i64 (x103 + 1))) (kwrap .i64 (x128 + (kwrap .i64 (Int.tdiv x132 10))))) x103).bind fun x144 => ((idx (List.set x102 (Int.toNat (kwrap .i64 (x103 + 1))) (kwrap .i64 (x128 + (kwrap .i64 (Int.tdiv x132 10))))) x103).bind fun x148 => some (List.set (List.set x102 (Int.toNat (kwrap .i64 (x103 + 1))) (kwrap .i64 (x128 + (kwrap .i64 (Int.tdiv x132 10))))) (Int.toNat x103) (Int.tmod x144 10))))))) else some x102))) (tu1 fun x157 => g_R_NatMul_l4 K x91 k x157 (kwrap .i64 (x103 + 1)))) else some x102)
def g_R_NatMul_l0 (K : Nat) (p0 : ByteArray) (p1 : ByteArray) : Nat → List Int → Int → Option (List Int)
 | 0, _, _ => none
 | k + 1, x14, x15 => (if (decide (x15 < (p0.size : Int))) = true then ((g_R_digit K p0 x15).bind fun x26 => (Option.bind (g_R_NatMul_l2 K p1 x15 x26 K x14 0) (tu1 fun x82 => ((lsl x82 0 (kwrap .i64 ((List.length x82 : Int) - 1))).bind fun x91 => (Option.bind (g_R_NatMul_l4 K x91 K x82 0) (tu1 fun x167 => g_R_NatMul_l0 K p0 p1 k x167 (kwrap .i64 (x15 + 1)))))))) else some x14)
def g_R_NatMul (K : Nat) (p0 : ByteArray) (p1 : ByteArray) : Option ByteArray := (lt (kwrap .i64 ((kwrap .i64 ((p0.size : Int) + (p1.size : Int))) + 1)) fun x1 => (if 0 ≤ x1 ∧ x1 ≤ x1 ∧ x1 ≤ 16777216 then (Option.bind (g_R_NatMul_l0 K p0 p1 K (List.replicate (Int.toNat x1) 0) 0) (tu1 fun x177 => ((g_R_text K x177).bind fun x186 => some x186))) else none))
set_option maxHeartbeats 4000000 in
theorem g_R_NatMul_ok (K : Nat) {G : GM} {H : AH} {L : List Pc} (p0 : ByteArray) (p1 : ByteArray) (O : Ow G H (L)) (r : ByteArray) (h : g_R_NatMul K p0 p1 = some r) :
  CR Tryd.prog 25 [(.string p0), (.string p1)] G H (L) (fun v G' _ => v = .string r) := by
 unfold g_R_NatMul at h
 refine CR.of (calls_of_AW (n := 80) (fn := Tryd.f25) (R := fun v H' => ∃ G', Ow G' H' (L) ∧ G.le G' ∧ v = .string r) (by kernel_rfl) rfl rfl ?_)
 refine .seq ?_
 refine .region ?_
 refine W.pure (v := (.string (⟨#[]⟩ : ByteArray))) rfl rfl (v_assign (oo rfl rfl)) ?_
 refine .nil ?_
 refine .seq ?_
 refine .region ?_
 refine W.pure (v := (.string p0)) rfl rfl (v_move (oo rfl rfl)) ?_
 refine W.pure (v := (.int .i64 (p0.size : Int))) rfl rfl (len_str (oo rfl rfl) un9) ?_
 refine W.pure (v := (.string p1)) rfl rfl (v_move (oo rfl rfl)) ?_
 refine W.pure (v := (.int .i64 (p1.size : Int))) rfl rfl (len_str (oo rfl rfl) un9) ?_
 refine W.pure (v := (.int .i64 (kwrap .i64 ((p0.size : Int) + (p1.size : Int))))) rfl rfl (v_int (oo rfl rfl) (oo rfl rfl) rfl) ?_
 refine W.pure (v := (.int .i64 (kwrap .i64 ((kwrap .i64 ((p0.size : Int) + (p1.size : Int))) + 1)))) rfl rfl (v_int (oo rfl rfl) (oo rfl rfl) rfl) ?_
 obtain ⟨x1, e2, h3⟩ := lt_inv h
 obtain ⟨g5, h6⟩ := gd_inv h3
 refine W.lo rfl rfl (Lo.makeSlice (r := (rI .i64)) (x0 := 0) (a := x1) (c := x1) rfl el71 ze3 sz3 (by kernel_rfl) rfl by3 (by decide) (congrArg (Value.int .i64) e2) (congrArg (Value.int .i64) e2) g5 (zI .i64) O) ?_
 rintro v8 H9 ⟨O4, sm7⟩
 refine W.pure (v := v8) rfl rfl (v_assign (oo rfl rfl)) ?_
 refine .nil ?_
 refine .seq ?_
 refine .seq ?_
 refine .region ?_
 refine W.pure (v := (.string p0)) rfl rfl (v_move (oo rfl rfl)) ?_
 refine W.pure (v := (.int .i64 (p0.size : Int))) rfl rfl (len_str (oo rfl rfl) un9) ?_
 refine W.pure (v := (.int .i64 0)) rfl rfl (v_move (oo rfl rfl)) ?_
 refine .nil ?_
 obtain ⟨q10, h11, h12⟩ := bd_inv h6
 refine AW.midT (fun σ' H' => ∃ (y1 : List Int) (G' : GM), y1 = q10 ∧ Ow G' H' (eSl v8 3 (rI .i64) y1 :: L) ∧ GM.le G G') ?_ ?_
 ·refine .block ?_
  refine AW.loop (α := Nat) (fun k' σ' H' => ∃ (y1 : List Int) (y2 : Int) (G' : GM), g_R_NatMul_l0 K p0 p1 k' y1 y2 = some q10 ∧ Ow G' H' (eSl v8 3 (rI .i64) y1 :: L) ∧ GM.le G G' ∧ σ' 19 = .int .i64 y2) (fun k' => k') K ⟨(List.replicate (Int.toNat x1) 0), 0, _, h11, O4, (GM.le.refl _), rfl⟩ ?_
  rintro k13
  rintro σ16 H17 fr18 ⟨x14, x15, G19, h22, O20, s21, t23⟩
  rcases k13 with _ | k13
  ·exact none_absurd h22
  rw [g_R_NatMul_l0] at h22
  refine .seq ?_
  refine .region ?_
  refine W.pure (v := (.bool (decide (x15 < (p0.size : Int))))) rfl rfl (v_int (oo rfl t23) (oo rfl ((fr18 18 rfl).trans rfl)) rfl) ?_
  refine .nil ?_
  refine .seq ?_
  refine .cond (b := decide (x15 < (p0.size : Int))) rfl rfl (fun g24 => ?_) (fun g24 => ?_)
  ·have h25 := pos_inv g24 h22
   refine .skip ?_
   refine .seq ?_
   refine .block ?_
   refine .seq ?_
   refine .region ?_
   refine W.pure (v := (.int .i64 x15)) rfl rfl (v_move (oo rfl t23)) ?_
   refine W.pure (v := (.int .i64 x15)) rfl rfl (v_assign (oo rfl rfl)) ?_
   refine .nil ?_
   refine .seq ?_
   refine .region ?_
   refine W.pure (v := (.string p0)) rfl rfl (v_move (oo rfl ((fr18 0 rfl).trans rfl))) ?_
   refine W.pure (v := (.int .i64 x15)) rfl rfl (v_move (oo rfl rfl)) ?_
   obtain ⟨x26, i27, h28⟩ := bd_inv h25
   refine W.lo rfl rfl (Lo.callP (ps := []) (ps' := []) rfl (fn := Tryd.f61) (by kernel_rfl) rfl (mc rfl (mc rfl mn)) O20 (fun L' O' => g_R_digit_ok K p0 x15 O' _ i27)) ?_
   rintro v35 H36 ⟨G29, O30, s31, sm34, rfl⟩
   replace O30 : Ow G29 H36 (eSl v8 3 (rI .i64) x14 :: L) := O30
   refine W.pure (v := (.int .i64 x26)) rfl rfl (v_assign (oo rfl rfl)) ?_
   refine .nil ?_
   refine .seq ?_
   refine .seq ?_
   refine .region ?_
   refine W.pure (v := (.string p1)) rfl rfl (v_move (oo rfl ((fr18 1 rfl).trans rfl))) ?_
   refine W.pure (v := (.int .i64 (p1.size : Int))) rfl rfl (len_str (oo rfl rfl) un9) ?_
   refine W.pure (v := (.int .i64 0)) rfl rfl (v_move (oo rfl rfl)) ?_
   refine .nil ?_
   obtain ⟨q37, h38, h39⟩ := bd_inv h28
   refine AW.midT (fun σ' H' => ∃ (y1 : List Int) (G' : GM), y1 = q37 ∧ Ow G' H' (eSl v8 3 (rI .i64) y1 :: L) ∧ GM.le G29 G') ?_ ?_
   ·refine .block ?_
    refine AW.loop (α := Nat) (fun k' σ' H' => ∃ (y1 : List Int) (y2 : Int) (G' : GM), g_R_NatMul_l2 K p1 x15 x26 k' y1 y2 = some q37 ∧ Ow G' H' (eSl v8 3 (rI .i64) y1 :: L) ∧ GM.le G29 G' ∧ σ' 27 = .int .i64 y2) (fun k' => k') K ⟨x14, 0, _, h38, O30, (GM.le.refl _), rfl⟩ ?_
    rintro k40
    rintro σ43 H44 fr45 ⟨x41, x42, G46, h49, O47, s48, t50⟩
    rcases k40 with _ | k40
    ·exact none_absurd h49
    rw [g_R_NatMul_l2] at h49
    refine .seq ?_
    refine .region ?_
    refine W.pure (v := (.bool (decide (x42 < (p1.size : Int))))) rfl rfl (v_int (oo rfl t50) (oo rfl ((fr45 26 rfl).trans rfl)) rfl) ?_
    refine .nil ?_
    refine .seq ?_
    refine .cond (b := decide (x42 < (p1.size : Int))) rfl rfl (fun g51 => ?_) (fun g51 => ?_)
    ·have h52 := pos_inv g51 h49
     refine .skip ?_
     refine .seq ?_
     refine .block ?_
     refine .seq ?_
     refine .region ?_
     refine W.pure (v := (.int .i64 x42)) rfl rfl (v_move (oo rfl t50)) ?_
     refine W.pure (v := (.int .i64 x42)) rfl rfl (v_assign (oo rfl rfl)) ?_
     refine .nil ?_
     refine .draw2 (M := [0, 0, 0, 6, 15, 31, 0, 0, 0, 384, 960, 2047, 4095, 8191]) mixed (by kernel_rfl) (by kernel_rfl) fun H53 N57 x54 F56 => ?_
     have O55 := O47.ext x54
     refine D2.pure (v := v8) rfl rfl (v_move (oo rfl ((fr45 5 rfl).trans ((fr18 5 rfl).trans rfl)))) ?_
     refine D2.pure (v := (.int .i64 x15)) rfl rfl (v_move (oo rfl ((fr45 6 rfl).trans rfl))) ?_
     refine D2.pure (v := (.int .i64 x42)) rfl rfl (v_move (oo rfl rfl)) ?_
     refine D2.pure (v := (.int .i64 (kwrap .i64 (x15 + x42)))) rfl rfl (v_int (oo rfl rfl) (oo rfl rfl) rfl) ?_
     obtain ⟨x58, i59, h60⟩ := bd_inv h52
     have j61 := idx_inv i59
     refine D2.pure (v := (selem v8 (Int.toNat (kwrap .i64 (x15 + x42)) * 1))) rfl rfl (v_idx el71 sz3 (oo rfl rfl) (oo rfl rfl) (O55.slLen (j := 0) rfl) j61.1 j61.2.1) ?_
     refine D2.load1' (v := (.int .i64 x58)) (r := []) rfl rfl ag3 (pt_px rfl (At.int (O55.atSl (j := 0) rfl j61.2.2))) fa_nil ?_
     refine D2.pure (v := (.int .i64 x26)) rfl rfl (v_move (oo rfl ((fr45 7 rfl).trans rfl))) ?_
     refine D2.pure (v := (.string p1)) rfl rfl (v_move (oo rfl ((fr45 1 rfl).trans ((fr18 1 rfl).trans rfl)))) ?_
     refine D2.pure (v := (.int .i64 x42)) rfl rfl (v_move (oo rfl rfl)) ?_
     obtain ⟨x62, i63, h64⟩ := bd_inv h60
     refine D2.lo rfl rfl (Lo.callP (ps := []) (ps' := []) rfl (fn := Tryd.f61) (by kernel_rfl) rfl (mc rfl (mc rfl mn)) O55 (fun L' O' => g_R_digit_ok K p1 x42 O' _ i63)) ?_ fa_nil ?_ ?_
     ·rintro v71 H72 ⟨G65, O66, s67, sm70, rfl⟩; exact (faR1 (.inr (sm70 _ (Or.inr ⟨0, _, rfl, (O55.footSl (j := 0) rfl j61.2.2)⟩))) fa_nil)
     ·rintro v71 H72 ⟨G65, O66, s67, sm70, rfl⟩; exact fa_nil
     rintro v71 H72 ⟨G65, O66, s67, sm70, rfl⟩
     replace O66 : Ow G65 H72 (eSl v8 3 (rI .i64) x41 :: L) := O66
     refine D2.pure (v := (.int .i64 (kwrap .i64 (x26 * x62)))) rfl rfl (v_int (oo rfl rfl) (oo rfl rfl) rfl) ?_
     refine D2.pure (v := (.int .i64 (kwrap .i64 (x58 + (kwrap .i64 (x26 * x62)))))) rfl rfl (v_int (oo rfl rfl) (oo rfl rfl) rfl) ?_
     obtain ⟨x73, i74, h75⟩ := bd_inv h64
     have j76 := idx_inv i74
     refine D2.pure (v := (selem v8 (Int.toNat (kwrap .i64 (x15 + x42)) * 1))) rfl rfl (v_idx el71 sz3 (oo rfl rfl) (oo rfl rfl) (O66.slLen (j := 0) rfl) j76.1 j76.2.1) ?_
     refine D2.lo rfl rfl (Lo.storeSl0 (j := 0) (y0 := kwrap .i64 (x58 + (kwrap .i64 (x26 * x62)))) (v := (.int .i64 (kwrap .i64 (x58 + (kwrap .i64 (x26 * x62)))))) rfl j76.2.2  rfl sz3 rfl rfl rfl O66) ?_ (faL_bit (by decide) fa_nil) ?_ ?_
     ·rintro v79 H80 ⟨O77, sm78⟩; exact (faR1 (.inl (by decide)) fa_nil)
     ·rintro v79 H80 ⟨O77, sm78⟩; exact fa_nil
     rintro v79 H80 ⟨O77, sm78⟩
     replace O77 : Ow G65 H80 (eSl v8 3 (rI .i64) (List.set x41 (Int.toNat (kwrap .i64 (x15 + x42))) (kwrap .i64 (x58 + (kwrap .i64 (x26 * x62))))) :: L) := O77
     refine .nil ?_
     refine .region ?_
     refine W.pure (v := (.int .i64 (kwrap .i64 (x42 + 1)))) rfl rfl (v_int (oo rfl t50) (oo rfl rfl) rfl) ?_
     refine W.pure (v := (.int .i64 (kwrap .i64 (x42 + 1)))) rfl rfl (v_move (oo rfl rfl)) ?_
     refine .nil ?_
     exact ⟨k40, Nat.lt_succ_self _, ⟨(List.set x41 (Int.toNat (kwrap .i64 (x15 + x42))) (kwrap .i64 (x58 + (kwrap .i64 (x26 * x62))))), kwrap .i64 (x42 + 1), _, h75, O77, (GM.le.trans s48 s67), rfl⟩⟩
    ·have h81 := neg_b g51 h49
     refine .exit ?_
     obtain rfl := Option.some.inj h81
     exact ⟨x41, _, rfl, O47, s48⟩
   ·rintro σ83 H84 fr85 ⟨x82, G86, rfl, O87, s88⟩
    have h90 := tu1_inv h39
    refine .seq ?_
    refine .region ?_
    refine W.pure (v := v8) rfl rfl (v_move (oo rfl ((fr85 5 rfl).trans ((fr18 5 rfl).trans rfl)))) ?_
    refine W.pure (v := v8) rfl rfl (v_move (oo rfl ((fr85 5 rfl).trans ((fr18 5 rfl).trans rfl)))) ?_
    refine W.pure (v := (.int .i64 (List.length x82 : Int))) rfl rfl (len_sl (oo rfl rfl) (O87.slLen (j := 0) rfl) (elemT_inv el71)) ?_
    refine W.pure (v := (.int .i64 (kwrap .i64 ((List.length x82 : Int) - 1)))) rfl rfl (v_int (oo rfl rfl) (oo rfl rfl) rfl) ?_
    obtain ⟨x91, i92, h93⟩ := bd_inv h90
    obtain ⟨w94, e96, f97⟩ := O87.view (j := 0) rfl el71 sz3 i92
    refine W.pure (v := w94) rfl rfl (e96 (oo rfl rfl) (oo rfl rfl)) ?_
    refine W.pure (v := (.int .i64 (List.length x91 : Int))) rfl rfl (len_sl (oo rfl rfl) f97 (elemT_inv el71)) ?_
    refine W.pure (v := (.int .i64 0)) rfl rfl (v_move (oo rfl rfl)) ?_
    refine .nil ?_
    obtain ⟨q98, h99, h100⟩ := bd_inv h93
    refine AW.midT (fun σ' H' => ∃ (y1 : List Int) (G' : GM), y1 = q98 ∧ Ow G' H' (eSl v8 3 (rI .i64) y1 :: L) ∧ GM.le G86 G') ?_ ?_
    ·refine .block ?_
     refine AW.loop (α := Nat) (fun k' σ' H' => ∃ (y1 : List Int) (y2 : Int) (G' : GM), g_R_NatMul_l4 K x91 k' y1 y2 = some q98 ∧ Ow G' H' (eSl v8 3 (rI .i64) y1 :: L) ∧ GM.le G86 G' ∧ σ' 50 = .int .i64 y2) (fun k' => k') K ⟨x82, 0, _, h99, O87, (GM.le.refl _), rfl⟩ ?_
     rintro k101
     rintro σ104 H105 fr106 ⟨x102, x103, G107, h110, O108, s109, t111⟩
     rcases k101 with _ | k101
     ·exact none_absurd h110
     rw [g_R_NatMul_l4] at h110
     refine .seq ?_
     refine .region ?_
     refine W.pure (v := (.bool (decide (x103 < (List.length x91 : Int))))) rfl rfl (v_int (oo rfl t111) (oo rfl ((fr106 49 rfl).trans rfl)) rfl) ?_
     refine .nil ?_
     refine .seq ?_
     refine .cond (b := decide (x103 < (List.length x91 : Int))) rfl rfl (fun g112 => ?_) (fun g112 => ?_)
     ·have h113 := pos_inv g112 h110
      refine .skip ?_
      refine .seq ?_
      obtain ⟨q114, h115, h116⟩ := bd_inv h113
      refine AW.midT (fun σ' H' => ∃ (y1 : List Int) (G' : GM), y1 = q114 ∧ Ow G' H' (eSl v8 3 (rI .i64) y1 :: L) ∧ GM.le G107 G') ?_ ?_
      ·refine .block ?_
       refine .seq ?_
       refine .region ?_
       refine W.pure (v := (.int .i64 x103)) rfl rfl (v_move (oo rfl t111)) ?_
       refine W.pure (v := (.int .i64 x103)) rfl rfl (v_assign (oo rfl rfl)) ?_
       refine .nil ?_
       refine .seq ?_
       refine .region ?_
       refine W.pure (v := v8) rfl rfl (v_move (oo rfl ((fr106 5 rfl).trans ((fr85 5 rfl).trans ((fr18 5 rfl).trans rfl))))) ?_
       refine W.pure (v := (.int .i64 x103)) rfl rfl (v_move (oo rfl rfl)) ?_
       obtain ⟨x117, i118, h119⟩ := bd_inv h115
       have j120 := idx_inv i118
       refine W.pure (v := (selem v8 (Int.toNat x103 * 1))) rfl rfl (v_idx el71 sz3 (oo rfl rfl) (oo rfl rfl) (O108.slLen (j := 0) rfl) j120.1 j120.2.1) ?_
       refine W.load1 (v := (.int .i64 x117)) (r := []) rfl rfl ag3 (pt_px rfl (At.int (O108.atSl (j := 0) rfl j120.2.2))) ?_
       refine W.pure (v := (.bool (decide (x117 > 9)))) rfl rfl (v_int (oo rfl rfl) (oo rfl rfl) rfl) ?_
       refine .nil ?_
       refine .cond (b := decide (x117 > 9)) rfl rfl (fun g121 => ?_) (fun g121 => ?_)
       ·have h122 := pos_inv g121 h119
        refine .seq ?_
        refine .draw2 (M := [0, 0, 2, 7, 15, 0, 0, 96, 224, 480, 1023, 2047, 4095]) mixed (by kernel_rfl) (by kernel_rfl) fun H123 N127 x124 F126 => ?_
        have O125 := O108.ext x124
        refine D2.pure (v := v8) rfl rfl (v_move (oo rfl ((fr106 5 rfl).trans ((fr85 5 rfl).trans ((fr18 5 rfl).trans rfl))))) ?_
        refine D2.pure (v := (.int .i64 x103)) rfl rfl (v_move (oo rfl rfl)) ?_
        refine D2.pure (v := (.int .i64 (kwrap .i64 (x103 + 1)))) rfl rfl (v_int (oo rfl rfl) (oo rfl rfl) rfl) ?_
        obtain ⟨x128, i129, h130⟩ := bd_inv h122
        have j131 := idx_inv i129
        refine D2.pure (v := (selem v8 (Int.toNat (kwrap .i64 (x103 + 1)) * 1))) rfl rfl (v_idx el71 sz3 (oo rfl rfl) (oo rfl rfl) (O125.slLen (j := 0) rfl) j131.1 j131.2.1) ?_
        refine D2.load1' (v := (.int .i64 x128)) (r := []) rfl rfl ag3 (pt_px rfl (At.int (O125.atSl (j := 0) rfl j131.2.2))) fa_nil ?_
        refine D2.pure (v := v8) rfl rfl (v_move (oo rfl ((fr106 5 rfl).trans ((fr85 5 rfl).trans ((fr18 5 rfl).trans rfl))))) ?_
        refine D2.pure (v := (.int .i64 x103)) rfl rfl (v_move (oo rfl rfl)) ?_
        obtain ⟨x132, i133, h134⟩ := bd_inv h130
        have j135 := idx_inv i133
        refine D2.pure (v := (selem v8 (Int.toNat x103 * 1))) rfl rfl (v_idx el71 sz3 (oo rfl rfl) (oo rfl rfl) (O125.slLen (j := 0) rfl) j135.1 j135.2.1) ?_
        refine D2.load1' (v := (.int .i64 x132)) (r := []) rfl rfl ag3 (pt_px rfl (At.int (O125.atSl (j := 0) rfl j135.2.2))) fa_nil ?_
        refine D2.pure (v := (.int .i64 (kwrap .i64 (Int.tdiv x132 10)))) rfl rfl (v_quo (by decide) (oo rfl rfl) (oo rfl rfl)) ?_
        refine D2.pure (v := (.int .i64 (kwrap .i64 (x128 + (kwrap .i64 (Int.tdiv x132 10)))))) rfl rfl (v_int (oo rfl rfl) (oo rfl rfl) rfl) ?_
        obtain ⟨x136, i137, h138⟩ := bd_inv h134
        have j139 := idx_inv i137
        refine D2.pure (v := (selem v8 (Int.toNat (kwrap .i64 (x103 + 1)) * 1))) rfl rfl (v_idx el71 sz3 (oo rfl rfl) (oo rfl rfl) (O125.slLen (j := 0) rfl) j139.1 j139.2.1) ?_
        refine D2.lo rfl rfl (Lo.storeSl0 (j := 0) (y0 := kwrap .i64 (x128 + (kwrap .i64 (Int.tdiv x132 10)))) (v := (.int .i64 (kwrap .i64 (x128 + (kwrap .i64 (Int.tdiv x132 10)))))) rfl j139.2.2  rfl sz3 rfl rfl rfl O125) ?_ fa_nil ?_ ?_
        ·rintro v142 H143 ⟨O140, sm141⟩; exact (faR1 (.inl (by decide)) (faR1 (.inl (by decide)) fa_nil))
        ·rintro v142 H143 ⟨O140, sm141⟩; exact fa_nil
        rintro v142 H143 ⟨O140, sm141⟩
        replace O140 : Ow G107 H143 (eSl v8 3 (rI .i64) (List.set x102 (Int.toNat (kwrap .i64 (x103 + 1))) (kwrap .i64 (x128 + (kwrap .i64 (Int.tdiv x132 10))))) :: L) := O140
        refine .nil ?_
        refine .region ?_
        refine W.pure (v := v8) rfl rfl (v_move (oo rfl ((fr106 5 rfl).trans ((fr85 5 rfl).trans ((fr18 5 rfl).trans rfl))))) ?_
        refine W.pure (v := (.int .i64 x103)) rfl rfl (v_move (oo rfl rfl)) ?_
        obtain ⟨x144, i145, h146⟩ := bd_inv h138
        have j147 := idx_inv i145
        refine W.pure (v := (selem v8 (Int.toNat x103 * 1))) rfl rfl (v_idx el71 sz3 (oo rfl rfl) (oo rfl rfl) (O140.slLen (j := 0) rfl) j147.1 j147.2.1) ?_
        refine W.load1 (v := (.int .i64 x144)) (r := []) rfl rfl ag3 (pt_px rfl (At.int (O140.atSl (j := 0) rfl j147.2.2))) ?_
        refine W.pure (v := (.int .i64 (Int.tmod x144 10))) rfl rfl (v_rem (by decide) (oo rfl rfl) (oo rfl rfl)) ?_
        obtain ⟨x148, i149, h150⟩ := bd_inv h146
        have j151 := idx_inv i149
        refine W.pure (v := (selem v8 (Int.toNat x103 * 1))) rfl rfl (v_idx el71 sz3 (oo rfl rfl) (oo rfl rfl) (O140.slLen (j := 0) rfl) j151.1 j151.2.1) ?_
        refine W.lo rfl rfl (Lo.storeSl0 (j := 0) (y0 := Int.tmod x144 10) (v := (.int .i64 (Int.tmod x144 10))) rfl j151.2.2  rfl sz3 rfl rfl rfl O140) ?_
        rintro v154 H155 ⟨O152, sm153⟩
        replace O152 : Ow G107 H155 (eSl v8 3 (rI .i64) (List.set (List.set x102 (Int.toNat (kwrap .i64 (x103 + 1))) (kwrap .i64 (x128 + (kwrap .i64 (Int.tdiv x132 10))))) (Int.toNat x103) (Int.tmod x144 10)) :: L) := O152
        refine .nil ?_
        obtain rfl := Option.some.inj h150
        exact ⟨(List.set (List.set x102 (Int.toNat (kwrap .i64 (x103 + 1))) (kwrap .i64 (x128 + (kwrap .i64 (Int.tdiv x132 10))))) (Int.toNat x103) (Int.tmod x144 10)), _, rfl, O152, (GM.le.refl _)⟩
       ·have h156 := neg_b g121 h119
        refine .skip ?_
        obtain rfl := Option.some.inj h156
        exact ⟨x102, _, rfl, O108, (GM.le.refl _)⟩
      ·rintro σ158 H159 fr160 ⟨x157, G161, rfl, O162, s163⟩
       have h165 := tu1_inv h116
       refine .region ?_
       refine W.pure (v := (.int .i64 (kwrap .i64 (x103 + 1)))) rfl rfl (v_int (oo rfl ((fr160 50 rfl).trans t111)) (oo rfl rfl) rfl) ?_
       refine W.pure (v := (.int .i64 (kwrap .i64 (x103 + 1)))) rfl rfl (v_move (oo rfl rfl)) ?_
       refine .nil ?_
       exact ⟨k101, Nat.lt_succ_self _, ⟨x157, kwrap .i64 (x103 + 1), _, h165, O162, (GM.le.trans s109 s163), rfl⟩⟩
     ·have h166 := neg_b g112 h110
      refine .exit ?_
      obtain rfl := Option.some.inj h166
      exact ⟨x102, _, rfl, O108, s109⟩
    ·rintro σ168 H169 fr170 ⟨x167, G171, rfl, O172, s173⟩
     have h175 := tu1_inv h100
     refine .region ?_
     refine W.pure (v := (.int .i64 (kwrap .i64 (x15 + 1)))) rfl rfl (v_int (oo rfl ((fr170 19 rfl).trans ((fr85 19 rfl).trans t23))) (oo rfl rfl) rfl) ?_
     refine W.pure (v := (.int .i64 (kwrap .i64 (x15 + 1)))) rfl rfl (v_move (oo rfl rfl)) ?_
     refine .nil ?_
     exact ⟨k13, Nat.lt_succ_self _, ⟨x167, kwrap .i64 (x15 + 1), _, h175, O172, (GM.le.trans s21 (GM.le.trans s31 (GM.le.trans s88 s173))), rfl⟩⟩
  ·have h176 := neg_b g24 h22
   refine .exit ?_
   obtain rfl := Option.some.inj h176
   exact ⟨x14, _, rfl, O20, s21⟩
 ·rintro σ178 H179 fr180 ⟨x177, G181, rfl, O182, s183⟩
  have h185 := tu1_inv h12
  refine .seq ?_
  refine .region ?_
  refine W.pure (v := v8) rfl rfl (v_move (oo rfl ((fr180 5 rfl).trans rfl))) ?_
  obtain ⟨x186, i187, h188⟩ := bd_inv h185
  refine W.lo rfl rfl (Lo.callB (j := 0) rfl rfl (fn := Tryd.f62) (by kernel_rfl) rfl (mc rfl mn) O182 (fun G' L' hG O' hB => g_R_text_ok K v8 x177 hB O' _ i187)) ?_
  rintro v195 H196 ⟨G189, O190, s191, sm194, rfl⟩
  replace O190 : Ow G189 H196 (eSl v8 3 (rI .i64) x177 :: L) := O190
  refine W.pure (v := (.string x186)) rfl rfl (v_assign (oo rfl rfl)) ?_
  refine .nil ?_
  refine .ret ?_
  have O197 : Ow G189 H196 (L) := O190.drop 0
  obtain rfl := Option.some.inj h188
  refine ret1R (P := Tryd.prog) (fn := Tryd.f25) (n := 80) (R := fun v H' => ∃ G', Ow G' H' (L) ∧ G.le G' ∧ v = .string x186) (v1 := (.string x186)) (by rfl) (rr_tmp (by rfl) (by exact rfl)) ?_
  exact ⟨_, O197, (GM.le.trans s183 s191), rfl⟩
end Go.Am.Tryd
/- Typed functions with the same answers as the program's, and the walks that show it. -/
namespace Go.Am.Tryd
open Go Go.Am Go.Proofs
set_option linter.unusedVariables false
set_option linter.unusedSimpArgs false
set_option maxRecDepth 10000

def g_law_NatPowers_l0 (K : Nat) (p0 : ByteArray) (p1 : Int) (x15 : ByteArray × Int) : Nat → ByteArray → Int → Option (Bool ⊕ ByteArray)
 | 0, _, _ => none
 | k + 1, x122, x123 => (if (decide (x123 < (imin p1 30))) = true then ((g_R_NatMul K x122 p0).bind fun x135 => (if (decide ((x135.size : Int) > 2000)) = true then (Option.bind ((if (x15.2 == 2) = true then some (sEq x15.1 (⟨#[]⟩ : ByteArray)) else some false)) (tu1 fun x155 => some (.inl x155))) else g_law_NatPowers_l0 K p0 p1 x15 k x135 (kwrap .i64 (x123 + 1)))) else some (.inr x122))
def g_law_NatPowers (K : Nat) (p0 : ByteArray) (p1 : Int) : Option Bool := ((g_law_natFact K ).bind fun x1 => (if (!x1) = true then some false else ((g_nat_Power K p0 p1).bind fun x15 => ((g_R_NatError K p0).bind fun x26 => (Option.bind ((if (x26 == 0) = true then (if (decide (p1 < 0)) = true then some true else some (decide (p1 > 10000))) else some false)) (tu1 fun x48 => (Option.bind ((if x48 = true then some 4 else some x26)) (tu1 fun x64 => (if (x64 != 0) = true then (Option.bind ((if (x15.2 == x64) = true then some (sEq x15.1 (⟨#[]⟩ : ByteArray)) else some false)) (tu1 fun x83 => some x83)) else (Option.bind ((if (decide (p1 > 30)) = true then (if (!(sEq p0 (⟨#[48]⟩ : ByteArray))) = true then some (!(sEq p0 (⟨#[49]⟩ : ByteArray))) else some false) else some false)) (tu1 fun x105 => (if x105 = true then some true else (bindS (g_law_NatPowers_l0 K p0 p1 x15 K (⟨#[49]⟩ : ByteArray) 0) (tu1 fun a195 => some a195) (tu1 fun x168 => (Option.bind ((if (x15.2 == 0) = true then some (sEq x15.1 x168) else some false)) (tu1 fun x185 => some x185))))))))))))))))
set_option maxHeartbeats 4000000 in
theorem g_law_NatPowers_ok (K : Nat) {G : GM} {H : AH} {L : List Pc} (p0 : ByteArray) (p1 : Int) (O : Ow G H (L)) (r : Bool) (h : g_law_NatPowers K p0 p1 = some r) :
  CR Tryd.prog 7 [(.string p0), (.int .i64 p1)] G H (L) (fun v G' _ => v = .bool r) := by
 unfold g_law_NatPowers at h
 refine CR.of (calls_of_AW (n := 72) (fn := Tryd.f7) (R := fun v H' => ∃ G', Ow G' H' (L) ∧ G.le G' ∧ v = .bool r) (by kernel_rfl) rfl rfl ?_)
 refine .seq ?_
 refine .region ?_
 refine W.pure (v := (.bool false)) rfl rfl (v_assign (oo rfl rfl)) ?_
 refine .nil ?_
 refine .seq ?_
 refine .seq ?_
 refine .region ?_
 obtain ⟨x1, i2, h3⟩ := bd_inv h
 refine W.lo rfl rfl (Lo.callP (ps := []) (ps' := []) rfl (fn := Tryd.f13) (by kernel_rfl) rfl mn O (fun L' O' => g_law_natFact_ok K  O' _ i2)) ?_
 rintro v10 H11 ⟨G4, O5, s6, sm9, rfl⟩
 replace O5 : Ow G4 H11 (L) := O5
 refine W.pure (v := (.bool (!x1))) rfl rfl (bool_not (a := x1) (oo rfl rfl)) ?_
 refine .nil ?_
 refine .cond (b := (!x1)) rfl rfl (fun g12 => ?_) (fun g12 => ?_)
 ·have h13 := pos_inv g12 h3
  refine .seq ?_
  refine .region ?_
  refine W.pure (v := (.bool false)) rfl rfl (v_assign (oo rfl rfl)) ?_
  refine .nil ?_
  refine .ret ?_
  obtain rfl := Option.some.inj h13
  refine ret1R (P := Tryd.prog) (fn := Tryd.f7) (n := 72) (R := fun v H' => ∃ G', Ow G' H' (L) ∧ G.le G' ∧ v = .bool false) (v1 := (.bool false)) (by rfl) (rr_tmp (by rfl) (by exact rfl)) ?_
  exact ⟨_, O5, s6, rfl⟩
 ·have h14 := neg_b g12 h3
  refine .skip ?_
  refine .seq ?_
  refine .region ?_
  refine W.pure (v := (.string p0)) rfl rfl (v_move (oo rfl rfl)) ?_
  refine W.pure (v := (.int .i64 p1)) rfl rfl (v_move (oo rfl rfl)) ?_
  obtain ⟨x15, i16, h17⟩ := bd_inv h14
  refine W.lo rfl rfl (Lo.callP (ps := []) (ps' := []) rfl (fn := Tryd.f30) (by kernel_rfl) rfl (mc rfl (mc rfl mn)) O5 (fun L' O' => g_nat_Power_ok K p0 p1 O' _ i16)) ?_
  rintro v24 H25 ⟨G18, O19, s20, sm23, rfl⟩
  replace O19 : Ow G18 H25 (L) := O19
  refine W.pure (v := (.tuple #[(.string x15.1), (.int .i64 x15.2)])) rfl rfl (v_move (oo rfl rfl)) ?_
  refine W.pure (v := (.string x15.1)) rfl rfl (v_extract (oo rfl rfl) rfl) ?_
  refine W.pure (v := (.int .i64 x15.2)) rfl rfl (v_extract (oo rfl rfl) rfl) ?_
  refine W.pure (v := (.string x15.1)) rfl rfl (v_assign (oo rfl rfl)) ?_
  refine W.pure (v := (.int .i64 x15.2)) rfl rfl (v_assign (oo rfl rfl)) ?_
  refine .nil ?_
  refine .seq ?_
  refine .region ?_
  refine W.pure (v := (.string p0)) rfl rfl (v_move (oo rfl rfl)) ?_
  obtain ⟨x26, i27, h28⟩ := bd_inv h17
  refine W.lo rfl rfl (Lo.callP (ps := []) (ps' := []) rfl (fn := Tryd.f15) (by kernel_rfl) rfl (mc rfl mn) O19 (fun L' O' => g_R_NatError_ok K p0 O' _ i27)) ?_
  rintro v35 H36 ⟨G29, O30, s31, sm34, rfl⟩
  replace O30 : Ow G29 H36 (L) := O30
  refine W.pure (v := (.int .i64 x26)) rfl rfl (v_assign (oo rfl rfl)) ?_
  refine .nil ?_
  refine .seq ?_
  refine .seq ?_
  obtain ⟨q37, h38, h39⟩ := bd_inv h28
  refine AW.midT (fun σ' H' => ∃ (y1 : Bool) (G' : GM), y1 = q37 ∧ Ow G' H' (L) ∧ GM.le G29 G' ∧ σ' 28 = .bool y1) ?_ ?_
  ·refine .region ?_
   refine W.pure (v := (.int .i64 x26)) rfl rfl (v_move (oo rfl rfl)) ?_
   refine W.pure (v := (.bool (x26 == 0))) rfl rfl (v_int (oo rfl rfl) (oo rfl rfl) rfl) ?_
   refine W.pure (v := (.bool (x26 == 0))) rfl rfl (v_move (oo rfl rfl)) ?_
   refine W.splitAt (t := 21) (b := (x26 == 0)) rfl (fun g40 gv41 => ?_) (fun g40 gv41 => ?_)
   ·have h42 := pos_inv g40 h38
    refine W.pure (v := (.int .i64 p1)) (gk rfl rfl gv41 rfl) rfl (v_move (oo rfl rfl)) ?_
    refine W.pure (v := (.bool (decide (p1 < 0)))) (gk rfl rfl gv41 rfl) rfl (v_int (oo rfl rfl) (oo rfl rfl) rfl) ?_
    refine W.pure (v := (.bool (decide (p1 < 0)))) (gk rfl rfl gv41 rfl) rfl (v_move (oo rfl rfl)) ?_
    refine W.splitAt (t := 24) (b := decide (p1 < 0)) rfl (fun g43 gv44 => ?_) (fun g43 gv44 => ?_)
    ·have h45 := pos_inv g43 h42
     refine W.skip (gk rfl rfl gv44 rfl) rfl ?_
     refine W.skip (gk rfl rfl gv44 rfl) rfl ?_
     refine W.pure (v := (.bool true)) (gk rfl rfl gv41 rfl) rfl (v_pickT (oo rfl gv44) (oo rfl rfl)) ?_
     refine W.pure (v := (.bool true)) rfl rfl (v_pickT (oo rfl gv41) (oo rfl rfl)) ?_
     refine .nil ?_
     obtain rfl := Option.some.inj h45
     exact ⟨true, _, rfl, O30, (GM.le.refl _), rfl⟩
    ·have h46 := neg_b g43 h42
     refine W.pure (v := (.int .i64 p1)) (gk rfl rfl gv44 rfl) rfl (v_move (oo rfl rfl)) ?_
     refine W.pure (v := (.bool (decide (p1 > 10000)))) (gk rfl rfl gv44 rfl) rfl (v_int (oo rfl rfl) (oo rfl rfl) rfl) ?_
     refine W.pure (v := (.bool (decide (p1 > 10000)))) (gk rfl rfl gv41 rfl) rfl (v_pickF (oo rfl gv44) (oo rfl rfl)) ?_
     refine W.pure (v := (.bool (decide (p1 > 10000)))) rfl rfl (v_pickT (oo rfl gv41) (oo rfl rfl)) ?_
     refine .nil ?_
     obtain rfl := Option.some.inj h46
     exact ⟨decide (p1 > 10000), _, rfl, O30, (GM.le.refl _), rfl⟩
   ·have h47 := neg_b g40 h38
    refine W.skip (gk rfl rfl gv41 rfl) rfl ?_
    refine W.skip (gk rfl rfl gv41 rfl) rfl ?_
    refine W.skip (gk rfl rfl gv41 rfl) rfl ?_
    refine W.skipU rfl rfl rfl rfl ?_
    refine W.skipU rfl rfl rfl rfl ?_
    refine W.skip (gk rfl rfl gv41 rfl) rfl ?_
    refine W.pure (v := (.bool false)) rfl rfl (v_pickF (oo rfl gv41) (oo rfl rfl)) ?_
    refine .nil ?_
    obtain rfl := Option.some.inj h47
    exact ⟨false, _, rfl, O30, (GM.le.refl _), rfl⟩
  ·rintro σ49 H50 fr51 ⟨x48, G52, rfl, O53, s54, t56⟩
   have h57 := tu1_inv h39
   obtain ⟨q58, h59, h60⟩ := bd_inv h57
   refine AW.midT (fun σ' H' => ∃ (y1 : Int) (G' : GM), y1 = q58 ∧ Ow G' H' (L) ∧ GM.le G52 G' ∧ σ' 7 = .int .i64 y1) ?_ ?_
   ·refine .cond (b := x48) rfl t56 (fun g61 => ?_) (fun g61 => ?_)
    ·have h62 := pos_inv g61 h59
     refine .region ?_
     refine W.pure (v := (.int .i64 4)) rfl rfl (v_assign (oo rfl rfl)) ?_
     refine .nil ?_
     obtain rfl := Option.some.inj h62
     exact ⟨4, _, rfl, O53, (GM.le.refl _), rfl⟩
    ·have h63 := neg_b g61 h59
     refine .skip ?_
     obtain rfl := Option.some.inj h63
     exact ⟨x26, _, rfl, O53, (GM.le.refl _), ((fr51 7 rfl).trans rfl)⟩
   ·rintro σ65 H66 fr67 ⟨x64, G68, rfl, O69, s70, t72⟩
    have h73 := tu1_inv h60
    refine .seq ?_
    refine .seq ?_
    refine .region ?_
    refine W.pure (v := (.int .i64 x64)) rfl rfl (v_move (oo rfl t72)) ?_
    refine W.pure (v := (.bool (x64 != 0))) rfl rfl (v_int (oo rfl rfl) (oo rfl rfl) rfl) ?_
    refine .nil ?_
    refine .cond (b := (x64 != 0)) rfl rfl (fun g74 => ?_) (fun g74 => ?_)
    ·have h75 := pos_inv g74 h73
     refine .seq ?_
     obtain ⟨q76, h77, h78⟩ := bd_inv h75
     refine AW.midT (fun σ' H' => ∃ (y1 : Bool) (G' : GM), y1 = q76 ∧ Ow G' H' (L) ∧ GM.le G68 G' ∧ σ' 4 = .bool y1) ?_ ?_
     ·refine .region ?_
      refine W.pure (v := (.int .i64 x15.2)) rfl rfl (v_move (oo rfl ((fr67 6 rfl).trans ((fr51 6 rfl).trans rfl)))) ?_
      refine W.pure (v := (.int .i64 x64)) rfl rfl (v_move (oo rfl t72)) ?_
      refine W.pure (v := (.bool (x15.2 == x64))) rfl rfl (v_int (oo rfl rfl) (oo rfl rfl) rfl) ?_
      refine W.pure (v := (.bool (x15.2 == x64))) rfl rfl (v_move (oo rfl rfl)) ?_
      refine W.splitAt (t := 34) (b := (x15.2 == x64)) rfl (fun g79 gv80 => ?_) (fun g79 gv80 => ?_)
      ·have h81 := pos_inv g79 h77
       refine W.pure (v := (.string x15.1)) (gk rfl rfl gv80 rfl) rfl (v_move (oo rfl ((fr67 5 rfl).trans ((fr51 5 rfl).trans rfl)))) ?_
       refine W.pure (v := (.bool (sEq x15.1 (⟨#[]⟩ : ByteArray)))) (gk rfl rfl gv80 rfl) rfl (vs_eql (oo rfl rfl) (oo rfl rfl)) ?_
       refine W.pure (v := (.bool (sEq x15.1 (⟨#[]⟩ : ByteArray)))) rfl rfl (v_pickT (oo rfl gv80) (oo rfl rfl)) ?_
       refine W.pure (v := (.bool (sEq x15.1 (⟨#[]⟩ : ByteArray)))) rfl rfl (v_assign (oo rfl rfl)) ?_
       refine .nil ?_
       obtain rfl := Option.some.inj h81
       exact ⟨sEq x15.1 (⟨#[]⟩ : ByteArray), _, rfl, O69, (GM.le.refl _), rfl⟩
      ·have h82 := neg_b g79 h77
       refine W.skip (gk rfl rfl gv80 rfl) rfl ?_
       refine W.skip (gk rfl rfl gv80 rfl) rfl ?_
       refine W.pure (v := (.bool false)) rfl rfl (v_pickF (oo rfl gv80) (oo rfl rfl)) ?_
       refine W.pure (v := (.bool false)) rfl rfl (v_assign (oo rfl rfl)) ?_
       refine .nil ?_
       obtain rfl := Option.some.inj h82
       exact ⟨false, _, rfl, O69, (GM.le.refl _), rfl⟩
     ·rintro σ84 H85 fr86 ⟨x83, G87, rfl, O88, s89, t91⟩
      have h92 := tu1_inv h78
      refine .ret ?_
      obtain rfl := Option.some.inj h92
      refine ret1R (P := Tryd.prog) (fn := Tryd.f7) (n := 72) (R := fun v H' => ∃ G', Ow G' H' (L) ∧ G.le G' ∧ v = .bool x83) (v1 := (.bool x83)) (by rfl) (rr_tmp (by rfl) (by exact t91)) ?_
      exact ⟨_, O88, (GM.le.trans s6 (GM.le.trans s20 (GM.le.trans s31 (GM.le.trans s54 (GM.le.trans s70 s89))))), rfl⟩
    ·have h93 := neg_b g74 h73
     refine .skip ?_
     refine .seq ?_
     refine .seq ?_
     obtain ⟨q94, h95, h96⟩ := bd_inv h93
     refine AW.midT (fun σ' H' => ∃ (y1 : Bool) (G' : GM), y1 = q94 ∧ Ow G' H' (L) ∧ GM.le G68 G' ∧ σ' 47 = .bool y1) ?_ ?_
     ·refine .region ?_
      refine W.pure (v := (.int .i64 p1)) rfl rfl (v_move (oo rfl ((fr67 1 rfl).trans ((fr51 1 rfl).trans rfl)))) ?_
      refine W.pure (v := (.bool (decide (p1 > 30)))) rfl rfl (v_int (oo rfl rfl) (oo rfl rfl) rfl) ?_
      refine W.pure (v := (.bool (decide (p1 > 30)))) rfl rfl (v_move (oo rfl rfl)) ?_
      refine W.splitAt (t := 40) (b := decide (p1 > 30)) rfl (fun g97 gv98 => ?_) (fun g97 gv98 => ?_)
      ·have h99 := pos_inv g97 h95
       refine W.pure (v := (.string p0)) (gk rfl rfl gv98 rfl) rfl (v_move (oo rfl ((fr67 0 rfl).trans ((fr51 0 rfl).trans rfl)))) ?_
       refine W.pure (v := (.bool (!(sEq p0 (⟨#[48]⟩ : ByteArray))))) (gk rfl rfl gv98 rfl) rfl (vs_neq (oo rfl rfl) (oo rfl rfl)) ?_
       refine W.pure (v := (.bool (!(sEq p0 (⟨#[48]⟩ : ByteArray))))) rfl rfl (v_pickT (oo rfl gv98) (oo rfl rfl)) ?_
       refine W.pure (v := (.bool (!(sEq p0 (⟨#[48]⟩ : ByteArray))))) rfl rfl (v_move (oo rfl rfl)) ?_
       refine W.splitAt (t := 44) (b := (!(sEq p0 (⟨#[48]⟩ : ByteArray)))) rfl (fun g100 gv101 => ?_) (fun g100 gv101 => ?_)
       ·have h102 := pos_inv g100 h99
        refine W.pure (v := (.string p0)) (gk rfl rfl gv101 rfl) rfl (v_move (oo rfl ((fr67 0 rfl).trans ((fr51 0 rfl).trans rfl)))) ?_
        refine W.pure (v := (.bool (!(sEq p0 (⟨#[49]⟩ : ByteArray))))) (gk rfl rfl gv101 rfl) rfl (vs_neq (oo rfl rfl) (oo rfl rfl)) ?_
        refine W.pure (v := (.bool (!(sEq p0 (⟨#[49]⟩ : ByteArray))))) rfl rfl (v_pickT (oo rfl gv101) (oo rfl rfl)) ?_
        refine .nil ?_
        obtain rfl := Option.some.inj h102
        exact ⟨(!(sEq p0 (⟨#[49]⟩ : ByteArray))), _, rfl, O69, (GM.le.refl _), rfl⟩
       ·have h103 := neg_b g100 h99
        refine W.skip (gk rfl rfl gv101 rfl) rfl ?_
        refine W.skip (gk rfl rfl gv101 rfl) rfl ?_
        refine W.pure (v := (.bool false)) rfl rfl (v_pickF (oo rfl gv101) (oo rfl rfl)) ?_
        refine .nil ?_
        obtain rfl := Option.some.inj h103
        exact ⟨false, _, rfl, O69, (GM.le.refl _), rfl⟩
      ·have h104 := neg_b g97 h95
       refine W.skip (gk rfl rfl gv98 rfl) rfl ?_
       refine W.skip (gk rfl rfl gv98 rfl) rfl ?_
       refine W.pure (v := (.bool false)) rfl rfl (v_pickF (oo rfl gv98) (oo rfl rfl)) ?_
       refine W.pure (v := (.bool false)) rfl rfl (v_move (oo rfl rfl)) ?_
       refine W.skip (gk rfl rfl rfl rfl) rfl ?_
       refine W.skip (gk rfl rfl rfl rfl) rfl ?_
       refine W.pure (v := (.bool false)) rfl rfl (v_pickF (oo rfl rfl) (oo rfl rfl)) ?_
       refine .nil ?_
       obtain rfl := Option.some.inj h104
       exact ⟨false, _, rfl, O69, (GM.le.refl _), rfl⟩
     ·rintro σ106 H107 fr108 ⟨x105, G109, rfl, O110, s111, t113⟩
      have h114 := tu1_inv h96
      refine .cond (b := x105) rfl t113 (fun g115 => ?_) (fun g115 => ?_)
      ·have h116 := pos_inv g115 h114
       refine .seq ?_
       refine .region ?_
       refine W.pure (v := (.bool true)) rfl rfl (v_assign (oo rfl rfl)) ?_
       refine .nil ?_
       refine .ret ?_
       obtain rfl := Option.some.inj h116
       refine ret1R (P := Tryd.prog) (fn := Tryd.f7) (n := 72) (R := fun v H' => ∃ G', Ow G' H' (L) ∧ G.le G' ∧ v = .bool true) (v1 := (.bool true)) (by rfl) (rr_tmp (by rfl) (by exact rfl)) ?_
       exact ⟨_, O110, (GM.le.trans s6 (GM.le.trans s20 (GM.le.trans s31 (GM.le.trans s54 (GM.le.trans s70 s111))))), rfl⟩
      ·have h117 := neg_b g115 h114
       refine .skip ?_
       refine .seq ?_
       refine .region ?_
       refine W.pure (v := (.string (⟨#[49]⟩ : ByteArray))) rfl rfl (v_assign (oo rfl rfl)) ?_
       refine .nil ?_
       refine .seq ?_
       refine .seq ?_
       refine .region ?_
       refine W.pure (v := (.int .i64 p1)) rfl rfl (v_move (oo rfl ((fr108 1 rfl).trans ((fr67 1 rfl).trans ((fr51 1 rfl).trans rfl))))) ?_
       refine W.pure (v := (.int .i64 (imin p1 30))) rfl rfl (v_min2 (oo rfl rfl) (oo rfl rfl)) ?_
       refine W.pure (v := (.int .i64 0)) rfl rfl (v_move (oo rfl rfl)) ?_
       refine .nil ?_
       obtain ⟨q118, h119, h120⟩ := bindS_inv h117
       refine AW.midT (fun σ' H' => ∃ (y1 : ByteArray) (G' : GM), (.inr y1) = q118 ∧ Ow G' H' (L) ∧ GM.le G109 G' ∧ σ' 8 = .string y1) ?_ ?_
       ·refine .block ?_
        refine AW.loop (α := Nat) (fun k' σ' H' => ∃ (y1 : ByteArray) (y2 : Int) (G' : GM), g_law_NatPowers_l0 K p0 p1 x15 k' y1 y2 = some q118 ∧ Ow G' H' (L) ∧ GM.le G109 G' ∧ σ' 8 = .string y1 ∧ σ' 50 = .int .i64 y2) (fun k' => k') K ⟨(⟨#[49]⟩ : ByteArray), 0, _, h119, O110, (GM.le.refl _), rfl, rfl⟩ ?_
        rintro k121
        rintro σ124 H125 fr126 ⟨x122, x123, G127, h130, O128, s129, t131, t132⟩
        rcases k121 with _ | k121
        ·exact none_absurd h130
        rw [g_law_NatPowers_l0] at h130
        refine .seq ?_
        refine .region ?_
        refine W.pure (v := (.bool (decide (x123 < (imin p1 30))))) rfl rfl (v_int (oo rfl t132) (oo rfl ((fr126 49 rfl).trans rfl)) rfl) ?_
        refine .nil ?_
        refine .seq ?_
        refine .cond (b := decide (x123 < (imin p1 30))) rfl rfl (fun g133 => ?_) (fun g133 => ?_)
        ·have h134 := pos_inv g133 h130
         refine .skip ?_
         refine .seq ?_
         refine .block ?_
         refine .seq ?_
         refine .region ?_
         refine W.pure (v := (.string x122)) rfl rfl (v_move (oo rfl t131)) ?_
         refine W.pure (v := (.string p0)) rfl rfl (v_move (oo rfl ((fr126 0 rfl).trans ((fr108 0 rfl).trans ((fr67 0 rfl).trans ((fr51 0 rfl).trans rfl)))))) ?_
         obtain ⟨x135, i136, h137⟩ := bd_inv h134
         refine W.lo rfl rfl (Lo.callP (ps := []) (ps' := []) rfl (fn := Tryd.f25) (by kernel_rfl) rfl (mc rfl (mc rfl mn)) O128 (fun L' O' => g_R_NatMul_ok K x122 p0 O' _ i136)) ?_
         rintro v144 H145 ⟨G138, O139, s140, sm143, rfl⟩
         replace O139 : Ow G138 H145 (L) := O139
         refine W.pure (v := (.string x135)) rfl rfl (v_assign (oo rfl rfl)) ?_
         refine .nil ?_
         refine .seq ?_
         refine .region ?_
         refine W.pure (v := (.string x135)) rfl rfl (v_move (oo rfl rfl)) ?_
         refine W.pure (v := (.int .i64 (x135.size : Int))) rfl rfl (len_str (oo rfl rfl) un9) ?_
         refine W.pure (v := (.bool (decide ((x135.size : Int) > 2000)))) rfl rfl (v_int (oo rfl rfl) (oo rfl rfl) rfl) ?_
         refine .nil ?_
         refine .cond (b := decide ((x135.size : Int) > 2000)) rfl rfl (fun g146 => ?_) (fun g146 => ?_)
         ·have h147 := pos_inv g146 h137
          refine .seq ?_
          obtain ⟨q148, h149, h150⟩ := bd_inv h147
          refine AW.midT (fun σ' H' => ∃ (y1 : Bool) (G' : GM), y1 = q148 ∧ Ow G' H' (L) ∧ GM.le G138 G' ∧ σ' 4 = .bool y1) ?_ ?_
          ·refine .region ?_
           refine W.pure (v := (.int .i64 x15.2)) rfl rfl (v_move (oo rfl ((fr126 6 rfl).trans ((fr108 6 rfl).trans ((fr67 6 rfl).trans ((fr51 6 rfl).trans rfl)))))) ?_
           refine W.pure (v := (.bool (x15.2 == 2))) rfl rfl (v_int (oo rfl rfl) (oo rfl rfl) rfl) ?_
           refine W.pure (v := (.bool (x15.2 == 2))) rfl rfl (v_move (oo rfl rfl)) ?_
           refine W.splitAt (t := 60) (b := (x15.2 == 2)) rfl (fun g151 gv152 => ?_) (fun g151 gv152 => ?_)
           ·have h153 := pos_inv g151 h149
            refine W.pure (v := (.string x15.1)) (gk rfl rfl gv152 rfl) rfl (v_move (oo rfl ((fr126 5 rfl).trans ((fr108 5 rfl).trans ((fr67 5 rfl).trans ((fr51 5 rfl).trans rfl)))))) ?_
            refine W.pure (v := (.bool (sEq x15.1 (⟨#[]⟩ : ByteArray)))) (gk rfl rfl gv152 rfl) rfl (vs_eql (oo rfl rfl) (oo rfl rfl)) ?_
            refine W.pure (v := (.bool (sEq x15.1 (⟨#[]⟩ : ByteArray)))) rfl rfl (v_pickT (oo rfl gv152) (oo rfl rfl)) ?_
            refine W.pure (v := (.bool (sEq x15.1 (⟨#[]⟩ : ByteArray)))) rfl rfl (v_assign (oo rfl rfl)) ?_
            refine .nil ?_
            obtain rfl := Option.some.inj h153
            exact ⟨sEq x15.1 (⟨#[]⟩ : ByteArray), _, rfl, O139, (GM.le.refl _), rfl⟩
           ·have h154 := neg_b g151 h149
            refine W.skip (gk rfl rfl gv152 rfl) rfl ?_
            refine W.skip (gk rfl rfl gv152 rfl) rfl ?_
            refine W.pure (v := (.bool false)) rfl rfl (v_pickF (oo rfl gv152) (oo rfl rfl)) ?_
            refine W.pure (v := (.bool false)) rfl rfl (v_assign (oo rfl rfl)) ?_
            refine .nil ?_
            obtain rfl := Option.some.inj h154
            exact ⟨false, _, rfl, O139, (GM.le.refl _), rfl⟩
          ·rintro σ156 H157 fr158 ⟨x155, G159, rfl, O160, s161, t163⟩
           have h164 := tu1_inv h150
           refine .ret ?_
           obtain rfl := Option.some.inj h164
           have h165 := tu1_inv (outS_l h120)
           obtain rfl := Option.some.inj h165
           refine ret1R (P := Tryd.prog) (fn := Tryd.f7) (n := 72) (R := fun v H' => ∃ G', Ow G' H' (L) ∧ G.le G' ∧ v = .bool x155) (v1 := (.bool x155)) (by rfl) (rr_tmp (by rfl) (by exact t163)) ?_
           exact ⟨_, O160, (GM.le.trans s6 (GM.le.trans s20 (GM.le.trans s31 (GM.le.trans s54 (GM.le.trans s70 (GM.le.trans s111 (GM.le.trans s129 (GM.le.trans s140 s161)))))))), rfl⟩
         ·have h166 := neg_b g146 h137
          refine .skip ?_
          refine .region ?_
          refine W.pure (v := (.int .i64 (kwrap .i64 (x123 + 1)))) rfl rfl (v_int (oo rfl t132) (oo rfl rfl) rfl) ?_
          refine W.pure (v := (.int .i64 (kwrap .i64 (x123 + 1)))) rfl rfl (v_move (oo rfl rfl)) ?_
          refine .nil ?_
          exact ⟨k121, Nat.lt_succ_self _, ⟨x135, kwrap .i64 (x123 + 1), _, h166, O139, (GM.le.trans s129 s140), rfl, rfl⟩⟩
        ·have h167 := neg_b g133 h130
         refine .exit ?_
         obtain rfl := Option.some.inj h167
         exact ⟨x122, _, rfl, O128, s129, t131⟩
       ·rintro σ169 H170 fr171 ⟨x168, G172, rfl, O173, s174, t176⟩
        have h177 := tu1_inv (outS_r h120)
        refine .seq ?_
        obtain ⟨q178, h179, h180⟩ := bd_inv h177
        refine AW.midT (fun σ' H' => ∃ (y1 : Bool) (G' : GM), y1 = q178 ∧ Ow G' H' (L) ∧ GM.le G172 G' ∧ σ' 4 = .bool y1) ?_ ?_
        ·refine .region ?_
         refine W.pure (v := (.int .i64 x15.2)) rfl rfl (v_move (oo rfl ((fr171 6 rfl).trans ((fr108 6 rfl).trans ((fr67 6 rfl).trans ((fr51 6 rfl).trans rfl)))))) ?_
         refine W.pure (v := (.bool (x15.2 == 0))) rfl rfl (v_int (oo rfl rfl) (oo rfl rfl) rfl) ?_
         refine W.pure (v := (.bool (x15.2 == 0))) rfl rfl (v_move (oo rfl rfl)) ?_
         refine W.splitAt (t := 67) (b := (x15.2 == 0)) rfl (fun g181 gv182 => ?_) (fun g181 gv182 => ?_)
         ·have h183 := pos_inv g181 h179
          refine W.pure (v := (.string x15.1)) (gk rfl rfl gv182 rfl) rfl (v_move (oo rfl ((fr171 5 rfl).trans ((fr108 5 rfl).trans ((fr67 5 rfl).trans ((fr51 5 rfl).trans rfl)))))) ?_
          refine W.pure (v := (.string x168)) (gk rfl rfl gv182 rfl) rfl (v_move (oo rfl t176)) ?_
          refine W.pure (v := (.bool (sEq x15.1 x168))) (gk rfl rfl gv182 rfl) rfl (vs_eql (oo rfl rfl) (oo rfl rfl)) ?_
          refine W.pure (v := (.bool (sEq x15.1 x168))) rfl rfl (v_pickT (oo rfl gv182) (oo rfl rfl)) ?_
          refine W.pure (v := (.bool (sEq x15.1 x168))) rfl rfl (v_assign (oo rfl rfl)) ?_
          refine .nil ?_
          obtain rfl := Option.some.inj h183
          exact ⟨sEq x15.1 x168, _, rfl, O173, (GM.le.refl _), rfl⟩
         ·have h184 := neg_b g181 h179
          refine W.skip (gk rfl rfl gv182 rfl) rfl ?_
          refine W.skip (gk rfl rfl gv182 rfl) rfl ?_
          refine W.skip (gk rfl rfl gv182 rfl) rfl ?_
          refine W.pure (v := (.bool false)) rfl rfl (v_pickF (oo rfl gv182) (oo rfl rfl)) ?_
          refine W.pure (v := (.bool false)) rfl rfl (v_assign (oo rfl rfl)) ?_
          refine .nil ?_
          obtain rfl := Option.some.inj h184
          exact ⟨false, _, rfl, O173, (GM.le.refl _), rfl⟩
        ·rintro σ186 H187 fr188 ⟨x185, G189, rfl, O190, s191, t193⟩
         have h194 := tu1_inv h180
         refine .ret ?_
         obtain rfl := Option.some.inj h194
         refine ret1R (P := Tryd.prog) (fn := Tryd.f7) (n := 72) (R := fun v H' => ∃ G', Ow G' H' (L) ∧ G.le G' ∧ v = .bool x185) (v1 := (.bool x185)) (by rfl) (rr_tmp (by rfl) (by exact t193)) ?_
         exact ⟨_, O190, (GM.le.trans s6 (GM.le.trans s20 (GM.le.trans s31 (GM.le.trans s54 (GM.le.trans s70 (GM.le.trans s111 (GM.le.trans s174 s191))))))), rfl⟩
structure Q where
 neg : Bool
 num : List Int
 den : List Int
 deriving DecidableEq, Inhabited
end Go.Am.Tryd
/- Typed functions with the same answers as the program's, and the walks that show it. -/
namespace Go.Am.Tryd
open Go Go.Am Go.Proofs
set_option linter.unusedVariables false
set_option linter.unusedSimpArgs false
set_option maxRecDepth 10000

end Go.Am.Tryd
/- Typed functions with the same answers as the program's, and the walks that show it. -/
namespace Go.Am.Tryd
open Go Go.Am Go.Proofs
set_option linter.unusedVariables false
set_option linter.unusedSimpArgs false
set_option maxRecDepth 10000

end Go.Am.Tryd
/- Typed functions with the same answers as the program's, and the walks that show it. -/
namespace Go.Am.Tryd
open Go Go.Am Go.Proofs
set_option linter.unusedVariables false
set_option linter.unusedSimpArgs false
set_option maxRecDepth 10000

end Go.Am.Tryd
/- Plain lemmas for typed functions: loops over lists, texts, whole numbers. -/
namespace Go.Am
open Go
set_option linter.unusedSimpArgs false
set_option linter.unusedVariables false

/-! ### Whole numbers -/
theorem kw {a : Int} (h1 : -9223372036854775808 ≤ a) (h2 : a ≤ 9223372036854775807) : kwrap .i64 a = a := kwrap_in (krange_i64 h1 h2)
theorem kw1 {i n : Nat} (h : i < n) (hn : n ≤ 4611686018427387904) : kwrap .i64 ((i : Int) + 1) = ((i + 1 : Nat) : Int) := by rw [kw (by omega) (by omega)]; omega
theorem idx_nat {α : Type} {xs : List α} {i : Nat} {x : α} (h : xs[i]? = some x) : idx xs (i : Int) = some x := by
  unfold idx
  rw [if_neg (by omega)]
  simpa using h
theorem lt_nat {i n : Nat} (h : i < n) : decide ((i : Int) < (n : Int)) = true := by simp; omega
theorem nlt_nat {i n : Nat} (h : n ≤ i) : decide ((i : Int) < (n : Int)) = false := by simp; omega

/-! ### Loops over a list that may end early -/
@[simp] theorem Sum.elim_ite {α β γ : Type} (f : α → γ) (g : β → γ) (c : Prop) [Decidable c] (x y : α ⊕ β) : Sum.elim f g (if c then x else y) = if c then Sum.elim f g x else Sum.elim f g y := by split <;> rfl
def runS {α S E : Type} (chk : α → S → E ⊕ S) : List α → S → E ⊕ S
  | [], s => .inr s
  | x :: xs, s => Sum.elim .inl (runS chk xs) (chk x s)
/-- A loop with a counter comes to what the list says. -/
theorem loop_sum {α S E : Type} (xs : List α) (l : Nat → S → Int → Option (E ⊕ S)) (chk : α → S → E ⊕ S) (I : S → Nat → Prop)
    (h : ∀ k s (i : Nat) x, xs[i]? = some x → I s i → l (k + 1) s i = Sum.elim (fun e => some (.inl e)) (fun s' => l k s' ((i + 1 : Nat) : Int)) (chk x s))
    (hI : ∀ s (i : Nat) x s', xs[i]? = some x → I s i → chk x s = .inr s' → I s' (i + 1))
    (h0 : ∀ k s (i : Nat), xs.length ≤ i → l (k + 1) s i = some (.inr s)) : ∀ d k s (i : Nat), xs.length - i = d → d < k → I s i → l k s i = some (runS chk (xs.drop i) s) := by
  intro d
  induction d with
  | zero =>
    intro k s i hd hk _
    obtain ⟨k, rfl⟩ : ∃ m, k = m + 1 := ⟨k - 1, by omega⟩
    rw [h0 k s i (by omega), List.drop_eq_nil_of_le (by omega)]; rfl
  | succ d ih =>
    intro k s i hd hk hi
    obtain ⟨k, rfl⟩ : ∃ m, k = m + 1 := ⟨k - 1, by omega⟩
    have hl : i < xs.length := by omega
    have hx : xs[i]? = some xs[i] := List.getElem?_eq_getElem hl
    rw [h k s i _ hx hi, List.drop_eq_getElem_cons hl, runS]
    cases hc : chk xs[i] s with
    | inl e => rfl
    | inr s' => exact ih k s' (i + 1) (by omega) (by omega) (hI s i _ s' hx hi hc)
theorem loop_sum0 {α S E : Type} (xs : List α) (l : Nat → S → Int → Option (E ⊕ S)) (chk : α → S → E ⊕ S) (I : S → Nat → Prop)
    (h : ∀ k s (i : Nat) x, xs[i]? = some x → I s i → l (k + 1) s i = Sum.elim (fun e => some (.inl e)) (fun s' => l k s' ((i + 1 : Nat) : Int)) (chk x s))
    (hI : ∀ s (i : Nat) x s', xs[i]? = some x → I s i → chk x s = .inr s' → I s' (i + 1))
    (h0 : ∀ k s (i : Nat), xs.length ≤ i → l (k + 1) s i = some (.inr s)) (k : Nat) (s : S) (hk : xs.length < k) (hi : I s 0) : l k s 0 = some (runS chk xs s) := by
  have := loop_sum xs l chk I h hI h0 xs.length k s 0 (by omega) hk hi
  simpa using this


/-! ### Texts -/
theorem sEq_iff {a b : ByteArray} : sEq a b = true ↔ a = b := by
  unfold sEq
  rw [beq_iff_eq, ByteArray.toList_eq, ByteArray.toList_eq]
  constructor
  · intro h
    cases a; cases b
    simp at h
    rw [h]
  · rintro rfl; rfl
theorem bytesOf_length (a : ByteArray) : (bytesOf a).length = a.size := by unfold bytesOf; rw [List.length_map, Array.length_toList]; rfl
theorem bidx_eq (a : ByteArray) (i : Int) : bidx a i = idx (bytesOf a) i := by
  unfold bidx idx
  by_cases h : 0 ≤ i
  · rw [if_pos h, if_neg (by omega)]
    unfold bytesOf
    rw [List.getElem?_map, Array.getElem?_toList]
    rfl
  · rw [if_neg h, if_pos (by omega)]
end Go.Am
/- Numbers: digits in a base, the least one first; decimal texts. Plain, no program. -/
namespace Go.Am
open Go
set_option linter.unusedSimpArgs false
set_option linter.unusedVariables false
/-! ### Digits, the least one first -/
def valB (B : Int) : List Int → Int
  | [] => 0
  | d :: l => d + B * valB B l
def DigB (B : Int) (l : List Int) : Prop := ∀ d ∈ l, 0 ≤ d ∧ d < B
theorem DigB.nil (B : Int) : DigB B [] := fun d h => by simp at h
theorem DigB.cons {B d : Int} {l : List Int} (h : DigB B (d :: l)) : (0 ≤ d ∧ d < B) ∧ DigB B l := ⟨h d (by simp), fun x hx => h x (by simp [hx])⟩
theorem DigB.app {B : Int} {l m : List Int} (h : DigB B l) (k : DigB B m) : DigB B (l ++ m) := fun d hd => by
  rcases List.mem_append.1 hd with hd | hd
  · exact h d hd
  · exact k d hd
theorem valB_app (B : Int) : ∀ (l m : List Int), valB B (l ++ m) = valB B l + B ^ l.length * valB B m
  | [], m => by simp [valB]
  | d :: l, m => by
    simp only [List.cons_append, valB, valB_app B l m, List.length_cons, Int.pow_succ]
    rw [Int.mul_add, ← Int.mul_assoc, Int.mul_comm B (B ^ l.length), Int.add_assoc]
theorem valB_nonneg {B : Int} (hB : 0 < B) : ∀ (l : List Int), DigB B l → 0 ≤ valB B l
  | [], _ => Int.le_refl _
  | d :: l, h => by
    have h1 := (h.cons).1
    have h2 := valB_nonneg hB l h.cons.2
    have := Int.mul_nonneg (Int.le_of_lt hB) h2
    simp only [valB]; omega
theorem valB_lt {B : Int} (hB : 0 < B) : ∀ (l : List Int), DigB B l → valB B l < B ^ l.length
  | [], _ => by simp [valB]
  | d :: l, h => by
    have h1 := (h.cons).1
    have h2 := valB_lt hB l h.cons.2
    have h3 : B * (valB B l + 1) ≤ B * B ^ l.length := Int.mul_le_mul_of_nonneg_left (by omega) (Int.le_of_lt hB)
    rw [Int.mul_add, Int.mul_one] at h3
    simp only [valB, List.length_cons, Int.pow_succ]
    rw [Int.mul_comm (B ^ l.length) B]
    omega
/-- Without a leading nought. -/
def CanB (B : Int) (l : List Int) : Prop := DigB B l ∧ l.getLast? ≠ some 0
theorem CanB.tail {B d : Int} {l : List Int} (h : CanB B (d :: l)) : CanB B l := by
  refine ⟨h.1.cons.2, fun e => h.2 ?_⟩
  cases l with
  | nil => simp at e
  | cons x l => rw [List.getLast?_cons_cons]; exact e
theorem valB_pos {B : Int} (hB : 1 < B) : ∀ (l : List Int), CanB B l → l ≠ [] → 0 < valB B l
  | [], _, h => absurd rfl h
  | d :: l, h, _ => by
    have h1 := h.1.cons.1
    cases l with
    | nil =>
      have : d ≠ 0 := fun e => h.2 (by simp [e])
      simp only [valB]; omega
    | cons x l =>
      have h2 := valB_pos hB (x :: l) h.tail (by simp)
      have h3 : B * 1 ≤ B * valB B (x :: l) := Int.mul_le_mul_of_nonneg_left (by omega) (by omega)
      simp only [valB] at h2 h3 ⊢; omega
theorem digit_eq {B d e x y : Int} (hd : 0 ≤ d ∧ d < B) (he : 0 ≤ e ∧ e < B) (h : d + B * x = e + B * y) : d = e ∧ x = y := by
  have h1 : x = y := by
    rcases Int.lt_trichotomy x y with h2 | h2 | h2
    · have : B * (x + 1) ≤ B * y := Int.mul_le_mul_of_nonneg_left (by omega) (by omega)
      rw [Int.mul_add, Int.mul_one] at this; omega
    · exact h2
    · have : B * (y + 1) ≤ B * x := Int.mul_le_mul_of_nonneg_left (by omega) (by omega)
      rw [Int.mul_add, Int.mul_one] at this; omega
  subst h1
  exact ⟨by omega, rfl⟩
/-- The digits of a number are given by it. -/
theorem can_eq {B : Int} (hB : 1 < B) : ∀ (l m : List Int), CanB B l → CanB B m → valB B l = valB B m → l = m
  | [], [], _, _, _ => rfl
  | [], e :: m, _, h2, h => by
    have := valB_pos hB (e :: m) h2 (by simp)
    rw [← h] at this; simp [valB] at this
  | d :: l, [], h1, _, h => by
    have := valB_pos hB (d :: l) h1 (by simp)
    rw [h] at this; simp [valB] at this
  | d :: l, e :: m, h1, h2, h => by
    obtain ⟨rfl, h3⟩ := digit_eq h1.1.cons.1 h2.1.cons.1 h
    rw [can_eq hB l m h1.tail h2.tail h3]
/-! ### Decimal texts -/
def digT (c : Int) : Bool := decide (48 ≤ c) && decide (c ≤ 57)
/-- The digits of a text, the least one first. -/
def digsT (s : ByteArray) : List Int := ((bytesOf s).map (· - 48)).reverse
def numT (s : ByteArray) : Int := valB 10 (digsT s)
/-- A text is a canonical number. -/
def CanT (s : ByteArray) : Prop := s.size ≠ 0 ∧ (bytesOf s).all digT = true ∧ ((bytesOf s).head? = some 48 → s.size = 1)
theorem bytesOf_inj {a b : ByteArray} (h : bytesOf a = bytesOf b) : a = b := by
  unfold bytesOf at h
  have h1 : a.data.toList = b.data.toList := by
    have : Function.Injective fun b : UInt8 => (b.toNat : Int) := fun x y h => by
      have : x.toNat = y.toNat := by have h' : (x.toNat : Int) = (y.toNat : Int) := h; omega
      exact UInt8.toNat_inj.1 this
    exact List.map_inj_right (fun x y h => this h) |>.1 h
  cases a; cases b
  congr 1
  exact Array.toList_inj.1 h1
theorem digsT_dig {s : ByteArray} (h : (bytesOf s).all digT = true) : DigB 10 (digsT s) := by
  intro d hd
  unfold digsT at hd
  rw [List.mem_reverse, List.mem_map] at hd
  obtain ⟨c, hc, rfl⟩ := hd
  have := List.all_eq_true.1 h c hc
  simp only [digT, Bool.and_eq_true, decide_eq_true_eq] at this
  omega
theorem digsT_len (s : ByteArray) : (digsT s).length = s.size := by
  unfold digsT
  rw [List.length_reverse, List.length_map, bytesOf_length]
theorem digsT_inj {a b : ByteArray} (h : digsT a = digsT b) : a = b := by
  unfold digsT at h
  have h1 := List.reverse_inj.1 h
  exact bytesOf_inj (List.map_inj_right (fun x y h => by omega) |>.1 h1)
theorem canT_nought {s : ByteArray} (h : CanT s) (h0 : (bytesOf s).head? = some 48) : digsT s = [0] := by
  have h1 := h.2.2 h0
  have hl := bytesOf_length s
  rw [h1] at hl
  match hb : bytesOf s, hl with
  | [c], _ => rw [hb] at h0; simp at h0; subst h0; simp [digsT, hb]
theorem canT_can {s : ByteArray} (h : CanT s) (h0 : (bytesOf s).head? ≠ some 48) : CanB 10 (digsT s) := by
  refine ⟨digsT_dig h.2.1, fun e => h0 ?_⟩
  unfold digsT at e
  rw [List.getLast?_reverse, List.head?_map] at e
  cases hb : (bytesOf s).head? with
  | none => rw [hb] at e; cases e
  | some c => rw [hb] at e; simp at e; congr 1; omega
/-- A number has one canonical text. -/
theorem numT_inj {a b : ByteArray} (ha : CanT a) (hb : CanT b) (h : numT a = numT b) : a = b := by
  have pos : ∀ s : ByteArray, CanT s → (bytesOf s).head? ≠ some 48 → 0 < numT s := fun s hs h0 => valB_pos (by omega) _ (canT_can hs h0) (fun e => by
    have := digsT_len s
    rw [e] at this
    exact hs.1 this.symm)
  by_cases h1 : (bytesOf a).head? = some 48 <;> by_cases h2 : (bytesOf b).head? = some 48
  · exact digsT_inj (by rw [canT_nought ha h1, canT_nought hb h2])
  · have := pos b hb h2
    unfold numT at h this
    rw [canT_nought ha h1] at h
    simp [valB] at h; omega
  · have := pos a ha h1
    unfold numT at h this
    rw [canT_nought hb h2] at h
    simp [valB] at h; omega
  · exact digsT_inj (can_eq (by omega) _ _ (canT_can ha h1) (canT_can hb h2) h)
/-! ### Parts of texts -/
theorem bytesOf_extract (a : ByteArray) (i j : Nat) : bytesOf (a.extract i j) = ((bytesOf a).drop i).take (j - i) := by
  unfold bytesOf
  rw [ByteArray.data_extract, Array.toList_extract]
  simp [List.extract, List.map_drop, List.map_take]
theorem bytesOf_append (a b : ByteArray) : bytesOf (a ++ b) = bytesOf a ++ bytesOf b := by
  unfold bytesOf
  rw [ByteArray.data_append, Array.toList_append, List.map_append]
theorem bytesOf_str (xs : List Int) (h : ∀ x ∈ xs, 0 ≤ x ∧ x ≤ 255) : bytesOf (strOfNums xs) = xs := by
  unfold bytesOf
  rw [strOfNums_data, List.map_map]
  conv => rhs; rw [← List.map_id xs]
  apply List.map_congr_left
  intro x hx
  have := h x hx
  show ((UInt8.ofNat x.toNat).toNat : Int) = x
  rw [UInt8.toNat_ofNat']
  omega
theorem ssl_tail {s : ByteArray} {c : Int} {l : List Int} (h : bytesOf s = c :: l) : ∃ t, ssl s 1 (s.size : Int) = some t ∧ bytesOf t = l ∧ t.size = l.length := by
  have hn := bytesOf_length s
  rw [h] at hn
  simp at hn
  refine ⟨s.extract 1 s.size, ?_, ?_, ?_⟩
  · unfold ssl
    rw [if_pos (by omega)]
    simp
  · rw [bytesOf_extract, h]
    simp
    exact List.take_of_length_le (by omega)
  · rw [← bytesOf_length, bytesOf_extract, h]
    simp
    omega
theorem numT_cons {s t : ByteArray} {c : Int} (h : bytesOf s = c :: bytesOf t) : numT s = numT t + 10 ^ t.size * (c - 48) := by
  unfold numT digsT
  rw [h, List.map_cons, List.reverse_cons, valB_app]
  simp [valB, bytesOf_length]
end Go.Am
/- Graphs: connected parts, their numbers, closure of a matrix, ways. Plain, no program. -/
namespace Go.Am
open Go
set_option linter.unusedVariables false
set_option linter.unusedSimpArgs false
def Edg (l : List (Int × Int)) (U : Nat → Bool) (a b : Nat) : Prop := ∃ k, k < l.length ∧ U k = true ∧ (l.getD k (0, 0) = ((a : Int), (b : Int)) ∨ l.getD k (0, 0) = ((b : Int), (a : Int)))
inductive Con (l : List (Int × Int)) (U : Nat → Bool) : Nat → Nat → Prop
  | refl (a : Nat) : Con l U a a
  | tail {a b c : Nat} : Con l U a b → Edg l U b c → Con l U a c
structure Outer (l : List (Int × Int)) (U : Nat → Bool) (n : Nat) (cs : List Int) (m s : Nat) : Prop where
  len : cs.length = n
  rng : ∀ i < n, -1 ≤ cs.getD i 0 ∧ cs.getD i 0 < m
  done : ∀ i < s, i < n → 0 ≤ cs.getD i 0
  cls : ∀ i j, i < n → j < n → 0 ≤ cs.getD i 0 → (cs.getD i 0 = cs.getD j 0 ↔ Con l U i j)
  last : 0 < m → ∃ j < s, j < n ∧ cs.getD j 0 = (m : Int) - 1
  rgs : ∀ i < n, 0 < cs.getD i 0 → ∃ j < i, cs.getD j 0 = cs.getD i 0 - 1
  few : m ≤ s
structure Mid (l : List (Int × Int)) (U : Nat → Bool) (n : Nat) (base : List Int) (m s : Nat) (cs : List Int) : Prop where
  len : cs.length = n
  own : ∀ i < n, (cs.getD i 0 = m ∧ base.getD i 0 = -1 ∧ Con l U s i) ∨ cs.getD i 0 = base.getD i 0
  start : cs.getD s 0 = m
theorem getD_set {cs : List Int} {i j : Nat} {v : Int} (hi : i < cs.length) : (cs.set i v).getD j 0 = if j = i then v else cs.getD j 0 := by
  rw [List.getD_eq_getElem?_getD, List.getElem?_set]
  by_cases h : i = j
  · subst h; simp [hi]
  · rw [if_neg h, if_neg (fun e => h e.symm), List.getD_eq_getElem?_getD]
theorem Edg.symm {l : List (Int × Int)} {U : Nat → Bool} {a b : Nat} (h : Edg l U a b) : Edg l U b a := by
  obtain ⟨k, h1, h2, h3⟩ := h
  exact ⟨k, h1, h2, h3.symm⟩
theorem Con.trans {l : List (Int × Int)} {U : Nat → Bool} {a b c : Nat} (h : Con l U a b) (k : Con l U b c) : Con l U a c := by
  induction k with
  | refl => exact h
  | tail _ e ih => exact .tail ih e
theorem Con.symm {l : List (Int × Int)} {U : Nat → Bool} {a b : Nat} (h : Con l U a b) : Con l U b a := by
  induction h with
  | refl => exact .refl _
  | tail _ e ih => exact (Con.tail (.refl _) e.symm).trans ih
structure EqvOn (M : Nat → Nat → Bool) (n : Nat) : Prop where
  refl : ∀ a < n, M a a = true
  symm : ∀ a b, a < n → b < n → M a b = true → M b a = true
  trans : ∀ a b c, a < n → b < n → c < n → M a b = true → M b c = true → M a c = true
structure NumOk (M : Nat → Nat → Bool) (cs : List Int) (m i : Nat) : Prop where
  len : cs.length = i
  rng : ∀ a < i, 0 ≤ cs.getD a 0 ∧ cs.getD a 0 < m
  cls : ∀ a b, a < i → b < i → (cs.getD a 0 = cs.getD b 0 ↔ M a b = true)
  last : 0 < m → ∃ a < i, cs.getD a 0 = (m : Int) - 1
  rgs : ∀ a < i, 0 < cs.getD a 0 → ∃ b < a, cs.getD b 0 = cs.getD a 0 - 1
  few : m ≤ i
structure WOk (l : List (Int × Int)) (U : Nat → Bool) (n : Nat) (M : Nat → Nat → Bool) (m : Nat) : Prop where
  sound : ∀ a b, a < n → b < n → M a b = true → Con l U a b
  refl : ∀ a < n, M a a = true
  edge : ∀ a b, a < n → b < n → Edg l U a b → M a b = true
  tr : ∀ c < m, ∀ a b, a < n → b < n → M a c = true → M c b = true → M a b = true
/-- There is a walk of exactly k used lines from v to 'to'. -/
def Wk (l : List (Int × Int)) (U : Nat → Bool) (to : Nat) : Nat → Nat → Prop
  | 0, v => v = to
  | k + 1, v => ∃ w, Edg l U v w ∧ Wk l U to k w
structure FarOk (l : List (Int × Int)) (U : Nat → Bool) (n to : Nat) (fs : List Int) (d : Nat) : Prop where
  len : fs.length = n
  rng : ∀ v < n, -1 ≤ fs.getD v 0
  fnd : ∀ v < n, ∀ k : Nat, fs.getD v 0 = k → k ≤ d ∧ Wk l U to k v ∧ ∀ j < k, ¬ Wk l U to j v
  nof : ∀ v < n, fs.getD v 0 = -1 → ∀ j ≤ d, ¬ Wk l U to j v
/-- In the midst of a round: 'fs' the distances at its start, 'gs' now. -/
structure Rnd (l : List (Int × Int)) (U : Nat → Bool) (n to : Nat) (fs gs : List Int) (d : Nat) : Prop where
  len : gs.length = n
  old : ∀ v < n, gs.getD v 0 = fs.getD v 0 ∨ (fs.getD v 0 = -1 ∧ gs.getD v 0 = (d : Int) + 1 ∧ Wk l U to (d + 1) v)
def neg (n : Nat) (fs : List Int) : Nat := ((List.range n).filter fun v => fs.getD v 0 == -1).length
/-! ### Loops -/
theorem loop_inv {S R : Type} (n : Nat) (l : Nat → S → Int → Option R) (I : S → Nat → Prop) (Q : R → Prop)
    (h : ∀ k s (i : Nat), i < n → I s i → (∃ r, l (k + 1) s (i : Int) = some r ∧ Q r) ∨ ∃ s', I s' (i + 1) ∧ l (k + 1) s (i : Int) = l k s' ((i + 1 : Nat) : Int))
    (h0 : ∀ k s (i : Nat), i = n → I s i → ∃ r, l (k + 1) s (i : Int) = some r ∧ Q r) : ∀ k s, n < k → I s 0 → ∃ r, l k s 0 = some r ∧ Q r := by
  have key : ∀ d k s (i : Nat), n - i = d → i ≤ n → d < k → I s i → ∃ r, l k s (i : Int) = some r ∧ Q r := by
    intro d
    induction d with
    | zero =>
      intro k s i hd hi hk hI
      obtain ⟨k, rfl⟩ : ∃ m, k = m + 1 := ⟨k - 1, by omega⟩
      exact h0 k s i (by omega) hI
    | succ d ih =>
      intro k s i hd hi hk hI
      obtain ⟨k, rfl⟩ : ∃ m, k = m + 1 := ⟨k - 1, by omega⟩
      rcases h k s i (by omega) hI with h1 | ⟨s', h1, h2⟩
      · exact h1
      · rw [h2]; exact ih k s' (i + 1) (by omega) (by omega) (by omega) h1
  intro k s hk hI
  exact key n k s 0 (by omega) (Nat.zero_le _) hk hI
theorem loop_wf {S R : Type} (l : Nat → S → Option R) (I : S → Prop) (mu : S → Nat) (Q : R → Prop)
    (h : ∀ k s, I s → (∃ r, l (k + 1) s = some r ∧ Q r) ∨ ∃ s', I s' ∧ mu s' < mu s ∧ l (k + 1) s = l k s') : ∀ k s, mu s < k → I s → ∃ r, l k s = some r ∧ Q r := by
  intro k
  induction k with
  | zero => intro s h1; omega
  | succ k ih =>
    intro s h1 hI
    rcases h k s hI with h2 | ⟨s', h2, h3, h4⟩
    · exact h2
    · rw [h4]; exact ih s' (by omega) h2
/-! ### Lines as rows of two numbers -/
def two (p : Int × Int) : List Int := [p.1, p.2]
theorem idx_getD {cs : List Int} {a : Nat} (h : a < cs.length) : idx cs (a : Int) = some (cs.getD a 0) := by
  apply idx_nat
  simp [h, List.getD_eq_getElem?_getD]
/-! ### Ways, once more -/
end Go.Am
/- Plain lemmas: rules for typed functions over whole numbers; digits set in place; the guess of a digit of a quotient. -/
namespace Go.Am
open Go
set_option linter.unusedSimpArgs false
set_option linter.unusedVariables false
/-! ### Rules -/
theorem bsome {α β : Type} (a : α) (f : α → Option β) : Option.bind (some a) f = f a := (rfl)
theorem tu0a {β : Type} (g : Option β) (u : Unit) : tu0 g u = g := (rfl)
theorem tu1a {α β : Type} (g : α → Option β) (a : α) : tu1 g a = g a := (rfl)
theorem tu2a {α1 α2 β : Type} (g : α1 → α2 → Option β) (p : α1 × α2) : tu2 g p = g p.1 p.2 := (rfl)
theorem tu3a {α1 α2 α3 β : Type} (g : α1 → α2 → α3 → Option β) (p : α1 × α2 × α3) : tu3 g p = g p.1 p.2.1 p.2.2 := (rfl)
theorem tu4a {α1 α2 α3 α4 β : Type} (g : α1 → α2 → α3 → α4 → Option β) (p : α1 × α2 × α3 × α4) : tu4 g p = g p.1 p.2.1 p.2.2.1 p.2.2.2 := (rfl)
theorem tu5a {α1 α2 α3 α4 α5 β : Type} (g : α1 → α2 → α3 → α4 → α5 → Option β) (p : α1 × α2 × α3 × α4 × α5) : tu5 g p = g p.1 p.2.1 p.2.2.1 p.2.2.2.1 p.2.2.2.2 := (rfl)
theorem lta {α β : Type} (x : α) (f : α → Option β) : lt x f = f x := (rfl)
theorem bindSl {α β γ : Type} (a : α) (f : α → Option γ) (g : β → Option γ) : bindS (some (.inl a)) f g = f a := (rfl)
theorem bindSr {α β γ : Type} (b : β) (f : α → Option γ) (g : β → Option γ) : bindS (some (.inr b)) f g = g b := (rfl)
theorem outSl {α β γ : Type} (a : α) (f : α → Option γ) (g : β → Option γ) : outS (.inl a) f g = f a := (rfl)
theorem outSr {α β γ : Type} (b : β) (f : α → Option γ) (g : β → Option γ) : outS (.inr b) f g = g b := (rfl)
theorem beq_iff {α : Type} [BEq α] [LawfulBEq α] {a b : α} : ((a == b) = true) = (a = b) := propext beq_iff_eq
theorem bne_iff {a b : Int} : ((a != b) = true) = (a ≠ b) := by simp
theorem k64 {a : Int} (h1 : -9223372036854775808 ≤ a) (h2 : a ≤ 9223372036854775807) : kwrap .i64 a = a := kw h1 h2
theorem ku64 {a : Int} (h1 : 0 ≤ a) (h2 : a ≤ 18446744073709551615) : kwrap .u64 a = a := kwrap_in (by simp [krange]; omega)
theorem ku32 {a : Int} (h1 : 0 ≤ a) (h2 : a ≤ 4294967295) : kwrap .u32 a = a := kwrap_in (by simp [krange]; omega)
theorem ku8 {a : Int} (h1 : 0 ≤ a) (h2 : a ≤ 255) : kwrap .u8 a = a := kwrap_in (by simp [krange]; omega)
theorem i64w {a : Int} (h1 : -9223372036854775808 ≤ a) (h2 : a ≤ 9223372036854775807) : IntKind.wrap .i64 a = a := by rw [← kwrap_eq]; exact k64 h1 h2
theorem u64w {a : Int} (h1 : 0 ≤ a) (h2 : a ≤ 18446744073709551615) : IntKind.wrap .u64 a = a := by rw [← kwrap_eq]; exact ku64 h1 h2
theorem u32w {a : Int} (h1 : 0 ≤ a) (h2 : a ≤ 4294967295) : IntKind.wrap .u32 a = a := by rw [← kwrap_eq]; exact ku32 h1 h2
theorem u8w {a : Int} (h1 : 0 ≤ a) (h2 : a ≤ 255) : IntKind.wrap .u8 a = a := by rw [← kwrap_eq]; exact ku8 h1 h2
theorem idxI {xs : List Int} {j : Int} (h1 : 0 ≤ j) (h2 : j < (xs.length : Int)) : idx xs j = some (xs.getD j.toNat 0) := by
  unfold idx
  rw [if_neg (by omega), List.getD_eq_getElem?_getD, List.getElem?_eq_getElem (by omega)]
  rfl
theorem bidxI {s : ByteArray} {j : Int} (h1 : 0 ≤ j) (h2 : j < (s.size : Int)) : bidx s j = some ((bytesOf s).getD j.toNat 0) := by
  rw [bidx_eq]; exact idxI h1 (by rw [bytesOf_length]; exact h2)
theorem lslI {α : Type} {xs : List α} {l h : Int} (h1 : 0 ≤ l) (h2 : l ≤ h) (h3 : h ≤ (xs.length : Int)) : lsl xs l h = some ((xs.drop l.toNat).take (h.toNat - l.toNat)) := by unfold lsl; rw [if_pos ⟨h1, h2, h3⟩]
theorem sslI {s : ByteArray} {l h : Int} (h1 : 0 ≤ l) (h2 : l ≤ h) (h3 : h ≤ (s.size : Int)) : ssl s l h = some (s.extract l.toNat h.toNat) := by unfold ssl; rw [if_pos ⟨h1, h2, h3⟩]
theorem tdivI {a b : Int} (h : 0 ≤ a) : Int.tdiv a b = a / b := Int.tdiv_eq_ediv_of_nonneg h
theorem tmodI {a b : Int} (h : 0 ≤ a) : Int.tmod a b = a % b := Int.tmod_eq_emod_of_nonneg h
/-- A loop: it ends here with what is wanted, or one step keeps the invariant and comes nearer. -/
theorem loopW {S R : Type} (l : Nat → S → Option R) (I : S → Prop) (mu : S → Nat) (Q : R → Prop)
    (h : ∀ k s, I s → (∃ r, l (k + 1) s = some r ∧ Q r) ∨ ∃ s', l (k + 1) s = l k s' ∧ mu s' < mu s ∧ I s') {k : Nat} (s : S) (hk : mu s < k) (hI : I s) : ∃ r, l k s = some r ∧ Q r :=
  loop_wf l I mu Q (fun k s hs => (h k s hs).imp id fun ⟨s', a, b, c⟩ => ⟨s', c, b, a⟩) k s hk hI
/-! ### Digits set in place -/
theorem getD_dig {B : Int} (hB : 0 < B) {x : List Int} (h : DigB B x) (k : Nat) : 0 ≤ x.getD k 0 ∧ x.getD k 0 < B := by
  by_cases hk : k < x.length
  · rw [List.getD_eq_getElem?_getD, List.getElem?_eq_getElem hk]; exact h _ (List.getElem_mem hk)
  · rw [List.getD_eq_getElem?_getD, List.getElem?_eq_none (by omega)]; exact ⟨Int.le_refl _, hB⟩
theorem valB_set (B : Int) : ∀ (l : List Int) (p : Nat) (d : Int), p < l.length → valB B (l.set p d) = valB B l + B ^ p * (d - l.getD p 0)
  | [], p, d, h => by simp at h
  | x :: l, 0, d, _ => by simp [valB]; omega
  | x :: l, p + 1, d, h => by
    have := valB_set B l p d (by simpa using h)
    simp only [List.set_cons_succ, valB, this, List.getD_cons_succ, Int.pow_succ]
    grind
theorem DigB.set {B d : Int} {l : List Int} (h : DigB B l) (p : Nat) (hd : 0 ≤ d ∧ d < B) : DigB B (l.set p d) := fun x hx => by
  rcases List.mem_or_eq_of_mem_set hx with h1 | h1
  · exact h x h1
  · subst h1; exact hd
theorem DigB.take {B : Int} {l : List Int} (h : DigB B l) (k : Nat) : DigB B (l.take k) := fun x hx => h x (List.mem_of_mem_take hx)
theorem DigB.drop {B : Int} {l : List Int} (h : DigB B l) (k : Nat) : DigB B (l.drop k) := fun x hx => h x (List.mem_of_mem_drop hx)
theorem DigB.snoc {B d : Int} {l : List Int} (h : DigB B l) (hd : 0 ≤ d ∧ d < B) : DigB B (l ++ [d]) := h.app fun x hx => by simp at hx; omega
theorem valB_split (B : Int) (l : List Int) (k : Nat) (hk : k ≤ l.length) : valB B l = valB B (l.take k) + B ^ k * valB B (l.drop k) := by
  conv => lhs; rw [← List.take_append_drop k l]
  rw [valB_app, List.length_take, Nat.min_eq_left hk]
theorem valB_zeros (B : Int) (n : Nat) : valB B (List.replicate n 0) = 0 := by
  induction n with
  | zero => rfl
  | succ n ih => simp [List.replicate_succ, valB, ih]
theorem DigB.zeros {B : Int} (hB : 0 < B) (n : Nat) : DigB B (List.replicate n 0) := fun x hx => by
  rw [List.mem_replicate] at hx; omega
theorem valB_take (B : Int) (x : List Int) (k : Nat) : valB B (x.take (k + 1)) = valB B (x.take k) + B ^ k * x.getD k 0 := by
  by_cases h : k < x.length
  · have hx : x[k]? = some x[k] := List.getElem?_eq_getElem h
    rw [List.take_add_one, hx, valB_app, List.length_take, Nat.min_eq_left (by omega), List.getD_eq_getElem?_getD, hx]
    simp [valB]
  · rw [List.take_of_length_le (by omega), List.take_of_length_le (by omega), List.getD_eq_getElem?_getD, List.getElem?_eq_none (by omega)]
    simp
theorem valB_snoc (B : Int) (x : List Int) (d : Int) : valB B (x ++ [d]) = valB B x + B ^ x.length * d := by rw [valB_app]; simp [valB]
theorem last_split (l : List Int) (h : l ≠ []) : ∃ r d, l = r ++ [d] := by
  rcases List.eq_nil_or_concat l with rfl | ⟨r, d, rfl⟩
  · exact absurd rfl h
  · exact ⟨r, d, by simp⟩
theorem can_ge {B : Int} (hB : 1 < B) {l : List Int} (h : CanB B l) (h0 : l ≠ []) : B ^ (l.length - 1) ≤ valB B l := by
  obtain ⟨r, d, rfl⟩ := last_split l h0
  have hd : d ≠ 0 := fun e => h.2 (by simp [e])
  have hd2 := h.1 d (by simp)
  have hr := valB_nonneg (B := B) (by omega) r (fun x hx => h.1 x (by simp [hx]))
  have e : (r ++ [d]).length - 1 = r.length := by simp
  rw [valB_snoc, e]
  have h1 : B ^ r.length * 1 ≤ B ^ r.length * d := Int.mul_le_mul_of_nonneg_left (by omega) (Int.le_of_lt (Int.pow_pos (by omega)))
  omega
theorem ipow_le {B : Int} (hB : 0 < B) {i j : Nat} (h : i ≤ j) : B ^ i ≤ B ^ j := by
  obtain ⟨m, rfl⟩ : ∃ m, j = i + m := ⟨j - i, by omega⟩
  rw [Int.pow_add]
  have p1 : 0 < B ^ m := Int.pow_pos hB
  have p2 : 0 < B ^ i := Int.pow_pos hB
  have := Int.mul_le_mul_of_nonneg_left (show 1 ≤ B ^ m by omega) (Int.le_of_lt p2)
  omega
/-- Fewer digits, a smaller number. -/
theorem can_len {B : Int} (hB : 1 < B) {l m : List Int} (h : DigB B l) (hm : CanB B m) (hl : l.length < m.length) : valB B l < valB B m := by
  have h1 := valB_lt (B := B) (by omega) l h
  have h2 := can_ge hB hm (by intro e; subst e; simp at hl)
  have h3 : B ^ l.length ≤ B ^ (m.length - 1) := by
    obtain ⟨j, hj⟩ : ∃ j, m.length - 1 = l.length + j := ⟨m.length - 1 - l.length, by omega⟩
    rw [hj, Int.pow_add]
    have p1 : 0 < B ^ j := Int.pow_pos (by omega)
    have p2 : 0 < B ^ l.length := Int.pow_pos (by omega)
    have := Int.mul_le_mul_of_nonneg_left (show 1 ≤ B ^ j by omega) (Int.le_of_lt p2)
    omega
  omega
theorem mul_le {a b c : Int} (hc : 0 ≤ c) (h : a ≤ b) : c * a ≤ c * b := Int.mul_le_mul_of_nonneg_left h hc
theorem mul_nn {a b : Int} (ha : 0 ≤ a) (hb : 0 ≤ b) : 0 ≤ a * b := Int.mul_nonneg ha hb
/-! ### The guess of a digit of a quotient -/
/-- The leading digits of a divisor and of what is divided; q is the true digit. -/
structure Kn (B P v1 v2 vl top u3 ul q : Int) : Prop where
  B1 : 1 < B
  P0 : 0 < P
  v1p : 1 ≤ v1
  v2p : 0 ≤ v2
  v2b : v2 < B
  vlp : 0 ≤ vl
  vlb : vl < P
  tp : 0 ≤ top
  u3p : 0 ≤ u3
  u3b : u3 < B
  ulp : 0 ≤ ul
  ulb : ul < P
  q0 : 0 ≤ q
  qB : q < B
  lo : q * (P * (B * v1 + v2) + vl) ≤ P * (B * top + u3) + ul
  hi : P * (B * top + u3) + ul < (q + 1) * (P * (B * v1 + v2) + vl)
section
variable {B P v1 v2 vl top u3 ul q g r : Int}
theorem Kn.first (h : Kn B P v1 v2 vl top u3 ul q) : q ≤ top / v1 := by
  obtain ⟨B1, P0, v1p, v2p, v2b, vlp, vlb, tp, u3p, u3b, ulp, ulb, q0, qB, lo, hi⟩ := h
  rw [Int.le_ediv_iff_mul_le (by omega)]
  refine Int.le_of_lt_add_one (Int.not_le.1 fun hc => ?_)
  have a1 := mul_le (Int.le_of_lt (Int.mul_pos P0 (show 0 < B by omega))) hc
  have a2 := mul_nn (Int.le_of_lt P0) (mul_nn q0 v2p)
  have a3 := mul_nn q0 vlp
  have a4 := mul_le (Int.le_of_lt P0) (show u3 ≤ B - 1 by omega)
  grind
end
end Go.Am
/- Plain law: the program's numbers: digits in the base 10^9. -/
namespace Go.Am.Tryd
open Go Go.Am Go.Proofs
set_option linter.unusedSimpArgs false
set_option linter.unusedVariables false
variable {K : Nat}
/-- A list of digits is a number of the program's. -/
def NumN (n : Int) (l : List Int) : Prop := CanB 1000000000 l ∧ valB 1000000000 l = n
theorem NumN.inj {n : Int} {l m : List Int} (h : NumN n l) (k : NumN n m) : l = m := can_eq (B := 1000000000) (by omega) l m h.1 k.1 (h.2.trans k.2.symm)
theorem NumN.nil : NumN 0 [] := ⟨⟨DigB.nil _, by simp⟩, rfl⟩
theorem NumN.pos {n : Int} {l : List Int} (h : NumN n l) (h0 : l ≠ []) : 0 < n := by rw [← h.2]; exact valB_pos (by omega) l h.1 h0
theorem NumN.nil_iff {n : Int} {l : List Int} (h : NumN n l) : l = [] ↔ n = 0 := by
  constructor
  · rintro rfl; exact h.2.symm
  · intro e; by_cases h0 : l = []
    · exact h0
    · have := h.pos h0; omega
theorem NumN.one {n : Int} (h : 0 < n) (h2 : n < 1000000000) : NumN n [n] := ⟨⟨fun d hd => by simp at hd; omega, by simp; omega⟩, by simp [valB]⟩
theorem trim_loop {B : Int} : ∀ n k (l : List Int), l.length = n → n ≤ 8000000 → n < k → DigB B l → ∃ t, g_nat_N_trim_l0 K k l = some t ∧ CanB B t ∧ valB B t = valB B l ∧ t.length ≤ l.length := by
  intro n
  induction n with
  | zero =>
    intro k l hl _ hk hd
    obtain ⟨k, rfl⟩ : ∃ m, k = m + 1 := ⟨k - 1, by omega⟩
    have : l = [] := List.length_eq_zero_iff.1 hl
    subst this
    exact ⟨[], by rw [g_nat_N_trim_l0]; simp [tu1], ⟨hd, by simp⟩, rfl, Nat.le_refl _⟩
  | succ n ih =>
    intro k l hl hb hk hd
    obtain ⟨k, rfl⟩ : ∃ m, k = m + 1 := ⟨k - 1, by omega⟩
    obtain ⟨r, d, rfl⟩ : ∃ r d, l = r ++ [d] := last_split l (by intro e; subst e; simp at hl)
    have hr : r.length = n := by simpa using hl
    have e1 : kwrap .i64 (((r ++ [d]).length : Int) - 1) = (n : Int) := by rw [hl, kw (by omega) (by omega)]; omega
    have e2 : idx (r ++ [d]) (n : Int) = some d := idx_nat (by simp [← hr])
    have e3 : lsl (r ++ [d]) 0 (n : Int) = some r := by
      unfold lsl
      rw [if_pos (by rw [hl]; omega)]
      simp [← hr]
    have e4 : ((r ++ [d]).length : Int) > 0 := by rw [hl]; omega
    have dr : DigB B r := fun x hx => hd x (by simp [hx])
    rw [g_nat_N_trim_l0, e1, e2, e3, decide_eq_true e4]
    by_cases h0 : d = 0
    · obtain ⟨t, h1, h2, h3, h4⟩ := ih k r hr (by omega) (by omega) dr
      refine ⟨t, by simp [h0, tu1, h1], h2, ?_, by simp; omega⟩
      rw [h3, valB_app, h0]; simp [valB]
    · exact ⟨r ++ [d], by simp [h0, tu1], ⟨hd, by simpa using h0⟩, rfl, Nat.le_refl _⟩
theorem trim_ok {B : Int} {l : List Int} (hl : l.length ≤ 8000000) (hK : 2000000000 < K) (hd : DigB B l) : ∃ t, g_nat_N_trim K l = some t ∧ CanB B t ∧ valB B t = valB B l ∧ t.length ≤ l.length := by
  obtain ⟨t, h1, h2⟩ := trim_loop (K := K) l.length K l rfl hl (by omega) hd
  exact ⟨t, by unfold g_nat_N_trim; rw [h1]; rfl, h2⟩
theorem ncmp_loop {x y : List Int} (hl : x.length = y.length) (hx : x.length ≤ 4000000) (hK : 2000000000 < K) (dx : DigB 1000000000 x) (dy : DigB 1000000000 y) :
    ∃ r : Int ⊕ Unit, g_nat_N_Cmp_l0 K x y K ((x.length : Int) - 1) = some r ∧ r = (if valB 1000000000 x < valB 1000000000 y then .inl (-1) else if valB 1000000000 x = valB 1000000000 y then .inr () else .inl 1) := by
  have hdrop : ∀ (l : List Int) j, valB 1000000000 (l.drop j) = l.getD j 0 + 1000000000 * valB 1000000000 (l.drop (j + 1)) := fun l j => by
    by_cases h : j < l.length
    · rw [List.drop_eq_getElem_cons h, List.getD_eq_getElem?_getD, List.getElem?_eq_getElem h]; rfl
    · rw [List.drop_eq_nil_of_le (by omega), List.drop_eq_nil_of_le (by omega), List.getD_eq_getElem?_getD, List.getElem?_eq_none (by omega)]; rfl
  refine loopW (fun k (s : Int) => g_nat_N_Cmp_l0 K x y k s) (fun s => ∃ j : Nat, s = (j : Int) - 1 ∧ j ≤ x.length ∧ valB 1000000000 (x.drop j) = valB 1000000000 (y.drop j)) (fun s => (s + 1).toNat) _ ?_ ((x.length : Int) - 1) (by omega) ⟨x.length, rfl, Nat.le_refl _, by rw [List.drop_eq_nil_of_le (Nat.le_refl _), List.drop_eq_nil_of_le (by omega)]⟩
  rintro k _ ⟨j, rfl, hj, he⟩
  by_cases h0 : j = 0
  · subst h0
    left
    rw [List.drop_zero, List.drop_zero] at he
    rw [g_nat_N_Cmp_l0]
    refine ⟨.inr (), by simp (discharger := omega) only [decide_eq_true_eq, if_pos, if_neg, if_true, if_false, bsome, beq_iff, bne_iff, idxI, bidxI, sslI, lslI, k64, ku64, ku32, ku8, i64w, u64w, u32w, u8w, tdivI, tmodI, tu0a, tu1a, tu2a, tu3a, tu4a, tu5a, lta, bindSl, bindSr, outSl, outSr, Int.toNat_natCast, List.length_cons, List.length_nil, List.length_set, Int.toNat_zero, List.replicate_zero], ?_⟩
    rw [if_neg (by omega), if_pos he]
  · obtain ⟨i, rfl⟩ : ∃ i, j = i + 1 := ⟨j - 1, by omega⟩
    have e1 : ((i + 1 : Nat) : Int) - 1 = i := by omega
    rw [e1]
    have ex := getD_dig (by omega) dx i
    have ey := getD_dig (by omega) dy i
    have sx := valB_split 1000000000 x i (by omega)
    have sy := valB_split 1000000000 y i (by omega)
    have ax := hdrop x i
    have ay := hdrop y i
    have bx := valB_lt (B := 1000000000) (by omega) _ (dx.take i)
    have by' := valB_lt (B := 1000000000) (by omega) _ (dy.take i)
    have cx := valB_nonneg (B := 1000000000) (by omega) _ (dx.take i)
    have cy := valB_nonneg (B := 1000000000) (by omega) _ (dy.take i)
    rw [List.length_take, Nat.min_eq_left (by omega)] at bx by'
    have p0 : 0 < (1000000000 : Int) ^ i := Int.pow_pos (by omega)
    rw [ax, he] at sx
    rw [ay] at sy
    by_cases h1 : x.getD i 0 < y.getD i 0
    · left
      refine ⟨.inl (-1), by rw [g_nat_N_Cmp_l0]; simp (discharger := omega) only [decide_eq_true_eq, if_pos, if_neg, if_true, if_false, bsome, beq_iff, bne_iff, idxI, bidxI, sslI, lslI, k64, ku64, ku32, ku8, i64w, u64w, u32w, u8w, tdivI, tmodI, tu0a, tu1a, tu2a, tu3a, tu4a, tu5a, lta, bindSl, bindSr, outSl, outSr, Int.toNat_natCast, List.length_cons, List.length_nil, List.length_set, Int.toNat_zero, List.replicate_zero], ?_⟩
      have := mul_le (Int.le_of_lt p0) (show x.getD i 0 + 1 ≤ y.getD i 0 by omega)
      rw [if_pos (by grind)]
    · by_cases h2 : x.getD i 0 > y.getD i 0
      · left
        refine ⟨.inl 1, by rw [g_nat_N_Cmp_l0]; simp (discharger := omega) only [decide_eq_true_eq, if_pos, if_neg, if_true, if_false, bsome, beq_iff, bne_iff, idxI, bidxI, sslI, lslI, k64, ku64, ku32, ku8, i64w, u64w, u32w, u8w, tdivI, tmodI, tu0a, tu1a, tu2a, tu3a, tu4a, tu5a, lta, bindSl, bindSr, outSl, outSr, Int.toNat_natCast, List.length_cons, List.length_nil, List.length_set, Int.toNat_zero, List.replicate_zero], ?_⟩
        have := mul_le (Int.le_of_lt p0) (show y.getD i 0 + 1 ≤ x.getD i 0 by omega)
        rw [if_neg (by grind), if_neg (by grind)]
      · right
        refine ⟨(i : Int) - 1, by rw [g_nat_N_Cmp_l0]; simp (discharger := omega) only [decide_eq_true_eq, if_pos, if_neg, if_true, if_false, bsome, beq_iff, bne_iff, idxI, bidxI, sslI, lslI, k64, ku64, ku32, ku8, i64w, u64w, u32w, u8w, tdivI, tmodI, tu0a, tu1a, tu2a, tu3a, tu4a, tu5a, lta, bindSl, bindSr, outSl, outSr, Int.toNat_natCast, List.length_cons, List.length_nil, List.length_set, Int.toNat_zero, List.replicate_zero], by omega, i, rfl, by omega, ?_⟩
        rw [ax, ay, he]
        omega
theorem ncmp_ok {x y : List Int} {a b : Int} (hx : x.length ≤ 4000000) (hy : y.length ≤ 4000000) (hK : 2000000000 < K) (nx : NumN a x) (ny : NumN b y) : g_nat_N_Cmp K x y = some (if a < b then -1 else if a = b then 0 else 1) := by
  unfold g_nat_N_Cmp
  by_cases h : x.length = y.length
  · obtain ⟨r, h1, h2⟩ := ncmp_loop (K := K) h hx hK nx.1.1 ny.1.1
    rw [nx.2, ny.2] at h2
    have e : ((x.length : Int) != (y.length : Int)) = false := by simp; omega
    rw [e]
    rw [k64 (by omega) (by omega), h1, h2]
    simp only [Bool.false_eq_true, if_false, bindS, Option.bind_some]
    by_cases c1 : a < b
    · simp [c1, tu1]
    · by_cases c2 : a = b
      · subst c2; simp [tu0]
      · simp [c1, c2, tu1]
  · have e : ((x.length : Int) != (y.length : Int)) = true := by simp; omega
    rw [e, if_pos rfl]
    by_cases h1 : x.length < y.length
    · have := can_len (B := 1000000000) (by omega) nx.1.1 ny.1 h1
      rw [nx.2, ny.2] at this
      simp (discharger := omega) only [decide_eq_true_eq, if_pos, if_neg, if_true, if_false, bsome, beq_iff, bne_iff, idxI, bidxI, sslI, lslI, k64, ku64, ku32, ku8, i64w, u64w, u32w, u8w, tdivI, tmodI, tu0a, tu1a, tu2a, tu3a, tu4a, tu5a, lta, bindSl, bindSr, outSl, outSr, Int.toNat_natCast, List.length_cons, List.length_nil, List.length_set, Int.toNat_zero, List.replicate_zero]
    · have := can_len (B := 1000000000) (by omega) ny.1.1 nx.1 (by omega)
      rw [nx.2, ny.2] at this
      simp (discharger := omega) only [decide_eq_true_eq, if_pos, if_neg, if_true, if_false, bsome, beq_iff, bne_iff, idxI, bidxI, sslI, lslI, k64, ku64, ku32, ku8, i64w, u64w, u32w, u8w, tdivI, tmodI, tu0a, tu1a, tu2a, tu3a, tu4a, tu5a, lta, bindSl, bindSr, outSl, outSr, Int.toNat_natCast, List.length_cons, List.length_nil, List.length_set, Int.toNat_zero, List.replicate_zero]
end Go.Am.Tryd
/- Plain law: products of the program's numbers; division by one digit. -/
namespace Go.Am.Tryd
open Go Go.Am Go.Proofs
set_option linter.unusedSimpArgs false
set_option linter.unusedVariables false
variable {K : Nat}
theorem dig_mul {a b : Int} (ha : 0 ≤ a ∧ a < 1000000000) (hb : 0 ≤ b ∧ b < 1000000000) : 0 ≤ a * b ∧ a * b ≤ 999999998000000001 := by
  refine ⟨Int.mul_nonneg ha.1 hb.1, ?_⟩
  have h1 := mul_le ha.1 (show b ≤ 999999999 by omega)
  omega
theorem nmul_in {y out : List Int} {u : Int} {i : Nat} (hl : i + y.length ≤ out.length) (ho : out.length ≤ 8000000) (hK : 2000000000 < K) (hu : 0 ≤ u ∧ u < 1000000000) (dy : DigB 1000000000 y) (d0 : DigB 1000000000 out) :
    ∃ r : List Int × Int, g_nat_N_Mul_l2 K y (i : Int) u K out 0 0 = some r ∧ r.1.length = out.length ∧ DigB 1000000000 r.1 ∧ (0 ≤ r.2 ∧ r.2 < 1000000000) ∧ (∀ j, i + y.length ≤ j → r.1.getD j 0 = out.getD j 0) ∧
      valB 1000000000 r.1 + 1000000000 ^ (i + y.length) * r.2 = valB 1000000000 out + 1000000000 ^ i * (u * valB 1000000000 y) := by
  refine loopW (fun k (s : List Int × Int × Int) => g_nat_N_Mul_l2 K y (i : Int) u k s.1 s.2.1 s.2.2) (fun s => ∃ q : Nat, s.2.2 = q ∧ q ≤ y.length ∧ s.1.length = out.length ∧ DigB 1000000000 s.1 ∧ (0 ≤ s.2.1 ∧ s.2.1 < 1000000000) ∧ (∀ j, i + q ≤ j → s.1.getD j 0 = out.getD j 0) ∧
      valB 1000000000 s.1 + 1000000000 ^ (i + q) * s.2.1 = valB 1000000000 out + 1000000000 ^ i * (u * valB 1000000000 (y.take q))) (fun s => (y.length - s.2.2 : Int).toNat) _ ?_ ((out, 0, 0) : List Int × Int × Int) (by simp; omega) ⟨0, rfl, by omega, rfl, d0, by simp, fun _ _ => rfl, by simp [valB]⟩
  rintro k ⟨o, c, _⟩ ⟨q, rfl, h0, h1, h2, h3, hz, h4⟩
  dsimp only at h1 h2 h3 h4 hz ⊢
  by_cases hq : q < y.length
  · right
    have ey := getD_dig (by omega) dy q
    have eo := getD_dig (by omega) h2 (i + q)
    have ty := valB_take 1000000000 y q
    have hm := dig_mul hu ey
    have hset := fun d => valB_set 1000000000 o (i + q) d (by omega)
    have hgs := fun d j => getD_set (cs := o) (i := i + q) (j := j) (v := d) (by omega)
    have e1 : ((i : Int) + (q : Int)) = ((i + q : Nat) : Int) := by omega
    generalize hw : u * y.getD q 0 = w at hm
    generalize ho : o.getD (i + q) 0 = z at eo hset
    have hdm := Int.emod_add_mul_ediv (w + z + c) 1000000000
    refine ⟨(o.set (i + q) ((w + z + c) % 1000000000), (w + z + c) / 1000000000, (q : Int) + 1), ?_, by dsimp only; omega, q + 1, rfl, by omega, by simp [h1], h2.set _ (by omega), by dsimp only; omega, fun j hj => by rw [hgs, if_neg (by omega)]; exact hz j (by omega), ?_⟩
    · rw [g_nat_N_Mul_l2]
      simp (discharger := omega) only [decide_eq_true_eq, if_pos, if_neg, if_true, if_false, bsome, beq_iff, bne_iff, idxI, bidxI, sslI, lslI, k64, ku64, ku32, ku8, i64w, u64w, u32w, u8w, tdivI, tmodI, tu0a, tu1a, tu2a, tu3a, tu4a, tu5a, lta, bindSl, bindSr, outSl, outSr, Int.toNat_natCast, List.length_cons, List.length_nil, List.length_set, Int.toNat_zero, List.replicate_zero, e1, hw, ho]
    · dsimp only
      rw [hset, ty]
      have e2 : (1000000000 : Int) ^ (i + (q + 1)) = 1000000000 ^ i * 1000000000 ^ q * 1000000000 := by rw [← Nat.add_assoc, Int.pow_succ, Int.pow_add]
      rw [e2]
      rw [Int.pow_add] at h4 ⊢
      subst hw
      generalize (u * y.getD q 0 + z + c) / 1000000000 = Q at *
      generalize (u * y.getD q 0 + z + c) % 1000000000 = R at *
      grind
  · left
    have : q = y.length := by omega
    subst this
    rw [List.take_of_length_le (Nat.le_refl _)] at h4
    exact ⟨(o, c), by rw [g_nat_N_Mul_l2]; simp (discharger := omega) only [decide_eq_true_eq, if_pos, if_neg, if_true, if_false, bsome, beq_iff, bne_iff, idxI, bidxI, sslI, lslI, k64, ku64, ku32, ku8, i64w, u64w, u32w, u8w, tdivI, tmodI, tu0a, tu1a, tu2a, tu3a, tu4a, tu5a, lta, bindSl, bindSr, outSl, outSr, Int.toNat_natCast, List.length_cons, List.length_nil, List.length_set, Int.toNat_zero, List.replicate_zero], h1, h2, h3, hz, h4⟩
theorem nmul_loop {x y : List Int} (hl : x.length + y.length ≤ 8000000) (hK : 2000000000 < K) (dx : DigB 1000000000 x) (dy : DigB 1000000000 y) :
    ∃ r : List Int, g_nat_N_Mul_l0 K x y K (List.replicate (x.length + y.length) 0) 0 = some r ∧ r.length = x.length + y.length ∧ DigB 1000000000 r ∧ valB 1000000000 r = valB 1000000000 x * valB 1000000000 y := by
  refine loopW (fun k (s : List Int × Int) => g_nat_N_Mul_l0 K x y k s.1 s.2) (fun s => ∃ i : Nat, s.2 = i ∧ i ≤ x.length ∧ s.1.length = x.length + y.length ∧ DigB 1000000000 s.1 ∧ (∀ j, i + y.length ≤ j → s.1.getD j 0 = 0) ∧ valB 1000000000 s.1 = valB 1000000000 (x.take i) * valB 1000000000 y) (fun s => (x.length - s.2 : Int).toNat) _ ?_ ((List.replicate (x.length + y.length) 0, 0) : List Int × Int) (by simp; omega) ⟨0, rfl, by omega, by simp, .zeros (by omega) _, fun j _ => by simp [List.getD_eq_getElem?_getD, List.getElem?_replicate]; split <;> rfl, by simp [valB, valB_zeros]⟩
  rintro k ⟨out, _⟩ ⟨i, rfl, h0, h1, h2, hz, h4⟩
  dsimp only at h1 h2 h4 hz ⊢
  by_cases hi : i < x.length
  · right
    have ex := getD_dig (by omega) dx i
    have tx := valB_take 1000000000 x i
    obtain ⟨⟨r, c⟩, r1, r2, r3, r4, r5, r6⟩ := nmul_in (K := K) (y := y) (out := out) (u := x.getD i 0) (i := i) (by omega) (by omega) hK ex dy h2
    dsimp only at r2 r3 r4 r5 r6
    have hz0 := r5 (i + y.length) (Nat.le_refl _)
    rw [hz _ (Nat.le_refl _)] at hz0
    have hset := valB_set 1000000000 r (i + y.length) c (by omega)
    have hgs := fun d j => getD_set (cs := r) (i := i + y.length) (j := j) (v := d) (by omega)
    have e1 : ((i : Int) + (y.length : Int)) = ((i + y.length : Nat) : Int) := by omega
    refine ⟨(r.set (i + y.length) c, (i : Int) + 1), ?_, by dsimp only; omega, i + 1, rfl, by omega, by simp [r2, h1], r3.set _ r4, fun j hj => by rw [hgs, if_neg (by omega), r5 j (by omega)]; exact hz j (by omega), ?_⟩
    · rw [g_nat_N_Mul_l0]
      simp (discharger := omega) only [decide_eq_true_eq, if_pos, if_neg, if_true, if_false, bsome, beq_iff, bne_iff, idxI, bidxI, sslI, lslI, k64, ku64, ku32, ku8, i64w, u64w, u32w, u8w, tdivI, tmodI, tu0a, tu1a, tu2a, tu3a, tu4a, tu5a, lta, bindSl, bindSr, outSl, outSr, Int.toNat_natCast, List.length_cons, List.length_nil, List.length_set, Int.toNat_zero, List.replicate_zero, r1, e1]
    · dsimp only
      rw [hset, hz0, tx]
      grind
  · left
    have : i = x.length := by omega
    subst this
    rw [List.take_of_length_le (Nat.le_refl _)] at h4
    exact ⟨out, by rw [g_nat_N_Mul_l0]; simp (discharger := omega) only [decide_eq_true_eq, if_pos, if_neg, if_true, if_false, bsome, beq_iff, bne_iff, idxI, bidxI, sslI, lslI, k64, ku64, ku32, ku8, i64w, u64w, u32w, u8w, tdivI, tmodI, tu0a, tu1a, tu2a, tu3a, tu4a, tu5a, lta, bindSl, bindSr, outSl, outSr, Int.toNat_natCast, List.length_cons, List.length_nil, List.length_set, Int.toNat_zero, List.replicate_zero], h1, h2, h4⟩
theorem nmul_ok {x y : List Int} {a b : Int} (hl : x.length + y.length ≤ 8000000) (hK : 2000000000 < K) (nx : NumN a x) (ny : NumN b y) : ∃ z, g_nat_N_Mul K x y = some z ∧ NumN (a * b) z ∧ z.length ≤ x.length + y.length := by
  obtain ⟨r, h1, h2, h3, h4⟩ := nmul_loop hl hK nx.1.1 ny.1.1
  rw [nx.2, ny.2] at h4
  obtain ⟨t, t1, t2, t3, t4⟩ := trim_ok (K := K) (B := 1000000000) (l := r) (by omega) hK h3
  refine ⟨t, ?_, ⟨t2, by rw [t3, h4]⟩, by omega⟩
  unfold g_nat_N_Mul
  have e1 : ((x.length : Int) + (y.length : Int)) = ((x.length + y.length : Nat) : Int) := by omega
  simp (discharger := omega) only [decide_eq_true_eq, if_pos, if_neg, if_true, if_false, bsome, beq_iff, bne_iff, idxI, bidxI, sslI, lslI, k64, ku64, ku32, ku8, i64w, u64w, u32w, u8w, tdivI, tmodI, tu0a, tu1a, tu2a, tu3a, tu4a, tu5a, lta, bindSl, bindSr, outSl, outSr, Int.toNat_natCast, List.length_cons, List.length_nil, List.length_set, Int.toNat_zero, List.replicate_zero, h1, t1, e1]
theorem drop_val (l : List Int) (j : Nat) : valB 1000000000 (l.drop j) = l.getD j 0 + 1000000000 * valB 1000000000 (l.drop (j + 1)) := by
  by_cases h : j < l.length
  · rw [List.drop_eq_getElem_cons h, List.getD_eq_getElem?_getD, List.getElem?_eq_getElem h]; rfl
  · rw [List.drop_eq_nil_of_le (by omega), List.drop_eq_nil_of_le (by omega), List.getD_eq_getElem?_getD, List.getElem?_eq_none (by omega)]; rfl
end Go.Am.Tryd
/- Plain law: texts and the program's numbers: Read and Text. -/
namespace Go.Am.Tryd
open Go Go.Am Go.Proofs
set_option linter.unusedSimpArgs false
set_option linter.unusedVariables false
variable {K : Nat}
/-- The number of decimal digits given as bytes. -/
def numB (l : List Int) : Int := valB 10 ((l.map (· - 48)).reverse)
theorem numT_B (s : ByteArray) : numT s = numB (bytesOf s) := rfl
theorem numB_nil : numB [] = 0 := rfl
theorem numB_snoc (l : List Int) (c : Int) : numB (l ++ [c]) = numB l * 10 + (c - 48) := by
  unfold numB
  simp [valB]
  omega
theorem numB_app (l m : List Int) : numB (l ++ m) = numB m + 10 ^ m.length * numB l := by
  unfold numB
  rw [List.map_append, List.reverse_append, valB_app]
  simp
theorem numB_cons (c : Int) (l : List Int) : numB (c :: l) = numB l + 10 ^ l.length * (c - 48) := by
  have := numB_app [c] l
  simpa [numB, valB] using this
theorem numB_dig {l : List Int} (h : l.all digT = true) : DigB 10 ((l.map (· - 48)).reverse) := by
  intro d hd
  rw [List.mem_reverse, List.mem_map] at hd
  obtain ⟨c, hc, rfl⟩ := hd
  have := List.all_eq_true.1 h c hc
  simp only [digT, Bool.and_eq_true, decide_eq_true_eq] at this
  omega
theorem numB_nonneg {l : List Int} (h : l.all digT = true) : 0 ≤ numB l := valB_nonneg (by omega) _ (numB_dig h)
theorem numB_lt {l : List Int} (h : l.all digT = true) : numB l < 10 ^ l.length := by
  have := valB_lt (B := 10) (by omega) _ (numB_dig h)
  simpa [numB] using this
theorem digT_iff {c : Int} : digT c = true ↔ 48 ≤ c ∧ c ≤ 57 := by simp [digT]
theorem all_take {l : List Int} (h : l.all digT = true) (k : Nat) : (l.take k).all digT = true := List.all_eq_true.2 fun x hx => List.all_eq_true.1 h x (List.mem_of_mem_take hx)
theorem all_drop {l : List Int} (h : l.all digT = true) (k : Nat) : (l.drop k).all digT = true := List.all_eq_true.2 fun x hx => List.all_eq_true.1 h x (List.mem_of_mem_drop hx)
theorem take_snoc {l : List Int} {i : Nat} (h : i < l.length) : l.take (i + 1) = l.take i ++ [l.getD i 0] := by
  rw [List.take_add_one, List.getElem?_eq_getElem h, List.getD_eq_getElem?_getD, List.getElem?_eq_getElem h]; rfl
theorem getD_digT {l : List Int} (h : l.all digT = true) {i : Nat} (hi : i < l.length) : 48 ≤ l.getD i 0 ∧ l.getD i 0 ≤ 57 := by
  rw [List.getD_eq_getElem?_getD, List.getElem?_eq_getElem hi]
  exact digT_iff.1 (List.all_eq_true.1 h _ (List.getElem_mem hi))
theorem read_part {t : ByteArray} (ht : t.size ≤ 9) (hK : 2000000000 < K) (hd : (bytesOf t).all digT = true) : g_nat_Read_l2 K t K 0 0 = some (numT t) := by
  suffices h : ∃ r, g_nat_Read_l2 K t K 0 0 = some r ∧ r = numT t by obtain ⟨r, h1, rfl⟩ := h; exact h1
  have hn := bytesOf_length t
  refine loopW (fun k (s : Int × Int) => g_nat_Read_l2 K t k s.1 s.2) (fun s => ∃ i : Nat, s.2 = i ∧ i ≤ t.size ∧ s.1 = numB ((bytesOf t).take i)) (fun s => (t.size - s.2 : Int).toNat) _ ?_ ((0, 0) : Int × Int) (by simp; omega) ⟨0, rfl, by omega, by simp [numB_nil]⟩
  rintro k ⟨_, _⟩ ⟨i, rfl, h0, rfl⟩
  dsimp only
  by_cases hi : i < t.size
  · right
    have b1 := numB_nonneg (all_take hd i)
    have b2 := numB_lt (all_take hd i)
    have b3 : (10 : Int) ^ (List.take i (bytesOf t)).length ≤ 10 ^ 8 := by
      rw [List.length_take, hn, Nat.min_eq_left (by omega)]
      exact ipow_le (by omega) (by omega)
    have hc := getD_digT hd (i := i) (by omega)
    have hs := take_snoc (l := bytesOf t) (i := i) (by omega)
    have b4 : (10 : Int) ^ 8 = 100000000 := by decide
    refine ⟨(numB ((bytesOf t).take (i + 1)), (i : Int) + 1), ?_, by dsimp only; omega, i + 1, rfl, by omega, rfl⟩
    rw [g_nat_Read_l2, hs, numB_snoc]
    generalize numB ((bytesOf t).take i) = d at *
    rw [hn]
    have hi' : (i : Int) < ((bytesOf t).length : Int) := by omega
    simp (discharger := omega) only [decide_eq_true_eq, if_pos, if_neg, if_true, if_false, bsome, beq_iff, bne_iff, idxI, bidxI, sslI, lslI, k64, ku64, ku32, ku8, i64w, u64w, u32w, u8w, tdivI, tmodI, tu0a, tu1a, tu2a, tu3a, tu4a, tu5a, lta, bindSl, bindSr, outSl, outSr, Int.toNat_natCast, List.length_cons, List.length_nil, List.length_set, Int.toNat_zero, List.replicate_zero]
  · left
    have : i = t.size := by omega
    subst this
    refine ⟨numB ((bytesOf t).take t.size), by rw [g_nat_Read_l2, hn]; simp (discharger := omega) only [decide_eq_true_eq, if_pos, if_neg, if_true, if_false, bsome, beq_iff, bne_iff, idxI, bidxI, sslI, lslI, k64, ku64, ku32, ku8, i64w, u64w, u32w, u8w, tdivI, tmodI, tu0a, tu1a, tu2a, tu3a, tu4a, tu5a, lta, bindSl, bindSr, outSl, outSr, Int.toNat_natCast, List.length_cons, List.length_nil, List.length_set, Int.toNat_zero, List.replicate_zero], ?_⟩
    rw [List.take_of_length_le (by omega)]
    rfl
theorem read_loop {s : ByteArray} (hs : s.size ≤ 8000000) (hK : 2000000000 < K) (hd : (bytesOf s).all digT = true) :
    ∃ r : List Int, g_nat_Read_l0 K s K [] (s.size : Int) = some r ∧ 9 * r.length < s.size + 9 ∧ DigB 1000000000 r ∧ valB 1000000000 r = numT s := by
  have hn := bytesOf_length s
  refine loopW (fun k (q : List Int × Int) => g_nat_Read_l0 K s k q.1 q.2) (fun q => q.2 = (s.size : Int) - 9 * q.1.length ∧ 9 * q.1.length < s.size + 9 ∧ DigB 1000000000 q.1 ∧ valB 1000000000 q.1 + 1000000000 ^ q.1.length * numB ((bytesOf s).take q.2.toNat) = numT s) (fun q => (q.2 + 9).toNat) _ ?_ (([], (s.size : Int)) : List Int × Int) (by dsimp only; omega) ⟨by simp, by simp, .nil _, by simp [valB]; rw [List.take_of_length_le (by omega)]; rfl⟩
  rintro k ⟨out, e⟩ ⟨h1, h2, h3, h4⟩
  dsimp only at h1 h2 h3 h4 ⊢
  by_cases he : e > 0
  · right
    obtain ⟨lo, hlo, hm⟩ : ∃ lo : Nat, imax 0 (kwrap .i64 (e - 9)) = lo ∧ ((lo : Int) = e - 9 ∨ ((lo = 0) ∧ e < 9)) := by
      rw [k64 (by omega) (by omega)]
      unfold imax
      by_cases h9 : e - 9 > 0
      · exact ⟨(e - 9).toNat, by rw [if_pos h9]; omega, .inl (by omega)⟩
      · exact ⟨0, by rw [if_neg h9]; rfl, by omega⟩
    have hb : bytesOf (s.extract lo e.toNat) = ((bytesOf s).drop lo).take (e.toNat - lo) := bytesOf_extract _ _ _
    have hsz : (s.extract lo e.toNat).size = e.toNat - lo := by rw [← bytesOf_length, hb, List.length_take, List.length_drop]; omega
    have hdp : (bytesOf (s.extract lo e.toNat)).all digT = true := by rw [hb]; exact all_take (all_drop hd _) _
    have hp := read_part (K := K) (t := s.extract lo e.toNat) (by omega) hK hdp
    have hv0 := numB_nonneg hdp
    have hv1 := numB_lt hdp
    have hsplit : (bytesOf s).take e.toNat = (bytesOf s).take lo ++ bytesOf (s.extract lo e.toNat) := by
      rw [hb, show e.toNat = lo + (e.toNat - lo) by omega, List.take_add]; simp
    have hlen : (bytesOf (s.extract lo e.toNat)).length = e.toNat - lo := by rw [bytesOf_length]; exact hsz
    have hBv : numB (bytesOf (s.extract lo e.toNat)) < 1000000000 := by
      have : (10 : Int) ^ (bytesOf (s.extract lo e.toNat)).length ≤ 10 ^ 9 := ipow_le (by omega) (by omega)
      have e9 : (10 : Int) ^ 9 = 1000000000 := by decide
      omega
    refine ⟨(out ++ [numT (s.extract lo e.toNat)], e - 9), ?_, by dsimp only; omega, by simp; omega, by simp; omega, h3.snoc ⟨hv0, hBv⟩, ?_⟩
    · rw [g_nat_Read_l0, hlo]
      simp (discharger := omega) only [decide_eq_true_eq, if_pos, if_neg, if_true, if_false, bsome, beq_iff, bne_iff, idxI, bidxI, sslI, lslI, k64, ku64, ku32, ku8, i64w, u64w, u32w, u8w, tdivI, tmodI, tu0a, tu1a, tu2a, tu3a, tu4a, tu5a, lta, bindSl, bindSr, outSl, outSr, Int.toNat_natCast, List.length_cons, List.length_nil, List.length_set, Int.toNat_zero, List.replicate_zero, hp]
    · dsimp only
      rw [valB_snoc, List.length_append, List.length_singleton, Int.pow_succ, numT_B]
      rw [hsplit, numB_app, hlen] at h4
      rcases hm with hm | ⟨hm, h9⟩
      · have e9 : e.toNat - lo = 9 := by omega
        have e10 : (10 : Int) ^ 9 = 1000000000 := by decide
        have el : (e - 9).toNat = lo := by omega
        rw [e9, e10] at h4
        rw [el]
        grind
      · subst hm
        have el : (e - 9).toNat = 0 := by omega
        rw [el, List.take_zero, numB_nil] at *
        grind
  · left
    have el : e.toNat = 0 := by omega
    rw [el, List.take_zero, numB_nil] at h4
    exact ⟨out, by rw [g_nat_Read_l0]; simp (discharger := omega) only [decide_eq_true_eq, if_pos, if_neg, if_true, if_false, bsome, beq_iff, bne_iff, idxI, bidxI, sslI, lslI, k64, ku64, ku32, ku8, i64w, u64w, u32w, u8w, tdivI, tmodI, tu0a, tu1a, tu2a, tu3a, tu4a, tu5a, lta, bindSl, bindSr, outSl, outSr, Int.toNat_natCast, List.length_cons, List.length_nil, List.length_set, Int.toNat_zero, List.replicate_zero], h2, h3, by omega⟩
theorem read_ok {s : ByteArray} (hs : s.size ≤ 8000000) (hK : 2000000000 < K) (hd : (bytesOf s).all digT = true) : ∃ z, g_nat_Read K s = some z ∧ NumN (numT s) z ∧ 9 * z.length < s.size + 9 := by
  obtain ⟨r, h1, h2, h3, h4⟩ := read_loop hs hK hd
  obtain ⟨t, t1, t2, t3, t4⟩ := trim_ok (K := K) (B := 1000000000) (l := r) (by omega) hK h3
  exact ⟨t, by unfold g_nat_Read; simp (discharger := omega) only [decide_eq_true_eq, if_pos, if_neg, if_true, if_false, bsome, beq_iff, bne_iff, idxI, bidxI, sslI, lslI, k64, ku64, ku32, ku8, i64w, u64w, u32w, u8w, tdivI, tmodI, tu0a, tu1a, tu2a, tu3a, tu4a, tu5a, lta, bindSl, bindSr, outSl, outSr, Int.toNat_natCast, List.length_cons, List.length_nil, List.length_set, Int.toNat_zero, List.replicate_zero, h1, t1], ⟨t2, by rw [t3, h4]⟩, by omega⟩
theorem text_part {d : Int} (hd : 0 ≤ d ∧ d < 1000000000) (hK : 2000000000 < K) : ∃ p, g_nat_N_Text_l2 K K (List.replicate 9 0) d 8 = some p ∧ p.length = 9 ∧ p.all digT = true ∧ numB p = d := by
  refine loopW (fun k (s : List Int × Int × Int) => g_nat_N_Text_l2 K k s.1 s.2.1 s.2.2) (fun s => ∃ j : Nat, s.2.2 = (j : Int) - 1 ∧ j ≤ 9 ∧ s.1.length = 9 ∧ (s.1.drop j).all digT = true ∧ (0 ≤ s.2.1 ∧ s.2.1 ≤ d) ∧ d = s.2.1 * 10 ^ (9 - j) + numB (s.1.drop j)) (fun s => (s.2.2 + 1).toNat) _ ?_ ((List.replicate 9 0, d, 8) : List Int × Int × Int) (by simp; omega) ⟨9, rfl, by omega, by simp, by simp, by dsimp only; omega, by simp [numB_nil]⟩
  rintro k ⟨p, c, _⟩ ⟨j, rfl, hj, h1, h2, h3, h4⟩
  dsimp only at h1 h2 h3 h4 ⊢
  by_cases h0 : j = 0
  · subst h0
    left
    rw [List.drop_zero] at h2 h4
    have e9 : (10 : Int) ^ (9 - 0) = 1000000000 := by decide
    have := numB_nonneg h2
    rw [e9] at h4
    exact ⟨p, by rw [g_nat_N_Text_l2]; simp (discharger := omega) only [decide_eq_true_eq, if_pos, if_neg, if_true, if_false, bsome, beq_iff, bne_iff, idxI, bidxI, sslI, lslI, k64, ku64, ku32, ku8, i64w, u64w, u32w, u8w, tdivI, tmodI, tu0a, tu1a, tu2a, tu3a, tu4a, tu5a, lta, bindSl, bindSr, outSl, outSr, Int.toNat_natCast, List.length_cons, List.length_nil, List.length_set, Int.toNat_zero, List.replicate_zero], h1, h2, by omega⟩
  · right
    obtain ⟨i, rfl⟩ : ∃ i, j = i + 1 := ⟨j - 1, by omega⟩
    have e1 : ((i + 1 : Nat) : Int) - 1 = i := by omega
    rw [e1]
    have hx : (p.set i (48 + c % 10)).drop i = (48 + c % 10) :: p.drop (i + 1) := by
      rw [List.drop_eq_getElem_cons (by simp; omega), List.drop_set_of_lt (by omega)]
      simp
    have e2 : (10 : Int) ^ (9 - i) = 10 ^ (9 - (i + 1)) * 10 := by rw [← Int.pow_succ]; congr 1; omega
    have e3 : (p.drop (i + 1)).length = 9 - (i + 1) := by rw [List.length_drop, h1]
    have hdm := Int.emod_add_mul_ediv c 10
    refine ⟨(p.set i (48 + c % 10), c / 10, (i : Int) - 1), ?_, by dsimp only; omega, i, rfl, by omega, by simp [h1], ?_, by dsimp only; omega, ?_⟩
    · rw [g_nat_N_Text_l2]
      simp (discharger := omega) only [decide_eq_true_eq, if_pos, if_neg, if_true, if_false, bsome, beq_iff, bne_iff, idxI, bidxI, sslI, lslI, k64, ku64, ku32, ku8, i64w, u64w, u32w, u8w, tdivI, tmodI, tu0a, tu1a, tu2a, tu3a, tu4a, tu5a, lta, bindSl, bindSr, outSl, outSr, Int.toNat_natCast, List.length_cons, List.length_nil, List.length_set, Int.toNat_zero, List.replicate_zero]
    · dsimp only
      rw [hx, List.all_cons, h2, Bool.and_true]
      exact digT_iff.2 (by omega)
    · dsimp only
      rw [hx, numB_cons, e2, e3]
      generalize (10 : Int) ^ (9 - (i + 1)) = P at *
      grind
theorem text_loop' {x : List Int} (hx : x.length ≤ 1000000) (hK : 2000000000 < K) (dx : DigB 1000000000 x) : ∃ b, g_nat_N_Text_l0 K x K [] ((x.length : Int) - 1) = some b ∧ b.length = 9 * x.length ∧ b.all digT = true ∧ numB b = valB 1000000000 x := by
  refine loopW (fun k (s : List Int × Int) => g_nat_N_Text_l0 K x k s.1 s.2) (fun s => ∃ j : Nat, s.2 = (j : Int) - 1 ∧ j ≤ x.length ∧ s.1.length = 9 * (x.length - j) ∧ s.1.all digT = true ∧ numB s.1 = valB 1000000000 (x.drop j)) (fun s => (s.2 + 1).toNat) _ ?_ (([], (x.length : Int) - 1) : List Int × Int) (by dsimp only; omega) ⟨x.length, rfl, Nat.le_refl _, by simp, by simp, by simp [valB, numB_nil]⟩
  rintro k ⟨b, _⟩ ⟨j, rfl, hj, h1, h2, h4⟩
  dsimp only at h1 h2 h4 ⊢
  by_cases h0 : j = 0
  · subst h0
    left
    exact ⟨b, by rw [g_nat_N_Text_l0]; simp (discharger := omega) only [decide_eq_true_eq, if_pos, if_neg, if_true, if_false, bsome, beq_iff, bne_iff, idxI, bidxI, sslI, lslI, k64, ku64, ku32, ku8, i64w, u64w, u32w, u8w, tdivI, tmodI, tu0a, tu1a, tu2a, tu3a, tu4a, tu5a, lta, bindSl, bindSr, outSl, outSr, Int.toNat_natCast, List.length_cons, List.length_nil, List.length_set, Int.toNat_zero, List.replicate_zero], h1, h2, h4⟩
  · right
    obtain ⟨i, rfl⟩ : ∃ i, j = i + 1 := ⟨j - 1, by omega⟩
    have e1 : ((i + 1 : Nat) : Int) - 1 = i := by omega
    rw [e1]
    have ex := getD_dig (by omega) dx i
    obtain ⟨p, p1, p2, p3, p4⟩ := text_part (K := K) (d := x.getD i 0) ex hK
    have e9 : (10 : Int) ^ 9 = 1000000000 := by decide
    refine ⟨(b ++ p, (i : Int) - 1), ?_, by dsimp only; omega, i, rfl, by omega, by simp; omega, ?_, ?_⟩
    · rw [g_nat_N_Text_l0]
      simp (discharger := omega) only [decide_eq_true_eq, if_pos, if_neg, if_true, if_false, bsome, beq_iff, bne_iff, idxI, bidxI, sslI, lslI, k64, ku64, ku32, ku8, i64w, u64w, u32w, u8w, tdivI, tmodI, tu0a, tu1a, tu2a, tu3a, tu4a, tu5a, lta, bindSl, bindSr, outSl, outSr, Int.toNat_natCast, List.length_cons, List.length_nil, List.length_set, Int.toNat_zero, List.replicate_zero, p1]
    · dsimp only
      rw [List.all_append, h2, p3]; rfl
    · dsimp only
      rw [numB_app, p2, p4, h4, drop_val x i, e9]
theorem trimLeft_loop {n : Int} : ∀ k (s : ByteArray), s.size < k → s.size ≤ 16777216 → (bytesOf s).all digT = true → numT s = n → ∃ t, g_strings_trimLeftByte_l0 K 48 k s = some t ∧ (bytesOf t).all digT = true ∧ numT t = n ∧ (bytesOf t).head? ≠ some 48 ∧ t.size ≤ s.size := by
  intro k
  induction k with
  | zero => intro s h; omega
  | succ k ih =>
    intro s hk hb hd hn
    have hl := bytesOf_length s
    by_cases h0 : s.size > 0
    · cases hc : bytesOf s with
      | nil => rw [hc] at hl; simp at hl; omega
      | cons c l =>
        obtain ⟨t, t1, t2, t3⟩ := ssl_tail hc
        rw [hc] at hd hl
        simp only [List.all_cons, Bool.and_eq_true, List.length_cons] at hd hl
        have hcc : bidx s 0 = some c := by rw [bidx_eq, hc]; rfl
        by_cases h1 : c = 48
        · subst h1
          obtain ⟨r, r1, r2, r3, r4, r5⟩ := ih t (by omega) (by omega) (by rw [t2]; exact hd.2) (by rw [← hn, numT_B, numT_B, t2, hc, numB_cons]; simp)
          refine ⟨r, ?_, r2, r3, r4, by omega⟩
          rw [g_strings_trimLeftByte_l0, hcc, t1]
          simp (discharger := omega) only [decide_eq_true_eq, if_pos, if_neg, if_true, if_false, bsome, beq_iff, bne_iff, idxI, bidxI, sslI, lslI, k64, ku64, ku32, ku8, i64w, u64w, u32w, u8w, tdivI, tmodI, tu0a, tu1a, tu2a, tu3a, tu4a, tu5a, lta, bindSl, bindSr, outSl, outSr, Int.toNat_natCast, List.length_cons, List.length_nil, List.length_set, Int.toNat_zero, List.replicate_zero, r1]
        · refine ⟨s, ?_, by rw [hc]; simp [hd], hn, by rw [hc]; simp; omega, Nat.le_refl _⟩
          rw [g_strings_trimLeftByte_l0, hcc]
          simp (discharger := omega) only [decide_eq_true_eq, if_pos, if_neg, if_true, if_false, bsome, beq_iff, bne_iff, idxI, bidxI, sslI, lslI, k64, ku64, ku32, ku8, i64w, u64w, u32w, u8w, tdivI, tmodI, tu0a, tu1a, tu2a, tu3a, tu4a, tu5a, lta, bindSl, bindSr, outSl, outSr, Int.toNat_natCast, List.length_cons, List.length_nil, List.length_set, Int.toNat_zero, List.replicate_zero]
    · refine ⟨s, ?_, hd, hn, ?_, Nat.le_refl _⟩
      · rw [g_strings_trimLeftByte_l0]
        have e : (decide ((s.size : Int) > 0)) = false := decide_eq_false (by omega)
        rw [e]
        simp (discharger := omega) only [decide_eq_true_eq, if_pos, if_neg, if_true, if_false, bsome, beq_iff, bne_iff, idxI, bidxI, sslI, lslI, k64, ku64, ku32, ku8, i64w, u64w, u32w, u8w, tdivI, tmodI, tu0a, tu1a, tu2a, tu3a, tu4a, tu5a, lta, bindSl, bindSr, outSl, outSr, Int.toNat_natCast, List.length_cons, List.length_nil, List.length_set, Int.toNat_zero, List.replicate_zero, Bool.false_eq_true]
      · have : bytesOf s = [] := List.length_eq_zero_iff.1 (by omega)
        rw [this]; simp
theorem sEq_ne {s t : ByteArray} (h : s.size ≠ t.size) : sEq s t = false := by
  cases e : sEq s t with
  | false => rfl
  | true => rw [sEq_iff] at e; subst e; exact absurd rfl h
theorem trimLeft_ok {s : ByteArray} (hs : s.size ≤ 16777216) (hK : 2000000000 < K) (hp : 0 < numT s) (hd : (bytesOf s).all digT = true) : ∃ t, g_strings_TrimLeft K s ⟨#[48]⟩ = some t ∧ CanT t ∧ numT t = numT s ∧ t.size ≤ s.size := by
  obtain ⟨t, t1, t2, t3, t4, t5⟩ := trimLeft_loop (K := K) K s (by omega) hs hd rfl
  have ne : ∀ u : ByteArray, 0 < numT u → u.size ≠ 0 := fun u hu e => by
    have : bytesOf u = [] := List.length_eq_zero_iff.1 (by rw [bytesOf_length]; exact e)
    rw [numT_B, this, numB_nil] at hu; omega
  refine ⟨t, ?_, ⟨ne t (by omega), t2, fun h => absurd h t4⟩, t3, t5⟩
  unfold g_strings_TrimLeft g_strings_trimLeftByte
  have e1 : sEq s ⟨#[]⟩ = false := sEq_ne (ne s hp)
  have e2 : sEq ⟨#[48]⟩ ⟨#[]⟩ = false := sEq_ne (by decide)
  have e3 : bidx (⟨#[48]⟩ : ByteArray) 0 = some 48 := rfl
  have e4 : (((⟨#[48]⟩ : ByteArray).size : Int) == 1) = true := rfl
  rw [e1, e2, e3, e4]
  simp (discharger := omega) only [decide_eq_true_eq, if_pos, if_neg, if_true, if_false, bsome, beq_iff, bne_iff, idxI, bidxI, sslI, lslI, k64, ku64, ku32, ku8, i64w, u64w, u32w, u8w, tdivI, tmodI, tu0a, tu1a, tu2a, tu3a, tu4a, tu5a, lta, bindSl, bindSr, outSl, outSr, Int.toNat_natCast, List.length_cons, List.length_nil, List.length_set, Int.toNat_zero, List.replicate_zero, Bool.false_eq_true, t1]
theorem text_ok {x : List Int} {n : Int} (hx : x.length ≤ 1000000) (hK : 2000000000 < K) (nx : NumN n x) : ∃ t, g_nat_N_Text K x = some t ∧ CanT t ∧ numT t = n ∧ t.size ≤ 9 * x.length + 1 := by
  unfold g_nat_N_Text
  by_cases h0 : x = []
  · subst h0
    have e : n = 0 := nx.nil_iff.1 rfl
    subst e
    exact ⟨⟨#[48]⟩, rfl, ⟨by decide, rfl, fun _ => rfl⟩, rfl, by decide⟩
  · have hl : x.length ≠ 0 := fun e => h0 (List.length_eq_zero_iff.1 e)
    obtain ⟨b, b1, b2, b3, b4⟩ := text_loop' hx hK nx.1.1
    rw [nx.2] at b4
    have hr : ∀ c ∈ b, 0 ≤ c ∧ c ≤ 255 := fun c hc => by have := digT_iff.1 (List.all_eq_true.1 b3 c hc); omega
    have hb := bytesOf_str b hr
    have hsz : (strOfNums b).size = b.length := by rw [← bytesOf_length, hb]
    obtain ⟨t, t1, t2, t3, t4⟩ := trimLeft_ok (K := K) (s := strOfNums b) (by omega) hK (by rw [numT_B, hb, b4]; exact nx.pos h0) (by rw [hb]; exact b3)
    refine ⟨t, ?_, t2, by rw [t3, numT_B, hb, b4], by omega⟩
    have e : ((x.length : Int) == 0) = false := by simp; omega
    rw [e]
    simp (discharger := omega) only [decide_eq_true_eq, if_pos, if_neg, if_true, if_false, bsome, beq_iff, bne_iff, idxI, bidxI, sslI, lslI, k64, ku64, ku32, ku8, i64w, u64w, u32w, u8w, tdivI, tmodI, tu0a, tu1a, tu2a, tu3a, tu4a, tu5a, lta, bindSl, bindSr, outSl, outSr, Int.toNat_natCast, List.length_cons, List.length_nil, List.length_set, Int.toNat_zero, List.replicate_zero, Bool.false_eq_true, b1, t1]
end Go.Am.Tryd
